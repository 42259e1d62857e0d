import Derived.Test.YtmccpbcbofhmlaaGreatDoorE
import Derived.Recover
import Derived.Laws.Pointers
set_option linter.all false
namespace Go.Proofs.YtmccpbcbofhmlaaGreatDoor
open Go Vc
set_option maxRecDepth 10000
def ScB (M : Mem) (sc : Nat) (names : List (Bs × Bs)) : Prop := ∃ lv, M sc = some [lv, .slice none 0 0, .pointer none, .pointer none] ∧ RS M RCl 2 names lv ∧ (names = [] → lv = .slice none 0 0)
theorem ScB.ext {M M' : Mem} (he : Ext M M') {sc names} (h : ScB M sc names) : ScB M' sc names := by
  obtain ⟨lv, h1, h2, h3⟩ := h
  exact ⟨lv, he _ _ h1, RS_ext he (fun _ _ h => h) h2, h3⟩
def encPS (r : Pl × List (Bs × Bs)) (v : Value) (M : Mem) : Prop := ∃ cs sc, v = .tuple ⟨[.agg ⟨cs⟩, .pointer (some ⟨sc, 0, none⟩)]⟩ ∧ RPl M r.1 cs ∧ ScB M sc r.2
theorem findG_mem {name : Bs} : ∀ {rels : List Rel} {n : Nat} {r : Pl × List Co}, findG name n rels = some r → ∃ x ∈ rels, r.2 = x.cols
  | [], _, _, h => by cases h
  | x :: l, n, r, h => by
    rw [findG_cons] at h
    split at h
    · injection h with h; subst h; exact ⟨x, by simp, rfl⟩
    · obtain ⟨y, hy, he⟩ := findG_mem h
      exact ⟨y, by simp [hy], he⟩
theorem findM_mem {name : Bs} {rels : List Rel} {r : Pl × List Co} (h : findM rels name = .ok r) : ∃ x ∈ rels, r.2 = x.cols := by
  unfold findM at h
  split at h
  · rename_i y hy; injection h with h; subst h; exact findG_mem hy
  · cases h
theorem had_acc {F : Fi} {s : List Vc.Item} {e : Env} {ds : List Deferred} {dd : Option Nat} {N : Tm} {M : Mem} {L : LL} {R : RR} {hv : Value} {had : List Bs} {el : TypeId} (x : Bs) (h : Acc el 1 RSt [] R hv had) (hlen : had.length ≤ 1000)
    (k : ∀ M', Ext M M' → noneL M' L → Run Tryz.prog F s (updo e dd (.bool (had.contains x))) ds ⟨N, M', L, R⟩ ⟨⟩) : rCall Tryz.prog F 106 [hv, .string (bs x)] dd s e ds ⟨N, M, L, R⟩ ⟨⟩ := by
  rcases h with ⟨rfl, rfl, rfl⟩ | ⟨a, c, xs, rfl, h3, rfl⟩
  · refine rCall_pure (ct_Contains x RS_nil N) ?_ (fun _ _ _ _ h => h.elim)
    rintro v M1 hM1 hno rfl
    exact k M1 hM1 hno
  · have key : ∀ (L2 : LL) (R2 : RR), L2 = L ++ [] ++ [] → R2 = [] ++ [(.slice a had.length c, el, 1, xs)] ++ [] → rCall Tryz.prog F 106 [.slice a had.length c, .string (bs x)] dd s e ds ⟨N, M, L2, R2⟩ ⟨⟩ := by
      rintro _ _ rfl rfl
      refine rCall_of L [] [] [] [_] [] (ctT_lend (Q := fun r => r = .bool (had.contains x)) (by decide) bod106 fun M' hM' hsl => ct_Contains x ⟨by omega, xs, hsl, h3⟩ N) ?_ (fun _ _ _ _ _ _ _ _ h => h.elim)
      rintro v M1 L1 R1 hM1 hk hr hno ⟨rfl, rfl⟩
      have : L1 = [] := by simpa [keys] using hk
      subst this
      have k2 : ∀ (L2 : LL) (R2 : RR), L2 = L → R2 = [(.slice a had.length c, el, 1, xs)] → Run Tryz.prog F s (updo e dd (.bool (had.contains x))) ds ⟨N, M1, L2, R2⟩ ⟨⟩ := by
        rintro _ _ rfl rfl
        exact k M1 hM1 (by simpa using hno)
      exact k2 _ _ (by simp) (by simp)
    exact key _ _ (by simp) (by simp)
theorem rCall_new {F : Fi} {f : FuncId} {args : List Value} {dd : Option Nat} {s : List Vc.Item} {e : Env} {ds : List Deferred} {N : Tm} {M : Mem} {L : LL} {R : RR} {post : PostP} {pan : PanP} (hc : CtN Tryz.prog f args N M [] [] 1 post pan)
    (hn : ∀ v M' row, Ext M M' → noneL M' L → post v M' [] [row] → Run Tryz.prog F s (updo e dd v) ds ⟨N, M', L, row :: R⟩ ⟨⟩)
    (hp : ∀ ch M' row, Ext M M' → pan ch M' [] [row] → F.pan ch e ds ⟨N, M', L, row :: R⟩) : rCall Tryz.prog F f args dd s e ds ⟨N, M, L, R⟩ ⟨⟩ := by
  have nil : ∀ {L' : LL}, keys L' = keys [] → L' = [] := fun h => by simpa [keys] using h
  have one : ∀ {R' : RR}, R'.length = 1 → ∃ r, R' = [r] := fun {R'} h => by
    cases R' with
    | nil => cases h
    | cons r l => cases l with
      | nil => exact ⟨r, rfl⟩
      | cons _ _ => simp at h
  exact rCall_ofN (F := F) (s := s) (e := e) (ds := ds) (dd := dd) (N := N) [] [] L [] [] R hc
    (fun v M' L' R' he hk hR hno hq => by
      have h1 := nil hk
      subst h1
      obtain ⟨r, rfl⟩ := one hR
      exact hn v M' r he hno hq)
    (fun ch M' L' R' he hk hR hno hq => by
      have h1 := nil hk
      subst h1
      obtain ⟨r, rfl⟩ := one hR
      exact hp ch M' r he hq)
def curC (names : List (Bs × Bs)) (tb : Bs) (cols : List Co) (j : Nat) : List (Bs × Bs) := names ++ (cols.take j).map fun c => (tb, c.name)
theorem curC_zero (names tb cols) : curC names tb cols 0 = names := by simp [curC]
theorem curC_all (names tb cols) : curC names tb cols cols.length = names ++ cols.map fun c => (tb, c.name) := by simp [curC]
theorem curC_succ (names tb cols) {j : Nat} (h : j < cols.length) : curC names tb cols (j + 1) = curC names tb cols j ++ [(tb, cols[j].name)] := by
  unfold curC
  rw [List.take_succ_eq_append_getElem h, List.map_append, List.append_assoc]; rfl
theorem curC_len (names tb cols) {j : Nat} (h : j ≤ cols.length) : (curC names tb cols j).length = names.length + j := by
  simp [curC]; omega
theorem fromG_cons (rels : List Rel) (s : So) (l : List So) (i : Nat) (p : Pl) (names : List (Bs × Bs)) (had : List Bs) : fromG rels (s :: l) i p names had = match findM rels s.name with
    | .error e => .error e
    | .ok q => if had.contains (asOf s) = true then .error 7 else
      if i = 0 then fromG rels l 1 q.1 (names ++ q.2.map fun c => (asOf s, c.name)) (had ++ [asOf s])
      else match exprB (names ++ q.2.map fun c => (asOf s, c.name)) s.on with
        | .error e => .error e
        | .ok x => fromG rels l (i + 1) (.mk (joinK s.k) 0 x [] [] [p, q.1]) (if s.k = 2 ∨ s.k = 5 then names ++ q.2.map fun c => (asOf s, c.name) else names) (had ++ [asOf s]) := rfl
def apartsL : LL → LL → Prop
  | [], _ => True
  | (b, _) :: l, L => apart1 b L ∧ apartsL l L
theorem Sub_MLA {T0 T : Tm} {M M' : Mem} {L : LL} {R0 R : RR} (h : Ext M M') (hn : noneL M' L) : ∀ (L1 : LL), apartsL L1 L → Sub ⟨T0, M, L, R0⟩ ⟨T, M', L1 ++ L, R⟩
  | [], _ => Sub_ML h hn
  | (b, cs) :: L1, ha => by
    have ih := Sub_MLA (T0 := T0) (T := T) (R0 := R0) (R := R) h hn L1 ha.2
    intro a v hv
    have h1 := ih a v hv
    simp only [Sh.cell] at h1 hv ⊢
    cases hm : mcell M' a with
    | some u => rw [hm] at h1; exact h1
    | none =>
      rw [hm] at h1
      by_cases hab : a.block = b
      · exfalso
        have hlo : lcell L a = none := by
          have : ∀ {L : LL}, apart1 b L → lcell L a = none := by
            intro L
            induction L with
            | nil => intro _; rfl
            | cons p l ih =>
              obtain ⟨k, ds⟩ := p
              intro hap
              rw [lcell, if_neg (by rw [hab]; exact hap.1.1)]
              exact ih hap.2
          exact this ha.1
        have hmo : mcell M a = none := by
          cases hm2 : mcell M a with
          | none => rfl
          | some u => rw [mcell_ext h hm2] at hm; cases hm
        rw [hmo, hlo] at hv
        simp at hv
      · simp only [List.cons_append]
        rw [lcell, if_neg hab]
        exact h1
theorem Sub_ML2 {T0 T : Tm} {M M' : Mem} {L : LL} {R0 R : RR} {b b' : Nat} {cs cs' : List Value} (h : Ext M M') (hn : noneL M' L) (hb : apart1 b L) (hb' : apart1 b' L) : Sub ⟨T0, M, L, R0⟩ ⟨T, M', (b, cs) :: (b', cs') :: L, R⟩ := Sub_MLA h hn [(b, cs), (b', cs')] ⟨hb, hb', trivial⟩
def FromI (rels : List Rel) (l : List So) (M : Mem) (T : Tm) (b4 b6 : Nat) (i : Nat) (e : Env) (h : Sh) : Prop := ∃ M' N' R hv sc p cs names had, Ext M M' ∧ ExtT T N' ∧ M' b4 = none ∧ M' b6 = none ∧ RPl M' p cs ∧ h = ⟨N', M', [(b6, cs), (b4, [.int .i64 0, .int .i64 0, .int .i64 0, .int .i64 0, .int .i64 0, st [], .int .i64 0, .slice none 0 0, .slice none 0 0, .slice none 0 0, .slice none 0 0])], R⟩ ∧
  e 7 = .pointer (some ⟨sc, 0, none⟩) ∧ ScB M' sc names ∧ e 8 = hv ∧ Acc 9 1 RSt [] R hv had ∧ had.length = i ∧ names.length ≤ i * 1048576 ∧ fromG rels (l.drop i) i p names had = fromM rels l
theorem ct_from {M : Mem} {bb : Nat} {rels : List Rel} {rv sv : Value} {l : List So} (hr : RS M (RRel M) 14 rels rv) (hbb : M bb = some [rv]) (hcols : ∀ r ∈ rels, r.cols.length ≤ 1048576) (hs : RS M (RSo M) 10 l sv) (hlen : l.length ≤ 16)
    (hok : ∀ (j : Nat) (s : So), l[j]? = some s → 0 < j → (2 ≤ s.k ∧ s.k ≤ 5) ∧ okX s.on) (T : Tm) :
    CtT Tryz.prog 61 [.pointer (some ⟨bb, 0, none⟩), sv] T M [] [] (postX encPS (fromM rels l)) (panX (fromM rels l)) := by
  obtain ⟨hbk, a, c, rfl, hle, _, hg⟩ := RS_elim (by decide) (fun _ _ => RSo_len) hs
  refine ct_run mx bod61 Tryz.func61 rfl (by rw [nt61]; exact Nat.le_of_ble_eq_true rfl) (dr := dr61) (by kernel_rfl) rs61 ?_
  intro hno _
  simp +contextual only [go_sem, Rcb, Rbk, sevalprocAttr]
  intro b4 T4 hb4 hT4 hTb4 b6 T6 hb6 hap6 hT6 hTb6 b7 T7 hb7 hap7 hT7 hTb7
  have hT := (hT4.trans hT6).trans hT7
  refine loop_rangeC l.length 22 [(0, .pointer (some ⟨bb, 0, none⟩)), (1, .slice a l.length c), (4, .pointer (some ⟨b4, 0, none⟩)), (6, .pointer (some ⟨b6, 0, none⟩)), (20, .slice a l.length c), (21, .int .i64 (l.length : Int))]
    (FromI rels l M T b4 b6)
    0 (by omega) (by simp only [live, go_sem, Rcb, Rbk, sevalprocAttr]) (by simp only [go_sem, Rcb, Rbk, sevalprocAttr]) (Close_freeze fun he h7 hno7 => Close_id ⟨_, T7, [], _, b7, zeroP, _, [], [], he, hT, hno7.2.1, hno7.1, zeroP_R _, rfl, (by simp only [go_sem, Rcb, Rbk, sevalprocAttr]), ⟨_, h7, RS_nil, fun _ => rfl⟩, (by simp only [go_sem, Rcb, Rbk, sevalprocAttr]), Acc_nil, rfl, by simp, rfl⟩) ?_
  rintro i e h hi hlv ht ⟨M1, N1, R1, hv, sc, p, cs, names, had, hM1, hN1, n4, n6, hp, rfl, e7, hsc, e8, hacc, hhl, hnl, hres⟩
  simp only [live] at hlv
  by_cases hlt : i < l.length
  · obtain ⟨b', o', cs', rfl, hat, hrx⟩ := hg i l[i] (List.getElem?_eq_getElem hlt)
    obtain ⟨aw, rfl, hon, haw⟩ := RSo_formC hrx
    obtain ⟨y0, y1, y2, y3, y4, y5, y6, y7, y8, y9⟩ := At10 (hat.ext hM1)
    have hdrop : l.drop i = l[i] :: l.drop (i + 1) := List.drop_eq_getElem_cons hlt
    rw [hdrop, fromG_cons] at hres
    obtain ⟨c0, c1, c2, c3, c4, c5, c6, c7, c8, c9, c10, rfl, hc⟩ := RPl_cells hp
    simp +contextual only [go_sem, Rcb, Rbk, sevalprocAttr, hlv, ht, hlt, y1]
    refine rCall_pure (ct_rel (l[i]).name (RS_ext hM1 (RRel_ext hM1) hr) (hM1 _ _ hbb) N1) ?_ ?_
    rotate_left
    · rintro ch M2 hM2 hno2 ⟨er, he, rfl⟩
      rw [he] at hres
      exact pan_x hN1 hres.symm
    rintro v M2 hM2 hno2 ⟨⟨q, cols⟩, hq, qs, cv, rfl, hqp, hcv⟩
    rw [hq] at hres
    simp only at hres hqp hcv
    obtain ⟨d0, d1, d2, d3, d4, d5, d6, d7, d8, d9, d10, rfl, hd⟩ := RPl_cells hqp
    replace y0 := mcell_ext hM2 y0
    replace y1 := mcell_ext hM2 y1
    replace y2 := mcell_ext hM2 y2
    simp only [List.cons_append, List.nil_append, noneL, noneL_wL] at hno2
    obtain ⟨_, ca, cc, rfl, _⟩ := RS_elim (by decide) (fun _ _ => RCo_len) hcv
    simp +contextual only [go_sem, sevalprocAttr, hlv, ht, hlt, hd, y2]
    intro b11 T11 hb11 hap11 hT11 hTb11
    refine cond_cut (fun e ds h => ds = [] ∧ live e [(0, .pointer (some ⟨bb, 0, none⟩)), (1, .slice (some ⟨b', o', none⟩) l.length c), (4, .pointer (some ⟨b4, 0, none⟩)), (6, .pointer (some ⟨b6, 0, none⟩)), (20, .slice (some ⟨b', o', none⟩) l.length c), (21, .int .i64 (l.length : Int)), (22, .int .i64 (i : Nat)), (9, .int .i64 (i : Nat)),
      (7, .pointer (some ⟨sc, 0, none⟩)), (8, hv), (10, .pointer (some ⟨b', o' + i * 10, none⟩)), (11, .pointer (some ⟨b11, 0, none⟩)), (12, .slice ca cols.length cc), (13, st (asOf l[i]))] ∧ h = ⟨T11, M2, [(b11, [d0, d1, d2, d3, d4, d5, d6, d7, d8, d9, d10]), (b6, [c0, c1, c2, c3, c4, c5, c6, c7, c8, c9, c10]), (b4, [.int .i64 0, .int .i64 0, .int .i64 0, .int .i64 0, .int .i64 0, st [], .int .i64 0, .slice none 0 0, .slice none 0 0, .slice none 0 0, .slice none 0 0])], R1⟩) (fun S' hS' => ?_) ?_
    · by_cases has : l[i].as = []
      · simp +contextual only [go_sem, Rcb, Rbk, sevalprocAttr, hlv, ht, has, y1]
        refine hS' _ _ _ ⟨rfl, ?_, rfl⟩
        simp only [live, hlv, ht, e7, e8, asOf, has, go_sem, Rcb, Rbk, sevalprocAttr]
      · simp +contextual only [go_sem, Rcb, Rbk, sevalprocAttr, hlv, ht, has]
        refine hS' _ _ _ ⟨rfl, ?_, rfl⟩
        simp only [live, hlv, ht, e7, e8, asOf, has, go_sem, Rcb, Rbk, sevalprocAttr]
    clear hlv ht e7 e8
    rintro e ds h ⟨rfl, hlv, rfl⟩
    simp only [live] at hlv
    simp +contextual only [go_sem, Rcb, Rbk, sevalprocAttr, hlv]
    refine had_acc (asOf l[i]) hacc (by omega) fun M3 hM3 hno3 => ?_
    have h123 := (hM1.trans hM2).trans hM3
    simp only [List.cons_append, List.nil_append, noneL, noneL_wL] at hno3
    cases hct : had.contains (asOf l[i]) with
    | true =>
      rw [hct, if_pos rfl] at hres
      simp +contextual only [go_sem, Rcb, Rbk, sevalprocAttr, hlv]
      exact fail_x (hN1.trans hT11) hres.symm
    | false =>
    rw [hct, if_neg (by decide)] at hres
    simp +contextual only [go_sem, Rcb, Rbk, sevalprocAttr, hlv]
    intro b3 hb3 hap3
    refine app_acc (Tryz.underlying93) row93 okt93 (x := asOf l[i]) hacc rfl (fun _ _ => RSt_len) (by intro u hu; simp only [List.mem_singleton] at hu; subst hu; rfl) hb3 (by omega) (by decide) ?_
    intro hv2 R2 hacc2
    obtain ⟨lv, hsm, hsn, hsz⟩ := hsc.ext (hM2.trans hM3)
    simp +contextual only [go_sem, Rcb, Rbk, sevalprocAttr, hlv, mcell_some hsm]
    refine rCall_new (ct_cloneC hsn hsz (by omega) T11) ?_ (fun _ _ _ _ h => h.elim)
    rintro v M4 row hM4 hno4 ⟨va, vc, vxs, rfl, hvz, hvl, hrow⟩
    simp only [List.cons.injEq, and_true] at hrow
    subst hrow
    simp only [List.cons_append, List.nil_append, noneL, noneL_wL] at hno4
    simp +contextual only [go_sem, Rcb, Rbk, sevalprocAttr, hlv]
    intro b14 T14 hb14 hap14 hT14 hTb14
    have h14 := h123.trans hM4
    have hNN := ((hN1.trans hT11).trans hT14)
    obtain ⟨hcb, hcle, hcg⟩ : cols.length ≤ 140737488355328 ∧ cols.length ≤ cc ∧ ∀ (i : Nat) (x : Co), cols[i]? = some x → ∃ b o cs, ca = some ⟨b, o, none⟩ ∧ At M4 b (o + i * 2) cs ∧ RCo x cs := by
      obtain ⟨h1, a', c', h2, h3, _, h4⟩ := RS_elim (by decide) (fun _ _ => RCo_len) (RS_ext (hM3.trans hM4) (fun _ _ h => h) hcv)
      injection h2 with h5 h6 h7
      subst h5 h7
      exact ⟨h1, h3, h4⟩
    have hcolb : cols.length ≤ 1048576 := by
      obtain ⟨x, hx, hxc⟩ := findM_mem hq
      rw [show cols = x.cols from hxc]
      exact hcols x hx
    have n14 : M4 b14 = none ∧ M4 b11 = none ∧ M4 b6 = none ∧ M4 b4 = none := ⟨hb14, hno4.2.1, hno4.2.2.1, hno4.2.2.2.1⟩
    obtain ⟨LV, hLV⟩ : ∃ LV : List (Nat × Value), LV = [(0, .pointer (some ⟨bb, 0, none⟩)), (1, .slice (some ⟨b', o', none⟩) l.length c), (4, .pointer (some ⟨b4, 0, none⟩)), (6, .pointer (some ⟨b6, 0, none⟩)), (20, .slice (some ⟨b', o', none⟩) l.length c), (21, .int .i64 (l.length : Int)), (22, .int .i64 (i : Nat)), (9, .int .i64 (i : Nat)),
      (8, hv2), (10, .pointer (some ⟨b', o' + i * 10, none⟩)), (11, .pointer (some ⟨b11, 0, none⟩)), (13, st (asOf l[i])), (14, .pointer (some ⟨b14, 0, none⟩)), (7, .pointer (some ⟨sc, 0, none⟩)), (62, .slice ca cols.length cc), (63, .int .i64 (cols.length : Int))] := ⟨_, rfl⟩
    refine loop_rangeC cols.length 64 LV
      (fun j e h => ∃ N' v xs, ExtT T14 N' ∧ (∃ a c, v = .slice a (curC names (asOf l[i]) cols j).length c) ∧ ((curC names (asOf l[i]) cols j) = [] → v = .slice none 0 0) ∧ RL RCl (curC names (asOf l[i]) cols j) xs ∧
        h = ⟨N', M4, [(b14, [v, .slice none 0 0, .pointer none, .pointer none]), (b11, [d0, d1, d2, d3, d4, d5, d6, d7, d8, d9, d10]), (b6, [c0, c1, c2, c3, c4, c5, c6, c7, c8, c9, c10]), (b4, [.int .i64 0, .int .i64 0, .int .i64 0, .int .i64 0, .int .i64 0, st [], .int .i64 0, .slice none 0 0, .slice none 0 0, .slice none 0 0, .slice none 0 0])], (v, 104, 2, xs) :: R2⟩)
      0 (by omega) (by rw [hLV]; simp only [live, hlv, go_sem, Rcb, Rbk, sevalprocAttr]) (by simp only [go_sem, Rcb, Rbk, sevalprocAttr]) ?_ ?_
    · refine Close_perm (List.Perm.swap _ _ _) (Close_drop (Close_id ⟨T14, .slice va names.length vc, vxs, ExtT.rfl', ⟨va, vc, ?_⟩, ?_, ?_, rfl⟩))
      · rw [curC_zero]
      · rw [curC_zero]; exact hvz
      · rw [curC_zero]; exact hvl
    · rintro j e h hj hlv2 ht2 ⟨N5, v, xs, hN5, ⟨wa, wc, rfl⟩, hwz, hwl, rfl⟩
      rw [hLV] at hlv2
      simp only [live] at hlv2
      by_cases hjlt : j < cols.length
      · obtain ⟨bc, oc, cc', rfl, hatc, hrc⟩ := hcg j cols[j] (List.getElem?_eq_getElem hjlt)
        unfold RCo at hrc
        subst hrc
        obtain ⟨z0, z1⟩ := At2 hatc
        simp +contextual only [go_sem, Rcb, Rbk, sevalprocAttr, hlv2, ht2, hjlt, z0, z1]
        intro b16 T16 hb16 hap16 hT16 hTb16
        refine draw_all ?_
        simp +contextual only [go_sem, Rcb, Rbk, sevalprocAttr, hlv2, ht2, hjlt, hb16, hap16, n14, hap14]
        intro b17 hb17 hap17
        have hxl := RL_len (fun _ _ => RCl_len) hwl
        have hcl := curC_len names (asOf l[i]) cols (Nat.le_of_lt hjlt)
        refine ⟨Sub_ML1 Ext.rfl' ⟨hb16, n14.1, n14.2.1, n14.2.2.1, n14.2.2.2, trivial⟩ ⟨hap17.1, hap17.2.1, hap17.2.2.1, hap17.2.2.2.1, hap17.2.2.2.2, trivial⟩, ?_⟩
        refine app_row row99 okt99 (.slice _ 1 _ _ _ Tryz.underlying99 (cells_own [] hb17 trivial rfl) (RCl_oneC (c := (asOf l[i], cols[j].name)) rfl)) (by rw [hxl, hcl]; simp only [List.length_cons, List.length_nil]; omega) ?_
        intro ra rm rc hrm
        have hsucc := curC_succ names (asOf l[i]) cols hjlt
        have hrm1 : rm = (curC names (asOf l[i]) cols (j + 1)).length := by
          rw [hxl] at hrm
          rw [hsucc, List.length_append]
          simp only [List.length_cons, List.length_nil] at hrm ⊢
          omega
        subst hrm1
        simp +contextual only [go_sem, Rcb, Rbk, sevalprocAttr, hlv2, ht2, hjlt, hb16, hap16, n14, hap14, hb17, hap17]
        refine ⟨Sub_ML1 Ext.rfl' ⟨hb16, n14.1, n14.2.1, n14.2.2.1, n14.2.2.2, trivial⟩ ⟨hap17.1, hap17.2.1, hap17.2.2.1, hap17.2.2.2.1, hap17.2.2.2.2, trivial⟩, ?_⟩
        refine lp_close (Close_drop (Close_drop (Close_id ⟨cols.length - (j + 1), by omega, rfl, j + 1, by omega, rfl, ?_, ?_, T16, _, _, hN5.trans hT16, ⟨ra, rc, rfl⟩, ?_, ?_, rfl⟩)))
        · rw [hLV]
          simp only [live, hlv2, go_sem, Rcb, Rbk, sevalprocAttr]
        · simp only [ht2, go_sem, Rcb, Rbk, sevalprocAttr, wrap_succ j (by omega)]
        · intro h
          rw [hsucc] at h
          simp at h
        · rw [hsucc]
          exact RL_append hwl (RL_one rfl)
      · have hj1 : j = cols.length := by omega
        subst hj1
        have hcl := curC_len names (asOf l[i]) cols (Nat.le_refl _)
        have hca := curC_all names (asOf l[i]) cols
        have hacl : (had ++ [asOf l[i]]).length = i + 1 := by rw [List.length_append, hhl]; rfl
        have hfin : ∀ {N' : Tm} {M5 : Mem} {e : Env} {p' : Pl} {ps : List Value} {nm : List (Bs × Bs)} {sc' : Nat}, ExtT T N' → Ext M M5 → M5 b4 = none → M5 b6 = none → RPl M5 p' ps → e 7 = .pointer (some ⟨sc', 0, none⟩) → ScB M5 sc' nm → e 8 = hv2 → nm.length ≤ (i + 1) * 1048576 →
            live e [(0, .pointer (some ⟨bb, 0, none⟩)), (1, .slice (some ⟨b', o', none⟩) l.length c), (4, .pointer (some ⟨b4, 0, none⟩)), (6, .pointer (some ⟨b6, 0, none⟩)), (20, .slice (some ⟨b', o', none⟩) l.length c), (21, .int .i64 (l.length : Int))] → e 22 = .int .i64 ((i + 1 : Nat) : Int) →
            fromG rels (l.drop (i + 1)) (i + 1) p' nm (had ++ [asOf l[i]]) = fromM rels l →
            Close ⟨N', M5, [(b6, ps), (b4, [.int .i64 0, .int .i64 0, .int .i64 0, .int .i64 0, .int .i64 0, st [], .int .i64 0, .slice none 0 0, .slice none 0 0, .slice none 0 0, .slice none 0 0])], R2⟩ fun h => ∃ m', m' < l.length - i ∧ LI [] l.length 22 [(0, .pointer (some ⟨bb, 0, none⟩)), (1, .slice (some ⟨b', o', none⟩) l.length c), (4, .pointer (some ⟨b4, 0, none⟩)), (6, .pointer (some ⟨b6, 0, none⟩)), (20, .slice (some ⟨b', o', none⟩) l.length c), (21, .int .i64 (l.length : Int))] (FromI rels l M T b4 b6) m' e [] h := by
          intro N' M5 e p' ps nm sc' h1 h2 h3 h4 h5 h6 h7 h8 h9 h10 h11 h12
          exact Close_id ⟨l.length - (i + 1), by omega, rfl, i + 1, by omega, rfl, h10, h11, M5, N', R2, hv2, sc', p', ps, nm, had ++ [asOf l[i]], h2, h1, h3, h4, h5, rfl, h6, h7, h8, hacc2, hacl, h9, h12⟩
        by_cases hi0 : i = 0
        · subst hi0
          rw [if_pos rfl] at hres
          simp +contextual only [go_sem, Rcb, Rbk, sevalprocAttr, hlv2, ht2, hjlt, hd, n14, hap14, hap11, hap6]
          refine lp_close (Close_row (fun M5 hM5 hno5 hsl => Close_freeze fun he h14' hno6 => Close_drop (hfin (hNN.trans hN5) ((h14.trans hM5).trans he) hno6.2.2.1 hno6.2.1 (RPl_ext (((hM3.trans hM4).trans hM5).trans he) _ _ hqp) ?_ ⟨_, h14', ⟨by omega, _, hsl.ext he, hwl⟩, hwz⟩ ?_ (by omega) ?_ ?_ ?_)))
          · simp only [go_sem, Rcb, Rbk, sevalprocAttr]
          · simp only [hlv2, go_sem, Rcb, Rbk, sevalprocAttr]
          · simp only [live, hlv2, go_sem, Rcb, Rbk, sevalprocAttr]
          · simp only [hlv2, go_sem, Rcb, Rbk, sevalprocAttr]; exact congrArg _ (by decide)
          · rw [hca]; exact hres
        · rw [if_neg hi0] at hres
          obtain ⟨hk25, hokx⟩ := hok i l[i] (List.getElem?_eq_getElem hlt) (by omega)
          have hi0' : ¬ ((i : Int) = 0) := by omega
          replace y0 := mcell_ext (hM3.trans hM4) y0
          have hjk : (l[i].k = 2 ∧ joinK l[i].k = 4) ∨ (l[i].k = 3 ∧ joinK l[i].k = 5) ∨ (l[i].k = 4 ∧ joinK l[i].k = 6) ∨ (l[i].k = 5 ∧ joinK l[i].k = 7) := by
            have : l[i].k = 2 ∨ l[i].k = 3 ∨ l[i].k = 4 ∨ l[i].k = 5 := by omega
            rcases this with h | h | h | h <;> rw [h] <;> simp [joinK]
          have hdraw : ∀ (kk : Int), l[i].k = kk → joinK l[i].k = joinK kk := fun kk h => by rw [h]
          rcases hjk with ⟨hk, hj⟩ | ⟨hk, hj⟩ | ⟨hk, hj⟩ | ⟨hk, hj⟩
          all_goals
            simp +contextual only [go_sem, Rcb, Rbk, sevalprocAttr, hlv2, ht2, hjlt, hi0', y0, hk]
            intro g
            have hnL : ∀ {M' : Mem}, Ext M4 M' → noneL M' [(b11, [d0, d1, d2, d3, d4, d5, d6, d7, d8, d9, d10]), (b6, [c0, c1, c2, c3, c4, c5, c6, c7, c8, c9, c10]), (b4, [.int .i64 0, .int .i64 0, .int .i64 0, .int .i64 0, .int .i64 0, st [], .int .i64 0, .slice none 0 0, .slice none 0 0, .slice none 0 0, .slice none 0 0])] → M' b11 = none ∧ M' b6 = none ∧ M' b4 = none := fun _ h => ⟨h.1, h.2.1, h.2.2.1⟩
            have hx0 : At M4 b' (o' + i * 10 + 3) [.int .i64 l[i].on.k, .int .i64 l[i].on.v.k, .int .i64 l[i].on.v.n, st l[i].on.v.t, st l[i].on.tab, st l[i].on.name, aw] := (At_app.1 (show At M4 b' (o' + i * 10) ([.int .i64 l[i].k, st l[i].name, st l[i].as] ++ [.int .i64 l[i].on.k, .int .i64 l[i].on.v.k, .int .i64 l[i].on.v.n, st l[i].on.v.t, st l[i].on.tab, st l[i].on.name, aw]) from hat.ext h14)).2
            refine draw_cut (fun e ds h => ds = [] ∧ live e [(0, .pointer (some ⟨bb, 0, none⟩)), (1, .slice (some ⟨b', o', none⟩) l.length c), (4, .pointer (some ⟨b4, 0, none⟩)), (6, .pointer (some ⟨b6, 0, none⟩)), (20, .slice (some ⟨b', o', none⟩) l.length c), (21, .int .i64 (l.length : Int))] ∧ e 22 = .int .i64 (i : Nat) ∧ e 7 = .pointer (some ⟨sc, 0, none⟩) ∧ e 8 = hv2 ∧ e 14 = .pointer (some ⟨b14, 0, none⟩) ∧ e 17 = .int .i64 (joinK l[i].k) ∧
              ∃ M6 b20 x cs6, Ext M4 M6 ∧ M6 b4 = none ∧ M6 b6 = none ∧ M6 b20 = none ∧ exprB (names ++ cols.map fun c => (asOf l[i], c.name)) l[i].on = .ok x ∧ REx M6 x [.int .i64 x.k, .int .i64 x.v.k, .int .i64 x.v.n, st x.v.t, .int .i64 x.c, cs6] ∧ ScB M6 b14 (names ++ cols.map fun c => (asOf l[i], c.name)) ∧
                h = ⟨N5, M6, [(b20, [c0, c1, c2, c3, c4, c5, c6, c7, c8, c9, c10, d0, d1, d2, d3, d4, d5, d6, d7, d8, d9, d10]), (b11, [d0, d1, d2, d3, d4, d5, d6, d7, d8, d9, d10]), (b6, [.int .i64 (joinK l[i].k), .int .i64 0, .int .i64 x.k, .int .i64 x.v.k, .int .i64 x.v.n, st x.v.t, .int .i64 x.c, cs6, .slice none 0 0, .slice none 0 0, .slice (some ⟨b20, 0, none⟩) 2 2]), (b4, [.int .i64 0, .int .i64 0, .int .i64 0, .int .i64 0, .int .i64 0, st [], .int .i64 0, .slice none 0 0, .slice none 0 0, .slice none 0 0, .slice none 0 0])], R2⟩) (fun S' hS' => ?_) ?_
            · refine draw_at ⟨T, M4, [(b11, [d0, d1, d2, d3, d4, d5, d6, d7, d8, d9, d10]), (b6, [c0, c1, c2, c3, c4, c5, c6, c7, c8, c9, c10]), (b4, [.int .i64 0, .int .i64 0, .int .i64 0, .int .i64 0, .int .i64 0, st [], .int .i64 0, .slice none 0 0, .slice none 0 0, .slice none 0 0, .slice none 0 0])], []⟩ (by exact Sub_ML1 Ext.rfl' ⟨n14.2.1, n14.2.2.1, n14.2.2.2, trivial⟩ ⟨hap14.2.1, hap14.2.2.1, hap14.2.2.2, trivial⟩) ?_
              simp +contextual only [go_sem, Rcb, Rbk, sevalprocAttr, hlv2, ht2, hc, hd, n14, hap11, hap6, hap14]
              have hsc2 : ∀ {M5 M6 : Mem}, Ext M4 M5 → Sl M5 (.slice wa (curC names (asOf l[i]) cols cols.length).length wc) 2 xs → Ext M5 M6 → M6 b14 = some [.slice wa (curC names (asOf l[i]) cols cols.length).length wc, .slice none 0 0, .pointer none, .pointer none] → ScB M6 b14 (names ++ cols.map fun c => (asOf l[i], c.name)) := by
                intro M5 M6 h45 hsl h56 hb
                rw [← hca]
                exact ⟨_, hb, ⟨by omega, _, hsl.ext h56, hwl⟩, hwz⟩
              have hcall : ∀ {M5 : Mem}, Ext M4 M5 → ScB M5 b14 (names ++ cols.map fun c => (asOf l[i], c.name)) → CtT Tryz.prog 37 [.pointer (some ⟨b14, 0, none⟩), .pointer (some ⟨b', o' + i * 10 + 3, none⟩)] N5 M5 [] [] (postX encE (exprB (names ++ cols.map fun c => (asOf l[i], c.name)) l[i].on)) (panX (exprB (names ++ cols.map fun c => (asOf l[i], c.name)) l[i].on)) := by
                rintro M5 h45 ⟨lv5, h5, hn5, _⟩
                exact exB _ _ l[i].on (Nat.le_refl _) hokx M5 N5 b14 lv5 _ _ b' _ _ hn5 h5 (hx0.ext h45) (RX_ext (h14.trans h45) _ _ hon)
              refine ⟨?_, ?_⟩
              · refine rCall_close (k := fun h' => ∃ M5, Ext M4 M5 ∧ ScB M5 b14 (names ++ cols.map fun c => (asOf l[i], c.name)) ∧ (M5 b11 = none ∧ M5 b6 = none ∧ M5 b4 = none) ∧ h' = ⟨N5, M5, [(b11, [d0, d1, d2, d3, d4, d5, d6, d7, d8, d9, d10]), (b6, [c0, c1, c2, c3, c4, c5, c6, c7, c8, c9, c10]), (b4, [.int .i64 0, .int .i64 0, .int .i64 0, .int .i64 0, .int .i64 0, st [], .int .i64 0, .slice none 0 0, .slice none 0 0, .slice none 0 0, .slice none 0 0])], R2⟩)
                  (Close_dropR (Close_row fun M5 hM5 hno5 hsl => Close_freeze fun he hb14' hno6 => Close_id ⟨_, hM5.trans he, hsc2 hM5 hsl he hb14', hnL (hM5.trans he) hno6, rfl⟩)) ?_ bod37
                rintro h' ⟨M5, h45, hsc5, n5, rfl⟩
                refine rCall_pure (hcall h45 hsc5) ?_ ?_
                · rintro r M6 hM6 hno6 ⟨x, hx, cs6, rfl, hxe⟩
                  obtain ⟨s6, rfl, hs6, _⟩ := REx_form hxe
                  simp only [List.cons_append, List.nil_append, noneL, noneL_wL] at hno6
                  simp +contextual only [go_sem, Rcb, Rbk, sevalprocAttr, hlv2, ht2, hc, hd, hno6, hap11, hap6, hs6]
                  refine ⟨Sub_ML (h45.trans hM6) ⟨hno6.1, hno6.2.1, hno6.2.2.1, trivial⟩, ?_⟩
                  intro b20 hb20 hap20
                  refine hS' _ _ _ ⟨rfl, ?_, ?_, ?_, ?_, ?_, ?_, M6, b20, x, s6, h45.trans hM6, hno6.2.2.1, hno6.2.1, hb20, hx, hxe, hsc5.ext hM6, by rw [hj]; rfl⟩
                  · simp only [live, hlv2, go_sem, Rcb, Rbk, sevalprocAttr]
                  · simp only [hlv2, go_sem, Rcb, Rbk, sevalprocAttr]
                  · simp only [hlv2, go_sem, Rcb, Rbk, sevalprocAttr]
                  · simp only [hlv2, go_sem, Rcb, Rbk, sevalprocAttr]
                  · simp only [hlv2, go_sem, Rcb, Rbk, sevalprocAttr]
                  · rw [hj]; simp only [go_sem, Rcb, Rbk, sevalprocAttr]
                · rintro ch M6 hM6 hno6 ⟨er, he, rfl⟩
                  rw [he] at hres
                  exact pan_x (hNN.trans hN5) hres.symm
              · intro b20 hb20 hap20
                refine ⟨Sub_ML2 Ext.rfl' ⟨n14.2.1, n14.2.2.1, n14.2.2.2, trivial⟩ ⟨hap20.2.1, hap20.2.2.1, hap20.2.2.2, trivial⟩ ⟨hap14.2.1, hap14.2.2.1, hap14.2.2.2, trivial⟩, ?_⟩
                refine rCall_close (k := fun h' => ∃ M5, Ext M4 M5 ∧ ScB M5 b14 (names ++ cols.map fun c => (asOf l[i], c.name)) ∧ (M5 b20 = none ∧ M5 b11 = none ∧ M5 b6 = none ∧ M5 b4 = none) ∧ h' = ⟨N5, M5, [(b20, [c0, c1, c2, c3, c4, c5, c6, c7, c8, c9, c10, d0, d1, d2, d3, d4, d5, d6, d7, d8, d9, d10]), (b11, [d0, d1, d2, d3, d4, d5, d6, d7, d8, d9, d10]), (b6, [c0, c1, c2, c3, c4, c5, c6, c7, c8, c9, c10]), (b4, [.int .i64 0, .int .i64 0, .int .i64 0, .int .i64 0, .int .i64 0, st [], .int .i64 0, .slice none 0 0, .slice none 0 0, .slice none 0 0, .slice none 0 0])], R2⟩)
                  (Close_dropR (Close_row fun M5 hM5 hno5 hsl => Close_perm (List.Perm.swap _ _ _) (Close_freeze fun he hb14' hno6 => Close_id ⟨_, hM5.trans he, hsc2 hM5 hsl he hb14', ⟨hno6.1, hnL (hM5.trans he) hno6.2⟩, rfl⟩))) ?_ bod37
                rintro h' ⟨M5, h45, hsc5, n5, rfl⟩
                refine rCall_pure (hcall h45 hsc5) ?_ ?_
                · rintro r M6 hM6 hno6 ⟨x, hx, cs6, rfl, hxe⟩
                  obtain ⟨s6, rfl, hs6, _⟩ := REx_form hxe
                  simp only [List.cons_append, List.nil_append, noneL, noneL_wL] at hno6
                  simp +contextual only [go_sem, Rcb, Rbk, sevalprocAttr, hlv2, ht2, hc, hd, hno6, hap11, hap6, hap20, hs6]
                  refine ⟨Sub_ML1 (h45.trans hM6) ⟨hno6.2.1, hno6.2.2.1, hno6.2.2.2.1, trivial⟩ ⟨hap20.2.1, hap20.2.2.1, hap20.2.2.2, trivial⟩, ?_⟩
                  refine hS' _ _ _ ⟨rfl, ?_, ?_, ?_, ?_, ?_, ?_, M6, b20, x, s6, h45.trans hM6, hno6.2.2.2.1, hno6.2.2.1, hno6.1, hx, hxe, hsc5.ext hM6, by rw [hj]; rfl⟩
                  · simp only [live, hlv2, go_sem, Rcb, Rbk, sevalprocAttr]
                  · simp only [hlv2, go_sem, Rcb, Rbk, sevalprocAttr]
                  · simp only [hlv2, go_sem, Rcb, Rbk, sevalprocAttr]
                  · simp only [hlv2, go_sem, Rcb, Rbk, sevalprocAttr]
                  · simp only [hlv2, go_sem, Rcb, Rbk, sevalprocAttr]
                  · rw [hj]; simp only [go_sem, Rcb, Rbk, sevalprocAttr]
                · rintro ch M6 hM6 hno6 ⟨er, he, rfl⟩
                  rw [he] at hres
                  exact pan_x (hNN.trans hN5) hres.symm
            · rintro e ds h ⟨rfl, hlv3, e22, e7, e8, e14, e17, M6, b20, x, s6, h46, n4', n6', n20, hx, hxe, hsc6, rfl⟩
              rw [hx] at hres
              simp only at hres
              rw [hj] at e17
              simp only [live] at hlv3
              have hMa := ((hM2.trans hM3).trans hM4).trans h46
              have hMb := (hM3.trans hM4).trans h46
              have hnew : ∀ {M7 : Mem}, Ext M6 M7 → M7 b20 = some [c0, c1, c2, c3, c4, c5, c6, c7, c8, c9, c10, d0, d1, d2, d3, d4, d5, d6, d7, d8, d9, d10] → RPl M7 (.mk (joinK l[i].k) 0 x [] [] [p, q]) [.int .i64 (joinK l[i].k), .int .i64 0, .int .i64 x.k, .int .i64 x.v.k, .int .i64 x.v.n, st x.v.t, .int .i64 x.c, s6, .slice none 0 0, .slice none 0 0, .slice (some ⟨b20, 0, none⟩) 2 2] := by
                intro M7 he h20
                exact RPl_mk (REx_ext he _ _ hxe) RS_nil RS_nil (RPl_two (cs := [c0, c1, c2, c3, c4, c5, c6, c7, c8, c9, c10]) (ds := [d0, d1, d2, d3, d4, d5, d6, d7, d8, d9, d10]) h20 (RPl_ext (hMa.trans he) _ _ hp) (RPl_ext (hMb.trans he) _ _ hqp))
              by_cases hb2 : l[i].k = 2 ∨ l[i].k = 5
              · rw [if_pos hb2] at hres
                first
                | (exfalso; omega)
                | (simp +contextual only [go_sem, Rcb, Rbk, sevalprocAttr, hlv3, e17, e22, e14]
                   refine lp_close (Close_freeze fun he h20 hno7 => Close_drop (hfin (hNN.trans hN5) ((h14.trans h46).trans he) hno7.2.2.1 hno7.2.1 (hnew he h20) ?_ (hsc6.ext he) ?_ (by rw [List.length_append, List.length_map]; omega) ?_ ?_ hres))
                   · simp only [e14, go_sem, Rcb, Rbk, sevalprocAttr]
                   · simp only [e8, go_sem, Rcb, Rbk, sevalprocAttr]
                   · simp only [live, hlv3, go_sem, Rcb, Rbk, sevalprocAttr]
                   · simp only [e22, go_sem, Rcb, Rbk, sevalprocAttr, wrap_succ i (by omega)])
              · rw [if_neg hb2] at hres
                first
                | (exfalso; omega)
                | (simp +contextual only [go_sem, Rcb, Rbk, sevalprocAttr, hlv3, e17, e22, e14]
                   refine lp_close (Close_freeze fun he h20 hno7 => Close_drop (hfin (hNN.trans hN5) ((h14.trans h46).trans he) hno7.2.2.1 hno7.2.1 (hnew he h20) ?_ ((hsc.ext hMa).ext he) ?_ (Nat.le_trans hnl (Nat.mul_le_mul_right _ (Nat.le_succ i))) ?_ ?_ hres))
                   · simp only [e7, go_sem, Rcb, Rbk, sevalprocAttr]
                   · simp only [e8, go_sem, Rcb, Rbk, sevalprocAttr]
                   · simp only [live, hlv3, go_sem, Rcb, Rbk, sevalprocAttr]
                   · simp only [e22, go_sem, Rcb, Rbk, sevalprocAttr, wrap_succ i (by omega)])
  · have : i = l.length := by omega
    subst this
    rw [List.drop_length] at hres
    obtain ⟨c0, c1, c2, c3, c4, c5, c6, c7, c8, c9, c10, rfl, hc⟩ := RPl_cells hp
    simp +contextual only [go_sem, Rcb, Rbk, sevalprocAttr, hlv, ht, hlt, hc, e7, n4, n6, hap6]
    refine end_none hN1 ⟨(p, names), hres.symm, _, sc, rfl, hp, hsc⟩
def hvC (s : Se) : Nat := if s.hasH = true then cntX s.hv else 0
theorem hvC_eq {s : Se} (h : s.hasH = true) : cntX s.hv = hvC s := by unfold hvC; rw [if_pos h]
structure OkSe (s : Se) : Prop where
  src : s.src.length ≤ 16
  on : ∀ (j : Nat) (x : So), s.src[j]? = some x → 0 < j → (2 ≤ x.k ∧ x.k ≤ 5) ∧ okX x.on
  wh : s.hasW = true → okX s.wh
  grp : s.group.length ≤ 1000 ∧ ∀ x ∈ s.group, okX x
  its : s.star = false → s.items.length ≤ 40 ∧ ∀ x ∈ s.items, okX x.x
  hv : s.hasH = true → okX s.hv
  cnt : s.star = false → cntL (s.items.map (·.x)) + hvC s ≤ 100000
def selB2 (s : Se) (p : Pl) (names : List (Bs × Bs)) : Except Int (Pl × List Bs) := match (if groupedS s = true then groupM s p names else mapM' s p names) with
  | .error e => .error e
  | .ok q => .ok (if s.distinct = true then plan1 11 q else q, if s.star = true then names.map (·.2) else calledL 0 s.items)
theorem selB_err {rels : List Rel} {s : Se} {e : Int} (h : fromM rels s.src = .error e) : selB rels s = .error e := by unfold selB; rw [h]
theorem selB_werr {rels : List Rel} {s : Se} {f : Pl × List (Bs × Bs)} {e : Int} (h : fromM rels s.src = .ok f) (hw : optBB f.2 s.hasW s.wh = .error e) : selB rels s = .error e := by unfold selB; rw [h]; simp only; rw [hw]
theorem selB_ok {rels : List Rel} {s : Se} {f : Pl × List (Bs × Bs)} {w : Ex} (h : fromM rels s.src = .ok f) (hw : optBB f.2 s.hasW s.wh = .ok w) : selB rels s = selB2 s (if s.hasW = true then filterP w f.1 else f.1) f.2 := by
  unfold selB selB2; rw [h]; simp only; rw [hw]; rfl
theorem fromG_len {rels : List Rel} (hc : ∀ r ∈ rels, r.cols.length ≤ 1048576) : ∀ (l : List So) (i : Nat) (p : Pl) (names : List (Bs × Bs)) (had : List Bs) (r : Pl × List (Bs × Bs)), fromG rels l i p names had = .ok r → r.2.length ≤ names.length + l.length * 1048576
  | [], i, p, names, had, r, h => by
    rw [fromG] at h
    injection h with h; subst h; simp
  | s :: l, i, p, names, had, r, h => by
    rw [fromG_cons] at h
    rw [List.length_cons, Nat.add_mul, Nat.one_mul]
    split at h
    · cases h
    · rename_i q hq
      obtain ⟨x, hx, hxc⟩ := findM_mem hq
      have hq2 : q.2.length ≤ 1048576 := by rw [hxc]; exact hc x hx
      split at h
      · cases h
      · split at h
        · have := fromG_len hc l _ _ _ _ _ h
          rw [List.length_append, List.length_map] at this
          omega
        · split at h
          · cases h
          · have := fromG_len hc l _ _ _ _ _ h
            split at this
            · rw [List.length_append, List.length_map] at this
              omega
            · exact Nat.le_trans this (Nat.add_le_add_left (Nat.le_add_right _ _) _)
theorem fromM_len {rels : List Rel} (hc : ∀ r ∈ rels, r.cols.length ≤ 1048576) {l : List So} {r : Pl × List (Bs × Bs)} (h : fromM rels l = .ok r) : r.2.length ≤ l.length * 1048576 := by
  have := fromG_len hc l 0 zeroP [] [] r h
  simpa using this
theorem At_self {M : Mem} {b : Nat} {cs : List Value} (h : M b = some cs) : At M b 0 cs := At_of h cs 0 (by simp)
theorem ct_speaksI {x : It} {M : Mem} {cs : List Value} (hx : RIt M x cs) (T : Tm) : CtT Tryz.prog 64 [.agg ⟨cs⟩] T M [] [] (fun r _ _ _ => r = .bool (hasX x.x)) noPan := by
  have hl := RIt_len hx
  obtain ⟨aw, rfl, hxx, h1⟩ := RIt_form hx
  refine ct_run mx bod64 Tryz.func64 rfl (by rw [nt64]; exact Nat.le_of_ble_eq_true rfl) (dr := dr64) (by kernel_rfl) rs64 ?_
  intro hno _
  simp +contextual only [go_sem, Rcb, Rbk, sevalprocAttr, h1]
  intro b2 T2 hb2 hT2 hTb2
  refine rCall_frz bod65 fun M1 hM1 hb2' hno1 => ?_
  refine rCall_pure (spX _ x.x (Nat.le_refl _) M1 T2 b2 0 _ (At_app.1 (show At M1 b2 0 ([.int .i64 x.x.k, .int .i64 x.x.v.k, .int .i64 x.x.v.n, st x.x.v.t, st x.x.tab, st x.x.name, aw] ++ [st x.as]) from At_self hb2')).1 (RX_ext hM1 _ _ hxx)) ?_ (fun _ _ _ _ h => h.elim)
  rintro v M2 hM2 _ rfl
  simp +contextual only [go_sem, Rcb, Rbk, sevalprocAttr]
  exact end_none hT2 rfl
theorem ct_IndexI {l : List It} {M : Mem} {lv : Value} (hs : RS M (RIt M) 8 l lv) (T : Tm) :
    CtT Tryz.prog 108 [lv, .func (.func 64) ⟨[]⟩ ⟨[]⟩] T M [] [] (fun r _ _ _ => r = .int .i64 (optI (l.findIdx? fun i => hasX i.x))) noPan := by
  obtain ⟨hbk, a, c, rfl, hle, _, hg⟩ := RS_elim (by decide) (fun _ _ => RIt_len) hs
  refine ct_run mx bod108 Tryz.func108 rfl (by rw [nt108]; exact Nat.le_of_ble_eq_true rfl) (dr := dr108) (by kernel_rfl) rs108 ?_
  intro hno _
  simp +contextual only [go_sem, Rcb, Rbk, sevalprocAttr]
  refine loop_range l.length 8 [(0, .slice a l.length c), (1, .func (.func 64) ⟨[]⟩ ⟨[]⟩), (7, .int .i64 (l.length : Int))] (fun i e h => ∃ M', Ext M M' ∧ h = ⟨T, M', [], []⟩ ∧ (l.findIdx? fun i => hasX i.x) = ((l.drop i).findIdx? fun i => hasX i.x).map (· + i)) 0 (by omega) (by simp only [live, go_sem, Rcb, Rbk, sevalprocAttr]) (by simp only [go_sem, Rcb, Rbk, sevalprocAttr]) ⟨M, Ext.rfl', rfl, by simp⟩ ?_
  rintro i e h hi hlv ht ⟨M1, hM1, rfl, hres⟩
  simp only [live] at hlv
  by_cases hlt : i < l.length
  · obtain ⟨p1, o1, cs1, rfl, hat1, hx1⟩ := hg i l[i] (List.getElem?_eq_getElem hlt)
    have hdl : l.drop i = l[i] :: l.drop (i + 1) := List.drop_eq_getElem_cons hlt
    rw [hdl, List.findIdx?_cons] at hres
    obtain ⟨s1, hf1, hx2, hs1⟩ := RIt_form hx1
    subst hf1
    obtain ⟨y0, y1, y2, y3, y4, y5, y6, y7⟩ := At8 (hat1.ext hM1)
    simp +contextual only [go_sem, Rcb, Rbk, sevalprocAttr, hlv, ht, hlt, y0, y1, y2, y3, y4, y5, y6, y7, hs1]
    refine rCall_pure (ct_speaksI (RIt_ext hM1 _ _ hx1) T) ?_ (fun _ _ _ _ h => h.elim)
    rintro v M2 hM2 _ rfl
    cases hb : hasX l[i].x with
    | true =>
      rw [hb] at hres
      simp +contextual only [go_sem, Rcb, Rbk, sevalprocAttr, hlv, ht, hlt]
      exact end_none ExtT.rfl' (by rw [hres]; simp [optI])
    | false =>
      rw [hb] at hres
      simp +contextual only [go_sem, Rcb, Rbk, sevalprocAttr, hlv, ht, hlt]
      refine lp_range hlt ?_ ?_ ⟨M2, hM1.trans hM2, rfl, ?_⟩
      · simp only [live, hlv, go_sem, Rcb, Rbk, sevalprocAttr]
      · simp only [ht, go_sem, Rcb, Rbk, sevalprocAttr, wrap_succ i (by omega)]
      · rw [hres]
        cases (l.drop (i + 1)).findIdx? (fun i => hasX i.x) <;> simp; omega
  · have : i = l.length := by omega
    subst this
    rw [List.drop_length] at hres
    simp +contextual only [go_sem, Rcb, Rbk, sevalprocAttr, hlv, ht, hlt]
    exact end_none ExtT.rfl' (by rw [hres]; rfl)
theorem ct_ContainsI {l : List It} {M : Mem} {lv : Value} (hs : RS M (RIt M) 8 l lv) (T : Tm) :
    CtT Tryz.prog 63 [lv, .func (.func 64) ⟨[]⟩ ⟨[]⟩] T M [] [] (fun r _ _ _ => r = .bool (l.any fun i => hasX i.x)) noPan := by
  refine ct_run mx bod63 Tryz.func63 rfl (by rw [nt63]; exact Nat.le_of_ble_eq_true rfl) (dr := dr63) (by kernel_rfl) rs63 ?_
  intro hno _
  simp +contextual only [go_sem, Rcb, Rbk, sevalprocAttr]
  refine rCall_pure (ct_IndexI hs T) ?_ (fun _ _ _ _ h => h.elim)
  rintro v M1 hM1 _ rfl
  simp +contextual only [go_sem, Rcb, Rbk, sevalprocAttr]
  exact end_none ExtT.rfl' (by rw [optI_any])
theorem RPl_one_cells {M : Mem} {p : Pl} {c0 c1 c2 c3 c4 c5 c6 c7 c8 c9 c10 : Value} (h : RPl M p [c0, c1, c2, c3, c4, c5, c6, c7, c8, c9, c10]) : c0.oneCell' = true ∧ c1.oneCell' = true ∧ c2.oneCell' = true ∧ c3.oneCell' = true ∧ c4.oneCell' = true ∧ c5.oneCell' = true ∧ c6.oneCell' = true ∧ c7.oneCell' = true ∧ c8.oneCell' = true ∧ c9.oneCell' = true ∧ c10.oneCell' = true := by
  have := RPl_oneC h
  simpa using this
abbrev z11 : List Value := [.int .i64 0, .int .i64 0, .int .i64 0, .int .i64 0, .int .i64 0, st [], .int .i64 0, .slice none 0 0, .slice none 0 0, .slice none 0 0, .slice none 0 0]
def encPN (r : Pl × List Bs) (v : Value) (M : Mem) : Prop := ∃ cs nv, v = .tuple ⟨[.agg ⟨cs⟩, nv]⟩ ∧ RPl M r.1 cs ∧ RS M RSt 1 r.2 nv
theorem ct_bsel {M : Mem} {bb b o : Nat} {rels : List Rel} {rv : Value} {s : Se} {cs : List Value} (hr : RS M (RRel M) 14 rels rv) (hbb : M bb = some [rv]) (hcols : ∀ r ∈ rels, r.cols.length ≤ 1048576) (hat : At M b o cs) (hs : RSe M s cs) (hok : OkSe s) (T : Tm) :
    CtT Tryz.prog 29 [.pointer (some ⟨bb, 0, none⟩), .pointer (some ⟨b, o, none⟩)] T M [] [] (postX encPN (selB rels s)) (panX (selB rels s)) := by
  obtain ⟨ai, aj, af, ag, aw, ah, ap, aq, rfl, hi, hf, hw, hv, hgr, ow, ov⟩ := RSe_form hs
  obtain ⟨y0, y1, y2, y3, y4, y5, y6, y7, y8, y9, y10, y11, y12, y13, y14, y15, y16, y17, y18, y19, y20⟩ := At21 hat
  refine ct_run mx bod29 Tryz.func29 rfl (by rw [nt29]; exact Nat.le_of_ble_eq_true rfl) (dr := dr29) (by kernel_rfl) rs29 ?_
  intro hno _
  simp +contextual only [go_sem, Rcb, Rbk, sevalprocAttr, y3]
  intro b4 T4 hb4 hT4 hTb4
  refine rCall_pure (ct_from hr hbb hcols hf hok.src hok.on T4) ?_ ?_
  rotate_left
  · rintro ch M1 hM1 hno1 ⟨er, he, rfl⟩
    exact pan_x hT4 (selB_err he)
  rintro v M1 hM1 hno1 ⟨⟨p, names⟩, hfm, qs, sc, rfl, hp, hsc⟩
  simp only at hp hsc
  have hnlen : names.length ≤ 16777216 := by have h1 := fromM_len hcols hfm; have h2 := hok.src; simp only at h1; omega
  obtain ⟨c0, c1, c2, c3, c4, c5, c6, c7, c8, c9, c10, rfl, hc⟩ := RPl_cells hp
  simp only [List.cons_append, List.nil_append, noneL, noneL_wL] at hno1
  replace y4 := mcell_ext hM1 y4
  simp +contextual only [go_sem, sevalprocAttr, hc, y4]
  intro b6 T6 hb6 hap6 hT6 hTb6
  have hw1 := RX_ext hM1 _ _ hw
  have hatw : At M1 b (o + 6) [.int .i64 s.wh.k, .int .i64 s.wh.v.k, .int .i64 s.wh.v.n, st s.wh.v.t, st s.wh.tab, st s.wh.name, aw] := by
    have h1 := hat.ext hM1
    exact (At_app.1 (At_app.1 (show At M1 b o ([_, _, _, _, _, _] ++ ([_, _, _, _, _, _, _] ++ [_, _, _, _, _, _, _, _])) from h1)).2).1
  refine cond_cut (fun e ds h => ds = [] ∧ live e [(0, .pointer (some ⟨bb, 0, none⟩)), (1, .pointer (some ⟨b, o, none⟩)), (4, .pointer (some ⟨b4, 0, none⟩)), (6, .pointer (some ⟨b6, 0, none⟩)), (7, .pointer (some ⟨sc, 0, none⟩))] ∧ ∃ M2 p2 c0 c1 c2 c3 c4 c5 c6 c7 c8 c9 c10, Ext M1 M2 ∧ M2 b6 = none ∧ M2 b4 = none ∧ RPl M2 p2 [c0, c1, c2, c3, c4, c5, c6, c7, c8, c9, c10] ∧ selB rels s = selB2 s p2 names ∧
    h = ⟨T6, M2, [(b6, [c0, c1, c2, c3, c4, c5, c6, c7, c8, c9, c10]), (b4, z11)], []⟩) (fun S' hS' => ?_) ?_
  · cases hW : s.hasW with
    | false =>
      simp +contextual only [go_sem, Rcb, Rbk, sevalprocAttr]
      refine hS' _ _ _ ⟨rfl, ?_, M1, p, c0, c1, c2, c3, c4, c5, c6, c7, c8, c9, c10, Ext.rfl', hb6, hno1.1, hp, ?_, rfl⟩
      · simp only [live, go_sem, Rcb, Rbk, sevalprocAttr]
      · have := selB_ok (s := s) hfm (w := zeroE) (by unfold optBB; rw [hW]; rfl)
        rw [this, hW]; rfl
    | true =>
      simp +contextual only [go_sem, Rcb, Rbk, sevalprocAttr]
      refine draw_all ?_
      simp +contextual only [go_sem, Rcb, Rbk, sevalprocAttr, hb6, hap6, hno1]
      obtain ⟨lvs, hs1, hs2, _⟩ := hsc
      refine rCall_pure (exB names _ s.wh (Nat.le_refl _) (hok.wh hW) M1 T6 sc lvs _ _ b (o + 6) _ hs2 hs1 hatw hw1) ?_ ?_
      · rintro r M2 hM2 hno2 ⟨x, hx, xs, rfl, hxe⟩
        obtain ⟨s6, rfl, hs6, _⟩ := REx_form hxe
        simp only [List.cons_append, List.nil_append, noneL, noneL_wL] at hno2
        simp +contextual only [go_sem, Rcb, Rbk, sevalprocAttr, hno2, hap6, hs6]
        refine ⟨Sub_ML hM2 ⟨hno2.1, hno2.2.1, trivial⟩, ?_⟩
        refine rCall_pure (ct_filter hxe (RPl_ext hM2 _ _ hp) T6) ?_ (fun _ _ _ _ h => h.elim)
        rintro r M3 hM3 hno3 ⟨fs, rfl, hfe⟩
        obtain ⟨f0, f1, f2, f3, f4, f5, f6, f7, f8, f9, f10, rfl, hff⟩ := RPl_cells hfe
        simp only [List.cons_append, List.nil_append, noneL, noneL_wL] at hno3
        simp +contextual only [go_sem, Rcb, Rbk, sevalprocAttr, hno3, hap6, hff]
        refine hS' _ _ _ ⟨rfl, ?_, M3, _, f0, f1, f2, f3, f4, f5, f6, f7, f8, f9, f10, hM2.trans hM3, hno3.1, hno3.2.1, hfe, ?_, rfl⟩
        · simp only [live, go_sem, Rcb, Rbk, sevalprocAttr]
        · have := selB_ok (s := s) hfm (w := x) (by unfold optBB; rw [hW]; exact hx)
          rw [this, hW]; rfl
      · rintro ch M2 hM2 hno2 ⟨er, he, rfl⟩
        exact pan_x (hT4.trans hT6) (selB_werr hfm (by unfold optBB; rw [hW]; exact he))
  clear hp hc y4
  rintro e ds h ⟨rfl, hlv, M2, p2, c0, c1, c2, c3, c4, c5, c6, c7, c8, c9, c10, hM2, n6, n4, hp, hsel, rfl⟩
  rw [hsel]
  clear hsel hfm
  simp only [live] at hlv
  have h12 := hM1.trans hM2
  replace hsc := hsc.ext hM2
  have z := At21 (hat.ext h12)
  have hc := RPl_one_cells hp
  have hT46 := hT4.trans hT6
  simp only [Run_seq]
  refine run_cut (fun e ds h => ds = [] ∧ live e [(0, .pointer (some ⟨bb, 0, none⟩)), (1, .pointer (some ⟨b, o, none⟩)), (4, .pointer (some ⟨b4, 0, none⟩)), (6, .pointer (some ⟨b6, 0, none⟩)), (7, .pointer (some ⟨sc, 0, none⟩)), (8, .bool (groupedS s))] ∧ ∃ M3, Ext M2 M3 ∧ M3 b6 = none ∧ M3 b4 = none ∧
    h = ⟨T6, M3, [(b6, [c0, c1, c2, c3, c4, c5, c6, c7, c8, c9, c10]), (b4, z11)], []⟩) (fun S' hS' => ?_) ?_
  · have hg : groupedS s = (if 0 < s.group.length ∨ s.hasH = true then true else if s.star = true then false else s.items.any fun i => hasX i.x) := by
      unfold groupedS
      by_cases h1 : 0 < s.group.length <;> cases s.hasH <;> cases s.star <;> simp [h1]
    have hlenI : (0 < (s.group.length : Int)) = (0 < s.group.length) := by simp
    by_cases hA : 0 < (s.group.length : Int) ∨ s.hasH = true
    · rw [if_pos (by rwa [hlenI] at hA)] at hg
      simp +contextual only [go_sem, Rcb, Rbk, sevalprocAttr, hlv, z, hA]
      refine hS' _ _ _ ⟨rfl, ?_, M2, Ext.rfl', n6, n4, rfl⟩
      rw [hg]
      simp only [live, hlv, hA, go_sem, Rcb, Rbk, sevalprocAttr]
    · rw [if_neg (by rwa [hlenI] at hA)] at hg
      cases hS : s.star with
      | true =>
        rw [hS, if_pos rfl] at hg
        simp +contextual only [go_sem, Rcb, Rbk, sevalprocAttr, hlv, z, hA, hS]
        refine hS' _ _ _ ⟨rfl, ?_, M2, Ext.rfl', n6, n4, rfl⟩
        rw [hg]
        simp only [not_or] at hA
        simp only [live, hlv, hA, hS, go_sem, Rcb, Rbk, sevalprocAttr]
      | false =>
        rw [hS, if_neg (by decide)] at hg
        simp +contextual only [go_sem, Rcb, Rbk, sevalprocAttr, hlv, z, hA, hS]
        refine rCall_pure (ct_ContainsI (RS_ext h12 (RIt_ext h12) hi) T6) ?_ (fun _ _ _ _ h => h.elim)
        rintro r M3 hM3 hno3 rfl
        simp only [List.cons_append, List.nil_append, noneL, noneL_wL] at hno3
        simp +contextual only [go_sem, Rcb, Rbk, sevalprocAttr, hlv, hA, hS]
        refine hS' _ _ _ ⟨rfl, ?_, M3, hM3, hno3.1, hno3.2.1, rfl⟩
        rw [hg]
        simp only [not_or] at hA
        simp only [live, hlv, hA, hS, go_sem, Rcb, Rbk, sevalprocAttr]
  rintro e ds h ⟨rfl, hlv, M3, hM3, n6', n4', rfl⟩
  clear z n6 n4
  simp only [live] at hlv
  have h13 := h12.trans hM3
  replace hsc := hsc.ext hM3
  replace hp := RPl_ext hM3 _ _ hp
  have z := At21 (hat.ext h13)
  simp +contextual only [go_sem, sevalprocAttr, hlv]
  obtain ⟨lvs, hs1, hs2, hs3⟩ := hsc
  refine cond_cut (fun e ds h => ds = [] ∧ live e [(1, .pointer (some ⟨b, o, none⟩)), (4, .pointer (some ⟨b4, 0, none⟩)), (6, .pointer (some ⟨b6, 0, none⟩))] ∧ (s.star = true → e 7 = .pointer (some ⟨sc, 0, none⟩)) ∧ ∃ N' M' L' R' q, h = ⟨N', M', L', R'⟩ ∧ ExtT T6 N' ∧ Ext M3 M' ∧ (if groupedS s = true then groupM s p2 names else mapM' s p2 names) = .ok q ∧
    Close h (fun h' => ∃ M'' qs, Ext M' M'' ∧ h' = ⟨N', M'', [(b6, qs), (b4, z11)], []⟩ ∧ M'' b6 = none ∧ M'' b4 = none ∧ RPl M'' q qs)) (fun S' hS' => ?_) ?_
  · have hit : ∀ {M' : Mem}, Ext M3 M' → RS M' (RIt M') 8 s.items (.slice ai s.items.length aj) := fun he => RS_ext (h13.trans he) (RIt_ext (h13.trans he)) hi
    cases hG : groupedS s with
    | false =>
      have hselq : selB2 s p2 names = match mapM' s p2 names with | .error e => .error e | .ok q => .ok (if s.distinct = true then plan1 11 q else q, if s.star = true then names.map (·.2) else calledL 0 s.items) := by unfold selB2; rw [hG]; rfl
      cases hS : s.star with
      | true =>
        simp +contextual only [go_sem, Rcb, Rbk, sevalprocAttr, hlv, z, hS]
        refine hS' _ _ _ ⟨rfl, ?_, fun _ => ?_, T6, M3, _, _, p2, rfl, ExtT.rfl', Ext.rfl', ?_, Close_id ⟨M3, _, Ext.rfl', rfl, n6', n4', hp⟩⟩
        · simp only [live, hlv, go_sem, Rcb, Rbk, sevalprocAttr]
        · simp only [hlv, go_sem, Rcb, Rbk, sevalprocAttr]
        · rw [hG, if_neg (by decide)]; unfold mapM'; rw [hS]; rfl
      | false =>
        simp +contextual only [go_sem, Rcb, Rbk, sevalprocAttr, hlv, z, hS, hc, n6', n4', hap6]
        intro bk hbk hapk b14 T14 hb14 hap14 hT14 hTb14
        obtain ⟨hit40, hitok⟩ := hok.its hS
        have hmap : ∀ {e : Int}, exprsB names (s.items.map (·.x)) = .error e → selB2 s p2 names = .error e := fun h => by rw [hselq]; unfold mapM'; rw [hS, h]; rfl
        obtain ⟨hib, _, hig⟩ : s.items.length ≤ 140737488355328 ∧ s.items.length ≤ aj ∧ ∀ (i : Nat) (x : It), s.items[i]? = some x → ∃ b o cs, ai = some ⟨b, o, none⟩ ∧ At M3 b (o + i * 8) cs ∧ RIt M3 x cs := by
          obtain ⟨h1, a', c', h2, h3, _, h4⟩ := RS_elim (by decide) (fun _ _ => RIt_len) (hit Ext.rfl')
          injection h2 with h5 h6 h7
          subst h5 h7
          exact ⟨h1, h3, h4⟩
        refine loop_range s.items.length 145 [(1, .pointer (some ⟨b, o, none⟩)), (4, .pointer (some ⟨b4, 0, none⟩)), (6, .pointer (some ⟨b6, 0, none⟩)), (7, .pointer (some ⟨sc, 0, none⟩)), (14, .pointer (some ⟨b14, 0, none⟩)), (144, .int .i64 (s.items.length : Int))]
          (fun i e h => ∃ M' R fv acc, Ext M3 M' ∧ M' b14 = none ∧ M' bk = none ∧ M' b6 = none ∧ M' b4 = none ∧ h = ⟨T14, M', [(b14, [.int .i64 3, .int .i64 0, .int .i64 0, .int .i64 0, .int .i64 0, st [], .int .i64 0, .slice none 0 0, fv, .slice none 0 0, .slice (some ⟨bk, 0, none⟩) 1 1]), (bk, [c0, c1, c2, c3, c4, c5, c6, c7, c8, c9, c10]), (b6, [c0, c1, c2, c3, c4, c5, c6, c7, c8, c9, c10]), (b4, z11)], R⟩ ∧ acc.length = i ∧ Acc 38 6 (REx M') [] R fv acc ∧ preE acc (exprsB names ((s.items.drop i).map (·.x))) = exprsB names (s.items.map (·.x)))
          0 (by omega) (by simp only [live, hlv, go_sem, Rcb, Rbk, sevalprocAttr]) (by simp only [go_sem, Rcb, Rbk, sevalprocAttr]) ⟨M3, [], _, [], Ext.rfl', hb14, hbk, n6', n4', rfl, rfl, Acc_nil, preE_nil _⟩ ?_
        rintro i e h hi' hlv2 ht ⟨M4, R4, fv, acc, hM4, k14, kk, k6, k4, rfl, hacl, hacc, hres⟩
        simp only [live] at hlv2
        obtain ⟨fa, fc, hfv⟩ := Acc_form hacc
        by_cases hlt : i < s.items.length
        · obtain ⟨b', o', cs', rfl, hatI, hrx⟩ := hig i s.items[i] (List.getElem?_eq_getElem hlt)
          obtain ⟨aw', rfl, hxx, h1'⟩ := RIt_form hrx
          have hatX := (At_app.1 (show At M3 b' (o' + i * 8) ([_, _, _, _, _, _, _] ++ [_]) from hatI)).1
          have hdrop : s.items.drop i = s.items[i] :: s.items.drop (i + 1) := List.drop_eq_getElem_cons hlt
          rw [hdrop, List.map_cons] at hres
          have z2 := mcell_ext hM4 z.2.2.1
          subst hfv
          simp +contextual only [go_sem, Rcb, Rbk, sevalprocAttr, hlv2, ht, hlt]
          refine draw_all ?_
          simp +contextual only [go_sem, Rcb, Rbk, sevalprocAttr, hlv2, ht, hlt, z2, k14, kk, k6, k4, hap14, hapk]
          refine rCall_pure (exB names _ s.items[i].x (Nat.le_refl _) (hitok _ (List.getElem_mem hlt)) M4 T14 sc lvs _ _ b' _ _ (RS_ext hM4 (fun _ _ h => h) hs2) (hM4 _ _ hs1) (hatX.ext hM4) (RX_ext hM4 _ _ hxx)) ?_ ?_
          · rintro r M5 hM5 hno5 ⟨x, hx, xs, rfl, hxe⟩
            rw [exprsB_ok hx, ← preE_cons] at hres
            obtain ⟨s6, rfl, hs6, _⟩ := REx_form hxe
            simp only [List.cons_append, List.nil_append, noneL, noneL_wL] at hno5
            simp +contextual only [go_sem, Rcb, Rbk, sevalprocAttr, hno5, hap14, hapk, hs6]
            refine ⟨Sub_ML hM5 ⟨hno5.1, hno5.2.1, hno5.2.2.1, hno5.2.2.2.1, trivial⟩, ?_⟩
            intro b20 hb20 hap20
            refine ⟨Sub_ML1 hM5 ⟨hno5.1, hno5.2.1, hno5.2.2.1, hno5.2.2.2.1, trivial⟩ ⟨hap20.1, hap20.2.1, hap20.2.2.1, hap20.2.2.2, trivial⟩, ?_⟩
            refine app_acc (Tryz.underlying36) row36 okt36 (Acc_mono (REx_ext hM5) hacc) hxe (fun _ _ => REx_len) (REx_oneC hxe) hb20 (by omega) (by decide) ?_
            intro fv' R' hacc'
            obtain ⟨fa', fc', rfl⟩ := Acc_form hacc'
            simp +contextual only [go_sem, Rcb, Rbk, sevalprocAttr, hlv2, ht, hno5, hap14, hapk, hs6, hb20, hap20]
            refine ⟨Sub_ML1 hM5 ⟨hno5.1, hno5.2.1, hno5.2.2.1, hno5.2.2.2.1, trivial⟩ ⟨hap20.1, hap20.2.1, hap20.2.2.1, hap20.2.2.2, trivial⟩, ?_⟩
            refine lp_close (Close_drop (Close_id ⟨s.items.length - (i + 1), by omega, rfl, i + 1, by omega, rfl, ?_, ?_, M5, R', _, acc ++ [x], hM4.trans hM5, hno5.1, hno5.2.1, hno5.2.2.1, hno5.2.2.2.1, rfl, ?_, hacc', hres⟩))
            · simp only [live, hlv2, go_sem, Rcb, Rbk, sevalprocAttr]
            · simp only [ht, go_sem, Rcb, Rbk, sevalprocAttr, wrap_succ i (by omega)]
            · rw [List.length_append, hacl]; rfl
          · rintro ch M5 hM5 hno5 ⟨er, he, rfl⟩
            rw [exprsB_err he] at hres
            exact pan_x (hT46.trans hT14) (hmap hres.symm)
        · have : i = s.items.length := by omega
          subst this
          rw [List.drop_length] at hres
          simp only [List.map_nil, exprsB, preE, List.append_nil] at hres
          subst hfv
          simp +contextual only [go_sem, Rcb, Rbk, sevalprocAttr, hlv2, ht, hlt, k14, kk, k6, k4, hap14, hapk]
          refine hS' _ _ _ ⟨rfl, ?_, fun h => (by rw [hS] at h; cases h), T14, M4, _, _, .mk 3 0 zeroE acc [] [p2], rfl, hT14, hM4, ?_, ?_⟩
          · simp only [live, hlv2, go_sem, Rcb, Rbk, sevalprocAttr]
          · rw [hG, if_neg (by decide)]; unfold mapM'; rw [hS, ← hres]; rfl
          · refine Close_acc hacc (by omega) (by decide) ⟨k14, kk, k6, k4, trivial⟩ fun M5 hM5 hno5 hrs => Close_drop (Close_freeze fun he hk hno6 => Close_id ⟨_, _, hM5.trans he, rfl, hno6.1, hno6.2.1, ?_⟩)
            exact RPl_mk (zeroE_R _) (RS_ext he (REx_ext (hM5.trans he)) hrs) RS_nil (RPl_one hk (RPl_ext ((hM4.trans hM5).trans he) _ _ hp))
    | true =>
      have hselq : selB2 s p2 names = match groupM s p2 names with | .error e => .error e | .ok q => .ok (if s.distinct = true then plan1 11 q else q, if s.star = true then names.map (·.2) else calledL 0 s.items) := by unfold selB2; rw [hG]; rfl
      cases hS : s.star with
      | true =>
        simp +contextual only [go_sem, Rcb, Rbk, sevalprocAttr, hlv, z, hS]
        exact fail_x hT46 (by rw [hselq]; unfold groupM; rw [hS]; rfl)
      | false =>
        have hgm : groupM s p2 names = match exprsB names s.group with
          | .error e => .error e
          | .ok keys => match exprsG names s.group (s.items.map (·.x)) [] with
            | .error e => .error e
            | .ok it => match optGB names s.group s.hasH s.hv it.2 with
              | .error e => .error e
              | .ok h => .ok (.mk 3 0 zeroE it.1 [] [if s.hasH = true then filterP h.1 (.mk 12 0 zeroE keys h.2 [p2]) else .mk 12 0 zeroE keys h.2 [p2]]) := by unfold groupM; rw [hS]; rfl
        have herr : ∀ {e : Int}, groupM s p2 names = .error e → selB2 s p2 names = .error e := fun h => by rw [hselq, h]
        obtain ⟨hit40, hitok⟩ := hok.its hS
        have hcnt := hok.cnt hS
        simp +contextual only [go_sem, Rcb, Rbk, sevalprocAttr, hlv, z, hS, hc]
        intro b9 T9 hb9 hap9 hT9 hTb9
        refine rCall_pure (ct_allB (fun x hx => exB names _ x (Nat.le_refl _) (hok.grp.2 x hx)) (by have := hok.grp.1; omega) hs2 hs1 (RS_ext h13 (RX_ext h13) hgr) T9) ?_ ?_
        rotate_left
        · rintro ch M4 hM4 hno4 ⟨er, he, rfl⟩
          exact pan_x (hT46.trans hT9) (herr (by rw [hgm, he]))
        rintro kv M4 hM4 hno4 ⟨keysE, hkE, hkv⟩
        simp only [List.cons_append, List.nil_append, noneL, noneL_wL] at hno4
        replace z := At21 ((hat.ext h13).ext hM4)
        simp +contextual only [go_sem, Rcb, Rbk, sevalprocAttr, hlv, z, hno4]
        intro b85 T85 hb85 hap85 hT85 hTb85
        have hT' := (hT46.trans hT9).trans hT85
        have h34 := h13.trans hM4
        obtain ⟨hib, _, hig⟩ : s.items.length ≤ 140737488355328 ∧ s.items.length ≤ aj ∧ ∀ (i : Nat) (x : It), s.items[i]? = some x → ∃ b o cs, ai = some ⟨b, o, none⟩ ∧ At M3 b (o + i * 8) cs ∧ RIt M3 x cs := by
          obtain ⟨h1, a', c', h2, h3, _, h4⟩ := RS_elim (by decide) (fun _ _ => RIt_len) (hit Ext.rfl')
          injection h2 with h5 h6 h7
          subst h5 h7
          exact ⟨h1, h3, h4⟩
        have hgl : s.group.length ≤ 1048576 := by have := hok.grp.1; omega
        refine loop_rangeC s.items.length 91 [(1, .pointer (some ⟨b, o, none⟩)), (4, .pointer (some ⟨b4, 0, none⟩)), (6, .pointer (some ⟨b6, 0, none⟩)), (7, .pointer (some ⟨b85, 0, none⟩)), (9, .pointer (some ⟨b9, 0, none⟩)), (10, kv), (90, .int .i64 (s.items.length : Int))]
          (fun i e h => ∃ M' L' R0 R' fv acc ags, Ext M4 M' ∧ noneL M' ([(b6, [c0, c1, c2, c3, c4, c5, c6, c7, c8, c9, c10]), (b4, z11)] ++ L') ∧ h = ⟨T85, M', [(b6, [c0, c1, c2, c3, c4, c5, c6, c7, c8, c9, c10]), (b4, z11)] ++ L', R'⟩ ∧ e 11 = fv ∧ acc.length = i ∧ AgS M' b9 L' R0 ags ∧ Acc 38 6 (REx M') R0 R' fv acc ∧
            Gs M' b85 b9 sc names s.group lvs (.slice ap s.group.length aq) (.slice none 0 0) (.slice none 0 0) (.pointer none) ∧ ags.length + cntL ((s.items.drop i).map (·.x)) + hvC s ≤ 1048576 ∧ preG acc (exprsG names s.group ((s.items.drop i).map (·.x)) ags) = exprsG names s.group (s.items.map (·.x)) [])
          0 (by omega) (by simp only [live, hlv, go_sem, Rcb, Rbk, sevalprocAttr]) (by simp only [go_sem, Rcb, Rbk, sevalprocAttr]) ?_ ?_
        · refine Close_freeze fun he h85 hno5 => Close_perm (L' := [(b6, [c0, c1, c2, c3, c4, c5, c6, c7, c8, c9, c10]), (b4, z11), (b9, [.slice none 0 0])]) ?_ (Close_addNil (Close_id ⟨_, [(b9, [.slice none 0 0])], [(.slice none 0 0, 119, 7, [])], _, _, [], [], he, ⟨hno5.2.1, hno5.2.2.1, hno5.1, trivial⟩, rfl, (by simp only [go_sem, Rcb, Rbk, sevalprocAttr]), rfl, ⟨none, 0, [], rfl, rfl, rfl⟩, Acc_nil, ⟨h85, he _ _ (hM4 _ _ hs1), RS_ext (hM4.trans he) (fun _ _ h => h) hs2, RS_ext (h34.trans he) (RX_ext (h34.trans he)) hgr⟩, ?_, preG_nil _⟩))
          · exact (List.perm_append_comm (l₁ := [(b9, _)]) (l₂ := [(b6, _), (b4, _)]))
          · simp only [List.drop_zero, List.length_nil]; omega
        rintro i e h hi' hlv2 ht ⟨M5, L5, R0, R5, fv, acc, ags, hM5, hno5, rfl, e11, hacl, hA, hacc, hGs, hcn, hres⟩
        simp only [live] at hlv2
        obtain ⟨hkA, hrA⟩ := AgS_keys hA
        by_cases hlt : i < s.items.length
        · obtain ⟨b', o', cs', rfl, hatI, hrx⟩ := hig i s.items[i] (List.getElem?_eq_getElem hlt)
          obtain ⟨aw', rfl, hxx, h1'⟩ := RIt_form hrx
          have hatX := (At_app.1 (show At M3 b' (o' + i * 8) ([_, _, _, _, _, _, _] ++ [_]) from hatI)).1
          have hdrop : s.items.drop i = s.items[i] :: s.items.drop (i + 1) := List.drop_eq_getElem_cons hlt
          rw [hdrop, List.map_cons] at hres hcn
          rw [cntL] at hcn
          have z2 := mcell_ext hM5 z.2.2.1
          have h35 := hM4.trans hM5
          simp +contextual only [go_sem, Rcb, Rbk, sevalprocAttr, hlv2, ht, hlt, z2]
          refine rCall_acc [(b6, _), (b4, _)] (exG names s.group hgl _ s.items[i].x (Nat.le_refl _) (hitok _ (List.getElem_mem hlt)) M5 T85 b85 b9 sc lvs _ _ _ _ b' _ _ ags L5 R0 hGs (hatX.ext h35) (RX_ext h35 _ _ hxx) hA (by omega)) hacc ?_ ?_
          · rintro v M6 L6 R6 R7 hM6 hk6 hr6 hno6 ⟨y, ag2, hy, ⟨cs, rfl, hye⟩, hA2⟩ hacc2
            rw [exprsG_ok hy, ← preG_cons] at hres
            have hlen2 := exprG_len _ _ _ _ hy
            have hcl := REx_len hye
            simp +contextual only [go_sem, Rcb, Rbk, sevalprocAttr, hlv2, ht, hlt, e11, hcl]
            intro b16 hb16 hap16
            refine app_acc (Tryz.underlying36) row36 okt36 (Acc_mono (REx_ext hM6) hacc2) hye (fun _ _ => REx_len) (REx_oneC hye) hb16 (by omega) (by decide) ?_
            intro fv' R' hacc'
            simp +contextual only [go_sem, Rcb, Rbk, sevalprocAttr, hlv2, ht, hlt]
            refine lp_close (Close_drop (Close_id ⟨s.items.length - (i + 1), by omega, rfl, i + 1, by omega, rfl, ?_, ?_, M6, L6, R6, R', fv', acc ++ [y], ag2, hM5.trans hM6, hno6, rfl, ?_, ?_, hA2, hacc', hGs.ext hM6, by omega, hres⟩))
            · simp only [live, hlv2, go_sem, Rcb, Rbk, sevalprocAttr]
            · simp only [ht, go_sem, Rcb, Rbk, sevalprocAttr, wrap_succ i (by omega)]
            · simp only [go_sem, Rcb, Rbk, sevalprocAttr]
            · rw [List.length_append, hacl]; rfl
          · rintro ch M6 L6 R6 R7 hM6 hk6 hr6 ⟨er, he, rfl⟩
            rw [exprsG_err he] at hres
            exact pan_x hT' (herr (by rw [hgm, hkE]; simp only; rw [show exprsG names s.group (s.items.map (·.x)) [] = .error er from hres.symm]))
        · have : i = s.items.length := by omega
          subst this
          rw [List.drop_length] at hres hcn
          simp only [List.map_nil, exprsG, preG, List.append_nil] at hres
          simp only [List.map_nil, cntL, Nat.add_zero] at hcn
          have h35 := hM4.trans hM5
          replace z := At21 (((hat.ext h13).ext hM4).ext hM5)
          have n6 : M5 b6 = none ∧ M5 b4 = none := ⟨hno5.1, hno5.2.1⟩
          have n9 : M5 b9 = none := by
            obtain ⟨a, c, xs, rfl, rfl, _⟩ := hA
            exact hno5.2.2.1
          simp +contextual only [go_sem, sevalprocAttr, hlv2, ht]
          rw [rCond_bool, if_neg (by simp)]
          simp +contextual only [go_sem, sevalprocAttr, hlv2, ht, hlt, z]
          intro b13 T13 hb13 hap13 hT13 hTb13
          have hTT := hT'.trans hT13
          have h139 : ¬ b13 = b9 ∧ ¬ b9 = b13 := by
            obtain ⟨a, c, xs, rfl, rfl, _⟩ := hA
            exact hap13.2.2.1
          refine cond_cut (fun e ds h => ds = [] ∧ live e [(1, .pointer (some ⟨b, o, none⟩)), (4, .pointer (some ⟨b4, 0, none⟩)), (6, .pointer (some ⟨b6, 0, none⟩)), (9, .pointer (some ⟨b9, 0, none⟩)), (10, kv), (11, fv), (13, .pointer (some ⟨b13, 0, none⟩))] ∧ ∃ M' aa an axs R' x x0 x1 x2 x3 x4 x5 ags', Ext M5 M' ∧ (M' b13 = none ∧ M' b6 = none ∧ M' b4 = none ∧ M' b9 = none) ∧ REx M' x [x0, x1, x2, x3, x4, x5] ∧ (x0.oneCell' = true ∧ x1.oneCell' = true ∧ x2.oneCell' = true ∧ x3.oneCell' = true ∧ x4.oneCell' = true ∧ x5.oneCell' = true) ∧ optGB names s.group s.hasH s.hv ags = .ok (x, ags') ∧ RL (RAg M') ags' axs ∧ ags'.length ≤ 1048576 ∧
            Acc 38 6 (REx M') [(.slice aa ags'.length an, 119, 7, axs)] R' fv acc ∧
            h = ⟨T13, M', [(b13, [x0, x1, x2, x3, x4, x5]), (b6, [c0, c1, c2, c3, c4, c5, c6, c7, c8, c9, c10]), (b4, z11), (b9, [.slice aa ags'.length an])], R'⟩) (fun S'' hS'' => ?_) ?_
          · cases hH : s.hasH with
            | false =>
              obtain ⟨a, c, xs, rfl, rfl, hxs⟩ := hA
              simp +contextual only [go_sem, Rcb, Rbk, sevalprocAttr]
              refine hS'' _ _ _ ⟨rfl, ?_, M5, a, c, xs, R5, zeroE, _, _, _, _, _, _, ags, Ext.rfl', ⟨hb13, n6.1, n6.2, n9⟩, zeroE_R _, ⟨rfl, rfl, rfl, rfl, rfl, rfl⟩, by unfold optGB; rw [hH]; rfl, hxs, by omega, hacc, rfl⟩
              simp only [live, hlv2, e11, go_sem, Rcb, Rbk, sevalprocAttr]
            | true =>
              have hvc := hvC_eq hH
              have hatV : At M5 b (o + 13) [.int .i64 s.hv.k, .int .i64 s.hv.v.k, .int .i64 s.hv.v.n, st s.hv.v.t, st s.hv.tab, st s.hv.name, ah] :=
                (At_app.1 (At_app.1 (show At M5 b o ([_, _, _, _, _, _, _, _, _, _, _, _, _] ++ ([_, _, _, _, _, _, _] ++ [_])) from hat.ext (h13.trans h35))).2).1
              simp +contextual only [go_sem, Rcb, Rbk, sevalprocAttr, hlv2]
              refine rCall_acc [(b13, _), (b6, _), (b4, _)] (exG names s.group hgl _ s.hv (Nat.le_refl _) (hok.hv hH) M5 T13 b85 b9 sc lvs _ _ _ _ b (o + 13) _ ags L5 R0 hGs hatV (RX_ext (h13.trans h35) _ _ hv) hA (by omega)) hacc ?_ ?_
              · rintro v M6 L6 R6 R7 hM6 hk6 hr6 hno6 ⟨y, ag2, hy, ⟨cs, rfl, hye⟩, hA2⟩ hacc2
                have hlen2 := exprG_len _ _ _ _ hy
                obtain ⟨a, c, xs, rfl, rfl, hxs⟩ := hA2
                obtain ⟨s6, rfl, hs6, _⟩ := REx_form hye
                simp only [List.cons_append, List.nil_append, noneL, noneL_wL] at hno6
                simp +contextual only [go_sem, Rcb, Rbk, sevalprocAttr, hlv2, hno6, hs6, hap13]
                refine hS'' _ _ _ ⟨rfl, ?_, M6, a, c, xs, R7, y, _, _, _, _, _, _, ag2, hM6, ⟨hno6.1, hno6.2.1, hno6.2.2.1, hno6.2.2.2.1⟩, hye, ⟨rfl, rfl, rfl, rfl, rfl, hs6⟩, by unfold optGB; rw [hH]; exact hy, hxs, by omega, Acc_mono (REx_ext hM6) hacc2, rfl⟩
                simp only [live, hlv2, e11, go_sem, Rcb, Rbk, sevalprocAttr]
              · rintro ch M6 L6 R6 R7 hM6 hk6 hr6 ⟨er, he, rfl⟩
                exact pan_x hTT (herr (by rw [hgm, hkE]; simp only; rw [← hres]; simp only; unfold optGB; rw [hH]; simp only [if_true]; rw [he]))
          · rintro e ds h ⟨rfl, hlv3, M6, aa, an, axs, R6, x, x0, x1, x2, x3, x4, x5, ags', hM6, k6, hxe, hxo, hop, hxs, hagl, hacc6, rfl⟩
            simp only [live] at hlv3
            have h46 := hM5.trans hM6
            replace z := At21 ((((hat.ext h13).ext hM4).ext hM5).ext hM6)
            obtain ⟨kv1, kv2⟩ := RS_one hkv
            have kv2m := kv2
            simp only [Value.cells] at kv2m
            obtain ⟨fa, fc, rfl⟩ := Acc_form hacc6
            have hkv6 := RS_ext h46 (REx_ext h46) hkv
            have hp6 := RPl_ext (hM4.trans h46) _ _ hp
            have hqeq : ∀ {q : Pl}, (if s.hasH = true then filterP x (.mk 12 0 zeroE keysE ags' [p2]) else .mk 12 0 zeroE keysE ags' [p2]) = q → groupM s p2 names = .ok (.mk 3 0 zeroE acc [] [q]) := by
              rintro q rfl
              rw [hgm, hkE]; simp only; rw [← hres]; simp only; rw [hop]
            have hfin : ∀ {M7 : Mem} {a2 : Option Addr} {c2 : Nat}, Ext M6 M7 → Sl M7 (.slice a2 ags'.length c2) 7 axs → RS M7 (RAg M7) 7 ags' (.slice a2 ags'.length c2) := fun he hsl => ⟨by omega, axs, hsl, RL_mono (fun x cs h => RAg_ext he x cs h) hxs⟩
            have hpm : ∀ {A B C : Nat × List Value}, [A, B, C].Perm [C, A, B] := fun {A B C} => List.perm_append_comm (l₁ := [A, B]) (l₂ := [C])
            have hal : acc.length ≤ 140737488355328 := by omega
            cases hH : s.hasH with
            | false =>
              simp +contextual only [go_sem, Rcb, Rbk, sevalprocAttr, hlv3, z, hH, k6, h139, hap13, hap6, hap9, hc, kv1, kv2, kv2m]
              intro bk hbk hapk bl hbl hapl
              refine hS' _ _ _ ⟨rfl, ?_, fun h => (by rw [hS] at h; cases h), T13, M6, _, _, .mk 3 0 zeroE acc [] [.mk 12 0 zeroE keysE ags' [p2]], rfl, (hT9.trans hT85).trans hT13, hM4.trans h46, ?_, ?_⟩
              rotate_left
              · rw [hG, if_pos rfl]
                exact hqeq (by rw [hH]; rfl)
              · refine Close_acc hacc6 hal (by decide) ⟨hbl, hbk, k6.1, k6.2.1, k6.2.2.1, k6.2.2.2, trivial⟩ fun M7 hM7 hno7 hrs => Close_row fun M8 hM8 hno8 hsl => Close_perm (List.Perm.swap _ _ _) (Close_freeze fun he1 h1 _ => Close_freeze fun he2 h2 hno9 => Close_drop (Close_perm hpm (Close_drop (Close_id ⟨_, _, ((hM7.trans hM8).trans he1).trans he2, rfl, hno9.2.1, hno9.2.2.1, ?_⟩))))
                have hM9 := (((hM7.trans hM8).trans he1).trans he2)
                refine RPl_mk (zeroE_R _) (RS_ext ((hM8.trans he1).trans he2) (REx_ext hM9) hrs) RS_nil (RPl_one h2 ?_)
                refine RPl_mk (zeroE_R _) (RS_ext hM9 (REx_ext hM9) hkv6) (hfin hM9 (hsl.ext (he1.trans he2))) (RPl_one (he2 _ _ h1) (RPl_ext hM9 _ _ hp6))
              · simp only [live, hlv3, go_sem, Rcb, Rbk, sevalprocAttr]
            | true =>
              simp +contextual only [go_sem, Rcb, Rbk, sevalprocAttr, hlv3, z, hH, k6, h139, hap13, hap6, hap9, hc, kv1, kv2, kv2m]
              intro bk hbk hapk
              refine rCall_close (k := fun h' => ∃ M7 a2, Ext M6 M7 ∧ (M7 b13 = none ∧ M7 b6 = none ∧ M7 b4 = none ∧ M7 b9 = none) ∧ RS M7 (REx M7) 6 acc (.slice fa acc.length fc) ∧ RPl M7 (.mk 12 0 zeroE keysE ags' [p2]) [.int .i64 12, .int .i64 0, .int .i64 0, .int .i64 0, .int .i64 0, st [], .int .i64 0, .slice none 0 0, kv, .slice aa ags'.length an, .slice (some ⟨bk, 0, none⟩) 1 1] ∧
                h' = ⟨T13, M7, [(b13, [x0, x1, x2, x3, x4, x5]), (b6, [.int .i64 12, .int .i64 0, .int .i64 0, .int .i64 0, .int .i64 0, st [], .int .i64 0, .slice none 0 0, kv, .slice aa ags'.length an, .slice (some ⟨bk, 0, none⟩) 1 1]), (b4, z11), (b9, [a2])], []⟩)
                (Close_acc hacc6 hal (by decide) ⟨hbk, k6.1, k6.2.1, k6.2.2.1, k6.2.2.2, trivial⟩ fun M7 hM7 hno7 hrs => Close_row fun M8 hM8 hno8 hsl => Close_freeze fun he1 h1 hno9 => Close_id ⟨_, _, (hM7.trans hM8).trans he1, ⟨hno9.1, hno9.2.1, hno9.2.2.1, hno9.2.2.2.1⟩, RS_ext (hM8.trans he1) (REx_ext ((hM7.trans hM8).trans he1)) hrs,
                  RPl_mk (zeroE_R _) (RS_ext ((hM7.trans hM8).trans he1) (REx_ext ((hM7.trans hM8).trans he1)) hkv6) (hfin ((hM7.trans hM8).trans he1) (hsl.ext he1)) (RPl_one h1 (RPl_ext ((hM7.trans hM8).trans he1) _ _ hp6)), rfl⟩) ?_ bod62
              rintro h' ⟨M7, a2, hM7, k7, hrs7, hpl7, rfl⟩
              refine rCall_pure (ct_filter (REx_ext hM7 _ _ hxe) hpl7 T13) ?_ (fun _ _ _ _ h => h.elim)
              rintro r M8 hM8 hno8 ⟨fs, rfl, hfe⟩
              obtain ⟨f0, f1, f2, f3, f4, f5, f6, f7, f8, f9, f10, rfl, hff⟩ := RPl_cells hfe
              simp only [List.cons_append, List.nil_append, noneL, noneL_wL] at hno8
              simp +contextual only [go_sem, Rcb, Rbk, sevalprocAttr, hlv3, hno8, h139, hap13, hap6, hap9, hff]
              intro bl hbl hapl
              refine hS' _ _ _ ⟨rfl, ?_, fun h => (by rw [hS] at h; cases h), T13, M8, _, _, .mk 3 0 zeroE acc [] [filterP x (.mk 12 0 zeroE keysE ags' [p2])], rfl, (hT9.trans hT85).trans hT13, ((hM4.trans h46).trans hM7).trans hM8, ?_, ?_⟩
              rotate_left
              · rw [hG, if_pos rfl]
                exact hqeq (by rw [hH]; rfl)
              · refine Close_freeze fun he2 h2 hno9 => Close_drop (Close_perm hpm (Close_drop (Close_id ⟨_, _, he2, rfl, hno9.2.1, hno9.2.2.1, ?_⟩)))
                exact RPl_mk (zeroE_R _) (RS_ext (hM8.trans he2) (REx_ext (hM8.trans he2)) hrs7) RS_nil (RPl_one h2 (RPl_ext he2 _ _ hfe))
              · simp only [live, hlv3, go_sem, Rcb, Rbk, sevalprocAttr]
  · rintro e ds h ⟨rfl, hlv, e7, N4, M4, L4, R4, q, rfl, hN4, hM4, hq, hcl⟩
    simp only [live] at hlv
    replace z := At21 ((hat.ext h13).ext hM4)
    have hsel2 : selB2 s p2 names = .ok (if s.distinct = true then plan1 11 q else q, if s.star = true then names.map (·.2) else calledL 0 s.items) := by unfold selB2; rw [hq]
    obtain ⟨hnb, la, lc, rfl, _, _, hlg⟩ := RS_elim (by decide) (fun _ _ => RCl_len) (RS_ext hM4 (fun _ _ h => h) hs2)
    have hs1' := hM4 _ _ hs1
    have hMM := h13.trans hM4
    simp +contextual only [go_sem, sevalprocAttr, hlv, z]
    refine cond_cut (fun e ds h => ds = [] ∧ live e [(1, .pointer (some ⟨b, o, none⟩)), (4, .pointer (some ⟨b4, 0, none⟩)), (6, .pointer (some ⟨b6, 0, none⟩))] ∧ ∃ N' M' R' nv nm qs, e 16 = nv ∧ ExtT T6 N' ∧ Ext M4 M' ∧ Acc 9 1 RSt [] R' nv nm ∧ nm = (if s.star = true then names.map (·.2) else calledL 0 s.items) ∧ nm.length ≤ 140737488355328 ∧ RPl M' q qs ∧ M' b6 = none ∧ M' b4 = none ∧ h = ⟨N', M', [(b6, qs), (b4, z11)], R'⟩) (fun S' hS' => ?_) ?_
    · cases hS : s.star with
      | true =>
        have e7 := e7 hS
        simp +contextual only [go_sem, Rcb, Rbk, sevalprocAttr, hlv, z, e7, mcell_some hs1']
        refine loop_rangeC names.length 173 [(1, .pointer (some ⟨b, o, none⟩)), (4, .pointer (some ⟨b4, 0, none⟩)), (6, .pointer (some ⟨b6, 0, none⟩)), (171, .slice la names.length lc), (172, .int .i64 (names.length : Int))]
          (fun i e h => ∃ N' M' R' nv nm qs, e 16 = nv ∧ ExtT T6 N' ∧ Ext M4 M' ∧ Acc 9 1 RSt [] R' nv nm ∧ nm = (names.take i).map (·.2) ∧ RPl M' q qs ∧ M' b6 = none ∧ M' b4 = none ∧ h = ⟨N', M', [(b6, qs), (b4, z11)], R'⟩)
          0 (by omega) (by simp only [live, hlv, go_sem, Rcb, Rbk, sevalprocAttr]) (by simp only [go_sem, Rcb, Rbk, sevalprocAttr]) ?_ ?_
        · refine Close_trans hcl ?_
          rintro h' ⟨M5, qs, he, rfl, k6, k4, hq5⟩
          exact Close_id ⟨N4, M5, [], _, [], qs, (by simp only [go_sem, Rcb, Rbk, sevalprocAttr]), hN4, he, Acc_nil, rfl, hq5, k6, k4, rfl⟩
        rintro i e h hi' hlv2 ht ⟨N5, M5, R5, nv, nm, qs, e16, hN5, hM5, hacc, hnm, hq5, k6, k4, rfl⟩
        simp only [live] at hlv2
        by_cases hlt : i < names.length
        · obtain ⟨b', o', cs', rfl, hatI, hrx⟩ := hlg i names[i] (List.getElem?_eq_getElem hlt)
          unfold RCl at hrx; subst hrx
          obtain ⟨x0, x1⟩ := At2 (hatI.ext hM5)
          have hnl : nm.length = i := by rw [hnm]; simp; omega
          simp +contextual only [go_sem, Rcb, Rbk, sevalprocAttr, hlv2, ht, hlt, x0, x1]
          intro b18 T18 hb18 hap18 hT18 hTb18
          simp +contextual only [go_sem, Rcb, Rbk, sevalprocAttr, hlv2, ht, hlt, x0, x1, hb18, e16]
          intro b19 hb19 hap19
          refine app_acc (Tryz.underlying93) row93 okt93 (x := names[i].2) hacc rfl (fun _ _ => RSt_len) (by intro u hu; simp only [List.mem_singleton] at hu; subst hu; rfl) hb19 (by omega) (by decide) ?_
          intro fv' R' hacc'
          simp +contextual only [go_sem, Rcb, Rbk, sevalprocAttr, hlv2, ht, hlt]
          refine lp_close (Close_drop (Close_drop (Close_id ⟨names.length - (i + 1), by omega, rfl, i + 1, by omega, rfl, ?_, ?_, T18, M5, R', fv', _, qs, ?_, hN5.trans hT18, hM5, hacc', ?_, hq5, k6, k4, rfl⟩)))
          · simp only [live, hlv2, go_sem, Rcb, Rbk, sevalprocAttr]
          · simp only [ht, go_sem, Rcb, Rbk, sevalprocAttr, wrap_succ i (by omega)]
          · simp only [go_sem, Rcb, Rbk, sevalprocAttr]
          · rw [hnm, List.take_succ_eq_append_getElem hlt, List.map_append]; rfl
        · have : i = names.length := by omega
          subst this
          simp +contextual only [go_sem, Rcb, Rbk, sevalprocAttr, hlv2, ht, hlt]
          refine hS' _ _ _ ⟨rfl, ?_, N5, M5, R5, nv, nm, qs, ?_, hN5, hM5, hacc, ?_, ?_, hq5, k6, k4, rfl⟩
          · simp only [live, hlv2, go_sem, Rcb, Rbk, sevalprocAttr]
          · simp only [e16, go_sem, Rcb, Rbk, sevalprocAttr]
          · rw [hS, if_pos rfl, hnm, List.take_length]
          · rw [hnm, List.take_length, List.length_map]; exact hnb
      | false =>
        obtain ⟨hit40, _⟩ := hok.its hS
        obtain ⟨hib, _, hig⟩ : s.items.length ≤ 140737488355328 ∧ s.items.length ≤ aj ∧ ∀ (i : Nat) (x : It), s.items[i]? = some x → ∃ b o cs, ai = some ⟨b, o, none⟩ ∧ At M4 b (o + i * 8) cs ∧ RIt M4 x cs := by
          obtain ⟨h1, a', c', h2, h3, _, h4⟩ := RS_elim (by decide) (fun _ _ => RIt_len) (RS_ext hMM (RIt_ext hMM) hi)
          injection h2 with h5 h6 h7
          subst h5 h7
          exact ⟨h1, h3, h4⟩
        simp +contextual only [go_sem, Rcb, Rbk, sevalprocAttr, hlv, z, hS]
        refine loop_rangeC s.items.length 188 [(1, .pointer (some ⟨b, o, none⟩)), (4, .pointer (some ⟨b4, 0, none⟩)), (6, .pointer (some ⟨b6, 0, none⟩)), (186, .slice ai s.items.length aj), (187, .int .i64 (s.items.length : Int))]
          (fun i e h => ∃ N' M' R' nv nm qs, e 16 = nv ∧ ExtT T6 N' ∧ Ext M4 M' ∧ Acc 9 1 RSt [] R' nv nm ∧ nm.length = i ∧ nm ++ calledL i (s.items.drop i) = calledL 0 s.items ∧ RPl M' q qs ∧ M' b6 = none ∧ M' b4 = none ∧ h = ⟨N', M', [(b6, qs), (b4, z11)], R'⟩)
          0 (by omega) (by simp only [live, hlv, go_sem, Rcb, Rbk, sevalprocAttr]) (by simp only [go_sem, Rcb, Rbk, sevalprocAttr]) ?_ ?_
        · refine Close_trans hcl ?_
          rintro h' ⟨M5, qs, he, rfl, k6, k4, hq5⟩
          exact Close_id ⟨N4, M5, [], _, [], qs, (by simp only [go_sem, Rcb, Rbk, sevalprocAttr]), hN4, he, Acc_nil, rfl, rfl, hq5, k6, k4, rfl⟩
        rintro i e h hi' hlv2 ht ⟨N5, M5, R5, nv, nm, qs, e16, hN5, hM5, hacc, hnl, hnm, hq5, k6, k4, rfl⟩
        simp only [live] at hlv2
        by_cases hlt : i < s.items.length
        · obtain ⟨b', o', cs', rfl, hatI, hrx⟩ := hig i s.items[i] (List.getElem?_eq_getElem hlt)
          obtain ⟨aw', rfl, hxx, h1'⟩ := RIt_form hrx
          obtain ⟨x0, x1, x2, x3, x4, x5, x6, x7⟩ := At8 (hatI.ext hM5)
          have hdrop : s.items.drop i = s.items[i] :: s.items.drop (i + 1) := List.drop_eq_getElem_cons hlt
          rw [hdrop, calledL] at hnm
          simp +contextual only [go_sem, Rcb, Rbk, sevalprocAttr, hlv2, ht, hlt, x0, x1, x2, x3, x4, x5, x6, x7, h1']
          intro b20 T20 hb20 hap20 hT20 hTb20
          refine rCall_pure (ct_bcalled (RIt_ext hM5 _ _ hrx) i (by omega) T20) ?_ (fun _ _ _ _ h => h.elim)
          rintro r M6 hM6 hno6 rfl
          simp only [List.cons_append, List.nil_append, noneL, noneL_wL] at hno6
          simp +contextual only [go_sem, Rcb, Rbk, sevalprocAttr, hlv2, ht, hlt, e16]
          intro b19 hb19 hap19
          refine app_acc (Tryz.underlying93) row93 okt93 (x := calledM s.items[i] i) hacc rfl (fun _ _ => RSt_len) (by intro u hu; simp only [List.mem_singleton] at hu; subst hu; rfl) hb19 (by omega) (by decide) ?_
          intro fv' R' hacc'
          simp +contextual only [go_sem, Rcb, Rbk, sevalprocAttr, hlv2, ht, hlt]
          refine lp_close (Close_drop (Close_drop (Close_id ⟨s.items.length - (i + 1), by omega, rfl, i + 1, by omega, rfl, ?_, ?_, T20, M6, R', fv', _, qs, ?_, hN5.trans hT20, hM5.trans hM6, hacc', ?_, ?_, RPl_ext hM6 _ _ hq5, hno6.2.1, hno6.2.2.1, rfl⟩)))
          · simp only [live, hlv2, go_sem, Rcb, Rbk, sevalprocAttr]
          · simp only [ht, go_sem, Rcb, Rbk, sevalprocAttr, wrap_succ i (by omega)]
          · simp only [go_sem, Rcb, Rbk, sevalprocAttr]
          · rw [List.length_append, hnl]; rfl
          · rw [List.append_assoc]; exact hnm
        · have : i = s.items.length := by omega
          subst this
          rw [List.drop_length] at hnm
          simp only [calledL, List.append_nil] at hnm
          simp +contextual only [go_sem, Rcb, Rbk, sevalprocAttr, hlv2, ht, hlt]
          refine hS' _ _ _ ⟨rfl, ?_, N5, M5, R5, nv, nm, qs, ?_, hN5, hM5, hacc, ?_, by omega, hq5, k6, k4, rfl⟩
          · simp only [live, hlv2, go_sem, Rcb, Rbk, sevalprocAttr]
          · simp only [e16, go_sem, Rcb, Rbk, sevalprocAttr]
          · rw [hS, if_neg (by decide), hnm]
    · rintro e ds h ⟨rfl, hlv3, N5, M5, R5, nv, nm, qs, e16, hN5, hM5, hacc, hnm, hnl, hq5, k6, k4, rfl⟩
      simp only [live] at hlv3
      have z0 := mcell_ext hM5 z.1
      obtain ⟨d0, d1, d2, d3, d4, d5, d6, d7, d8, d9, d10, rfl, hd⟩ := RPl_cells hq5
      have hTf := hT46.trans hN5
      cases hD : s.distinct with
      | false =>
        simp +contextual only [go_sem, Rcb, Rbk, sevalprocAttr, hlv3, z0, hD, hd, k6, k4, hap6, e16]
        refine Close_acc hacc hnl (by decide) ⟨k6, k4, trivial⟩ fun M6 hM6 hno6 hrs => end_none hTf ⟨_, hsel2, _, _, rfl, ?_, ?_⟩
        · rw [hD]; exact RPl_ext hM6 _ _ hq5
        · simp only; rw [← hnm]; exact hrs
      | true =>
        simp +contextual only [go_sem, Rcb, Rbk, sevalprocAttr, hlv3, z0, hD, hd, k6, k4, hap6, e16]
        intro bl hbl hapl
        refine Close_acc hacc hnl (by decide) ⟨hbl, k6, k4, trivial⟩ fun M6 hM6 hno6 hrs => Close_freeze fun he h1 hno7 => end_none hTf ⟨_, hsel2, _, _, rfl, ?_, ?_⟩
        · rw [hD]; exact RPl_mk (zeroE_R _) RS_nil RS_nil (RPl_one h1 (RPl_ext (hM6.trans he) _ _ hq5))
        · simp only; rw [← hnm]; exact RS_ext he (fun _ _ h => h) hrs
def tupE (res : Except Int Int) (v : Value) : Prop := match res with
  | .ok t => v = .tuple ⟨[.int .i64 t, .int .i64 0]⟩
  | .error e => e ≠ 0 ∧ ∃ t, v = .tuple ⟨[.int .i64 t, .int .i64 e]⟩
theorem ct_ekids (k : Int) {M : Mem} (T : Tm) : CtT Tryz.prog 226 [.int .i64 k] T M [] [] (fun r _ _ _ => r = .int .i64 (kidsE k)) noPan := by
  refine ct_run mx bod226 Tryz.func226 rfl (by rw [nt226]; exact Nat.le_of_ble_eq_true rfl) (dr := dr226) (by kernel_rfl) rs226 ?_
  intro _ _
  simp +contextual only [go_sem, Rcb, Rbk, sevalprocAttr]
  (repeat' split) <;> (refine end_none ExtT.rfl' ?_; refine int_eq ?_; simp only [kidsE]; grind)
theorem ct_one2 (a b : Int) {M : Mem} (T : Tm) : CtT Tryz.prog 272 [.int .i64 a, .int .i64 b] T M [] [] (fun r _ _ _ => r = .tuple ⟨[.int .i64 ((oneT a b).getD 0), .bool (oneT a b).isSome]⟩) noPan := by
  refine ct_run mx bod272 Tryz.func272 rfl (by rw [nt272]; exact Nat.le_of_ble_eq_true rfl) (dr := dr272) (by kernel_rfl) rs272 ?_
  intro _ _
  simp +contextual only [go_sem, Rcb, Rbk, sevalprocAttr]
  by_cases h1 : a = b
  · have : oneT a b = some a := by unfold oneT; rw [if_pos (.inl h1)]
    rw [this]
    simp +contextual only [go_sem, Rcb, Rbk, sevalprocAttr, h1]
    exact end_none ExtT.rfl' rfl
  · by_cases h2 : b = 1
    · have : oneT a b = some a := by unfold oneT; rw [if_pos (.inr h2)]
      rw [this]
      simp +contextual only [go_sem, Rcb, Rbk, sevalprocAttr, h1, h2]
      exact end_none ExtT.rfl' rfl
    · by_cases h3 : a = 1
      · have : oneT a b = some b := by unfold oneT; rw [if_neg (fun h => h.elim h1 h2), if_pos h3]
        subst h3
        simp +contextual only [go_sem, Rcb, Rbk, sevalprocAttr, h1, h2]
        exact end_none ExtT.rfl' (by rw [this]; rfl)
      · have : oneT a b = none := by unfold oneT; rw [if_neg (fun h => h.elim h1 h2), if_neg h3]
        rw [this]
        simp +contextual only [go_sem, Rcb, Rbk, sevalprocAttr, h1, h2, h3]
        exact end_none ExtT.rfl' rfl
theorem ct_allT {M : Mem} {l : List Int} {lv : Value} (want : Int) (hs : RS M RI 1 l lv) (T : Tm) : CtT Tryz.prog 271 [lv, .int .i64 want] T M [] [] (fun r _ _ _ => r = .bool (l.all (fitT · want))) noPan := by
  obtain ⟨hbk, a, c, rfl, hle, _, hg⟩ := RS_elim (by decide) (fun _ _ => RI_len) hs
  refine ct_run mx bod271 Tryz.func271 rfl (by rw [nt271]; exact Nat.le_of_ble_eq_true rfl) (dr := dr271) (by kernel_rfl) rs271 ?_
  intro hno _
  simp +contextual only [go_sem, Rcb, Rbk, sevalprocAttr]
  refine loop_range l.length 11 [(1, .int .i64 want), (9, .slice a l.length c), (10, .int .i64 (l.length : Int))] (fun i e h => ∃ M', Ext M M' ∧ h = ⟨T, M', [], []⟩ ∧ (l.drop i).all (fitT · want) = l.all (fitT · want)) 0 (by omega) (by simp only [live, go_sem, Rcb, Rbk, sevalprocAttr]) (by simp only [go_sem, Rcb, Rbk, sevalprocAttr]) ⟨M, Ext.rfl', rfl, rfl⟩ ?_
  rintro i e h hi hlv ht ⟨M1, hM1, rfl, hres⟩
  simp only [live] at hlv
  by_cases hlt : i < l.length
  · obtain ⟨b', o', cs', rfl, hat, hrx⟩ := hg i l[i] (List.getElem?_eq_getElem hlt)
    unfold RI at hrx; subst hrx
    have x0 := At1 (hat.ext hM1)
    rw [Nat.mul_one] at x0
    have hdrop : l.drop i = l[i] :: l.drop (i + 1) := List.drop_eq_getElem_cons hlt
    rw [hdrop, List.all_cons] at hres
    simp +contextual only [go_sem, Rcb, Rbk, sevalprocAttr, hlv, ht, hlt, x0]
    refine rCall_pure (ct_one2 l[i] want T) ?_ (fun _ _ _ _ h => h.elim)
    rintro r M2 hM2 _ rfl
    cases hb : fitT l[i] want with
    | true =>
      rw [hb, Bool.true_and] at hres
      have hb' : (oneT l[i] want).isSome = true := hb
      simp +contextual only [go_sem, Rcb, Rbk, sevalprocAttr, hlv, ht, hlt, hb']
      refine lp_range hlt ?_ ?_ ⟨M2, hM1.trans hM2, rfl, hres⟩
      · simp only [live, hlv, go_sem, Rcb, Rbk, sevalprocAttr]
      · simp only [ht, go_sem, Rcb, Rbk, sevalprocAttr, wrap_succ i (by omega)]
    | false =>
      rw [hb, Bool.false_and] at hres
      have hb' : (oneT l[i] want).isSome = false := hb
      simp +contextual only [go_sem, Rcb, Rbk, sevalprocAttr, hlv, ht, hlt, hb']
      exact end_none ExtT.rfl' (by rw [← hres])
  · have : i = l.length := by omega
    subst this
    rw [List.drop_length] at hres
    simp +contextual only [go_sem, Rcb, Rbk, sevalprocAttr, hlv, ht, hlt]
    exact end_none ExtT.rfl' (by rw [← hres]; rfl)
set_option maxHeartbeats 1000000 in
theorem ct_kindT {M : Mem} {k : Int} {l : List Int} {lv : Value} (hs : RS M RI 1 l lv) (hl : (l.length : Int) = kidsE k) (hk : k ≠ 1 ∧ k ≠ 2 ∧ k ≠ 16) (h0 : ¬ kidsE k < 0) (T : Tm) : CtT Tryz.prog 227 [.int .i64 k, lv] T M [] [] (fun r _ _ _ => tupE (kindT' k l) r) noPan := by
  obtain ⟨hbk, a, c, rfl, hle, hac, hg⟩ := RS_elim (by decide) (fun _ _ => RI_len) hs
  have hget : 0 < l.length → ∃ b o, a = some ⟨b, o, none⟩ ∧ ∀ (i : Nat), i < l.length → mcell M ⟨b, o + i, none⟩ = some (.int .i64 (l.getD i 0)) := by
    intro h0
    obtain ⟨b', o', cs', h1, _⟩ := hg 0 l[0] (List.getElem?_eq_getElem h0)
    refine ⟨b', o', h1, fun i hi => ?_⟩
    obtain ⟨b2, o2, cs', h2, hat, hrx⟩ := hg i l[i] (List.getElem?_eq_getElem hi)
    rw [h1] at h2
    simp only [Option.some.injEq, Addr.mk.injEq, and_true] at h2
    obtain ⟨rfl, rfl⟩ := h2
    unfold RI at hrx; subst hrx
    have x0 := At1 hat
    rw [Nat.mul_one] at x0
    rw [x0]; simp [List.getD, hi]
  refine ct_run mx bod227 Tryz.func227 rfl (by rw [nt227]; exact Nat.le_of_ble_eq_true rfl) (dr := dr227) (by kernel_rfl) rs227 ?_
  intro hno _
  have e3 : k = 3 ∨ (4 ≤ k ∧ k ≤ 5) ∨ (6 ≤ k ∧ k ≤ 11) ∨ (12 ≤ k ∧ k ≤ 14) ∨ k = 15 ∨ k = 17 ∨ k = 18 := by
    unfold kidsE at h0
    repeat' split at h0
    all_goals omega
  unfold kindT'
  by_cases h5 : k ≤ 5
  · rw [if_pos h5]
    simp +contextual only [go_sem, Rcb, Rbk, sevalprocAttr, h5]
    refine rCall_pure (ct_allT 2 hs T) ?_ (fun _ _ _ _ h => h.elim)
    rintro r M2 hM2 _ rfl
    cases hb : l.all (fitT · 2) with
    | true => simp +contextual only [go_sem, Rcb, Rbk, sevalprocAttr]; exact end_none ExtT.rfl' rfl
    | false => simp +contextual only [go_sem, Rcb, Rbk, sevalprocAttr]; exact end_none ExtT.rfl' ⟨by decide, _, rfl⟩
  rw [if_neg h5]
  by_cases h11 : k ≤ 11
  · rw [if_pos h11]
    have hk2 : kidsE k = 2 := by unfold kidsE; rw [if_neg (by omega), if_neg (by omega), if_pos (by omega)]
    obtain ⟨b0, o0, rfl, gg⟩ := hget (by omega)
    have g0 := gg 0 (by omega)
    have g1 := gg 1 (by omega)
    have hlI : (0 : Int) < (l.length : Int) ∧ (1 : Int) < (l.length : Int) := ⟨by omega, by omega⟩
    rw [Nat.add_zero] at g0
    simp +contextual only [go_sem, Rcb, Rbk, sevalprocAttr, h5, h11]
    refine draw_all ?_
    simp +contextual only [go_sem, Rcb, Rbk, sevalprocAttr, g0, g1, hlI]
    refine rCall_pure (ct_one2 _ _ T) ?_ (fun _ _ _ _ h => h.elim)
    rintro r M2 hM2 _ rfl
    cases hb : (oneT (l.getD 0 0) (l.getD 1 0)).isSome with
    | true => simp +contextual only [go_sem, Rcb, Rbk, sevalprocAttr]; exact end_none ExtT.rfl' rfl
    | false => simp +contextual only [go_sem, Rcb, Rbk, sevalprocAttr]; exact end_none ExtT.rfl' ⟨by decide, _, rfl⟩
  rw [if_neg h11]
  by_cases h14 : k ≤ 14
  · rw [if_pos h14]
    simp +contextual only [go_sem, Rcb, Rbk, sevalprocAttr, h5, h11, h14]
    refine rCall_pure (ct_allT 3 hs T) ?_ (fun _ _ _ _ h => h.elim)
    rintro r M2 hM2 _ rfl
    cases hb : l.all (fitT · 3) with
    | true => simp +contextual only [go_sem, Rcb, Rbk, sevalprocAttr]; exact end_none ExtT.rfl' rfl
    | false => simp +contextual only [go_sem, Rcb, Rbk, sevalprocAttr]; exact end_none ExtT.rfl' ⟨by decide, _, rfl⟩
  rw [if_neg h14]
  by_cases h15 : k = 15
  · rw [if_pos h15]
    subst h15
    simp +contextual only [go_sem, Rcb, Rbk, sevalprocAttr]
    refine rCall_pure (ct_allT 4 hs T) ?_ (fun _ _ _ _ h => h.elim)
    rintro r M2 hM2 _ rfl
    cases hb : l.all (fitT · 4) with
    | true => simp +contextual only [go_sem, Rcb, Rbk, sevalprocAttr]; exact end_none ExtT.rfl' rfl
    | false => simp +contextual only [go_sem, Rcb, Rbk, sevalprocAttr]; exact end_none ExtT.rfl' ⟨by decide, _, rfl⟩
  rw [if_neg h15]
  by_cases h17 : k = 17
  · rw [if_pos h17]
    subst h17
    have hk2 : kidsE 17 = 3 := by decide
    obtain ⟨b0, o0, rfl, gg⟩ := hget (by omega)
    have g0 := gg 0 (by omega)
    have g1 := gg 1 (by omega)
    have g2 := gg 2 (by omega)
    have hlI : (2 : Int) < (l.length : Int) ∧ (1 : Int) < (l.length : Int) := ⟨by omega, by omega⟩
    rw [Nat.add_zero] at g0
    have hcI : (1 : Int) ≤ (c : Int) := by omega
    simp +contextual only [go_sem, Rcb, Rbk, sevalprocAttr]
    refine draw_all ?_
    simp +contextual only [go_sem, Rcb, Rbk, sevalprocAttr, g1, g2, hlI]
    refine rCall_pure (ct_one2 _ _ T) ?_ (fun _ _ _ _ h => h.elim)
    rintro r M2 hM2 _ rfl
    cases hb : oneT (l.getD 1 0) (l.getD 2 0) with
    | none =>
      simp +contextual only [go_sem, Rcb, Rbk, sevalprocAttr, hcI]
      rw [if_neg (by decide)]
      exact end_none ExtT.rfl' ⟨by decide, _, rfl⟩
    | some o =>
      simp +contextual only [go_sem, Rcb, Rbk, sevalprocAttr, hcI]
      have h1 : RS M2 RI 1 [l.getD 0 0] (.slice (cutA (some ⟨b0, o0, none⟩) c 0 1) 1 c) := by
        refine ⟨by simp, [.int .i64 (l.getD 0 0)], .inr ⟨b0, o0, 1, c, ?_, by omega, rfl, ?_⟩, RL_one rfl⟩
        · have : ¬ c = 0 := by omega
          simp [cutA, this, Addr.add_lit]
        · exact ⟨by simpa using mcell_ext hM2 g0, trivial⟩
      refine rCall_pure (ct_allT 2 h1 T) ?_ (fun _ _ _ _ h => h.elim)
      rintro r M3 hM3 _ rfl
      have h2 : [l.getD 0 0].all (fitT · 2) = fitT (l.getD 0 0) 2 := by simp
      rw [h2]
      cases hf : fitT (l.getD 0 0) 2 with
      | true => simp +contextual only [go_sem, Rcb, Rbk, sevalprocAttr]; exact end_none ExtT.rfl' rfl
      | false => simp +contextual only [go_sem, Rcb, Rbk, sevalprocAttr]; exact end_none ExtT.rfl' ⟨by decide, _, rfl⟩
  rw [if_neg h17]
  have h18 : k = 18 := by omega
  subst h18
  have hk2 : kidsE 18 = 2 := by decide
  obtain ⟨b0, o0, rfl, gg⟩ := hget (by omega)
  have g0 := gg 0 (by omega)
  have g1 := gg 1 (by omega)
  have hlI : (0 : Int) < (l.length : Int) ∧ (1 : Int) < (l.length : Int) := ⟨by omega, by omega⟩
  rw [Nat.add_zero] at g0
  simp +contextual only [go_sem, Rcb, Rbk, sevalprocAttr]
  refine draw_all ?_
  simp +contextual only [go_sem, Rcb, Rbk, sevalprocAttr, g0, g1, hlI]
  refine rCall_pure (ct_one2 _ _ T) ?_ (fun _ _ _ _ h => h.elim)
  rintro r M2 hM2 _ rfl
  cases hb : oneT (l.getD 0 0) (l.getD 1 0) with
  | some o => simp +contextual only [go_sem, Rcb, Rbk, sevalprocAttr]; exact end_none ExtT.rfl' rfl
  | none => simp +contextual only [go_sem, Rcb, Rbk, sevalprocAttr]; exact end_none ExtT.rfl' ⟨by decide, _, rfl⟩
mutual
theorem typE_le (cols : List Int) (deep n : Nat) : ∀ x, n ≤ 200 → (typE cols deep n x).2 ≤ 201 ∧ (∀ t, (typE cols deep n x).1 = .ok t → (typE cols deep n x).2 ≤ 200)
  | .mk k v c kids, hn => by
    rw [typE]
    split
    · exact ⟨by simp only; omega, fun t h => by simp at h⟩
    · split
      · exact ⟨by simp only; omega, fun t h => by simp at h⟩
      · split
        · exact ⟨by simp only; omega, fun t h => by simp at h⟩
        · have := typL_le cols (deep + 1) (n + 1) kids (by omega)
          split
          · rename_i e m hm
            rw [hm] at this
            exact ⟨this.1, fun t h => by simp at h⟩
          · rename_i t m hm
            rw [hm] at this
            exact ⟨this.1, fun _ _ => this.2 t rfl⟩
theorem typL_le (cols : List Int) (deep n : Nat) : ∀ l, n ≤ 200 → (typL cols deep n l).2 ≤ 201 ∧ (∀ t, (typL cols deep n l).1 = .ok t → (typL cols deep n l).2 ≤ 200)
  | [], hn => by rw [typL]; exact ⟨by simp only; omega, fun _ _ => hn⟩
  | x :: l, hn => by
    rw [typL]
    have hx := typE_le cols deep n x hn
    split
    · rename_i e m hm
      rw [hm] at hx
      exact ⟨hx.1, fun t h => by simp at h⟩
    · rename_i t m hm
      rw [hm] at hx
      have hl := typL_le cols deep m l (hx.2 t rfl)
      split
      · rename_i e m' hm'
        rw [hm'] at hl
        exact ⟨hl.1, fun t h => by simp at h⟩
      · rename_i ts m' hm'
        rw [hm'] at hl
        exact ⟨hl.1, fun _ _ => hl.2 ts rfl⟩
end
theorem REx_at {M : Mem} {b o : Nat} {x : Ex} {cs : List Value} (h : REx M x cs) (ha : At M b o cs) : ∃ a c, RS M (REx M) 6 x.kids (.slice a x.kids.length c) ∧ mcell M ⟨b, o, none⟩ = some (.int .i64 x.k) ∧ mcell M ⟨b, o + 1, none⟩ = some (.int .i64 x.v.k) ∧ mcell M ⟨b, o + 2, none⟩ = some (.int .i64 x.v.n) ∧ mcell M ⟨b, o + 3, none⟩ = some (st x.v.t) ∧
    mcell M ⟨b, o + 4, none⟩ = some (.int .i64 x.c) ∧ mcell M ⟨b, o + 5, none⟩ = some (.slice a x.kids.length c) := by
  obtain ⟨s, rfl, _, hs⟩ := REx_form h
  obtain ⟨_, a, c, rfl, _⟩ := RS_elim (by decide) (fun _ _ => REx_len) hs
  exact ⟨a, c, hs, ha.1, ha.2.1, ha.2.2.1, ha.2.2.2.1, ha.2.2.2.2.1, ha.2.2.2.2.2.1⟩
def preT (acc : List Int) : Except Int (List Int) × Nat → Except Int (List Int) × Nat
  | (.ok l, m) => (.ok (acc ++ l), m)
  | (.error e, m) => (.error e, m)
theorem preT_nil (r) : preT [] r = r := by obtain ⟨r, m⟩ := r; cases r <;> rfl
theorem typL_ok {cols : List Int} {deep n m : Nat} {x : Ex} {l : List Ex} {t : Int} {acc : List Int} (h : typE cols deep n x = (.ok t, m)) : preT acc (typL cols deep n (x :: l)) = preT (acc ++ [t]) (typL cols deep m l) := by
  rw [typL, h]
  simp only
  rcases hl : typL cols deep m l with ⟨r, m'⟩
  cases r <;> simp [preT]
theorem typL_err {cols : List Int} {deep n m : Nat} {x : Ex} {l : List Ex} {e : Int} {acc : List Int} (h : typE cols deep n x = (.error e, m)) : preT acc (typL cols deep n (x :: l)) = (.error e, m) := by
  rw [typL, h]; rfl
theorem RI_oneC {t : Int} {cs} (h : RI t cs) : ∀ u ∈ cs, u.oneCell' = true := by
  rw [h]; intro u hu; simp only [List.mem_singleton] at hu; subst hu; rfl
def TyX (x : Ex) : Prop := ∀ (M : Mem) (T : Tm) (b o hb deep n : Nat) (cs : List Value) (cols : List Int) (cv : Value), At M b o cs → REx M x cs → RS M RI 1 cols cv → n ≤ 200 → deep ≤ 21 →
  CtT Tryz.prog 174 [.pointer (some ⟨hb, 0, none⟩), .pointer (some ⟨b, o, none⟩), .int .i64 (deep : Int)] T M [(hb, [cv, .int .i64 (n : Int)])] [] (fun r M' L' R' => tupE (typE cols deep n x).1 r ∧ L' = [(hb, [cv, .int .i64 ((typE cols deep n x).2 : Int)])] ∧ R' = []) noPan
theorem tyX : ∀ (sz : Nat) (x : Ex), SizeOf.sizeOf x ≤ sz → TyX x := by
  intro sz
  induction sz with
  | zero => intro x hx; cases x; simp at hx
  | succ sz ih =>
    intro x hsz M T b o hb deep n cs cols cv hat hx hcv hn hdeep
    obtain ⟨a, c, hs, m0, m1, m2, m3, m4, m5⟩ := REx_at hx hat
    obtain ⟨hbk, a', c', hsl, hle, hac, hg⟩ := RS_elim (by decide) (fun _ _ => REx_len) hs
    injection hsl with h1 h2 h3
    subst h1 h3
    cases x with | mk k v c0 kids =>
    simp only [Ex.k, Ex.v, Ex.c, Ex.kids] at m0 m1 m2 m3 m4 m5 hs hle hg hbk
    obtain ⟨S, hS⟩ : ∃ S, S = typE cols deep n (.mk k v c0 kids) := ⟨_, rfl⟩
    rw [← hS]
    rw [typE] at hS
    have hwn := wrap_succ n (by omega)
    have hwd := wrap_succ deep (by omega)
    refine ct_run mx bod174 Tryz.func174 rfl (by rw [nt174]; exact Nat.le_of_ble_eq_true rfl) (dr := dr174) (by kernel_rfl) rs174 ?_
    intro hno _
    simp only [noneL, and_true] at hno
    simp +contextual only [go_sem, Rcb, Rbk, sevalprocAttr, hno, hwn, m0]
    by_cases hmuch : 200 < n + 1 ∨ 20 < deep
    · rw [if_pos hmuch] at hS
      rw [if_pos (by omega)]
      exact end_id ExtT.rfl' rfl rfl ⟨by rw [hS]; exact ⟨by decide, _, rfl⟩, by rw [hS], rfl⟩
    rw [if_neg hmuch] at hS
    rw [if_neg (by omega)]
    refine rCall_pure (ct_ekids k T) ?_ (fun _ _ _ _ h => h.elim)
    rintro r M1 hM1 hno1 rfl
    simp only [noneL, and_true] at hno1
    replace m0 := mcell_ext hM1 m0
    replace m1 := mcell_ext hM1 m1
    replace m2 := mcell_ext hM1 m2
    replace m3 := mcell_ext hM1 m3
    replace m4 := mcell_ext hM1 m4
    replace m5 := mcell_ext hM1 m5
    by_cases hk0 : kidsE k < 0
    · rw [if_pos hk0] at hS
      simp +contextual only [go_sem, Rcb, Rbk, sevalprocAttr, hk0]
      exact end_id ExtT.rfl' rfl rfl ⟨by rw [hS]; exact ⟨by decide, _, rfl⟩, by rw [hS], rfl⟩
    rw [if_neg hk0] at hS
    by_cases hkl : (kids.length : Int) = kidsE k
    · rw [if_neg (fun h => h hkl)] at hS
      have hk3 : kids.length ≤ 3 := by
        have : kidsE k ≤ 3 := by unfold kidsE; repeat' split <;> omega
        omega
      simp +contextual only [go_sem, Rcb, Rbk, sevalprocAttr, hk0, hkl, m5]
      refine loop_range kids.length 50 [(0, .pointer (some ⟨hb, 0, none⟩)), (1, .pointer (some ⟨b, o, none⟩)), (2, .int .i64 (deep : Int)), (49, .int .i64 (kids.length : Int))]
        (fun i e h => ∃ (M' : Mem) (n' : Nat) (R : RR) (fv : Value) (acc : List Int), Ext M1 M' ∧ M' hb = none ∧ n' ≤ 200 ∧ h = ⟨T, M', [(hb, [cv, .int .i64 (n' : Int)])], R⟩ ∧ e 9 = fv ∧ acc.length = i ∧ Acc 3 1 RI [] R fv acc ∧ preT acc (typL cols (deep + 1) n' (kids.drop i)) = typL cols (deep + 1) (n + 1) kids)
        0 (by omega) (by simp only [live, hkl, go_sem, Rcb, Rbk, sevalprocAttr]) (by simp only [go_sem, Rcb, Rbk, sevalprocAttr]) ⟨M1, n + 1, [], _, [], Ext.rfl', hno1, by omega, rfl, by simp only [go_sem, Rcb, Rbk, sevalprocAttr], rfl, Acc_nil, preT_nil _⟩ ?_
      rintro i e h hi hlv ht ⟨M2, n', R2, fv, acc, hM2, n2, hn', rfl, e9, hacl, hacc, hres⟩
      simp only [live] at hlv
      have x5 := mcell_ext hM2 m5
      by_cases hlt : i < kids.length
      · obtain ⟨b', o', cs', rfl, hatk, hrx⟩ := hg i kids[i] (List.getElem?_eq_getElem hlt)
        have h12 := hM1.trans hM2
        have hdrop : kids.drop i = kids[i] :: kids.drop (i + 1) := List.drop_eq_getElem_cons hlt
        rw [hdrop] at hres
        have hsz2 : SizeOf.sizeOf kids[i] ≤ sz := by
          have h1 := List.sizeOf_lt_of_mem (List.getElem_mem hlt)
          simp only [Ex.mk.sizeOf_spec] at hsz
          omega
        have hle2 := typE_le cols (deep + 1) n' kids[i] hn'
        simp +contextual only [go_sem, Rcb, Rbk, sevalprocAttr, hlv, ht, hlt, x5, hwd]
        refine rCall_one [] (ih kids[i] hsz2 M2 T b' _ hb (deep + 1) n' cs' cols cv (hatk.ext h12) (REx_ext h12 _ _ hrx) (RS_ext h12 (fun _ _ h => h) hcv) hn' (by omega)) ?_ (fun _ _ _ _ _ _ h => h.elim)
        rintro r M3 L' hM3 hk3' hno3 ⟨hr, rfl, -⟩
        simp only [List.nil_append, noneL, and_true] at hno3
        rcases hty : typE cols (deep + 1) n' kids[i] with ⟨r1, m⟩
        rw [hty] at hr hle2
        cases r1 with
        | error er =>
          obtain ⟨hne, t, rfl⟩ := hr
          rw [typL_err hty] at hres
          rw [← hres] at hS
          simp +contextual only [go_sem, Rcb, Rbk, sevalprocAttr, hlv, ht, hlt, hne]
          refine Close_dropAllR (end_id ExtT.rfl' rfl rfl ⟨?_, ?_, rfl⟩)
          · rw [hS]; exact ⟨hne, _, rfl⟩
          · rw [hS]
        | ok t =>
          simp only [tupE] at hr
          subst hr
          rw [typL_ok hty] at hres
          simp +contextual only [go_sem, Rcb, Rbk, sevalprocAttr, hlv, ht, hlt, e9]
          intro b7 hb7 hap7
          refine app_acc (Tryz.underlying24) row24 okt24 (x := t) hacc rfl (fun _ _ => RI_len) (RI_oneC rfl) hb7 (by omega) (by decide) ?_
          intro fv' R' hacc'
          simp +contextual only [go_sem, Rcb, Rbk, sevalprocAttr, hlv, ht, hlt]
          refine lp_close (Close_drop (Close_id ⟨kids.length - (i + 1), by omega, rfl, i + 1, by omega, rfl, ?_, ?_, M3, m, R', fv', acc ++ [t], hM2.trans hM3, hno3, hle2.2 t rfl, rfl, ?_, ?_, hacc', hres⟩))
          · simp only [live, hlv, go_sem, Rcb, Rbk, sevalprocAttr]
          · simp only [ht, go_sem, Rcb, Rbk, sevalprocAttr, wrap_succ i (by omega)]
          · simp only [go_sem, Rcb, Rbk, sevalprocAttr]
          · rw [List.length_append, hacl]; rfl
      · have : i = kids.length := by omega
        subst this
        rw [List.drop_length, typL] at hres
        simp only [preT, List.append_nil] at hres
        rw [← hres] at hS
        simp only at hS
        have h12 := hM1.trans hM2
        replace m0 := mcell_ext hM2 m0
        replace m1 := mcell_ext hM2 m1
        replace m2 := mcell_ext hM2 m2
        replace m3 := mcell_ext hM2 m3
        replace m4 := mcell_ext hM2 m4
        by_cases h1 : k = 1
        · subst h1
          rw [if_pos rfl] at hS
          simp +contextual only [go_sem, Rcb, Rbk, sevalprocAttr, hlv, ht, hlt, m0]
          refine draw_all ?_
          simp +contextual only [go_sem, Rcb, Rbk, sevalprocAttr, hlv, m1, m2, m3]
          refine rCall_pure (ct_vals_Wrong v M2 T) ?_ (fun _ _ _ _ h => h.elim)
          rintro r M3 hM3 hno3 rfl
          simp +contextual only [go_sem, Rcb, Rbk, sevalprocAttr]
          simp only [noneL, and_true] at hno3
          refine ⟨Sub_ML hM3 ⟨hno3, trivial⟩, Close_dropAllR (end_id ExtT.rfl' rfl rfl ⟨?_, by rw [hS], rfl⟩)⟩
          rw [hS]
          by_cases hw : wrongV v = 0
          · rw [if_pos hw, hw]; rfl
          · rw [if_neg hw]; exact ⟨hw, _, rfl⟩
        rw [if_neg h1] at hS
        by_cases h2 : k = 2
        · subst h2
          rw [if_pos rfl] at hS
          obtain ⟨_, ca, cc, rfl, _, _, hcg⟩ := RS_elim (by decide) (fun _ _ => RI_len) (RS_ext h12 (fun _ _ h => h) hcv)
          simp +contextual only [go_sem, Rcb, Rbk, sevalprocAttr, hlv, ht, hlt, m0]
          refine draw_all ?_
          by_cases hlo : c0 < 0
          · simp +contextual only [go_sem, Rcb, Rbk, sevalprocAttr, hlv, m4, n2, hlo]
            refine Close_dropAllR (end_id ExtT.rfl' rfl rfl ⟨?_, by rw [hS], rfl⟩)
            rw [hS]; simp only; rw [if_neg (by omega)]; exact ⟨by decide, _, rfl⟩
          · by_cases hhi : (cols.length : Int) ≤ c0
            · simp +contextual only [go_sem, Rcb, Rbk, sevalprocAttr, hlv, m4, n2, hlo, hhi]
              refine Close_dropAllR (end_id ExtT.rfl' rfl rfl ⟨?_, by rw [hS], rfl⟩)
              rw [hS]; simp only; rw [if_neg (by omega)]; exact ⟨by decide, _, rfl⟩
            · obtain ⟨j, hj⟩ : ∃ j : Nat, c0 = (j : Int) := ⟨c0.toNat, by omega⟩
              subst hj
              have hjl : j < cols.length := by omega
              obtain ⟨b', o', cs', rfl, hatk, hrx⟩ := hcg j cols[j] (List.getElem?_eq_getElem hjl)
              unfold RI at hrx; subst hrx
              have x0 := At1 hatk
              rw [Nat.mul_one] at x0
              have hlo' : ¬ ((j : Int) < 0) := hlo
              simp +contextual only [go_sem, Rcb, Rbk, sevalprocAttr, hlv, m4, n2, hlo', hhi]
              refine draw_all ?_
              simp +contextual only [go_sem, Rcb, Rbk, sevalprocAttr, hlv, m4, n2, hjl, x0]
              refine Close_dropAllR (end_id ExtT.rfl' rfl rfl ⟨?_, by rw [hS], rfl⟩)
              rw [hS]; simp only; rw [if_pos (by omega)]
              have : cols.getD (j : Int).toNat 0 = cols[j] := by simp [List.getD, hjl]
              rw [this]; rfl
        rw [if_neg h2] at hS
        by_cases h16 : k = 16
        · subst h16
          rw [if_pos rfl] at hS
          simp +contextual only [go_sem, Rcb, Rbk, sevalprocAttr, hlv, ht, hlt, m0]
          exact Close_dropAllR (end_id ExtT.rfl' rfl rfl ⟨by rw [hS]; rfl, by rw [hS], rfl⟩)
        rw [if_neg h16] at hS
        simp +contextual only [go_sem, Rcb, Rbk, sevalprocAttr, hlv, ht, hlt, m0, h1, h2, h16, e9]
        refine rCall_close (k := fun h' => ∃ M3, Ext M2 M3 ∧ M3 hb = none ∧ RS M3 RI 1 acc fv ∧ h' = ⟨T, M3, [(hb, [cv, .int .i64 (n' : Int)])], []⟩) (Close_acc hacc (by omega) (by decide) ⟨n2, trivial⟩ fun M3 hM3 hno3 hrs => Close_id ⟨M3, hM3, hno3.1, hrs, rfl⟩) ?_ bod227
        rintro h' ⟨M3, hM3, n3, hrs, rfl⟩
        refine rCall_pure (ct_kindT hrs (by rw [hacl]; exact hkl) ⟨h1, h2, h16⟩ hk0 T) ?_ (fun _ _ _ _ h => h.elim)
        rintro r M4 hM4 hno4 hr
        have hS1 : S.1 = kindT' k acc := by rw [hS]
        have hS2 : S.2 = n' := by rw [hS]
        rw [← hS1] at hr
        cases hk : S.1 with
        | ok t =>
          rw [hk] at hr
          simp only [tupE] at hr
          subst hr
          simp +contextual only [go_sem, Rcb, Rbk, sevalprocAttr]
          exact end_id ExtT.rfl' rfl rfl ⟨rfl, by rw [hS2], rfl⟩
        | error er =>
          rw [hk] at hr
          obtain ⟨hne, t, rfl⟩ := hr
          simp +contextual only [go_sem, Rcb, Rbk, sevalprocAttr]
          exact end_id ExtT.rfl' rfl rfl ⟨⟨hne, _, rfl⟩, by rw [hS2], rfl⟩
    · rw [if_pos hkl] at hS
      simp +contextual only [go_sem, Rcb, Rbk, sevalprocAttr, hk0, hkl, m5]
      exact end_id ExtT.rfl' rfl rfl ⟨by rw [hS]; exact ⟨by decide, _, rfl⟩, by rw [hS], rfl⟩
theorem ct_Type {M : Mem} {cols : List Int} {cv : Value} {x : Ex} {cs : List Value} (hcv : RS M RI 1 cols cv) (hx : REx M x cs) (T : Tm) :
    CtT Tryz.prog 122 [cv, .agg ⟨cs⟩] T M [] [] (fun r _ _ _ => tupE (typeX cols x) r) noPan := by
  obtain ⟨hbk, a, c, rfl, hle, _, hg⟩ := RS_elim (by decide) (fun _ _ => RI_len) hcv
  obtain ⟨s0, rfl, hs0, hk0⟩ := REx_form hx
  unfold typeX
  refine ct_run mx bod122 Tryz.func122 rfl (by rw [nt122]; exact Nat.le_of_ble_eq_true rfl) (dr := dr122) (by kernel_rfl) rs122 ?_
  intro hno _
  by_cases h16 : 16 < cols.length
  · have h16' : (16 : Int) < (cols.length : Int) := by omega
    rw [if_pos h16]
    simp +contextual only [go_sem, Rcb, Rbk, sevalprocAttr, hs0, h16']
    intro b3 T3 hb3 hT3 hTb3
    exact end_none hT3 ⟨by decide, _, rfl⟩
  have h16' : ¬ (16 : Int) < (cols.length : Int) := by omega
  rw [if_neg h16]
  simp +contextual only [go_sem, Rcb, Rbk, sevalprocAttr, hs0, h16']
  intro b3 T3 hb3 hT3 hTb3
  refine loop_rangeC cols.length 15 [(0, .slice a cols.length c), (3, .pointer (some ⟨b3, 0, none⟩)), (13, .slice a cols.length c), (14, .int .i64 (cols.length : Int))] (fun i e h => ∃ M', Ext M M' ∧ M' b3 = some [.int .i64 x.k, .int .i64 x.v.k, .int .i64 x.v.n, st x.v.t, .int .i64 x.c, s0] ∧ h = ⟨T3, M', [], []⟩ ∧ (cols.drop i).all (fun t => decide (1 ≤ t ∧ t ≤ 4)) = cols.all (fun t => decide (1 ≤ t ∧ t ≤ 4))) 0 (by omega) (by simp only [live, go_sem, Rcb, Rbk, sevalprocAttr]) (by simp only [go_sem, Rcb, Rbk, sevalprocAttr]) (Close_freeze fun he h3 _ => Close_id ⟨_, he, h3, rfl, rfl⟩) ?_
  rintro i e h hi hlv ht ⟨M1, hM1, h3, rfl, hres⟩
  simp only [live] at hlv
  by_cases hlt : i < cols.length
  · obtain ⟨b', o', cs', rfl, hat, hrx⟩ := hg i cols[i] (List.getElem?_eq_getElem hlt)
    unfold RI at hrx; subst hrx
    have x0 := At1 (hat.ext hM1)
    rw [Nat.mul_one] at x0
    have hdrop : cols.drop i = cols[i] :: cols.drop (i + 1) := List.drop_eq_getElem_cons hlt
    rw [hdrop, List.all_cons] at hres
    by_cases hb : 1 ≤ cols[i] ∧ cols[i] ≤ 4
    · rw [decide_eq_true hb, Bool.true_and] at hres
      have hb1 : ¬ cols[i] < 1 := by omega
      have hb2 : ¬ 4 < cols[i] := by omega
      simp +contextual only [go_sem, Rcb, Rbk, sevalprocAttr, hlv, ht, hlt, x0, hb1, hb2]
      refine lp_range hlt ?_ ?_ ⟨M1, hM1, h3, rfl, hres⟩
      · simp only [live, hlv, go_sem, Rcb, Rbk, sevalprocAttr]
      · simp only [ht, go_sem, Rcb, Rbk, sevalprocAttr, wrap_succ i (by omega)]
    · rw [decide_eq_false hb, Bool.false_and] at hres
      rw [← hres, if_neg (by decide)]
      by_cases hb1 : cols[i] < 1
      · simp +contextual only [go_sem, Rcb, Rbk, sevalprocAttr, hlv, ht, hlt, x0, hb1]
        exact end_none hT3 ⟨by decide, _, rfl⟩
      · have hb2 : 4 < cols[i] := by omega
        simp +contextual only [go_sem, Rcb, Rbk, sevalprocAttr, hlv, ht, hlt, x0, hb1, hb2]
        exact end_none hT3 ⟨by decide, _, rfl⟩
  · have : i = cols.length := by omega
    subst this
    rw [List.drop_length] at hres
    rw [← hres, List.all_nil, if_pos rfl]
    simp +contextual only [go_sem, Rcb, Rbk, sevalprocAttr, hlv, ht, hlt]
    intro b9 T9 hb9 hT9 hTb9
    refine rCall_one [] (tyX _ x (Nat.le_refl _) M1 T9 b3 0 b9 1 0 _ cols _ (At_self h3) (REx_ext hM1 _ _ hx) (RS_ext hM1 (fun _ _ h => h) hcv) (by omega) (by omega)) ?_ (fun _ _ _ _ _ _ h => h.elim)
    rintro r M3 L' hM3 hk3' hno3 ⟨hr, rfl, -⟩
    have hTT := hT3.trans hT9
    cases hty : (typE cols 1 0 x).1 with
    | ok t =>
      rw [hty] at hr
      simp only [tupE] at hr
      subst hr
      simp +contextual only [go_sem, Rcb, Rbk, sevalprocAttr]
      exact end_none hTT rfl
    | error er =>
      rw [hty] at hr
      obtain ⟨hne, t, rfl⟩ := hr
      simp +contextual only [go_sem, Rcb, Rbk, sevalprocAttr, hne]
      exact end_none hTT ⟨hne, _, rfl⟩
def condW (cols : List Int) (x : Ex) : Int := match condT cols x with | .ok _ => 0 | .error e => e
theorem ct_cond {M : Mem} {cols : List Int} {cv : Value} {x : Ex} {cs : List Value} (hcv : RS M RI 1 cols cv) (hx : REx M x cs) (T : Tm) :
    CtT Tryz.prog 82 [cv, .agg ⟨cs⟩] T M [] [] (fun r _ _ _ => r = .int .i64 (condW cols x) ∧ ∀ e, condT cols x = .error e → e ≠ 0) noPan := by
  obtain ⟨s0, hc0, hs0, hk0⟩ := REx_form hx
  refine ct_run mx bod82 Tryz.func82 rfl (by rw [nt82]; exact Nat.le_of_ble_eq_true rfl) (dr := dr82) (by kernel_rfl) rs82 ?_
  intro hno _
  have hl := REx_len hx
  subst hc0
  simp +contextual only [go_sem, Rcb, Rbk, sevalprocAttr, hs0]
  intro b3 T3 hb3 hT3 hTb3
  refine rCall_pure (ct_Type hcv hx T3) ?_ (fun _ _ _ _ h => h.elim)
  rintro r M1 hM1 hno1 hr
  unfold condW condT
  cases hty : typeX cols x with
  | error er =>
    rw [hty] at hr
    obtain ⟨hne, t, rfl⟩ := hr
    simp +contextual only [go_sem, Rcb, Rbk, sevalprocAttr, hne]
    exact end_none hT3 ⟨rfl, fun e h => by injection h with h; rw [← h]; exact hne⟩
  | ok t =>
    rw [hty] at hr
    simp only [tupE] at hr
    subst hr
    by_cases h2 : t = 2
    · subst h2
      simp +contextual only [go_sem, Rcb, Rbk, sevalprocAttr]
      exact end_none hT3 ⟨rfl, fun e h => by cases h⟩
    · by_cases h1 : t = 1
      · subst h1
        simp +contextual only [go_sem, Rcb, Rbk, sevalprocAttr]
        exact end_none hT3 ⟨rfl, fun e h => by cases h⟩
      · simp +contextual only [go_sem, Rcb, Rbk, sevalprocAttr, h1, h2]
        exact end_none hT3 ⟨rfl, fun e h => by injection h with h; rw [← h]; decide⟩
def tupL (res : Except Int (List Int)) (v : Value) (M : Mem) : Prop := match res with
  | .ok l => ∃ sv, v = .tuple ⟨[sv, .int .i64 0]⟩ ∧ RS M RI 1 l sv
  | .error e => e ≠ 0 ∧ ∃ sv, v = .tuple ⟨[sv, .int .i64 e]⟩
def tupN (res : Except Int (List Int)) (v : Value) (M : Mem) : Prop := match res with
  | .ok l => ∃ sv, v = .tuple ⟨[sv, .int .i64 0]⟩ ∧ RS M RI 1 l sv
  | .error e => e ≠ 0 ∧ v = .tuple ⟨[.slice none 0 0, .int .i64 e]⟩
theorem tupN_L {res : Except Int (List Int)} {v : Value} {M : Mem} (h : tupN res v M) : tupL res v M := by
  cases res with
  | ok l => exact h
  | error e => exact ⟨h.1, _, h.2⟩
theorem typesE_ok {cols : List Int} {x : Ex} {l : List Ex} {t : Int} (h : typeX cols x = .ok t) : typesE cols (x :: l) = consE t (typesE cols l) := by
  rw [typesE, h]; cases typesE cols l <;> rfl
theorem typesE_err {cols : List Int} {x : Ex} {l : List Ex} {e : Int} (h : typeX cols x = .error e) : typesE cols (x :: l) = .error e := by rw [typesE, h]
theorem aggsT_ok {cols : List Int} {x : Ag} {l : List Ag} {t : Int} (h : aggT cols x = .ok t) : aggsT cols (x :: l) = consE t (aggsT cols l) := by
  rw [aggsT, h]; cases aggsT cols l <;> rfl
theorem aggsT_err {cols : List Int} {x : Ag} {l : List Ag} {e : Int} (h : aggT cols x = .error e) : aggsT cols (x :: l) = .error e := by rw [aggsT, h]
theorem At6 {M : Mem} {b o : Nat} {v0 v1 v2 v3 v4 v5 : Value} (h : At M b o [v0, v1, v2, v3, v4, v5]) : mcell M ⟨b, o, none⟩ = some v0 ∧ mcell M ⟨b, o + 1, none⟩ = some v1 ∧ mcell M ⟨b, o + 2, none⟩ = some v2 ∧ mcell M ⟨b, o + 3, none⟩ = some v3 ∧ mcell M ⟨b, o + 4, none⟩ = some v4 ∧ mcell M ⟨b, o + 5, none⟩ = some v5 :=
  ⟨h.1, h.2.1, h.2.2.1, h.2.2.2.1, h.2.2.2.2.1, h.2.2.2.2.2.1⟩
theorem ct_Types {M : Mem} {cols : List Int} {cv sv : Value} {xs : List Ex} (hcv : RS M RI 1 cols cv) (hs : RS M (REx M) 6 xs sv) (T : Tm) :
    CtT Tryz.prog 83 [cv, sv] T M [] [] (fun r M' _ _ => tupN (typesX cols xs) r M') noPan := by
  obtain ⟨hbk, a, c, rfl, hle, _, hg⟩ := RS_elim (by decide) (fun _ _ => REx_len) hs
  unfold typesX
  refine ct_run mx bod83 Tryz.func83 rfl (by rw [nt83]; exact Nat.le_of_ble_eq_true rfl) (dr := dr83) (by kernel_rfl) rs83 ?_
  intro hno _
  by_cases h8 : 8 < xs.length
  · have h8' : (8 : Int) < (xs.length : Int) := by omega
    rw [if_pos h8]
    simp +contextual only [go_sem, Rcb, Rbk, sevalprocAttr, h8']
    exact end_none ExtT.rfl' ⟨by decide, rfl⟩
  have h8' : ¬ (8 : Int) < (xs.length : Int) := by omega
  rw [if_neg h8]
  simp +contextual only [go_sem, Rcb, Rbk, sevalprocAttr, h8']
  refine loop_range xs.length 16 [(0, cv), (14, .slice a xs.length c), (15, .int .i64 (xs.length : Int))] (fun i e h => ∃ N' M' R fv acc, ExtT T N' ∧ Ext M M' ∧ h = ⟨N', M', [], R⟩ ∧ e 6 = fv ∧ acc.length = i ∧ Acc 3 1 RI [] R fv acc ∧ preE acc (typesE cols (xs.drop i)) = typesE cols xs) 0 (by omega) (by simp only [live, go_sem, Rcb, Rbk, sevalprocAttr]) (by simp only [go_sem, Rcb, Rbk, sevalprocAttr]) ⟨T, M, [], _, [], ExtT.rfl', Ext.rfl', rfl, by simp only [go_sem, Rcb, Rbk, sevalprocAttr], rfl, Acc_nil, preE_nil _⟩ ?_
  rintro i e h hi hlv ht ⟨N1, M1, R1, fv, acc, hN1, hM1, rfl, e6, hacl, hacc, hres⟩
  simp only [live] at hlv
  by_cases hlt : i < xs.length
  · obtain ⟨b', o', cs', rfl, hat, hrx⟩ := hg i xs[i] (List.getElem?_eq_getElem hlt)
    have hrx1 := REx_ext hM1 _ _ hrx
    obtain ⟨s0, rfl, hs0, hk0⟩ := REx_form hrx1
    obtain ⟨x0, x1, x2, x3, x4, x5⟩ := At6 (hat.ext hM1)
    have hdrop : xs.drop i = xs[i] :: xs.drop (i + 1) := List.drop_eq_getElem_cons hlt
    rw [hdrop] at hres
    simp +contextual only [go_sem, Rcb, Rbk, sevalprocAttr, hlv, ht, hlt, x0, x1, x2, x3, x4, x5, hs0]
    intro b8 T8 hb8 hT8 hTb8
    refine rCall_pure (ct_Type (RS_ext hM1 (fun _ _ h => h) hcv) hrx1 T8) ?_ (fun _ _ _ _ h => h.elim)
    rintro r M2 hM2 hno2 hr
    have hT := hN1.trans hT8
    cases hty : typeX cols xs[i] with
    | error er =>
      rw [hty] at hr
      obtain ⟨hne, t, rfl⟩ := hr
      rw [typesE_err hty] at hres
      rw [← hres]
      simp +contextual only [go_sem, Rcb, Rbk, sevalprocAttr, hne]
      exact end_none hT ⟨hne, rfl⟩
    | ok t =>
      rw [hty] at hr
      simp only [tupE] at hr
      subst hr
      rw [typesE_ok hty, ← preE_cons] at hres
      simp +contextual only [go_sem, Rcb, Rbk, sevalprocAttr, hlv, ht, hlt, e6]
      intro b7 hb7 hap7
      refine app_acc (Tryz.underlying24) row24 okt24 (x := t) hacc rfl (fun _ _ => RI_len) (RI_oneC rfl) hb7 (by omega) (by decide) ?_
      intro fv' R' hacc'
      simp +contextual only [go_sem, Rcb, Rbk, sevalprocAttr, hlv, ht, hlt]
      refine lp_close (Close_drop (Close_drop (Close_id ⟨xs.length - (i + 1), by omega, rfl, i + 1, by omega, rfl, ?_, ?_, T8, M2, R', fv', acc ++ [t], hT, hM1.trans hM2, rfl, ?_, ?_, hacc', hres⟩)))
      · simp only [live, hlv, go_sem, Rcb, Rbk, sevalprocAttr]
      · simp only [ht, go_sem, Rcb, Rbk, sevalprocAttr, wrap_succ i (by omega)]
      · simp only [go_sem, Rcb, Rbk, sevalprocAttr]
      · rw [List.length_append, hacl]; rfl
  · have : i = xs.length := by omega
    subst this
    rw [List.drop_length] at hres
    simp only [typesE, preE, List.append_nil] at hres
    rw [← hres]
    simp +contextual only [go_sem, Rcb, Rbk, sevalprocAttr, hlv, ht, hlt, e6]
    exact Close_acc hacc (by omega) (by decide) hno fun M2 hM2 hno2 hrs => end_none hN1 ⟨_, rfl, hrs⟩
theorem RAg_form {M : Mem} {a : Ag} {cs : List Value} (h : RAg M a cs) : ∃ s, cs = [.int .i64 a.k, .int .i64 a.x.k, .int .i64 a.x.v.k, .int .i64 a.x.v.n, st a.x.v.t, .int .i64 a.x.c, s] ∧ s.oneCell' = true ∧ REx M a.x [.int .i64 a.x.k, .int .i64 a.x.v.k, .int .i64 a.x.v.n, st a.x.v.t, .int .i64 a.x.c, s] := by
  obtain ⟨c, h1, rfl⟩ := h
  obtain ⟨s, rfl, h2, _⟩ := REx_form h1
  exact ⟨s, rfl, h2, h1⟩
theorem ct_AggTypes {M : Mem} {cols : List Int} {cv sv : Value} {l : List Ag} (hcv : RS M RI 1 cols cv) (hs : RS M (RAg M) 7 l sv) (hlen : l.length ≤ 1048576) (T : Tm) :
    CtT Tryz.prog 123 [cv, sv] T M [] [] (fun r M' _ _ => tupN (aggsT cols l) r M') noPan := by
  obtain ⟨hbk, a, c, rfl, hle, _, hg⟩ := RS_elim (by decide) (fun _ _ => RAg_len) hs
  refine ct_run mx bod123 Tryz.func123 rfl (by rw [nt123]; exact Nat.le_of_ble_eq_true rfl) (dr := dr123) (by kernel_rfl) rs123 ?_
  intro hno _
  simp +contextual only [go_sem, Rcb, Rbk, sevalprocAttr]
  refine loop_range l.length 14 [(0, cv), (12, .slice a l.length c), (13, .int .i64 (l.length : Int))] (fun i e h => ∃ N' M' R fv acc, ExtT T N' ∧ Ext M M' ∧ h = ⟨N', M', [], R⟩ ∧ e 6 = fv ∧ acc.length = i ∧ Acc 3 1 RI [] R fv acc ∧ preE acc (aggsT cols (l.drop i)) = aggsT cols l) 0 (by omega) (by simp only [live, go_sem, Rcb, Rbk, sevalprocAttr]) (by simp only [go_sem, Rcb, Rbk, sevalprocAttr]) ⟨T, M, [], _, [], ExtT.rfl', Ext.rfl', rfl, by simp only [go_sem, Rcb, Rbk, sevalprocAttr], rfl, Acc_nil, preE_nil _⟩ ?_
  rintro i e h hi hlv ht ⟨N1, M1, R1, fv, acc, hN1, hM1, rfl, e6, hacl, hacc, hres⟩
  simp only [live] at hlv
  by_cases hlt : i < l.length
  · obtain ⟨b', o', cs', rfl, hat, hrx⟩ := hg i l[i] (List.getElem?_eq_getElem hlt)
    obtain ⟨s0, rfl, hs0, hxe⟩ := RAg_form (RAg_ext hM1 _ _ hrx)
    obtain ⟨x0, x1, x2, x3, x4, x5, x6⟩ := At7 (hat.ext hM1)
    have hdrop : l.drop i = l[i] :: l.drop (i + 1) := List.drop_eq_getElem_cons hlt
    rw [hdrop] at hres
    have hstep : ∀ (t : Int), aggT cols l[i] = .ok t → preE (acc ++ [t]) (aggsT cols (l.drop (i + 1))) = aggsT cols l := fun t h => by rw [aggsT_ok h, ← preE_cons] at hres; exact hres
    have hstop : ∀ (er : Int), aggT cols l[i] = .error er → aggsT cols l = .error er := fun er h => by rw [aggsT_err h] at hres; exact hres.symm
    simp +contextual only [go_sem, Rcb, Rbk, sevalprocAttr, hlv, ht, hlt, e6, x0, x1, x2, x3, x4, x5, x6, hs0]
    intro b8 T8 hb8 hT8 hTb8
    have hT := hN1.trans hT8
    by_cases hk : l[i].k < 1 ∨ 5 < l[i].k
    · rw [if_pos hk]
      have := hstop 1 (by unfold aggT; rw [if_pos hk])
      rw [this]
      exact end_none hT ⟨by decide, rfl⟩
    rw [if_neg hk]
    by_cases hk1 : l[i].k = 1
    · rw [if_pos hk1]
      have hst := hstep 3 (by unfold aggT; rw [if_neg hk, if_pos hk1])
      intro b7 hb7 hap7
      refine app_acc (Tryz.underlying24) row24 okt24 (x := (3 : Int)) (cs := [.int .i64 3]) hacc rfl (fun _ _ => RI_len) (RI_oneC rfl) hb7 (by omega) (by decide) ?_
      intro fv' R' hacc'
      simp +contextual only [go_sem, Rcb, Rbk, sevalprocAttr, hlv, ht, hlt]
      refine lp_close (Close_drop (Close_drop (Close_id ⟨l.length - (i + 1), by omega, rfl, i + 1, by omega, rfl, ?_, ?_, T8, M1, R', fv', acc ++ [3], hT, hM1, rfl, ?_, ?_, hacc', hst⟩)))
      · simp only [live, hlv, go_sem, Rcb, Rbk, sevalprocAttr]
      · simp only [ht, go_sem, Rcb, Rbk, sevalprocAttr, wrap_succ i (by omega)]
      · simp only [go_sem, Rcb, Rbk, sevalprocAttr]
      · rw [List.length_append, hacl]; rfl
    rw [if_neg hk1]
    have hrx1 : REx M1 l[i].x [.int .i64 l[i].x.k, .int .i64 l[i].x.v.k, .int .i64 l[i].x.v.n, st l[i].x.v.t, .int .i64 l[i].x.c, s0] := hxe
    refine rCall_pure (ct_Type (RS_ext hM1 (fun _ _ h => h) hcv) hrx1 T8) ?_ (fun _ _ _ _ h => h.elim)
    rintro r M2 hM2 hno2 hr
    cases hty : typeX cols l[i].x with
    | error er =>
      rw [hty] at hr
      obtain ⟨hne, t, rfl⟩ := hr
      rw [hstop er (by unfold aggT; rw [if_neg hk, if_neg hk1, hty])]
      simp +contextual only [go_sem, Rcb, Rbk, sevalprocAttr, hne]
      exact end_none hT ⟨hne, rfl⟩
    | ok t =>
      rw [hty] at hr
      simp only [tupE] at hr
      subst hr
      simp only [List.cons_append, List.nil_append, noneL, noneL_wL] at hno2
      have hm0 : mcell M2 ⟨b8, 0, none⟩ = none := by first | exact hno2 | simp [mcell, hno2]
      by_cases g1 : l[i].k = 3
      · by_cases g2 : t = 3
        · have hst := hstep 3 (by unfold aggT; rw [if_neg hk, if_neg hk1, hty]; simp [g1, g2])
          simp +contextual only [go_sem, Rcb, Rbk, sevalprocAttr, hlv, ht, hlt, e6, hm0, g1, g2]
          intro b7 hb7 hap7
          refine app_acc (Tryz.underlying24) row24 okt24 (x := (3 : Int)) (cs := [.int .i64 3]) hacc rfl (fun _ _ => RI_len) (RI_oneC rfl) hb7 (by omega) (by decide) ?_
          intro fv' R' hacc'
          simp +contextual only [go_sem, Rcb, Rbk, sevalprocAttr, hlv, ht, hlt]
          refine lp_close (Close_drop (Close_drop (Close_id ⟨l.length - (i + 1), by omega, rfl, i + 1, by omega, rfl, ?_, ?_, T8, M2, R', fv', acc ++ [3], hT, hM1.trans hM2, rfl, ?_, ?_, hacc', hst⟩)))
          · simp only [live, hlv, go_sem, Rcb, Rbk, sevalprocAttr]
          · simp only [ht, go_sem, Rcb, Rbk, sevalprocAttr, wrap_succ i (by omega)]
          · simp only [go_sem, Rcb, Rbk, sevalprocAttr]
          · rw [List.length_append, hacl]; rfl
        · by_cases g3 : t = 1
          · have hst := hstep 3 (by unfold aggT; rw [if_neg hk, if_neg hk1, hty]; simp [g1, g3])
            simp +contextual only [go_sem, Rcb, Rbk, sevalprocAttr, hlv, ht, hlt, e6, hm0, g1, g3]
            intro b7 hb7 hap7
            refine app_acc (Tryz.underlying24) row24 okt24 (x := (3 : Int)) (cs := [.int .i64 3]) hacc rfl (fun _ _ => RI_len) (RI_oneC rfl) hb7 (by omega) (by decide) ?_
            intro fv' R' hacc'
            simp +contextual only [go_sem, Rcb, Rbk, sevalprocAttr, hlv, ht, hlt]
            refine lp_close (Close_drop (Close_drop (Close_id ⟨l.length - (i + 1), by omega, rfl, i + 1, by omega, rfl, ?_, ?_, T8, M2, R', fv', acc ++ [3], hT, hM1.trans hM2, rfl, ?_, ?_, hacc', hst⟩)))
            · simp only [live, hlv, go_sem, Rcb, Rbk, sevalprocAttr]
            · simp only [ht, go_sem, Rcb, Rbk, sevalprocAttr, wrap_succ i (by omega)]
            · simp only [go_sem, Rcb, Rbk, sevalprocAttr]
            · rw [List.length_append, hacl]; rfl
          · rw [hstop 9 (by unfold aggT; rw [if_neg hk, if_neg hk1, hty]; simp [g1, g2, g3])]
            simp +contextual only [go_sem, Rcb, Rbk, sevalprocAttr, hlv, ht, hlt, e6, hm0, g1, g2, g3]
            exact end_none hT ⟨by decide, rfl⟩
      · by_cases g4 : 4 ≤ l[i].k
        · have hst := hstep t (by unfold aggT; rw [if_neg hk, if_neg hk1, hty]; simp [g1, g4])
          simp +contextual only [go_sem, Rcb, Rbk, sevalprocAttr, hlv, ht, hlt, e6, hm0, g1, g4]
          intro b7 hb7 hap7
          refine app_acc (Tryz.underlying24) row24 okt24 (x := (t : Int)) (cs := [.int .i64 t]) hacc rfl (fun _ _ => RI_len) (RI_oneC rfl) hb7 (by omega) (by decide) ?_
          intro fv' R' hacc'
          simp +contextual only [go_sem, Rcb, Rbk, sevalprocAttr, hlv, ht, hlt]
          refine lp_close (Close_drop (Close_drop (Close_id ⟨l.length - (i + 1), by omega, rfl, i + 1, by omega, rfl, ?_, ?_, T8, M2, R', fv', acc ++ [t], hT, hM1.trans hM2, rfl, ?_, ?_, hacc', hst⟩)))
          · simp only [live, hlv, go_sem, Rcb, Rbk, sevalprocAttr]
          · simp only [ht, go_sem, Rcb, Rbk, sevalprocAttr, wrap_succ i (by omega)]
          · simp only [go_sem, Rcb, Rbk, sevalprocAttr]
          · rw [List.length_append, hacl]; rfl
        · have hst := hstep 3 (by unfold aggT; rw [if_neg hk, if_neg hk1, hty]; simp [g1, g4])
          simp +contextual only [go_sem, Rcb, Rbk, sevalprocAttr, hlv, ht, hlt, e6, hm0, g1, g4]
          intro b7 hb7 hap7
          refine app_acc (Tryz.underlying24) row24 okt24 (x := (3 : Int)) (cs := [.int .i64 3]) hacc rfl (fun _ _ => RI_len) (RI_oneC rfl) hb7 (by omega) (by decide) ?_
          intro fv' R' hacc'
          simp +contextual only [go_sem, Rcb, Rbk, sevalprocAttr, hlv, ht, hlt]
          refine lp_close (Close_drop (Close_drop (Close_id ⟨l.length - (i + 1), by omega, rfl, i + 1, by omega, rfl, ?_, ?_, T8, M2, R', fv', acc ++ [3], hT, hM1.trans hM2, rfl, ?_, ?_, hacc', hst⟩)))
          · simp only [live, hlv, go_sem, Rcb, Rbk, sevalprocAttr]
          · simp only [ht, go_sem, Rcb, Rbk, sevalprocAttr, wrap_succ i (by omega)]
          · simp only [go_sem, Rcb, Rbk, sevalprocAttr]
          · rw [List.length_append, hacl]; rfl
  · have : i = l.length := by omega
    subst this
    rw [List.drop_length] at hres
    simp only [aggsT, preE, List.append_nil] at hres
    rw [← hres]
    simp +contextual only [go_sem, Rcb, Rbk, sevalprocAttr, hlv, ht, hlt, e6]
    exact Close_acc hacc (by omega) (by decide) hno fun M2 hM2 hno2 hrs => end_none hN1 ⟨_, rfl, hrs⟩
theorem ct_pkids (k : Int) {M : Mem} (T : Tm) : CtT Tryz.prog 81 [.int .i64 k] T M [] [] (fun r _ _ _ => r = .int .i64 (kidsPl k)) noPan := by
  refine ct_run mx bod81 Tryz.func81 rfl (by rw [nt81]; exact Nat.le_of_ble_eq_true rfl) (dr := dr81) (by kernel_rfl) rs81 ?_
  intro _ _
  simp +contextual only [go_sem, Rcb, Rbk, sevalprocAttr]
  (repeat' split) <;> (refine end_none ExtT.rfl' ?_; refine int_eq ?_; simp only [kidsPl]; grind)
theorem RSI_get {M : Mem} {l : List Int} {a : Option Addr} {c : Nat} (hs : RS M RI 1 l (.slice a l.length c)) : 0 < l.length → ∃ b o, a = some ⟨b, o, none⟩ ∧ ∀ (i : Nat), i < l.length → mcell M ⟨b, o + i, none⟩ = some (.int .i64 (l.getD i 0)) := by
  obtain ⟨_, a', c', h', _, _, hg⟩ := RS_elim (by decide) (fun _ _ => RI_len) hs
  cases h'
  intro h0
  obtain ⟨b, o, cs, rfl, _⟩ := hg 0 l[0] (List.getElem?_eq_getElem h0)
  refine ⟨b, o, rfl, fun i hi => ?_⟩
  obtain ⟨b2, o2, cs2, h2, hat, hr⟩ := hg i l[i] (List.getElem?_eq_getElem hi)
  cases h2
  unfold RI at hr; subst hr
  have := At1 hat
  rw [Nat.mul_one] at this
  rw [this, List.getD_eq_getElem?_getD, List.getElem?_eq_getElem hi]; rfl
theorem sideT_cons {a b : List Int} {i : Nat} (hi : i < a.length) (hj : i < b.length) : sideT (a.drop i) (b.drop i) = match oneT a[i] b[i] with
    | none => .error 9
    | some o => consE o (sideT (a.drop (i + 1)) (b.drop (i + 1))) := by
  rw [List.drop_eq_getElem_cons hi, List.drop_eq_getElem_cons hj, sideT]
  cases oneT a[i] b[i] with
  | none => rfl
  | some o => simp only; cases sideT (a.drop (i + 1)) (b.drop (i + 1)) <;> rfl
theorem ct_Together {M : Mem} {l m : List Int} {lv mv : Value} (hl : RS M RI 1 l lv) (hm : RS M RI 1 m mv) (hlen : l.length ≤ 1048576) (T : Tm) : CtT Tryz.prog 84 [lv, mv] T M [] [] (fun r M' _ _ => tupN (togetherT l m) r M') noPan := by
  obtain ⟨hbk, a, c, rfl, hle, _, hg⟩ := RS_elim (by decide) (fun _ _ => RI_len) hl
  obtain ⟨_, a2, c2, rfl, hle2, _, hg2⟩ := RS_elim (by decide) (fun _ _ => RI_len) hm
  have hget := RSI_get hm
  refine ct_run mx bod84 Tryz.func84 rfl (by rw [nt84]; exact Nat.le_of_ble_eq_true rfl) (dr := dr84) (by kernel_rfl) rs84 ?_
  intro hno _
  unfold togetherT
  by_cases hne : l.length ≠ m.length
  · rw [if_pos hne]
    have hne' : ¬ (l.length : Int) = (m.length : Int) := by omega
    simp +contextual only [go_sem, Rcb, Rbk, sevalprocAttr, hne']
    exact end_none ExtT.rfl' ⟨by decide, rfl⟩
  rw [if_neg hne]
  have hlm : l.length = m.length := by omega
  simp +contextual only [go_sem, Rcb, Rbk, sevalprocAttr, hlm]
  refine loop_range l.length 16 [(1, .slice a2 m.length c2), (14, .slice a l.length c), (15, .int .i64 (l.length : Int))] (fun i e h => ∃ R fv acc, h = ⟨T, M, [], R⟩ ∧ e 6 = fv ∧ acc.length = i ∧ Acc 3 1 RI [] R fv acc ∧ preE acc (sideT (l.drop i) (m.drop i)) = sideT l m) 0 (by omega) (by simp only [live, go_sem, Rcb, Rbk, sevalprocAttr, hlm]) (by simp only [go_sem, Rcb, Rbk, sevalprocAttr]) ⟨[], _, [], rfl, by simp only [go_sem, Rcb, Rbk, sevalprocAttr], rfl, Acc_nil, preE_nil _⟩ ?_
  rintro i e h hi hlv ht ⟨R1, fv, acc, rfl, e6, hacl, hacc, hres⟩
  simp only [live] at hlv
  by_cases hlt : i < l.length
  · obtain ⟨b', o', cs', rfl, hat, hrx⟩ := hg i l[i] (List.getElem?_eq_getElem hlt)
    unfold RI at hrx; subst hrx
    have x0 := At1 hat
    rw [Nat.mul_one] at x0
    have hltm : i < m.length := by omega
    obtain ⟨b2, o2, rfl, hgi⟩ := hget (by omega)
    have y0 := hgi i hltm
    rw [List.getD_eq_getElem?_getD, List.getElem?_eq_getElem hltm, Option.getD_some] at y0
    rw [sideT_cons hlt hltm] at hres
    have hfin : ∀ (o : Int), oneT l[i] m[i] = some o → preE (acc ++ [o]) (sideT (l.drop (i + 1)) (m.drop (i + 1))) = sideT l m := fun o h => by rw [h] at hres; rw [preE_cons]; exact hres
    by_cases h1 : l[i] = m[i]
    · have hst := hfin m[i] (by unfold oneT; rw [if_pos (.inl h1), h1])
      simp +contextual only [go_sem, Rcb, Rbk, sevalprocAttr, hlv, ht, hlt, hltm, e6, x0, y0, h1]
      intro b7 hb7
      refine app_acc (Tryz.underlying24) row24 okt24 (x := m[i]) (cs := [.int .i64 m[i]]) hacc rfl (fun _ _ => RI_len) (RI_oneC rfl) hb7 (by omega) (by decide) ?_
      intro fv' R' hacc'
      simp +contextual only [go_sem, Rcb, Rbk, sevalprocAttr, hlv, ht, hlt]
      refine lp_close (Close_drop (Close_id ⟨l.length - (i + 1), by omega, rfl, i + 1, by omega, rfl, ?_, ?_, R', fv', acc ++ [m[i]], rfl, ?_, ?_, hacc', hst⟩))
      · simp only [live, hlv, go_sem, Rcb, Rbk, sevalprocAttr]
      · simp only [ht, go_sem, Rcb, Rbk, sevalprocAttr, wrap_succ i (by omega)]
      · simp only [go_sem, Rcb, Rbk, sevalprocAttr]
      · rw [List.length_append, hacl]; rfl
    · by_cases h2 : m[i] = 1
      · have hst := hfin l[i] (by unfold oneT; rw [if_pos (.inr h2)])
        simp +contextual only [go_sem, Rcb, Rbk, sevalprocAttr, hlv, ht, hlt, hltm, e6, x0, y0, h1, h2]
        intro b7 hb7
        refine app_acc (Tryz.underlying24) row24 okt24 (x := l[i]) (cs := [.int .i64 l[i]]) hacc rfl (fun _ _ => RI_len) (RI_oneC rfl) hb7 (by omega) (by decide) ?_
        intro fv' R' hacc'
        simp +contextual only [go_sem, Rcb, Rbk, sevalprocAttr, hlv, ht, hlt]
        refine lp_close (Close_drop (Close_id ⟨l.length - (i + 1), by omega, rfl, i + 1, by omega, rfl, ?_, ?_, R', fv', acc ++ [l[i]], rfl, ?_, ?_, hacc', hst⟩))
        · simp only [live, hlv, go_sem, Rcb, Rbk, sevalprocAttr]
        · simp only [ht, go_sem, Rcb, Rbk, sevalprocAttr, wrap_succ i (by omega)]
        · simp only [go_sem, Rcb, Rbk, sevalprocAttr]
        · rw [List.length_append, hacl]; rfl
      · by_cases h3 : l[i] = 1
        · have hst := hfin m[i] (by unfold oneT; rw [if_neg (fun h => h.elim h1 h2), if_pos h3])
          have h4 : ¬ 1 = m[i] := fun h => h2 h.symm
          simp +contextual only [go_sem, Rcb, Rbk, sevalprocAttr, hlv, ht, hlt, hltm, e6, x0, y0, h1, h2, h3, h4]
          intro b7 hb7
          refine app_acc (Tryz.underlying24) row24 okt24 (x := m[i]) (cs := [.int .i64 m[i]]) hacc rfl (fun _ _ => RI_len) (RI_oneC rfl) hb7 (by omega) (by decide) ?_
          intro fv' R' hacc'
          simp +contextual only [go_sem, Rcb, Rbk, sevalprocAttr, hlv, ht, hlt]
          refine lp_close (Close_drop (Close_id ⟨l.length - (i + 1), by omega, rfl, i + 1, by omega, rfl, ?_, ?_, R', fv', acc ++ [m[i]], rfl, ?_, ?_, hacc', hst⟩))
          · simp only [live, hlv, go_sem, Rcb, Rbk, sevalprocAttr]
          · simp only [ht, go_sem, Rcb, Rbk, sevalprocAttr, wrap_succ i (by omega)]
          · simp only [go_sem, Rcb, Rbk, sevalprocAttr]
          · rw [List.length_append, hacl]; rfl
        · have : oneT l[i] m[i] = none := by unfold oneT; rw [if_neg (fun h => h.elim h1 h2), if_neg h3]
          rw [this] at hres
          rw [← hres]
          simp +contextual only [go_sem, Rcb, Rbk, sevalprocAttr, hlv, ht, hlt, hltm, e6, x0, y0, h1, h2, h3]
          exact end_none ExtT.rfl' ⟨by decide, rfl⟩
  · have : i = l.length := by omega
    subst this
    have hnil : sideT ([] : List Int) [] = .ok [] := by simp [sideT]
    rw [List.drop_length, List.drop_eq_nil_of_le (by omega), hnil] at hres
    simp only [preE, List.append_nil] at hres
    rw [← hres]
    simp +contextual only [go_sem, Rcb, Rbk, sevalprocAttr, hlv, ht, hlt, e6]
    exact Close_acc hacc (by omega) (by decide) hno fun M2 hM2 hno2 hrs => end_none ExtT.rfl' ⟨_, rfl, hrs⟩
def RTb (M : Mem) (t : List Int) (cs : List Value) : Prop := ∃ v, cs = [v] ∧ RS M RI 1 t v
theorem RTb_len {M : Mem} {t : List Int} {cs} (h : RTb M t cs) : cs.length = 1 := by obtain ⟨v, rfl, _⟩ := h; rfl
theorem RTb_ext {M M' : Mem} (hM : Ext M M') (t : List Int) (cs) (h : RTb M t cs) : RTb M' t cs := by
  obtain ⟨v, rfl, h⟩ := h
  exact ⟨v, rfl, RS_ext hM (fun _ _ h => h) h⟩
theorem RTb_oneC {M : Mem} {t : List Int} {cs} (h : RTb M t cs) : ∀ u ∈ cs, u.oneCell' = true := by
  obtain ⟨v, rfl, h⟩ := h
  obtain ⟨_, a, c, rfl, _⟩ := RS_elim (by decide) (fun _ _ => RI_len) h
  intro u hu
  simp only [List.mem_singleton] at hu
  subst hu; rfl
theorem tablesM_succ {rels : List Rel} {i : Nat} (hi : i < rels.length) : tablesM (rels.take (i + 1)) = tablesM (rels.take i) ++ (if rels[i].view = true then [] else [rels[i].cols.map (·.ty)]) := by
  rw [← List.take_append_getElem hi]
  unfold tablesM
  rw [List.filter_append, List.map_append]
  congr 1
  cases h : rels[i].view <;> simp [List.filter_cons, h]
theorem ct_Tables {M : Mem} {rels : List Rel} {rv : Value} (hr : RS M (RRel M) 14 rels rv) (hlen : rels.length ≤ 1048576) (hcols : ∀ r ∈ rels, r.cols.length ≤ 1048576) (T : Tm) :
    CtT Tryz.prog 18 [rv] T M [] [] (fun r M' _ _ => RS M' (RTb M') 1 (tablesM rels) r) noPan := by
  obtain ⟨hbk, a, c, rfl, hle, _, hg⟩ := RS_elim (by decide) (fun _ _ => RRel_len) hr
  refine ct_run mx bod18 Tryz.func18 rfl (by rw [nt18]; exact Nat.le_of_ble_eq_true rfl) (dr := dr18) (by kernel_rfl) rs18 ?_
  intro hno _
  simp +contextual only [go_sem, Rcb, Rbk, sevalprocAttr]
  refine loop_range rels.length 11 [(9, .slice a rels.length c), (10, .int .i64 (rels.length : Int))] (fun i e h => ∃ N' M' R fv, ExtT T N' ∧ Ext M M' ∧ h = ⟨N', M', [], R⟩ ∧ e 3 = fv ∧ Acc 24 1 (RTb M') [] R fv (tablesM (rels.take i)) ∧ (tablesM (rels.take i)).length ≤ i) 0 (by omega) (by simp only [live, go_sem, Rcb, Rbk, sevalprocAttr]) (by simp only [go_sem, Rcb, Rbk, sevalprocAttr]) ⟨T, M, [], _, ExtT.rfl', Ext.rfl', rfl, by simp only [go_sem, Rcb, Rbk, sevalprocAttr], Acc_nil, by simp [tablesM]⟩ ?_
  rintro i e h hi hlv ht ⟨N1, M1, R1, fv, hN1, hM1, rfl, e3, hacc, hal⟩
  simp only [live] at hlv
  by_cases hlt : i < rels.length
  · obtain ⟨b', o', cs', rfl, hat, hrx⟩ := hg i rels[i] (List.getElem?_eq_getElem hlt)
    obtain ⟨ca, cn, s1, a1, n1, a2, n2, a3, n3, rfl, hs1, hcs, hpl⟩ := RRel_form (RRel_ext hM1 _ _ hrx)
    obtain ⟨x0, x1, x2, x3, x4, x5, x6, x7, x8, x9, x10, x11, x12, x13⟩ := At14 (hat.ext hM1)
    have hsucc := tablesM_succ hlt
    simp +contextual only [go_sem, Rcb, Rbk, sevalprocAttr, hlv, ht, hlt, x0, x1, x2, x3, x4, x5, x6, x7, x8, x9, x10, x11, x12, x13, hs1]
    intro b5 T5 hb5 hT5 hTb5
    have hT1 := hN1.trans hT5
    by_cases hview : rels[i].view = true
    · rw [if_pos hview]
      rw [if_pos hview, List.append_nil] at hsucc
      refine lp_close (Close_drop (Close_id ⟨rels.length - (i + 1), by omega, rfl, i + 1, by omega, rfl, ?_, ?_, T5, M1, R1, fv, hT1, hM1, rfl, ?_, ?_, ?_⟩))
      · simp only [live, hlv, go_sem, Rcb, Rbk, sevalprocAttr]
      · simp only [ht, go_sem, Rcb, Rbk, sevalprocAttr, wrap_succ i (by omega)]
      · simp only [e3, go_sem, Rcb, Rbk, sevalprocAttr]
      · rw [hsucc]; exact hacc
      · rw [hsucc]; omega
    rw [if_neg hview]
    rw [if_neg hview] at hsucc
    obtain ⟨hcb, _, _, hcx, hcle, _, hcg⟩ := RS_elim (by decide) (fun _ _ => RCo_len) hcs
    cases hcx
    have hcolb := hcols rels[i] (List.getElem_mem hlt)
    refine loop_rangeC rels[i].cols.length 20 [(3, fv), (9, .slice (some ⟨b', o', none⟩) rels.length c), (10, .int .i64 (rels.length : Int)), (11, .int .i64 (i : Nat)), (18, .slice ca rels[i].cols.length cn), (19, .int .i64 (rels[i].cols.length : Int))]
      (fun j e h => ∃ N' M' R' tv, ExtT T N' ∧ Ext M1 M' ∧ h = ⟨N', M', [], R'⟩ ∧ e 6 = tv ∧ (j < rels[i].cols.length → Acc 3 1 RI R1 R' tv ((rels[i].cols.take j).map (·.ty))) ∧ (j = rels[i].cols.length → R' = R1 ∧ RS M' RI 1 (rels[i].cols.map (·.ty)) tv))
      0 (by omega) (by simp only [live, hlv, e3, ht, go_sem, Rcb, Rbk, sevalprocAttr]) (by simp only [go_sem, Rcb, Rbk, sevalprocAttr]) ?_ ?_
    · exact Close_drop (Close_id ⟨T5, M1, R1, .slice none 0 0, hT1, Ext.rfl', rfl, by simp only [go_sem, Rcb, Rbk, sevalprocAttr], fun _ => Acc_nil, fun h0 => ⟨rfl, by rw [List.eq_nil_of_length_eq_zero h0.symm]; exact RS_nil⟩⟩)
    · rintro j e h hj hlv2 ht2 ⟨N2, M2, R2, tv, hN2, hM2, rfl, e6, hac2, hfin2⟩
      simp only [live] at hlv2
      by_cases hjlt : j < rels[i].cols.length
      · obtain ⟨bc, oc, cc', rfl, hatc, hrc⟩ := hcg j rels[i].cols[j] (List.getElem?_eq_getElem hjlt)
        unfold RCo at hrc
        subst hrc
        obtain ⟨z0, z1⟩ := At2 (hatc.ext hM2)
        have hac := hac2 hjlt
        simp +contextual only [go_sem, Rcb, Rbk, sevalprocAttr, hlv2, ht2, hjlt, z0, z1, e6]
        intro b8 T8 hb8 hT8 hTb8 b7 hb7 hap7
        have htk : (rels[i].cols.take (j + 1)).map (·.ty) = (rels[i].cols.take j).map (·.ty) ++ [rels[i].cols[j].ty] := by
          rw [← List.take_append_getElem hjlt, List.map_append]; rfl
        have hjl : ((rels[i].cols.take j).map (·.ty)).length = j := by rw [List.length_map, List.length_take]; omega
        refine app_acc (Tryz.underlying24) row24 okt24 (x := rels[i].cols[j].ty) (cs := [.int .i64 rels[i].cols[j].ty]) hac rfl (fun _ _ => RI_len) (RI_oneC rfl) hb7 (by omega) (by decide) ?_
        intro tv' R' hac'
        rw [← htk] at hac'
        simp +contextual only [go_sem, Rcb, Rbk, sevalprocAttr, hlv2, ht2, hjlt]
        refine lp_close (Close_drop (Close_drop ?_))
        by_cases hje : j + 1 = rels[i].cols.length
        · have hfull : (rels[i].cols.take (j + 1)).map (·.ty) = rels[i].cols.map (·.ty) := by rw [hje, List.take_length]
          rw [hfull] at hac'
          refine Close_acc hac' (by rw [List.length_map]; omega) (by decide) trivial fun M3 hM3 _ hrs => Close_id ⟨rels[i].cols.length - (j + 1), by omega, rfl, j + 1, by omega, rfl, ?_, ?_, T8, M3, R1, tv', hN2.trans hT8, hM2.trans hM3, rfl, ?_, fun h => absurd h (by omega), fun _ => ⟨rfl, hrs⟩⟩
          · simp only [live, hlv2, go_sem, Rcb, Rbk, sevalprocAttr]
          · simp only [ht2, go_sem, Rcb, Rbk, sevalprocAttr, wrap_succ j (by omega)]
          · simp only [go_sem, Rcb, Rbk, sevalprocAttr]
        · refine Close_id ⟨rels[i].cols.length - (j + 1), by omega, rfl, j + 1, by omega, rfl, ?_, ?_, T8, M2, R', tv', hN2.trans hT8, hM2, rfl, ?_, fun _ => hac', fun h => absurd h hje⟩
          · simp only [live, hlv2, go_sem, Rcb, Rbk, sevalprocAttr]
          · simp only [ht2, go_sem, Rcb, Rbk, sevalprocAttr, wrap_succ j (by omega)]
          · simp only [go_sem, Rcb, Rbk, sevalprocAttr]
      · have : j = rels[i].cols.length := by omega
        subst this
        obtain ⟨rfl, hrs⟩ := hfin2 rfl
        obtain ⟨_, ta, tc, rfl, _⟩ := RS_elim (by decide) (fun _ _ => RI_len) hrs
        simp +contextual only [go_sem, Rcb, Rbk, sevalprocAttr, hlv2, ht2, hjlt, e6]
        intro b7 hb7
        refine app_acc (Tryz.underlying58) row58 okt58 (Acc_mono (RTb_ext hM2) hacc) ⟨_, rfl, hrs⟩ (fun _ _ => RTb_len) (RTb_oneC (M := M2) ⟨_, rfl, hrs⟩) hb7 (by omega) (by decide) ?_
        intro fv' R' hacc'
        simp +contextual only [go_sem, Rcb, Rbk, sevalprocAttr, hlv2, ht2, hjlt]
        refine lp_close (Close_drop (Close_id ⟨rels.length - (i + 1), by omega, rfl, i + 1, by omega, rfl, ?_, ?_, N2, M2, R', fv', hN2, hM1.trans hM2, rfl, ?_, ?_, ?_⟩))
        · simp only [live, hlv2, go_sem, Rcb, Rbk, sevalprocAttr]
        · simp only [hlv2, go_sem, Rcb, Rbk, sevalprocAttr, wrap_succ i (by omega)]
        · simp only [go_sem, Rcb, Rbk, sevalprocAttr]
        · rw [hsucc]; exact hacc'
        · rw [hsucc, List.length_append]; simp only [List.length_cons, List.length_nil]; omega
  · have : i = rels.length := by omega
    subst this
    rw [List.take_length] at hacc hal
    simp +contextual only [go_sem, Rcb, Rbk, sevalprocAttr, hlv, ht, hlt, e3]
    exact Close_acc hacc (by omega) (by decide) hno fun M2 hM2 hno2 hrs => end_none hN1 (RS_ext Ext.rfl' (RTb_ext hM2) hrs)
theorem ct_Grow {M : Mem} (n : Nat) (hn : n ≤ 1073741824) (T : Tm) :
    CtN Tryz.prog 124 [.slice none 0 0, .int .i64 (n : Nat)] T M [] [] 1 (fun v _ _ R' => ∃ a c, v = .slice a 0 c ∧ R' = [(v, 3, 1, [])]) noPan := by
  refine ct_runN mx bod124 Tryz.func124 rfl (by rw [nt124]; exact Nat.le_of_ble_eq_true rfl) (dr := dr124) (by kernel_rfl) rs124 ?_
  intro hno _
  have h0 : ¬ ((n : Int) < 0) := by omega
  by_cases hz : n = 0
  · subst hz
    simp +contextual only [go_sem, Rcb, Rbk, sevalprocAttr, -Int.reduceAdd, -Int.reduceSub, -Int.reduceMul, h0]
    exact Close_addNil (end_id ExtT.rfl' rfl rfl ⟨none, 0, rfl, rfl⟩)
  · have hp : 0 < n := by omega
    have hp' : (0 : Int) < (n : Int) := by omega
    have hw : IntKind.i64.wrap (n : Int) = (n : Int) := wrap64 (by omega) (by omega)
    have hw0 : IntKind.i64.wrap (0 - 0) = 0 := by decide
    have hw1 : IntKind.i64.wrap ((n : Int) - IntKind.i64.wrap (0 - 0)) = (n : Int) := by rw [hw0, Int.sub_zero]; exact hw
    have hcut : cutA none 0 0 1 = none := rfl
    simp +contextual only [go_sem, Rcb, Rbk, sevalprocAttr, -Int.reduceAdd, -Int.reduceSub, -Int.reduceMul, h0]
    rw [hw1, if_pos hp', hcut]
    refine app_make (ik := .i64) row24 okt24 Tryz.underlying3 hp (by omega) ?_
    intro a c zs hzl hle
    simp +contextual only [go_sem, Rcb, Rbk, sevalprocAttr, -Int.reduceAdd, -Int.reduceSub, -Int.reduceMul]
    have hca : cutA a c 0 1 = a := by
      unfold cutA
      cases a <;> simp [Addr.add]
    rw [hca]
    exact Close_shrink (by decide) (end_id ExtT.rfl' rfl rfl ⟨a, c, rfl, rfl⟩)
theorem ct_CloneI {M : Mem} {l : List Int} {lv : Value} (hl : RS M RI 1 l lv) (hlen : l.length ≤ 16777216) (T : Tm) :
    CtT Tryz.prog 41 [lv] T M [] [] (fun v M' _ _ => RS M' RI 1 l v) noPan := by
  obtain ⟨hbk, a, c, rfl, hle, hac, hget⟩ := RS_elim (by decide) (fun _ _ => RI_len) hl
  refine ct_run mx bod41 Tryz.func41 rfl (by rw [nt41]; exact Nat.le_of_ble_eq_true rfl) (dr := dr41) (by kernel_rfl) rs41 ?_
  intro hno _
  by_cases h0 : l = []
  · subst h0
    cases a with
    | none =>
      cases hac rfl
      simp +contextual only [go_sem, Rcb, Rbk, sevalprocAttr, -Int.reduceAdd, -Int.reduceSub, -Int.reduceMul]
      exact end_none ExtT.rfl' RS_nil
    | some p =>
      simp +contextual only [go_sem, Rcb, Rbk, sevalprocAttr, -Int.reduceAdd, -Int.reduceSub, -Int.reduceMul]
      intro b hb
      refine app_nothing row24 okt24 (.slice p 0 c [] _ Tryz.underlying24 rfl (by simp)) (by omega) ?_
      simp +contextual only [go_sem, Rcb, Rbk, sevalprocAttr, -Int.reduceAdd, -Int.reduceSub, -Int.reduceMul]
      exact Close_freeze fun he hb2 hno2 => end_none ExtT.rfl' (RS_lit (fun _ _ => RI_len) hb2 (l := []) rfl rfl (by omega))
  · obtain ⟨p, hp⟩ : ∃ p, a = some p := by
      cases l with
      | nil => exact (h0 rfl).elim
      | cons x l => obtain ⟨b, o, cs, h, _⟩ := hget 0 x rfl; exact ⟨_, h⟩
    subst hp
    obtain ⟨ys, hyl, hys, hsr⟩ := srcs_RS (P := Tryz.prog) Tryz.underlying24 (fun _ _ => RI_len) (fun _ _ h => RI_oneC h) hl
    have hpos : 0 < l.length := List.length_pos_iff.2 h0
    simp +contextual only [go_sem, Rcb, Rbk, sevalprocAttr, -Int.reduceAdd, -Int.reduceSub, -Int.reduceMul]
    intro b hb
    refine app_read (n := 0) (xs := []) row24 okt24 (hsr _ _ _) rfl (by omega) (by simp only [List.length_nil]; omega) ?_
    intro ra rm rc hrm
    have hrm1 : rm = l.length := by simp only [List.length_nil] at hrm; omega
    subst hrm1
    simp +contextual only [go_sem, Rcb, Rbk, sevalprocAttr, -Int.reduceAdd, -Int.reduceSub, -Int.reduceMul]
    refine Close_drop (Close_row (fun M2 hM2 hno2 hsl => end_none ExtT.rfl' ⟨hbk, _, hsl, hys⟩) (by decide))
theorem ct_ConcatI {M : Mem} {ls : List (List Int)} {sv : Value} (hs : RS M (RTb M) 1 ls sv) (hlen : ls.length ≤ 64) (hl : ∀ l ∈ ls, l.length ≤ 16777216) (T : Tm) :
    CtT Tryz.prog 86 [sv] T M [] [] (fun v M' _ _ => RS M' RI 1 ls.flatten v) noPan := by
  obtain ⟨hbk, a, c, rfl, hle, _, hg⟩ := RS_elim (by decide) (fun _ _ => RTb_len) hs
  obtain ⟨B, hB⟩ : ∃ B : Nat, B = 16777216 := ⟨_, rfl⟩
  rw [← hB] at hl
  have hsum' : ∀ i, (ls.take i).flatten.length ≤ i * B := by
    intro i
    induction i with
    | zero => simp
    | succ i ih =>
      rw [Nat.succ_mul]
      by_cases hi : i < ls.length
      · rw [← List.take_append_getElem hi, List.flatten_append, List.length_append]
        have := hl ls[i] (List.getElem_mem hi)
        simp only [List.flatten_cons, List.flatten_nil, List.append_nil]
        omega
      · rw [List.take_of_length_le (by omega)]
        rw [List.take_of_length_le (by omega)] at ih
        omega
  have hsum : ∀ i, i ≤ ls.length → (ls.take i).flatten.length ≤ 1073741824 := by
    intro i hi
    refine Nat.le_trans (hsum' i) ?_
    rw [hB]
    exact Nat.le_trans (Nat.mul_le_mul_right _ (show i ≤ 64 by omega)) (by decide)
  refine ct_run mx bod86 Tryz.func86 rfl (by rw [nt86]; exact Nat.le_of_ble_eq_true rfl) (dr := dr86) (by kernel_rfl) rs86 ?_
  intro hno _
  simp +contextual only [go_sem, Rcb, Rbk, sevalprocAttr, -Int.reduceAdd, -Int.reduceSub, -Int.reduceMul]
  refine loop_range ls.length 11 [(0, .slice a ls.length c), (9, .slice a ls.length c), (10, .int .i64 (ls.length : Int))] (fun i e h => h = ⟨T, M, [], []⟩ ∧ e 3 = .int .i64 ((ls.take i).flatten.length : Int)) 0 (by omega) (by simp only [live, go_sem, Rcb, Rbk, sevalprocAttr, -Int.reduceAdd, -Int.reduceSub, -Int.reduceMul]) (by simp only [go_sem, Rcb, Rbk, sevalprocAttr, -Int.reduceAdd, -Int.reduceSub, -Int.reduceMul]) ⟨rfl, by simp only [go_sem, Rcb, Rbk, sevalprocAttr, -Int.reduceAdd, -Int.reduceSub, -Int.reduceMul]; simp⟩ ?_
  rintro i e h hi hlv ht ⟨rfl, e3⟩
  simp only [live] at hlv
  have hsi := hsum i hi
  by_cases hlt : i < ls.length
  · obtain ⟨b', o', cs', rfl, hat, v, rfl, hrv⟩ := hg i ls[i] (List.getElem?_eq_getElem hlt)
    obtain ⟨_, va, vc, rfl, _⟩ := RS_elim (by decide) (fun _ _ => RI_len) hrv
    have x0 := At1 hat
    rw [Nat.mul_one] at x0
    have hsucc : (ls.take (i + 1)).flatten.length = (ls.take i).flatten.length + ls[i].length := by
      rw [← List.take_append_getElem hlt, List.flatten_append, List.length_append]; simp
    have hsi1 := hsum (i + 1) hlt
    have hw : IntKind.i64.wrap (((ls.take i).flatten.length : Int) + (ls[i].length : Int)) = ((ls.take (i + 1)).flatten.length : Int) := by
      have h1 : ((ls.take i).flatten.length : Int) + (ls[i].length : Int) = ((ls.take (i + 1)).flatten.length : Int) := by omega
      rw [h1, wrap64 (by omega) (by omega)]
    have hng : ¬ (((ls.take (i + 1)).flatten.length : Int) < 0) := by omega
    simp +contextual only [go_sem, Rcb, Rbk, sevalprocAttr, -Int.reduceAdd, -Int.reduceSub, -Int.reduceMul, hlv, ht, hlt, x0, e3, hw, hng]
    refine lp_close (Close_id ⟨ls.length - (i + 1), by omega, rfl, i + 1, by omega, rfl, ?_, ?_, rfl, ?_⟩)
    · simp only [live, hlv, go_sem, Rcb, Rbk, sevalprocAttr, -Int.reduceAdd, -Int.reduceSub, -Int.reduceMul]
    · simp only [ht, go_sem, Rcb, Rbk, sevalprocAttr, -Int.reduceAdd, -Int.reduceSub, -Int.reduceMul, wrap_succ i (by omega)]
    · simp only [go_sem, Rcb, Rbk, sevalprocAttr, -Int.reduceAdd, -Int.reduceSub, -Int.reduceMul]
  · have : i = ls.length := by omega
    subst this
    rw [List.take_length] at e3 hsi
    simp +contextual only [go_sem, Rcb, Rbk, sevalprocAttr, -Int.reduceAdd, -Int.reduceSub, -Int.reduceMul, hlv, ht, hlt, e3]
    refine rCall_new (ct_Grow ls.flatten.length hsi T) ?_ (fun _ _ _ _ h => h.elim)
    rintro v M2 row hM2 hno2 ⟨ga, gc, rfl, hrow⟩
    simp only [List.cons.injEq, and_true] at hrow
    subst hrow
    simp +contextual only [go_sem, Rcb, Rbk, sevalprocAttr, -Int.reduceAdd, -Int.reduceSub, -Int.reduceMul, hlv]
    refine loop_range ls.length 27 [(0, .slice a ls.length c), (25, .slice a ls.length c), (26, .int .i64 (ls.length : Int))] (fun i e h => ∃ R fv, h = ⟨T, M2, [], R⟩ ∧ e 6 = fv ∧ Acc 3 1 RI [] R fv (ls.take i).flatten) 0 (by omega) (by simp only [live, hlv, go_sem, Rcb, Rbk, sevalprocAttr, -Int.reduceAdd, -Int.reduceSub, -Int.reduceMul]) (by simp only [go_sem, Rcb, Rbk, sevalprocAttr, -Int.reduceAdd, -Int.reduceSub, -Int.reduceMul]) ⟨[(.slice ga 0 gc, 3, 1, [])], .slice ga 0 gc, rfl, by simp only [go_sem, Rcb, Rbk, sevalprocAttr, -Int.reduceAdd, -Int.reduceSub, -Int.reduceMul], by rw [List.take_zero]; exact .inr ⟨ga, gc, [], rfl, rfl, rfl⟩⟩ ?_
    clear hlv ht e3 hlt hi e
    rintro i e h hi hlv ht ⟨R1, fv, rfl, e6, hacc⟩
    simp only [live] at hlv
    have hsi2 := hsum i hi
    by_cases hlt : i < ls.length
    · obtain ⟨b', o', cs', rfl, hat, v, rfl, hrv⟩ := hg i ls[i] (List.getElem?_eq_getElem hlt)
      obtain ⟨_, va, vc, rfl, _⟩ := RS_elim (by decide) (fun _ _ => RI_len) hrv
      have x0 := At1 (hat.ext hM2)
      rw [Nat.mul_one] at x0
      have hsucc : (ls.take (i + 1)).flatten = (ls.take i).flatten ++ ls[i] := by
        rw [← List.take_append_getElem hlt, List.flatten_append]; simp
      have hsi1 := hsum (i + 1) hlt
      obtain ⟨ys, hyl, hys, hsr⟩ := srcs_RS (P := Tryz.prog) Tryz.underlying24 (fun _ _ => RI_len) (fun _ _ h => RI_oneC h) (RS_ext hM2 (fun _ _ h => h) hrv)
      simp +contextual only [go_sem, Rcb, Rbk, sevalprocAttr, -Int.reduceAdd, -Int.reduceSub, -Int.reduceMul, hlv, ht, hlt, x0, e6]
      refine app_accs row24 okt24 hacc hys (fun _ => hsr _ _ _) (fun _ _ => RI_len) (by rw [hsucc, List.length_append] at hsi1; omega) (by decide) ?_
      intro fv' R' hacc'
      rw [← hsucc] at hacc'
      simp +contextual only [go_sem, Rcb, Rbk, sevalprocAttr, -Int.reduceAdd, -Int.reduceSub, -Int.reduceMul, hlv, ht, hlt]
      refine lp_close (Close_id ⟨ls.length - (i + 1), by omega, rfl, i + 1, by omega, rfl, ?_, ?_, R', fv', rfl, ?_, hacc'⟩)
      · simp only [live, hlv, go_sem, Rcb, Rbk, sevalprocAttr, -Int.reduceAdd, -Int.reduceSub, -Int.reduceMul]
      · simp only [ht, go_sem, Rcb, Rbk, sevalprocAttr, -Int.reduceAdd, -Int.reduceSub, -Int.reduceMul, wrap_succ i (by omega)]
      · simp only [go_sem, Rcb, Rbk, sevalprocAttr, -Int.reduceAdd, -Int.reduceSub, -Int.reduceMul]
    · have : i = ls.length := by omega
      subst this
      rw [List.take_length] at hacc hsi2
      simp +contextual only [go_sem, Rcb, Rbk, sevalprocAttr, -Int.reduceAdd, -Int.reduceSub, -Int.reduceMul, hlv, ht, hlt, e6]
      exact Close_acc hacc (by omega) (by decide) hno2 fun M3 hM3 hno3 hrs => end_none ExtT.rfl' hrs
def groupT (k n : Int) (a : List Int) (xs : List Ex) (ags : List Ag) : Except Int (List Int) :=
  if k = 12 then (if 8 < xs.length + ags.length then .error 5 else match typesX a xs with
    | .error e => .error e
    | .ok ks => match aggsT a ags with | .ok g => .ok (ks ++ g) | .error e => .error e)
  else match typesX a xs with
    | .error e => .error e
    | .ok _ => if n < 0 ∨ 50 < n then .error 3 else .ok a
theorem typesE_len {cols : List Int} : ∀ {xs : List Ex} {l : List Int}, typesE cols xs = .ok l → l.length = xs.length
  | [], l, h => by rw [typesE] at h; cases h; rfl
  | x :: xs, l, h => by
    rw [typesE] at h
    split at h
    · cases h
    · split at h
      · rename_i ts h2
        cases h
        rw [List.length_cons, List.length_cons, typesE_len h2]
      · cases h
theorem typesX_len {cols : List Int} {xs : List Ex} {l : List Int} (h : typesX cols xs = .ok l) : l.length = xs.length ∧ xs.length ≤ 8 := by
  unfold typesX at h
  split at h
  · cases h
  · exact ⟨typesE_len h, by omega⟩
theorem aggsT_len {cols : List Int} : ∀ {xs : List Ag} {l : List Int}, aggsT cols xs = .ok l → l.length = xs.length
  | [], l, h => by rw [aggsT] at h; cases h; rfl
  | x :: xs, l, h => by
    rw [aggsT] at h
    split at h
    · cases h
    · split at h
      · rename_i ts h2
        cases h
        rw [List.length_cons, List.length_cons, aggsT_len h2]
      · cases h
theorem At11 {M : Mem} {b o : Nat} {v0 v1 v2 v3 v4 v5 v6 v7 v8 v9 v10 : Value} (h : At M b o [v0, v1, v2, v3, v4, v5, v6, v7, v8, v9, v10]) : mcell M ⟨b, o, none⟩ = some v0 ∧ mcell M ⟨b, o + 1, none⟩ = some v1 ∧ mcell M ⟨b, o + 8, none⟩ = some v8 ∧ mcell M ⟨b, o + 9, none⟩ = some v9 ∧ mcell M ⟨b, o + 10, none⟩ = some v10 := by
  obtain ⟨h0, h1, h2, h3, h4, h5, h6, h7, h8, h9, h10, _⟩ := h
  exact ⟨h0, h1, h8, h9, h10⟩
theorem ct_grouped {M : Mem} {cols : List Int} {cv : Value} {p : Pl} {b o : Nat} {cs : List Value} (hat : At M b o cs) (hp : RPl M p cs) (hcv : RS M RI 1 cols cv) (hk : p.k = 12 ∨ p.k = 13) (T : Tm) :
    CtT Tryz.prog 85 [.pointer (some ⟨b, o, none⟩), cv] T M [] [] (fun r M' _ _ => tupL (groupT p.k p.n cols p.xs p.ags) r M') noPan := by
  obtain ⟨s1, a1, n1, a2, n2, a3, n3, rfl, hs1, hkx, hxs, hag, hkids⟩ := RPl_form hp
  obtain ⟨x0, x1, x8, x9, x10⟩ := At11 hat
  have hlx := (RS_elim (by decide) (fun _ _ => REx_len) hxs).1
  have hla := (RS_elim (by decide) (fun _ _ => RAg_len) hag).1
  obtain ⟨_, ca, cc, rfl, _⟩ := RS_elim (by decide) (fun _ _ => RI_len) hcv
  refine ct_run mx bod85 Tryz.func85 rfl (by rw [nt85]; exact Nat.le_of_ble_eq_true rfl) (dr := dr85) (by kernel_rfl) rs85 ?_
  intro hno _
  simp +contextual only [go_sem, Rcb, Rbk, sevalprocAttr, x0, x1, x8, x9]
  refine draw_all ?_
  have hw : IntKind.i64.wrap ((p.xs.length : Int) + (p.ags.length : Int)) = ((p.xs.length + p.ags.length : Nat) : Int) := by
    rw [wrap64 (by omega) (by omega)]; omega
  rcases hk with hk | hk
  · unfold groupT
    rw [if_pos hk]
    by_cases h8 : 8 < p.xs.length + p.ags.length
    · have h8' : (8 : Int) < ((p.xs.length + p.ags.length : Nat) : Int) := by omega
      rw [if_pos h8]
      simp +contextual only [go_sem, Rcb, Rbk, sevalprocAttr, x0, x1, x8, x9, hk, hw, h8']
      exact end_none ExtT.rfl' ⟨by decide, _, rfl⟩
    · have h8' : ¬ (8 : Int) < ((p.xs.length + p.ags.length : Nat) : Int) := by omega
      rw [if_neg h8]
      simp +contextual only [go_sem, Rcb, Rbk, sevalprocAttr, x0, x1, x8, x9, hk, hw, h8']
      refine rCall_pure (ct_Types hcv hxs T) ?_ (fun _ _ _ _ h => h.elim)
      rintro r M2 hM2 hno2 hr
      cases hty : typesX cols p.xs with
      | error er =>
        rw [hty] at hr
        obtain ⟨hne, rfl⟩ := hr
        simp +contextual only [go_sem, Rcb, Rbk, sevalprocAttr, hne]
        exact end_none ExtT.rfl' ⟨hne, _, rfl⟩
      | ok ks =>
        rw [hty] at hr
        obtain ⟨kv, rfl, hkv⟩ := hr
        have y0 := mcell_ext hM2 x0
        have y9 := mcell_ext hM2 x9
        obtain ⟨hkl, _⟩ := typesX_len hty
        obtain ⟨_, ka, kc, rfl, _⟩ := RS_elim (by decide) (fun _ _ => RI_len) hkv
        simp +contextual only [go_sem, Rcb, Rbk, sevalprocAttr, y0, y9, hk]
        refine rCall_pure (ct_AggTypes (RS_ext hM2 (fun _ _ h => h) hcv) (RS_ext hM2 (RAg_ext hM2) hag) (by omega) T) ?_ (fun _ _ _ _ h => h.elim)
        rintro r M3 hM3 hno3 hr
        have hkv3 := RS_ext hM3 (fun _ _ h => h) hkv
        cases hag2 : aggsT cols p.ags with
        | error er =>
          rw [hag2] at hr
          obtain ⟨hne, rfl⟩ := hr
          simp +contextual only [go_sem, Rcb, Rbk, sevalprocAttr]
          intro b1 hb1
          refine rCall_frz bod86 fun M4 hM4 hb4 hno4 => ?_
          have hls : RS M4 (RTb M4) 1 [ks, []] (.slice (some ⟨b1, 0, none⟩) 2 2) := RS_lit (fun _ _ => RTb_len) hb4 (l := [ks, []]) ⟨_, _, rfl, ⟨_, rfl, RS_ext hM4 (fun _ _ h => h) hkv3⟩, _, _, rfl, ⟨_, rfl, RS_nil⟩, rfl⟩ rfl (by omega)
          refine rCall_pure (ct_ConcatI hls (by simp) (by intro l hl; simp only [List.mem_cons, List.not_mem_nil, or_false] at hl; rcases hl with rfl | rfl <;> (try simp only [List.length_nil]) <;> omega) T) ?_ (fun _ _ _ _ h => h.elim)
          rintro v M5 hM5 hno5 hv
          simp +contextual only [go_sem, Rcb, Rbk, sevalprocAttr]
          exact end_none ExtT.rfl' ⟨hne, _, rfl⟩
        | ok g =>
          rw [hag2] at hr
          obtain ⟨gv, rfl, hgv⟩ := hr
          have hgl := aggsT_len hag2
          obtain ⟨_, ga, gc, rfl, _⟩ := RS_elim (by decide) (fun _ _ => RI_len) hgv
          simp +contextual only [go_sem, Rcb, Rbk, sevalprocAttr]
          intro b1 hb1
          refine rCall_frz bod86 fun M4 hM4 hb4 hno4 => ?_
          have hls : RS M4 (RTb M4) 1 [ks, g] (.slice (some ⟨b1, 0, none⟩) 2 2) := RS_lit (fun _ _ => RTb_len) hb4 (l := [ks, g]) ⟨_, _, rfl, ⟨_, rfl, RS_ext hM4 (fun _ _ h => h) hkv3⟩, _, _, rfl, ⟨_, rfl, RS_ext hM4 (fun _ _ h => h) hgv⟩, rfl⟩ rfl (by omega)
          refine rCall_pure (ct_ConcatI hls (by simp) (by intro l hl; simp only [List.mem_cons, List.not_mem_nil, or_false] at hl; rcases hl with rfl | rfl <;> (try simp only [List.length_nil]) <;> omega) T) ?_ (fun _ _ _ _ h => h.elim)
          rintro v M5 hM5 hno5 hv
          simp +contextual only [go_sem, Rcb, Rbk, sevalprocAttr]
          refine end_none ExtT.rfl' ⟨_, rfl, ?_⟩
          simpa using hv
  · unfold groupT
    rw [if_neg (by omega)]
    simp +contextual only [go_sem, Rcb, Rbk, sevalprocAttr, x0, x1, x8, x9, hk]
    refine rCall_pure (ct_Types hcv hxs T) ?_ (fun _ _ _ _ h => h.elim)
    rintro r M2 hM2 hno2 hr
    cases hty : typesX cols p.xs with
    | error er =>
      rw [hty] at hr
      obtain ⟨hne, rfl⟩ := hr
      simp +contextual only [go_sem, Rcb, Rbk, sevalprocAttr, hne]
      exact end_none ExtT.rfl' ⟨hne, _, rfl⟩
    | ok ks =>
      rw [hty] at hr
      obtain ⟨kv, rfl, hkv⟩ := hr
      have y0 := mcell_ext hM2 x0
      have y1 := mcell_ext hM2 x1
      simp +contextual only [go_sem, Rcb, Rbk, sevalprocAttr, y0, y1, hk]
      split
      · exact end_none ExtT.rfl' ⟨by decide, _, rfl⟩
      · exact end_none ExtT.rfl' ⟨_, rfl, RS_ext hM2 (fun _ _ h => h) hcv⟩
mutual
theorem colsPl_le (tabs : List (List Int)) (deep n : Nat) : ∀ p, n ≤ 60 → (colsPl tabs deep n p).2 ≤ 61 ∧ (∀ t, (colsPl tabs deep n p).1 = .ok t → (colsPl tabs deep n p).2 ≤ 60)
  | .mk k c x xs ags kids, hn => by
    rw [colsPl]
    split
    · exact ⟨by simp only; omega, fun t h => by simp at h⟩
    · split
      · exact ⟨by simp only; omega, fun t h => by simp at h⟩
      · split
        · exact ⟨by simp only; omega, fun t h => by simp at h⟩
        · have := colsL_le tabs (deep + 1) (n + 1) kids (by omega)
          split
          · rename_i e m hm
            rw [hm] at this
            exact ⟨this.1, fun t h => by simp at h⟩
          · rename_i t m hm
            rw [hm] at this
            have h2 := this.2 t rfl
            simp only at h2
            exact ⟨by simp only; omega, fun _ _ => h2⟩
theorem colsL_le (tabs : List (List Int)) (deep n : Nat) : ∀ l, n ≤ 60 → (colsL tabs deep n l).2 ≤ 61 ∧ (∀ t, (colsL tabs deep n l).1 = .ok t → (colsL tabs deep n l).2 ≤ 60)
  | [], hn => by rw [colsL]; exact ⟨by simp only; omega, fun _ _ => hn⟩
  | x :: l, hn => by
    rw [colsL]
    have hx := colsPl_le tabs deep n x hn
    split
    · rename_i e m hm
      rw [hm] at hx
      exact ⟨hx.1, fun t h => by simp at h⟩
    · rename_i t m hm
      rw [hm] at hx
      have hl := colsL_le tabs deep m l (hx.2 t rfl)
      split
      · rename_i e m' hm'
        rw [hm'] at hl
        exact ⟨hl.1, fun t h => by simp at h⟩
      · rename_i ts m' hm'
        rw [hm'] at hl
        exact ⟨hl.1, fun _ _ => hl.2 ts rfl⟩
end
def preTC (acc : List (List Int)) : Except Int (List (List Int)) × Nat → Except Int (List (List Int)) × Nat
  | (.ok l, m) => (.ok (acc ++ l), m)
  | (.error e, m) => (.error e, m)
theorem preTC_nil (r) : preTC [] r = r := by obtain ⟨r, m⟩ := r; cases r <;> rfl
theorem colsL_ok {tabs : List (List Int)} {deep n m : Nat} {x : Pl} {l : List Pl} {t : List Int} {acc : List (List Int)} (h : colsPl tabs deep n x = (.ok t, m)) : preTC acc (colsL tabs deep n (x :: l)) = preTC (acc ++ [t]) (colsL tabs deep m l) := by
  rw [colsL, h]
  simp only
  rcases hl : colsL tabs deep m l with ⟨r, m'⟩
  cases r <;> simp [preTC]
theorem colsL_err {tabs : List (List Int)} {deep n m : Nat} {x : Pl} {l : List Pl} {e : Int} {acc : List (List Int)} (h : colsPl tabs deep n x = (.error e, m)) : preTC acc (colsL tabs deep n (x :: l)) = (.error e, m) := by
  rw [colsL, h]; rfl
theorem nodeT_group {tabs : List (List Int)} {k n : Int} {x : Ex} {xs : List Ex} {ags : List Ag} {c : List (List Int)} (hk : k = 12 ∨ k = 13) : nodeT tabs k n x xs ags c = groupT k n (c.getD 0 []) xs ags := by
  unfold nodeT groupT
  generalize hA : typesX (c.getD 0 []) xs = A
  generalize hB : aggsT (c.getD 0 []) ags = B
  rcases hk with rfl | rfl <;> cases A <;> cases B <;> simp_all
theorem sideT_len : ∀ {a b l : List Int}, sideT a b = .ok l → l.length ≤ a.length
  | [], b, l, h => by simp [sideT] at h; subst h; exact Nat.le_refl _
  | t :: a, [], l, h => by simp [sideT] at h; subst h; simp
  | t :: a, u :: b, l, h => by
    rw [sideT] at h
    split at h
    · cases h
    · split at h
      · rename_i m hm
        cases h
        have := sideT_len hm
        simp only [List.length_cons]; omega
      · cases h
theorem getD_len {c : List (List Int)} (h : ∀ t ∈ c, t.length ≤ 8) (i : Nat) : (c.getD i []).length ≤ 8 := by
  rw [List.getD_eq_getElem?_getD]
  by_cases hi : i < c.length
  · rw [List.getElem?_eq_getElem hi]; exact h _ (List.getElem_mem hi)
  · rw [List.getElem?_eq_none (by omega)]; simp
theorem nodeT_len {tabs : List (List Int)} {k n : Int} {x : Ex} {xs : List Ex} {ags : List Ag} {c : List (List Int)} {l : List Int} (ht : ∀ t ∈ tabs, t.length ≤ 8) (hc : ∀ t ∈ c, t.length ≤ 8) (h : nodeT tabs k n x xs ags c = .ok l) : l.length ≤ 8 := by
  have h0 := getD_len hc 0
  have h1 := getD_len hc 1
  unfold nodeT at h
  simp only at h
  split at h
  · split at h
    · injection h with h; rw [← h]; exact getD_len ht _
    · cases h
  split at h
  · split at h
    · injection h with h; rw [← h]; exact h0
    · cases h
  split at h
  · have := typesX_len h; omega
  split at h
  · unfold togetherT at h
    split at h
    · cases h
    · have := sideT_len h; omega
  split at h
  · injection h with h; rw [← h]; exact h0
  split at h
  · split at h
    · cases h
    · split at h
      · cases h
      · rename_i ks hks
        split at h
        · rename_i g hg
          injection h with h
          have e1 := typesX_len hks
          have e2 := aggsT_len hg
          rw [← h, List.length_append]
          omega
        · cases h
  split at h
  · split at h
    · cases h
    · split at h
      · cases h
      · injection h with h; rw [← h]; exact h0
  split at h
  · cases h
  · split at h
    · cases h
    · injection h with h
      rw [← h]
      split <;> omega
mutual
theorem colsPl_len {tabs : List (List Int)} (ht : ∀ t ∈ tabs, t.length ≤ 8) (deep n : Nat) : ∀ p {l}, (colsPl tabs deep n p).1 = .ok l → l.length ≤ 8
  | .mk k c x xs ags kids, l, h => by
    rw [colsPl] at h
    split at h
    · cases h
    · split at h
      · cases h
      · split at h
        · cases h
        · split at h
          · cases h
          · rename_i c m hm
            have h2 := colsL_len ht (deep + 1) (n + 1) kids (l := c) (by rw [hm])
            exact nodeT_len ht h2 h
theorem colsL_len {tabs : List (List Int)} (ht : ∀ t ∈ tabs, t.length ≤ 8) (deep n : Nat) : ∀ ps {l}, (colsL tabs deep n ps).1 = .ok l → ∀ t ∈ l, t.length ≤ 8
  | [], l, h => by rw [colsL] at h; cases h; intro t ht; cases ht
  | p :: ps, l, h => by
    rw [colsL] at h
    split at h
    · cases h
    · rename_i t m hm
      split at h
      · cases h
      · rename_i ts m' hm'
        injection h with h
        intro u hu
        rw [← h, List.mem_cons] at hu
        rcases hu with rfl | hu
        · exact colsPl_len ht deep n p (by rw [hm])
        · exact colsL_len ht deep m ps (by rw [hm']) u hu
end
def condL (l cols : List Int) (x : Ex) : Except Int (List Int) := match condT cols x with | .ok _ => .ok l | .error e => .error e
theorem nodeT_cond {tabs : List (List Int)} {n : Int} {x : Ex} {xs : List Ex} {ags : List Ag} {c : List (List Int)} : nodeT tabs 2 n x xs ags c = condL (c.getD 0 []) (c.getD 0 []) x := by
  unfold nodeT condL
  rw [if_neg (by decide), if_pos rfl]
  cases condT (c.getD 0 []) x <;> rfl
theorem nodeT_join {tabs : List (List Int)} {k n : Int} {x : Ex} {xs : List Ex} {ags : List Ag} {c : List (List Int)} (hk : 4 ≤ k ∧ k ≤ 7) : nodeT tabs k n x xs ags c =
    if 8 < (c.getD 0 [] ++ c.getD 1 []).length then .error 5 else condL (if k = 5 ∨ k = 6 then c.getD 0 [] else c.getD 0 [] ++ c.getD 1 []) (c.getD 0 [] ++ c.getD 1 []) x := by
  unfold nodeT condL
  simp only
  rw [if_neg (by omega), if_neg (by omega), if_neg (by omega), if_neg (by omega), if_neg (by omega), if_neg (by omega), if_neg (by omega)]
  split
  · rfl
  · cases condT (c.getD 0 [] ++ c.getD 1 []) x <;> rfl
theorem tupL_cond {l cols : List Int} {x : Ex} {sv : Value} {M : Mem} (hs : RS M RI 1 l sv) (he : ∀ e, condT cols x = .error e → e ≠ 0) : tupL (condL l cols x) (.tuple ⟨[sv, .int .i64 (condW cols x)]⟩) M := by
  unfold condL condW
  cases h : condT cols x with
  | ok u => exact ⟨sv, rfl, hs⟩
  | error e => exact ⟨he e h, sv, rfl⟩
theorem At11x {M : Mem} {b o : Nat} {v0 v1 v2 v3 v4 v5 v6 v7 v8 v9 v10 : Value} (h : At M b o [v0, v1, v2, v3, v4, v5, v6, v7, v8, v9, v10]) : mcell M ⟨b, o + 2, none⟩ = some v2 ∧ mcell M ⟨b, o + 3, none⟩ = some v3 ∧ mcell M ⟨b, o + 4, none⟩ = some v4 ∧ mcell M ⟨b, o + 5, none⟩ = some v5 ∧ mcell M ⟨b, o + 6, none⟩ = some v6 ∧ mcell M ⟨b, o + 7, none⟩ = some v7 := by
  obtain ⟨h0, h1, h2, h3, h4, h5, h6, h7, h8, h9, h10, _⟩ := h
  exact ⟨h2, h3, h4, h5, h6, h7⟩
theorem kidsPl_pos {k : Int} (h : 0 ≤ kidsPl k) (h1 : k ≠ 1) : kidsPl k = 1 ∨ kidsPl k = 2 := by
  unfold kidsPl at h ⊢
  grind
theorem tupL_form {res : Except Int (List Int)} {v : Value} {M : Mem} (h : tupL res v M) : ∃ sv er, v = .tuple ⟨[sv, .int .i64 er]⟩ := by
  cases res with
  | ok l => obtain ⟨sv, rfl, _⟩ := h; exact ⟨_, _, rfl⟩
  | error e => obtain ⟨_, sv, rfl⟩ := h; exact ⟨_, _, rfl⟩
def ClX (p : Pl) : Prop := ∀ (M : Mem) (T : Tm) (b o hb deep n : Nat) (cs : List Value) (tabs : List (List Int)) (tv : Value), At M b o cs → RPl M p cs → RS M (RTb M) 1 tabs tv → (∀ t ∈ tabs, t.length ≤ 8) → n ≤ 60 → deep ≤ 16 →
  CtT Tryz.prog 40 [.pointer (some ⟨hb, 0, none⟩), .pointer (some ⟨b, o, none⟩), .int .i64 (deep : Int)] T M [(hb, [tv, .int .i64 (n : Int)])] [] (fun r M' L' R' => tupL (colsPl tabs deep n p).1 r M' ∧ L' = [(hb, [tv, .int .i64 ((colsPl tabs deep n p).2 : Int)])] ∧ R' = []) noPan
theorem clX : ∀ (sz : Nat) (p : Pl), SizeOf.sizeOf p ≤ sz → ClX p := by
  intro sz
  induction sz with
  | zero => intro p hp; cases p; simp at hp
  | succ sz ih =>
    intro p hsz M T b o hb deep n cs tabs tv hat hp htv htl hn hdeep
    obtain ⟨s1, a1, n1, a2, n2, a3, n3, rfl, hs1, hkx, hxs, hag, hkids⟩ := RPl_form hp
    obtain ⟨m0, m1, m8, m9, m10⟩ := At11 hat
    obtain ⟨hbk, a', c', hsl, hle, hac, hg⟩ := RS_elim (by decide) (fun _ _ => RPl_len) hkids
    injection hsl with h1 h2 h3
    subst h1 h3
    cases p with | mk k pn x xs ags kids =>
    simp only [Pl.k, Pl.n, Pl.x, Pl.xs, Pl.ags, Pl.kids] at m0 m1 m8 m9 m10 hxs hag hkids hle hg hbk hkx
    obtain ⟨S, hS⟩ : ∃ S, S = colsPl tabs deep n (.mk k pn x xs ags kids) := ⟨_, rfl⟩
    rw [← hS]
    rw [colsPl] at hS
    have hwn := wrap_succ n (by omega)
    have hwd := wrap_succ deep (by omega)
    refine ct_run mx bod40 Tryz.func40 rfl (by rw [nt40]; exact Nat.le_of_ble_eq_true rfl) (dr := dr40) (by kernel_rfl) rs40 ?_
    intro hno _
    simp only [noneL, and_true] at hno
    simp +contextual only [go_sem, Rcb, Rbk, sevalprocAttr, hno, hwn, m0]
    by_cases hmuch : 60 < n + 1 ∨ 15 < deep
    · rw [if_pos hmuch] at hS
      rw [if_pos (by omega)]
      exact end_id ExtT.rfl' rfl rfl ⟨by rw [hS]; exact ⟨by decide, _, rfl⟩, by rw [hS], rfl⟩
    rw [if_neg hmuch] at hS
    rw [if_neg (by omega)]
    refine rCall_pure (ct_pkids k T) ?_ (fun _ _ _ _ h => h.elim)
    rintro r M1 hM1 hno1 rfl
    simp only [noneL, and_true] at hno1
    replace m0 := mcell_ext hM1 m0
    replace m1 := mcell_ext hM1 m1
    replace m8 := mcell_ext hM1 m8
    replace m9 := mcell_ext hM1 m9
    replace m10 := mcell_ext hM1 m10
    by_cases hk0 : kidsPl k < 0
    · rw [if_pos hk0] at hS
      simp +contextual only [go_sem, Rcb, Rbk, sevalprocAttr, hk0]
      exact end_id ExtT.rfl' rfl rfl ⟨by rw [hS]; exact ⟨by decide, _, rfl⟩, by rw [hS], rfl⟩
    rw [if_neg hk0] at hS
    by_cases hkl : (kids.length : Int) = kidsPl k
    · rw [if_neg (fun h => h hkl)] at hS
      have hk3 : kids.length ≤ 2 := by
        have : kidsPl k ≤ 2 := by unfold kidsPl; repeat' split <;> omega
        omega
      simp +contextual only [go_sem, Rcb, Rbk, sevalprocAttr, hk0, hkl, m10]
      refine loop_rangeC kids.length 51 [(0, .pointer (some ⟨hb, 0, none⟩)), (1, .pointer (some ⟨b, o, none⟩)), (2, .int .i64 (deep : Int)), (50, .int .i64 (kids.length : Int))]
        (fun i e h => ∃ (M' : Mem) (n' : Nat) (R : RR) (fv : Value) (acc : List (List Int)), Ext M1 M' ∧ M' hb = none ∧ n' ≤ 60 ∧ h = ⟨T, M', [(hb, [tv, .int .i64 (n' : Int)])], R⟩ ∧ e 9 = fv ∧ acc.length = i ∧ (i < kids.length → Acc 24 1 (RTb M') [] R fv acc) ∧ (i = kids.length → R = [] ∧ RS M' (RTb M') 1 acc fv) ∧ preTC acc (colsL tabs (deep + 1) n' (kids.drop i)) = colsL tabs (deep + 1) (n + 1) kids ∧ ∀ t ∈ acc, t.length ≤ 8)
        0 (by omega) (by simp only [live, hkl, go_sem, Rcb, Rbk, sevalprocAttr]) (by simp only [go_sem, Rcb, Rbk, sevalprocAttr]) (Close_id ⟨M1, n + 1, [], .slice none 0 0, [], Ext.rfl', hno1, by omega, rfl, by simp only [go_sem, Rcb, Rbk, sevalprocAttr], rfl, fun _ => Acc_nil, fun _ => ⟨rfl, RS_nil⟩, preTC_nil _, by intro t ht; cases ht⟩) ?_
      rintro i e h hi hlv ht ⟨M2, n', R2, fv, acc, hM2, n2, hn', rfl, e9, hacl, hacc, hfr, hres, hal8⟩
      simp only [live] at hlv
      have x10 := mcell_ext hM2 m10
      by_cases hlt : i < kids.length
      · obtain ⟨b', o', cs', rfl, hatk, hrx⟩ := hg i kids[i] (List.getElem?_eq_getElem hlt)
        have h12 := hM1.trans hM2
        have hdrop : kids.drop i = kids[i] :: kids.drop (i + 1) := List.drop_eq_getElem_cons hlt
        rw [hdrop] at hres
        have hsz2 : SizeOf.sizeOf kids[i] ≤ sz := by
          have h1 := List.sizeOf_lt_of_mem (List.getElem_mem hlt)
          simp only [Pl.mk.sizeOf_spec] at hsz
          omega
        have hle2 := colsPl_le tabs (deep + 1) n' kids[i] hn'
        have hac := hacc hlt
        simp +contextual only [go_sem, Rcb, Rbk, sevalprocAttr, hlv, ht, hlt, x10, hwd]
        refine rCall_one [] (ih kids[i] hsz2 M2 T b' _ hb (deep + 1) n' cs' tabs tv (hatk.ext h12) (RPl_ext h12 _ _ hrx) (RS_ext h12 (RTb_ext h12) htv) htl hn' (by omega)) ?_ (fun _ _ _ _ _ _ h => h.elim)
        rintro r M3 L' hM3 hk3' hno3 ⟨hr, rfl, -⟩
        simp only [List.nil_append, noneL, and_true] at hno3
        rcases hty : colsPl tabs (deep + 1) n' kids[i] with ⟨r1, m⟩
        rw [hty] at hr hle2
        cases r1 with
        | error er =>
          obtain ⟨hne, t, rfl⟩ := hr
          rw [colsL_err hty] at hres
          rw [← hres] at hS
          simp +contextual only [go_sem, Rcb, Rbk, sevalprocAttr, hlv, ht, hlt, hne]
          refine Close_dropAllR (end_id ExtT.rfl' rfl rfl ⟨?_, ?_, rfl⟩)
          · rw [hS]; exact ⟨hne, _, rfl⟩
          · rw [hS]
        | ok t =>
          simp only [tupL] at hr
          obtain ⟨kv, rfl, hkv⟩ := hr
          obtain ⟨_, ka, kc, rfl, _⟩ := RS_elim (by decide) (fun _ _ => RI_len) hkv
          rw [colsL_ok hty] at hres
          have hal8' : ∀ u ∈ acc ++ [t], u.length ≤ 8 := by
            intro u hu
            rw [List.mem_append, List.mem_singleton] at hu
            rcases hu with hu | rfl
            · exact hal8 u hu
            · exact colsPl_len htl (deep + 1) n' kids[i] (by rw [hty])
          simp +contextual only [go_sem, Rcb, Rbk, sevalprocAttr, hlv, ht, hlt, e9]
          intro b7 hb7 hap7
          have hT := hM2.trans hM3
          refine app_acc (Tryz.underlying58) row58 okt58 (Acc_mono (RTb_ext hM3) hac) ⟨_, rfl, hkv⟩ (fun _ _ => RTb_len) (RTb_oneC (M := M3) ⟨_, rfl, hkv⟩) hb7 (by omega) (by decide) ?_
          intro fv' R' hacc'
          simp +contextual only [go_sem, Rcb, Rbk, sevalprocAttr, hlv, ht, hlt]
          refine lp_close (Close_drop ?_)
          by_cases hie : i + 1 = kids.length
          · refine Close_acc hacc' (by rw [List.length_append]; simp only [List.length_cons, List.length_nil]; omega) (by decide) ⟨hno3, trivial⟩ fun M4 hM4 hno4 hrs => Close_id ⟨kids.length - (i + 1), by omega, rfl, i + 1, by omega, rfl, ?_, ?_, M4, m, [], fv', acc ++ [t], hT.trans hM4, hno4.1, hle2.2 t rfl, rfl, ?_, ?_, fun h => absurd h (by omega), fun _ => ⟨rfl, RS_ext Ext.rfl' (RTb_ext hM4) hrs⟩, hres, hal8'⟩
            · simp only [live, hlv, go_sem, Rcb, Rbk, sevalprocAttr]
            · simp only [ht, go_sem, Rcb, Rbk, sevalprocAttr, wrap_succ i (by omega)]
            · simp only [go_sem, Rcb, Rbk, sevalprocAttr]
            · rw [List.length_append, hacl]; rfl
          · refine Close_id ⟨kids.length - (i + 1), by omega, rfl, i + 1, by omega, rfl, ?_, ?_, M3, m, R', fv', acc ++ [t], hT, hno3, hle2.2 t rfl, rfl, ?_, ?_, fun _ => hacc', fun h => absurd h hie, hres, hal8'⟩
            · simp only [live, hlv, go_sem, Rcb, Rbk, sevalprocAttr]
            · simp only [ht, go_sem, Rcb, Rbk, sevalprocAttr, wrap_succ i (by omega)]
            · simp only [go_sem, Rcb, Rbk, sevalprocAttr]
            · rw [List.length_append, hacl]; rfl
      · have : i = kids.length := by omega
        subst this
        obtain ⟨rfl, hfv⟩ := hfr rfl
        rw [List.drop_length, colsL] at hres
        simp only [preTC, List.append_nil] at hres
        rw [← hres] at hS
        simp only at hS
        have h12 := hM1.trans hM2
        replace m0 := mcell_ext hM2 m0
        replace m1 := mcell_ext hM2 m1
        by_cases k1 : k = 1
        · subst k1
          unfold nodeT at hS
          rw [if_pos rfl] at hS
          obtain ⟨_, ta, tc, rfl, htc, _, htg⟩ := RS_elim (by decide) (fun _ _ => RTb_len) htv
          simp +contextual only [go_sem, Rcb, Rbk, sevalprocAttr, hlv, ht, hlt, m0, m1, n2]
          refine draw_all ?_
          by_cases hlo : pn < 0
          · rw [if_neg (by omega)] at hS
            simp +contextual only [go_sem, Rcb, Rbk, sevalprocAttr, hlv, m1, n2, hlo]
            refine Close_dropAllR (end_id ExtT.rfl' rfl rfl ⟨?_, by rw [hS], rfl⟩)
            rw [hS]; exact ⟨by decide, _, rfl⟩
          · by_cases hhi : (tabs.length : Int) ≤ pn
            · rw [if_neg (by omega)] at hS
              simp +contextual only [go_sem, Rcb, Rbk, sevalprocAttr, hlv, m1, n2, hlo, hhi]
              refine Close_dropAllR (end_id ExtT.rfl' rfl rfl ⟨?_, by rw [hS], rfl⟩)
              rw [hS]; exact ⟨by decide, _, rfl⟩
            · rw [if_pos (by omega)] at hS
              obtain ⟨j, rfl⟩ := Int.eq_ofNat_of_zero_le (show 0 ≤ pn by omega)
              have hjl : j < tabs.length := by omega
              obtain ⟨b', o', cs', rfl, hatk, v, rfl, hrv⟩ := htg j tabs[j] (List.getElem?_eq_getElem hjl)
              have z0 := At1 (hatk.ext h12)
              rw [Nat.mul_one] at z0
              simp +contextual only [go_sem, Rcb, Rbk, sevalprocAttr, hlv, m1, n2, hlo, hhi, hjl, z0]
              refine draw_all ?_
              simp +contextual only [go_sem, Rcb, Rbk, sevalprocAttr, hlv, m1, n2, hjl, z0]
              refine end_id ExtT.rfl' rfl rfl ⟨?_, by rw [hS], rfl⟩
              have hgd : tabs.getD (j : Int).toNat [] = tabs[j] := by simp [List.getD, hjl]
              rw [hS, hgd]
              exact ⟨_, rfl, RS_ext h12 (fun _ _ h => h) hrv⟩
        have hlen1 : 1 ≤ kids.length := by
          have := kidsPl_pos (by omega : 0 ≤ kidsPl k) k1
          omega
        obtain ⟨_, fa, fc, rfl, hfc, _, hfg⟩ := RS_elim (by decide) (fun _ _ => RTb_len) hfv
        obtain ⟨b0, o0, cs0, rfl, hat0, v0, rfl, hv0⟩ := hfg 0 acc[0] (List.getElem?_eq_getElem (by omega))
        obtain ⟨_, c0a, c0c, rfl, _⟩ := RS_elim (by decide) (fun _ _ => RI_len) hv0
        have z0 := At1 hat0
        rw [Nat.zero_mul, Nat.add_zero] at z0
        have hal : 0 < acc.length := by omega
        have hal' : (0 : Int) < (acc.length : Int) := by omega
        have hg0 : acc.getD 0 [] = acc[0] := by simp [List.getD, hal]
        by_cases k10 : k = 10 ∨ k = 11
        · have hnode : nodeT tabs k pn x xs ags acc = .ok (acc.getD 0 []) := by unfold nodeT; rcases k10 with rfl | rfl <;> simp
          rw [hnode] at hS
          rcases k10 with rfl | rfl
          · simp +contextual only [go_sem, Rcb, Rbk, sevalprocAttr, hlv, ht, hlt, m0, m1, n2, e9, hal, hal', z0]
            refine end_id ExtT.rfl' rfl rfl ⟨?_, by rw [hS], rfl⟩
            rw [hS, hg0]
            exact ⟨_, rfl, hv0⟩
          · simp +contextual only [go_sem, Rcb, Rbk, sevalprocAttr, hlv, ht, hlt, m0, m1, n2, e9, hal, hal', z0]
            refine end_id ExtT.rfl' rfl rfl ⟨?_, by rw [hS], rfl⟩
            rw [hS, hg0]
            exact ⟨_, rfl, hv0⟩
        · by_cases k12 : k = 12 ∨ k = 13
          · rw [nodeT_group k12, hg0] at hS
            have hpl := RPl_ext h12 _ _ hp
            have hatp := hat.ext h12
            have hgr := ct_grouped (cols := acc[0]) hatp hpl hv0 k12 T
            simp only [Pl.k, Pl.n, Pl.xs, Pl.ags] at hgr
            rcases k12 with rfl | rfl
            · simp +contextual only [go_sem, Rcb, Rbk, sevalprocAttr, hlv, ht, hlt, m0, m1, n2, e9, hal, hal', z0]
              refine rCall_pure hgr ?_ (fun _ _ _ _ h => h.elim)
              rintro r M3 hM3 hno3 hr
              obtain ⟨sv, er, rfl⟩ := tupL_form hr
              simp +contextual only [go_sem, Rcb, Rbk, sevalprocAttr]
              exact end_id ExtT.rfl' rfl rfl ⟨by rw [hS]; exact hr, by rw [hS], rfl⟩
            · simp +contextual only [go_sem, Rcb, Rbk, sevalprocAttr, hlv, ht, hlt, m0, m1, n2, e9, hal, hal', z0]
              refine rCall_pure hgr ?_ (fun _ _ _ _ h => h.elim)
              rintro r M3 hM3 hno3 hr
              obtain ⟨sv, er, rfl⟩ := tupL_form hr
              simp +contextual only [go_sem, Rcb, Rbk, sevalprocAttr]
              exact end_id ExtT.rfl' rfl rfl ⟨by rw [hS]; exact hr, by rw [hS], rfl⟩
          · by_cases k3 : k = 3
            · have hnode : nodeT tabs k pn x xs ags acc = typesX (acc.getD 0 []) xs := by unfold nodeT; subst k3; simp
              rw [hnode, hg0] at hS
              subst k3
              replace m8 := mcell_ext hM2 m8
              simp +contextual only [go_sem, Rcb, Rbk, sevalprocAttr, hlv, ht, hlt, m0, m1, n2, e9, hal, hal', z0]
              refine draw_all ?_
              simp +contextual only [go_sem, Rcb, Rbk, sevalprocAttr, hlv, m0, m8, n2, e9, hal, hal', z0]
              refine rCall_pure (ct_Types hv0 (RS_ext h12 (REx_ext h12) hxs) T) ?_ (fun _ _ _ _ h => h.elim)
              rintro r M3 hM3 hno3 hr
              replace hr := tupN_L hr
              obtain ⟨sv, er, rfl⟩ := tupL_form hr
              simp +contextual only [go_sem, Rcb, Rbk, sevalprocAttr]
              exact end_id ExtT.rfl' rfl rfl ⟨by rw [hS]; exact hr, by rw [hS], rfl⟩
            · by_cases k2 : k = 2
              · subst k2
                rw [nodeT_cond, hg0] at hS
                obtain ⟨x2, x3, x4, x5, x6, x7⟩ := At11x (hat.ext h12)
                have hxx : REx M2 x [.int .i64 x.k, .int .i64 x.v.k, .int .i64 x.v.n, st x.v.t, .int .i64 x.c, s1] := REx_iff.2 ⟨s1, rfl, RS_ext h12 (REx_ext h12) hkx⟩
                simp +contextual only [go_sem, Rcb, Rbk, sevalprocAttr, hlv, ht, hlt, m0, m1, n2, e9, hal, hal', z0]
                refine draw_all ?_
                simp +contextual only [go_sem, Rcb, Rbk, sevalprocAttr, hlv, m0, n2, e9, hal, hal', z0, x2, x3, x4, x5, x6, x7, hs1]
                refine rCall_pure (ct_cond hv0 hxx T) ?_ (fun _ _ _ _ h => h.elim)
                rintro r M3 hM3 hno3 ⟨rfl, hre⟩
                simp +contextual only [go_sem, Rcb, Rbk, sevalprocAttr]
                simp only [noneL, and_true] at hno3
                exact ⟨Sub_ML hM3 ⟨hno3, trivial⟩, end_id ExtT.rfl' rfl rfl ⟨by rw [hS]; exact tupL_cond (RS_ext hM3 (fun _ _ h => h) hv0) hre, by rw [hS], rfl⟩⟩
              have hk49 : 4 ≤ k ∧ k ≤ 9 := by
                unfold kidsPl at hk0
                grind
              have hkp2 : kidsPl k = 2 := by unfold kidsPl; rw [if_neg k1, if_pos hk49]
              have hal2 : 1 < acc.length := by omega
              have hal2' : (1 : Int) < (acc.length : Int) := by omega
              have hg1 : acc.getD 1 [] = acc[1] := by simp [List.getD, hal2]
              obtain ⟨b1, o1, cs1, hbo, hat1, v1, rfl, hv1⟩ := hfg 1 acc[1] (List.getElem?_eq_getElem hal2)
              cases hbo
              obtain ⟨_, c1a, c1c, rfl, _⟩ := RS_elim (by decide) (fun _ _ => RI_len) hv1
              have z1 := At1 hat1
              rw [Nat.one_mul] at z1
              by_cases k8 : k = 8 ∨ k = 9
              · have hnode : nodeT tabs k pn x xs ags acc = togetherT (acc.getD 0 []) (acc.getD 1 []) := by unfold nodeT; rcases k8 with rfl | rfl <;> simp
                rw [hnode, hg0, hg1] at hS
                have hl0 : acc[0].length ≤ 1048576 := Nat.le_trans (hal8 _ (List.getElem_mem hal)) (by decide)
                rcases k8 with rfl | rfl
                · simp +contextual only [go_sem, Rcb, Rbk, sevalprocAttr, hlv, ht, hlt, m0, m1, n2, e9, hal, hal', z0]
                  refine draw_all ?_
                  simp +contextual only [go_sem, Rcb, Rbk, sevalprocAttr, hlv, m0, n2, e9, hal, hal', hal2, hal2', z0, z1]
                  refine rCall_pure (ct_Together hv0 hv1 (by omega) T) ?_ (fun _ _ _ _ h => h.elim)
                  rintro r M3 hM3 hno3 hr
                  replace hr := tupN_L hr
                  obtain ⟨sv, er, rfl⟩ := tupL_form hr
                  simp +contextual only [go_sem, Rcb, Rbk, sevalprocAttr]
                  exact end_id ExtT.rfl' rfl rfl ⟨by rw [hS]; exact hr, by rw [hS], rfl⟩
                · simp +contextual only [go_sem, Rcb, Rbk, sevalprocAttr, hlv, ht, hlt, m0, m1, n2, e9, hal, hal', z0]
                  refine draw_all ?_
                  simp +contextual only [go_sem, Rcb, Rbk, sevalprocAttr, hlv, m0, n2, e9, hal, hal', hal2, hal2', z0, z1]
                  refine rCall_pure (ct_Together hv0 hv1 (by omega) T) ?_ (fun _ _ _ _ h => h.elim)
                  rintro r M3 hM3 hno3 hr
                  replace hr := tupN_L hr
                  obtain ⟨sv, er, rfl⟩ := tupL_form hr
                  simp +contextual only [go_sem, Rcb, Rbk, sevalprocAttr]
                  exact end_id ExtT.rfl' rfl rfl ⟨by rw [hS]; exact hr, by rw [hS], rfl⟩
              · have hk47 : 4 ≤ k ∧ k ≤ 7 := by omega
                rw [nodeT_join hk47, hg0, hg1] at hS
                obtain ⟨x2, x3, x4, x5, x6, x7⟩ := At11x (hat.ext h12)
                have hxx : REx M2 x [.int .i64 x.k, .int .i64 x.v.k, .int .i64 x.v.n, st x.v.t, .int .i64 x.c, s1] := REx_iff.2 ⟨s1, rfl, RS_ext h12 (REx_ext h12) hkx⟩
                have k8a : ¬ k = 8 := fun h => k8 (.inl h)
                have k9a : ¬ k = 9 := fun h => k8 (.inr h)
                have k10a : ¬ k = 10 := fun h => k10 (.inl h)
                have k11a : ¬ k = 11 := fun h => k10 (.inr h)
                have k12a : ¬ k = 12 := fun h => k12 (.inl h)
                have k13a : ¬ k = 13 := fun h => k12 (.inr h)
                simp +contextual only [go_sem, Rcb, Rbk, sevalprocAttr, hlv, ht, hlt, m0, m1, n2, e9, hal, hal', hal2, hal2', z0, z1, k1, k2, k3, k8a, k9a, k10a, k11a, k12a, k13a]
                refine draw_all ?_
                simp +contextual only [go_sem, Rcb, Rbk, sevalprocAttr, hlv, ht, hlt, m0, m1, n2, e9, hal, hal', hal2, hal2', z0, z1]
                intro b1 hb1 hap1
                refine ⟨Sub_ML1 Ext.rfl' ⟨n2, trivial⟩ ⟨hap1, trivial⟩, ?_⟩
                refine rCall_frz bod86 fun M4 hM4 hb4 hno4 => ?_
                simp only [noneL, and_true] at hno4
                have hls : RS M4 (RTb M4) 1 [acc[0], acc[1]] (.slice (some ⟨b1, 0, none⟩) 2 2) := RS_lit (fun _ _ => RTb_len) hb4 (l := [acc[0], acc[1]]) ⟨_, _, rfl, ⟨_, rfl, RS_ext hM4 (fun _ _ h => h) hv0⟩, _, _, rfl, ⟨_, rfl, RS_ext hM4 (fun _ _ h => h) hv1⟩, rfl⟩ rfl (by omega)
                have hl0 := hal8 _ (List.getElem_mem hal)
                have hl1 := hal8 _ (List.getElem_mem hal2)
                refine rCall_pure (ct_ConcatI hls (by simp) (by intro l hl; simp only [List.mem_cons, List.not_mem_nil, or_false] at hl; rcases hl with rfl | rfl <;> omega) T) ?_ (fun _ _ _ _ h => h.elim)
                rintro v M5 hM5 hno5 hv
                simp only [noneL, and_true] at hno5
                rw [List.flatten_cons, List.flatten_cons, List.flatten_nil, List.append_nil] at hv
                obtain ⟨_, va, vc, rfl, _⟩ := RS_elim (by decide) (fun _ _ => RI_len) hv
                have h45 := hM4.trans hM5
                replace m0 := mcell_ext h45 m0
                simp +contextual only [go_sem, Rcb, Rbk, sevalprocAttr]
                refine ⟨Sub_ML h45 ⟨hno5, trivial⟩, ?_⟩
                by_cases h8 : 8 < (acc[0] ++ acc[1]).length
                · have h8' : (8 : Int) < ((acc[0] ++ acc[1]).length : Int) := by omega
                  rw [if_pos h8] at hS
                  simp +contextual only [go_sem, Rcb, Rbk, sevalprocAttr, h8']
                  exact end_id ExtT.rfl' rfl rfl ⟨by rw [hS]; exact ⟨by decide, _, rfl⟩, by rw [hS], rfl⟩
                have h8' : ¬ (8 : Int) < ((acc[0] ++ acc[1]).length : Int) := by omega
                rw [if_neg h8] at hS
                replace hxx := REx_ext h45 _ _ hxx
                replace x2 := mcell_ext h45 x2
                replace x3 := mcell_ext h45 x3
                replace x4 := mcell_ext h45 x4
                replace x5 := mcell_ext h45 x5
                replace x6 := mcell_ext h45 x6
                replace x7 := mcell_ext h45 x7
                replace z0 := mcell_ext h45 z0
                by_cases h56 : k = 5 ∨ k = 6
                · rw [if_pos h56] at hS
                  rcases h56 with rfl | rfl
                  · simp +contextual only [go_sem, Rcb, Rbk, sevalprocAttr, hlv, h8', m0, e9, hno5, hal, hal', z0]
                    refine draw_all ?_
                    simp +contextual only [go_sem, Rcb, Rbk, sevalprocAttr, hlv, m0, hno5, e9, hal, hal', z0, x2, x3, x4, x5, x6, x7, hs1]
                    refine rCall_pure (ct_cond hv hxx T) ?_ (fun _ _ _ _ h => h.elim)
                    rintro r M6 hM6 hno6 ⟨rfl, hre⟩
                    simp only [noneL, and_true] at hno6
                    simp +contextual only [go_sem, Rcb, Rbk, sevalprocAttr]
                    exact ⟨Sub_ML hM6 ⟨hno6, trivial⟩, end_id ExtT.rfl' rfl rfl ⟨by rw [hS]; exact tupL_cond (RS_ext (h45.trans hM6) (fun _ _ h => h) hv0) hre, by rw [hS], rfl⟩⟩
                  · simp +contextual only [go_sem, Rcb, Rbk, sevalprocAttr, hlv, h8', m0, e9, hno5, hal, hal', z0]
                    refine draw_all ?_
                    simp +contextual only [go_sem, Rcb, Rbk, sevalprocAttr, hlv, m0, hno5, e9, hal, hal', z0, x2, x3, x4, x5, x6, x7, hs1]
                    refine rCall_pure (ct_cond hv hxx T) ?_ (fun _ _ _ _ h => h.elim)
                    rintro r M6 hM6 hno6 ⟨rfl, hre⟩
                    simp only [noneL, and_true] at hno6
                    simp +contextual only [go_sem, Rcb, Rbk, sevalprocAttr]
                    exact ⟨Sub_ML hM6 ⟨hno6, trivial⟩, end_id ExtT.rfl' rfl rfl ⟨by rw [hS]; exact tupL_cond (RS_ext (h45.trans hM6) (fun _ _ h => h) hv0) hre, by rw [hS], rfl⟩⟩
                · rw [if_neg h56] at hS
                  have k5a : ¬ k = 5 := fun h => h56 (.inl h)
                  have k6a : ¬ k = 6 := fun h => h56 (.inr h)
                  simp +contextual only [go_sem, Rcb, Rbk, sevalprocAttr, hlv, h8', m0, e9, hno5, hal, hal', z0, k5a, k6a]
                  simp +contextual only [go_sem, Rcb, Rbk, sevalprocAttr, hlv, m0, hno5, e9, hal, hal', z0, x2, x3, x4, x5, x6, x7, hs1]
                  refine rCall_pure (ct_cond hv hxx T) ?_ (fun _ _ _ _ h => h.elim)
                  rintro r M6 hM6 hno6 ⟨rfl, hre⟩
                  simp only [noneL, and_true] at hno6
                  simp +contextual only [go_sem, Rcb, Rbk, sevalprocAttr]
                  exact end_id ExtT.rfl' rfl rfl ⟨by rw [hS]; exact tupL_cond (RS_ext hM6 (fun _ _ h => h) hv) hre, by rw [hS], rfl⟩
    · rw [if_pos hkl] at hS
      simp +contextual only [go_sem, Rcb, Rbk, sevalprocAttr, hk0, hkl, m10]
      exact end_id ExtT.rfl' rfl rfl ⟨by rw [hS]; exact ⟨by decide, _, rfl⟩, by rw [hS], rfl⟩
theorem tabW_len : ∀ {tabs : List (List Int)}, tabW tabs = 0 → ∀ t ∈ tabs, t.length ≤ 8
  | [], _, t, ht => by cases ht
  | u :: l, h, t, ht => by
    rw [tabW] at h
    split at h
    · cases h
    · split at h
      · rcases List.mem_cons.1 ht with rfl | ht
        · omega
        · exact tabW_len h t ht
      · cases h
theorem ct_Cols {M : Mem} {tabs : List (List Int)} {tv : Value} {p : Pl} {cs : List Value} (htv : RS M (RTb M) 1 tabs tv) (hp : RPl M p cs) (T : Tm) :
    CtT Tryz.prog 17 [tv, .agg ⟨cs⟩] T M [] [] (fun r M' _ _ => tupL (colsT tabs p) r M') noPan := by
  obtain ⟨hbk, a, c, rfl, hle, _, hg⟩ := RS_elim (by decide) (fun _ _ => RTb_len) htv
  have hcl := RPl_len hp
  have hone := RPl_oneC hp
  obtain ⟨s1, a1, n1, a2, n2, a3, n3, hcs, hs1, _⟩ := RPl_form hp
  unfold plV at hcs
  unfold colsT
  refine ct_run mx bod17 Tryz.func17 rfl (by rw [nt17]; exact Nat.le_of_ble_eq_true rfl) (dr := dr17) (by kernel_rfl) rs17 ?_
  intro hno _
  by_cases h8 : 8 < tabs.length
  · have h8' : (8 : Int) < (tabs.length : Int) := by omega
    rw [if_pos h8]
    subst hcs
    simp +contextual only [go_sem, Rcb, Rbk, sevalprocAttr, hs1, h8']
    intro b3 T3 hb3 hT3 hTb3
    exact end_none hT3 ⟨by decide, _, rfl⟩
  have h8' : ¬ (8 : Int) < (tabs.length : Int) := by omega
  rw [if_neg h8]
  rw [hcs]
  simp +contextual only [go_sem, Rcb, Rbk, sevalprocAttr, hs1, h8']
  intro b3 T3 hb3 hT3 hTb3
  refine loop_rangeC tabs.length 17 [(0, .slice a tabs.length c), (3, .pointer (some ⟨b3, 0, none⟩)), (15, .slice a tabs.length c), (16, .int .i64 (tabs.length : Int))] (fun i e h => ∃ M', Ext M M' ∧ M' b3 = some cs ∧ h = ⟨T3, M', [], []⟩ ∧ tabW (tabs.drop i) = tabW tabs) 0 (by omega) (by simp only [live, go_sem, Rcb, Rbk, sevalprocAttr]) (by simp only [go_sem, Rcb, Rbk, sevalprocAttr]) (Close_freeze fun he h3 _ => Close_id ⟨_, he, by rw [hcs]; exact h3, rfl, rfl⟩) ?_
  rintro i e h hi hlv ht ⟨M1, hM1, h3, rfl, hres⟩
  simp only [live] at hlv
  by_cases hlt : i < tabs.length
  · obtain ⟨b', o', cs', rfl, hat, v, rfl, hrv⟩ := hg i tabs[i] (List.getElem?_eq_getElem hlt)
    obtain ⟨_, va, vc, rfl, _, _, hvg⟩ := RS_elim (by decide) (fun _ _ => RI_len) hrv
    have x0 := At1 (hat.ext hM1)
    rw [Nat.mul_one] at x0
    have hdrop : tabs.drop i = tabs[i] :: tabs.drop (i + 1) := List.drop_eq_getElem_cons hlt
    rw [hdrop, tabW] at hres
    by_cases hl8 : 8 < tabs[i].length
    · have hl8' : (8 : Int) < (tabs[i].length : Int) := by omega
      rw [if_pos hl8] at hres
      rw [← hres, if_pos (by decide)]
      simp +contextual only [go_sem, Rcb, Rbk, sevalprocAttr, hlv, ht, hlt, x0, hl8']
      exact end_none hT3 ⟨by decide, _, rfl⟩
    have hl8' : ¬ (8 : Int) < (tabs[i].length : Int) := by omega
    rw [if_neg hl8] at hres
    simp +contextual only [go_sem, Rcb, Rbk, sevalprocAttr, hlv, ht, hlt, x0, hl8']
    refine loop_range tabs[i].length 26 [(0, .slice (some ⟨b', o', none⟩) tabs.length c), (3, .pointer (some ⟨b3, 0, none⟩)), (15, .slice (some ⟨b', o', none⟩) tabs.length c), (16, .int .i64 (tabs.length : Int)), (17, .int .i64 (i : Int)), (24, .slice va tabs[i].length vc), (25, .int .i64 (tabs[i].length : Int))] (fun j e h => h = ⟨T3, M1, [], []⟩ ∧ (tabs[i].drop j).all (fun t => decide (1 ≤ t ∧ t ≤ 4)) = tabs[i].all (fun t => decide (1 ≤ t ∧ t ≤ 4))) 0 (by omega) (by simp only [live, hlv, ht, go_sem, Rcb, Rbk, sevalprocAttr]) (by simp only [go_sem, Rcb, Rbk, sevalprocAttr]) ⟨rfl, rfl⟩ ?_
    clear hlv ht e
    rintro j e h hj hlv ht ⟨rfl, hall⟩
    simp only [live] at hlv
    by_cases hjt : j < tabs[i].length
    · obtain ⟨b2, o2, cs2, hb2, hat2, hrx⟩ := hvg j tabs[i][j] (List.getElem?_eq_getElem hjt)
      unfold RI at hrx; subst hrx hb2
      have y0 := At1 (hat2.ext hM1)
      rw [Nat.mul_one] at y0
      have hdrop2 : tabs[i].drop j = tabs[i][j] :: tabs[i].drop (j + 1) := List.drop_eq_getElem_cons hjt
      rw [hdrop2, List.all_cons] at hall
      by_cases hb : 1 ≤ tabs[i][j] ∧ tabs[i][j] ≤ 4
      · rw [decide_eq_true hb, Bool.true_and] at hall
        have hb1 : ¬ tabs[i][j] < 1 := by omega
        have hb2 : ¬ 4 < tabs[i][j] := by omega
        simp +contextual only [go_sem, Rcb, Rbk, sevalprocAttr, hlv, ht, hjt, y0, hb1, hb2]
        refine lp_range hjt ?_ ?_ ⟨rfl, hall⟩
        · simp only [live, hlv, go_sem, Rcb, Rbk, sevalprocAttr]
        · simp only [ht, go_sem, Rcb, Rbk, sevalprocAttr, wrap_succ j (by omega)]
      · rw [decide_eq_false hb, Bool.false_and] at hall
        rw [← hall, if_neg (by decide)] at hres
        rw [← hres, if_pos (by decide)]
        by_cases hb1 : tabs[i][j] < 1
        · simp +contextual only [go_sem, Rcb, Rbk, sevalprocAttr, hlv, ht, hjt, y0, hb1]
          exact end_none hT3 ⟨by decide, _, rfl⟩
        · have hb2 : 4 < tabs[i][j] := by omega
          simp +contextual only [go_sem, Rcb, Rbk, sevalprocAttr, hlv, ht, hjt, y0, hb1, hb2]
          exact end_none hT3 ⟨by decide, _, rfl⟩
    · have : j = tabs[i].length := by omega
      subst this
      rw [List.drop_length] at hall
      rw [← hall, List.all_nil, if_pos rfl] at hres
      simp +contextual only [go_sem, Rcb, Rbk, sevalprocAttr, hlv, ht, hjt]
      refine lp_range hlt ?_ ?_ ⟨M1, hM1, h3, rfl, hres⟩
      · simp only [live, hlv, go_sem, Rcb, Rbk, sevalprocAttr]
      · simp only [hlv, go_sem, Rcb, Rbk, sevalprocAttr, wrap_succ i (by omega)]
  · have : i = tabs.length := by omega
    subst this
    rw [List.drop_length, tabW] at hres
    rw [← hres, if_neg (by simp)]
    have htl := tabW_len hres.symm
    simp +contextual only [go_sem, Rcb, Rbk, sevalprocAttr, hlv, ht, hlt]
    intro b9 T9 hb9 hT9 hTb9
    refine rCall_one [] (clX _ p (Nat.le_refl _) M1 T9 b3 0 b9 1 0 _ tabs _ (At_self h3) (RPl_ext hM1 _ _ hp) (RS_ext hM1 (RTb_ext hM1) htv) htl (by omega) (by omega)) ?_ (fun _ _ _ _ _ _ h => h.elim)
    rintro r M3 L' hM3 hk3' hno3 ⟨hr, rfl, -⟩
    have hTT := hT3.trans hT9
    cases hty : (colsPl tabs 1 0 p).1 with
    | ok t =>
      rw [hty] at hr
      obtain ⟨kv, rfl, hkv⟩ := hr
      have htl := colsPl_len htl 1 0 p hty
      simp +contextual only [go_sem, Rcb, Rbk, sevalprocAttr]
      refine rCall_pure (ct_CloneI hkv (by omega) _) ?_ (fun _ _ _ _ h => h.elim)
      rintro r M4 hM4 hno4 hr
      simp +contextual only [go_sem, Rcb, Rbk, sevalprocAttr]
      exact end_none hTT ⟨_, rfl, hr⟩
    | error er =>
      rw [hty] at hr
      obtain ⟨hne, t, rfl⟩ := hr
      simp +contextual only [go_sem, Rcb, Rbk, sevalprocAttr, hne]
      exact end_none hTT ⟨hne, _, rfl⟩
open Go Vc Go.RowKit
theorem vcL_of_runB {F : Fi} {c : Code} {e : Env} {ds : List Deferred} {h : Sh} (hr : Run Tryz.prog F [.code c] e ds h ⟨⟩) : vcL Tryz.prog F.dr c F.k e ds h := hr
def oopE (e : Int) (r : Bool) : PanicEntry := { v := .iface 89 (.agg #[.int .i64 e]), recovered := r }
theorem w_qcatch_idle (p q r : Addr) (w : World) :
    CallsD Tryz.prog 28 #[.pointer (some p), .pointer (some q), .pointer (some r)] .returning w fun e u' w' => e = .returned (.tuple #[]) ∧ u' = .returning ∧ w' = w := by
  have mixed := mx
  refine callsD_of_wpS Tryz.func28 rfl fun c₀ cs hu => ?_
  apply wpS_seq
  apply wpS_region
  simp [wpOpsS, go_sem, recoverD, hu, nt28, Exit.thenS]
  refine wpS_of_wp ?_
  go_wp2
  cases c₀
  simp_all [bodyPostS, results, rs28]
set_option maxHeartbeats 4000000 in
theorem w_qcatch_pan {w : World} {U : List Nat} {T : Tm} {M : Mem} {bs : List (Option Nat)} {b4 b5 b6 : Nat} {er : Int} {v0 v1 v10 v2 v3 v4 v5 v6 v7 v8 v9 vc ve : Value} (hi : Hp ⟨w, M, U⟩ ⟨T, M, [(b4, [v0, v1, v2, v3, v4, v5, v6, v7, v8, v9, v10]), (b5, [vc]), (b6, [ve])], []⟩ w bs) :
    CallsD Tryz.prog 28 #[.pointer (some ⟨b4, 0, none⟩), .pointer (some ⟨b5, 0, none⟩), .pointer (some ⟨b6, 0, none⟩)] (.panicking [oopE er false]) w fun e u' w' => e = .returned (.tuple #[]) ∧ u' = .panicking [oopE er true] ∧
      Post w U T M [b4, b5, b6] 0 M [(b4, [.int .i64 0, .int .i64 0, .int .i64 0, .int .i64 0, .int .i64 0, st [], .int .i64 0, .slice none 0 0, .slice none 0 0, .slice none 0 0, .slice none 0 0]), (b5, [.slice none 0 0]), (b6, [.int .i64 er])] [] w' := by
  have mixed := mx
  have hTA : ∀ (v : Array Value) (w : World), (Instr.typeAssert (.iface 89 (.agg v)) 20 89 true).run Tryz.prog w = .ok (.tuple #[.agg v, .bool true]) w := fun _ _ => by kernel_rfl
  refine callsD_of_wpS Tryz.func28 rfl fun c₀ cs hu => ?_
  unfold oopE at hu
  apply wpS_seq
  apply wpS_region
  simp [wpOpsS, go_sem, recoverD, hu, nt28, Exit.thenS]
  refine wpS_of_wp ?_
  go_wp2
  have h2 := hi.alloc (t := 89) [.int .i64 er]
  have hap := h2.apart
  have hnd := h2.nodup
  have hns : M w.heap.size = none := (hap _ (by simp)).1
  have hn0 : M b4 = none := (hap _ (by simp)).1
  have hn1 : M b5 = none := (hap _ (by simp)).1
  have hn2 : M b6 = none := (hap _ (by simp)).1
  have hp : (¬ w.heap.size = b4 ∧ ¬ w.heap.size = b5 ∧ ¬ w.heap.size = b6 ∧ ¬ b4 = b5 ∧ ¬ b4 = b6 ∧ ¬ b5 = b6) ∧ (¬ b4 = w.heap.size ∧ ¬ b5 = w.heap.size ∧ ¬ b6 = w.heap.size ∧ ¬ b5 = b4 ∧ ¬ b6 = b4 ∧ ¬ b6 = b5) := by
    simp at hnd
    grind
  refine wp_mono (vcL_sound (c₀ := ⟨w, M, U⟩) (n := 15) (dr := dr28) mx _ (Fi.k ⟨dr28, fun _ ds h => ds = [] ∧ Close h (endF T [b4, b5, b6] 0 (fun _ M' L' R' => M' = M ∧ L' = [(b4, [.int .i64 0, .int .i64 0, .int .i64 0, .int .i64 0, .int .i64 0, st [], .int .i64 0, .slice none 0 0, .slice none 0 0, .slice none 0 0, .slice none 0 0]), (b5, [.slice none 0 0]), (b6, [.int .i64 er])] ∧ R' = []) undef), fun _ _ _ _ => False⟩)
    (fun t => Array.getD _ t undef) [] _ _ _ (by kernel_rfl) ⟨?_, rfl, fun _ => rfl⟩ ⟨_, h2⟩ ?_) ?_
  · simp
  · refine vcL_of_runB (F := ⟨dr28, _, _⟩) ?_
    generalize hE : (fun t => Array.getD _ t undef) = env
    have e0 : env 0 = .pointer (some ⟨b4, 0, none⟩) := by rw [← hE]; simp
    have e1 : env 1 = .pointer (some ⟨b5, 0, none⟩) := by rw [← hE]; simp
    have e2 : env 2 = .pointer (some ⟨b6, 0, none⟩) := by rw [← hE]; simp
    have e4 : env 4 = .pointer (some ⟨w.heap.size, 0, none⟩) := by rw [← hE]; simp
    clear hE
    have hT : ExtT T (T.add w.heap.size 89) := hi.extT
    generalize w.heap.size = bx at *
    simp +contextual only [go_sem, Rcb, Rbk, sevalprocAttr, e0, e1, e2, e4, hns, hn0, hn1, hn2, hp]
    refine ⟨fun _ _ _ _ _ _ _ _ _ h => h, ?_⟩
    refine draw_at ⟨T, fun _ => none, [(bx, _)], []⟩ (Sub_hd hns) ?_
    simp +contextual only [go_sem, Rcb, Rbk, sevalprocAttr, e0, e1, e2, e4, hns, hn0, hn1, hn2, hp]
    repeat refine ⟨Sub_hd hns, ?_⟩
    exact Close_drop (end_id hT rfl rfl ⟨rfl, rfl, rfl⟩)
  · rintro ex act w' hq
    cases ex with
    | normal =>
      obtain ⟨e, ds, h, ha, hw, rfl, hcl⟩ := hq
      obtain ⟨h', hw', hT, hk, hR, hM, hL, hR'⟩ := hcl _ _ hw
      have hpost := closed hT hw' hk hR
      rw [hM, hL, hR'] at hpost
      have hds := ha.2.1
      simp only [Exit.inBlock]
      cases c₀
      exact ⟨hds, _, rfl, .tuple #[], results_none rfl _ _ _, rfl, rfl, hpost⟩
    | ret =>
      obtain ⟨e, ds, h, ha, hw, rfl, hcl⟩ := hq
      obtain ⟨h', hw', hT, hk, hR, hM, hL, hR'⟩ := hcl _ _ hw
      have hpost := closed hT hw' hk hR
      rw [hM, hL, hR'] at hpost
      have hds := ha.2.1
      simp only [Exit.inBlock]
      cases c₀
      exact ⟨hds, _, rfl, .tuple #[], results_none rfl _ _ _, rfl, rfl, hpost⟩
    | panic ch => obtain ⟨_, _, _, _, _, h⟩ := hq; exact h.elim
    | exit id => obtain ⟨_, _, _, _, _, h⟩ := hq; exact h.elim
    | goto l => exact hq.elim
    | outgrown => exact hq.elim
def qqD (b4 b5 b6 : Nat) (ag : Array Value) : Deferred := { target := .fn (.func 28) ⟨[.pointer (some ⟨b4, 0, none⟩), .pointer (some ⟨b5, 0, none⟩), .pointer (some ⟨b6, 0, none⟩)]⟩, args := ag }
def qqRet (T : Tm) (ts : List ResultVar) (post : PostP) (e : Env) (ds : List Deferred) (h : Sh) : Prop :=
  ∃ b4 b5 b6 ag, ds = [qqD b4 b5 b6 ag] ∧ ag.toList = [] ∧ xOpt (resL Tryz.prog e h ts) fun vs => Close h (endF T [] 0 post (tupV vs))
def qqPan (T : Tm) (post : PostP) (ch : List PanicEntry) (e : Env) (ds : List Deferred) (h : Sh) : Prop :=
  ∃ b4 b5 b6 ag er, ds = [qqD b4 b5 b6 ag] ∧ ag.toList = [] ∧ e 4 = .pointer (some ⟨b4, 0, none⟩) ∧ e 5 = .pointer (some ⟨b5, 0, none⟩) ∧ e 6 = .pointer (some ⟨b6, 0, none⟩) ∧ ch = oopB er ∧
    Close h fun h' => ExtT T h'.N ∧ h'.R = [] ∧ (∃ v0 v1 v2 v3 v4 v5 v6 v7 v8 v9 v10 vc ve, h'.L = [(b4, [v0, v1, v2, v3, v4, v5, v6, v7, v8, v9, v10]), (b5, [vc]), (b6, [ve])]) ∧ post (.tuple ⟨[.agg ⟨[.int .i64 0, .int .i64 0, .int .i64 0, .int .i64 0, .int .i64 0, st [], .int .i64 0, .slice none 0 0, .slice none 0 0, .slice none 0 0, .slice none 0 0]⟩, .slice none 0 0, .int .i64 er]⟩) h'.M [] []
def qqFi (T : Tm) (dr : List (Nat × Sched)) (ts : List ResultVar) (post : PostP) : Fi := ⟨dr, qqRet T ts post, qqPan T post⟩
theorem qq_args {b4 b5 b6 : Nat} {ag : Array Value} (h : ag.toList = []) : ag ++ (⟨[.pointer (some ⟨b4, 0, none⟩), .pointer (some ⟨b5, 0, none⟩), .pointer (some ⟨b6, 0, none⟩)]⟩ : Array Value) = #[.pointer (some ⟨b4, 0, none⟩), .pointer (some ⟨b5, 0, none⟩), .pointer (some ⟨b6, 0, none⟩)] := by
  apply Array.toList_inj.1
  simp [h]
theorem qq_leaves {a : Array Value} {R : Ending → World → Prop} {w : World} {b4 b5 b6 : Nat} {ag : Array Value} {u : FrameMode} {fn : Func} (h : ag.toList = []) (hu : u ≠ .run)
    (hc : CallsD Tryz.prog 28 #[.pointer (some ⟨b4, 0, none⟩), .pointer (some ⟨b5, 0, none⟩), .pointer (some ⟨b6, 0, none⟩)] u w fun
      | .returned _, u', w' => Leaves Tryz.prog fn a R [] (settle u') w'
      | .panicked chain, u', w' => Leaves Tryz.prog fn a R [] (raised u' chain) w'
      | .outgrown, _, w' => R .outgrown w') : Leaves Tryz.prog fn a R [qqD b4 b5 b6 ag] u w := by
  refine leaves_cons (f := 28) (args := #[.pointer (some ⟨b4, 0, none⟩), .pointer (some ⟨b5, 0, none⟩), .pointer (some ⟨b6, 0, none⟩)]) hu ?_ hc
  show (invoke (.fn (.func 28) _) ag).run Tryz.prog w = _
  have hfn := Tryz.func28
  simp only [invoke, callFunc, Sem.run_bind, Sem.run_pure, Result.andThen_ok, run_program, hfn]
  rw [qq_args h]
  rfl
theorem qq_body {fn : Func} {T : Tm} {dr U M post} (hr : fn.results.toList = [.cell 4 42, .cell 5 43, .cell 6 32]) {w0 : World} {ex : Exit} {a : Act} {w : World} {n : Nat}
    (hq : KontL.toQ ⟨w0, M, U⟩ n (qqFi T dr fn.results.toList post).k ex a w) : bodyPostD Tryz.prog fn (CtR U T M [] 0 post noPan w0) ex a w := by
  have hret : ∀ {e ds h}, Fr n a e ds → Is ⟨w0, M, U⟩ h w → qqRet T fn.results.toList post e ds h → Leaves Tryz.prog fn a.tmps (CtR U T M [] 0 post noPan w0) a.defers .returning w := by
    rintro e ds h ha hw ⟨b4, b5, b6, ag, rfl, has, hd⟩
    rw [ha.2.1]
    refine qq_leaves has (by simp) ?_
    refine (w_qcatch_idle _ _ _ w).mono ?_
    rintro en u' w' ⟨rfl, rfl, rfl⟩
    obtain ⟨vs, hvs, hcl⟩ := xOpt_iff hd
    obtain ⟨h', hw', hT, hk, hR, hp⟩ := hcl _ _ hw
    exact ⟨_, resL_run hw hvs ha.2.2, h'.M, h'.L, h'.R, closed hT hw' hk hR, hp⟩
  cases ex with
  | normal => obtain ⟨e, ds, h, ha, hw, hd⟩ := hq; exact hret ha hw hd
  | ret => obtain ⟨e, ds, h, ha, hw, hd⟩ := hq; exact hret ha hw hd
  | panic ch =>
    obtain ⟨e, ds, h, ha, hw, b4, b5, b6, ag, er, rfl, has, e4, e5, e6, rfl, hcl⟩ := hq
    show Leaves Tryz.prog fn a.tmps _ a.defers (.panicking _) w
    rw [ha.2.1]
    obtain ⟨⟨N, M', L', R'⟩, ⟨bs, hi⟩, hT, hR, ⟨v0, v1, v2, v3, v4, v5, v6, v7, v8, v9, v10, vc, ve, hL⟩, hp⟩ := hcl _ _ hw
    simp only at hT hR hL hp
    subst hR hL
    have hbs : bs = [] := by simpa using hi.rows.1.symm
    subst hbs
    have hi2 : Hp ⟨w0, M, U⟩ ⟨N, M', [] ++ [(b4, [v0, v1, v2, v3, v4, v5, v6, v7, v8, v9, v10]), (b5, [vc]), (b6, [ve])] ++ [], [] ++ [] ++ []⟩ w ([] ++ [] ++ []) := by simpa using hi
    have henter := hi2.enter rfl rfl
    refine qq_leaves has (by simp) ?_
    refine (w_qcatch_pan (er := er) henter).mono ?_
    rintro en u' w' ⟨rfl, rfl, ⟨⟨bp', hc'⟩, hk, hRl⟩⟩
    have hbp : bp' = [] := by simpa using hc'.rows.1.symm
    subst hbp
    have hfr := hi2.frame (b1 := []) (bp := []) (b2 := []) rfl rfl rfl hc' hk hRl
    have hfr' : Hp ⟨w0, M, U⟩ ⟨N, M', [(b4, [.int .i64 0, .int .i64 0, .int .i64 0, .int .i64 0, .int .i64 0, st [], .int .i64 0, .slice none 0 0, .slice none 0 0, .slice none 0 0, .slice none 0 0]), (b5, [.slice none 0 0]), (b6, [.int .i64 er])], []⟩ w' [] := by simpa using hfr
    have hIs : Is ⟨w0, M, U⟩ ⟨N, M', [(b4, [.int .i64 0, .int .i64 0, .int .i64 0, .int .i64 0, .int .i64 0, st [], .int .i64 0, .slice none 0 0, .slice none 0 0, .slice none 0 0, .slice none 0 0]), (b5, [.slice none 0 0]), (b6, [.int .i64 er])], []⟩ w' := ⟨[], hfr'⟩
    have hn0 : M' b4 = none := (hfr'.apart _ (by simp)).1
    have hn1 : M' b5 = none := (hfr'.apart _ (by simp)).1
    have hn2 : M' b6 = none := (hfr'.apart _ (by simp)).1
    have hne : (¬ b4 = b5 ∧ ¬ b4 = b6 ∧ ¬ b5 = b6) ∧ (¬ b5 = b4 ∧ ¬ b6 = b4 ∧ ¬ b6 = b5) := by
      have := hfr'.nodup
      simp at this
      grind
    have hres : resL Tryz.prog e ⟨N, M', [(b4, [.int .i64 0, .int .i64 0, .int .i64 0, .int .i64 0, .int .i64 0, st [], .int .i64 0, .slice none 0 0, .slice none 0 0, .slice none 0 0, .slice none 0 0]), (b5, [.slice none 0 0]), (b6, [.int .i64 er])], []⟩ fn.results.toList = some [.agg ⟨[.int .i64 0, .int .i64 0, .int .i64 0, .int .i64 0, .int .i64 0, st [], .int .i64 0, .slice none 0 0, .slice none 0 0, .slice none 0 0, .slice none 0 0]⟩, .slice none 0 0, .int .i64 er] := by
      rw [hr]
      simp +contextual only [go_sem, Rcb, Rbk, sevalprocAttr, e4, e5, e6, hn0, hn1, hn2, hne]
    have hset : settle (.panicking [oopE er true]) = .returning := rfl
    show Leaves Tryz.prog fn a.tmps _ [] (settle (.panicking [oopE er true])) w'
    rw [hset]
    obtain ⟨h', hw', hT', hk', hR', hp'⟩ := (end_none (T := T) (R := []) (L := [(b4, [.int .i64 0, .int .i64 0, .int .i64 0, .int .i64 0, .int .i64 0, st [], .int .i64 0, .slice none 0 0, .slice none 0 0, .slice none 0 0, .slice none 0 0]), (b5, [.slice none 0 0]), (b6, [.int .i64 er])]) (post := post) (v := .tuple ⟨[.agg ⟨[.int .i64 0, .int .i64 0, .int .i64 0, .int .i64 0, .int .i64 0, st [], .int .i64 0, .slice none 0 0, .slice none 0 0, .slice none 0 0, .slice none 0 0]⟩, .slice none 0 0, .int .i64 er]⟩) hT hp) _ _ hIs
    exact ⟨_, resL_run hIs hres ha.2.2, h'.M, h'.L, h'.R, closed hT' hw' hk' hR', hp'⟩
  | exit id => obtain ⟨_, _, _, _, _, h⟩ := hq; exact h.elim
  | goto l => exact hq.elim
  | outgrown => exact hq.elim
theorem ct_runqq {f : FuncId} {fn : Func} {c : Code} {args : List Value} {dr} {T : Tm} {M post} (hbd : bodied Tryz.prog f = true)
    (hf : Tryz.prog.funcs[f]? = some fn) (hb : fn.body = some c) (hn : args.length ≤ fn.ntmps) (hc : codeOkL Tryz.prog fn.ntmps dr c = true) (hr : fn.results.toList = [.cell 4 42, .cell 5 43, .cell 6 32])
    (h : Run Tryz.prog (qqFi T dr fn.results.toList post) [.code c] (env0 args) [] ⟨T, M, [], []⟩ ⟨⟩) : CtT Tryz.prog f args T M [] [] post noPan := by
  refine ⟨hbd, fun w U hw => calls_of_wp_defers hf hb ?_⟩
  obtain ⟨h1, h2, h3⟩ := hw.facts
  have := vcL_sound (c₀ := ⟨w, M, U⟩) mx c (qqFi T dr fn.results.toList post).k (env0 args) [] ⟨T, M, [], []⟩ w _ hc (fr0 args.toArray fn.ntmps (by simpa using hn)) h3 h
  exact wp_mono this fun ex a w' hq => qq_body hr hq
theorem qqFi_ret {T dr ts post} : (qqFi T dr ts post).ret = qqRet T ts post := (rfl)
theorem qqFi_pan {T dr ts post} : (qqFi T dr ts post).pan = qqPan T post := (rfl)
theorem qqFi_dr {T dr ts post} : (qqFi T dr ts post).dr = dr := (rfl)
theorem PanOk_qq {T post} (ops : List Oper) (h : (ops.all fun o => match o.dst with | some d => d != 4 && d != 5 && d != 6 | none => true) = true) : PanOk (qqPan T post) ops := by
  intro o ho d hd ch e v ds h' hp
  have := List.all_eq_true.1 h o ho
  rw [hd] at this
  simp at this
  obtain ⟨b4, b5, b6, ag, er, h1, h2, h4, h5, h6, k5, k6⟩ := hp
  unfold upd at h4 h5 h6
  rw [if_neg (fun h => (by grind))] at h4
  rw [if_neg (fun h => (by grind))] at h5
  rw [if_neg (fun h => (by grind))] at h6
  exact ⟨b4, b5, b6, ag, er, h1, h2, h4, h5, h6, k5, k6⟩
end Go.Proofs.YtmccpbcbofhmlaaGreatDoor

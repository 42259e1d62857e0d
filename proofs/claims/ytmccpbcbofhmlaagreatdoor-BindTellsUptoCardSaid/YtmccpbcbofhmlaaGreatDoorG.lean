import Derived.Test.YtmccpbcbofhmlaaGreatDoorF
set_option linter.all false
namespace Go.Proofs.YtmccpbcbofhmlaaGreatDoor
open Go Vc
set_option maxRecDepth 10000
def postQB (rels : List Rel) (q : Q) : PostP := fun r M' _ _ => match boundM rels q with
  | .ok w => ∃ cs cv, r = .tuple ⟨[.agg ⟨cs⟩, cv, .int .i64 0]⟩ ∧ RPl M' w.1 cs ∧ RS M' RCo 2 w.2 cv
  | .error e => e ≠ 0 ∧ ∃ cs, r = .tuple ⟨[.agg ⟨cs⟩, .slice none 0 0, .int .i64 e]⟩ ∧ RPl M' zeroP cs
theorem RPl_zero {M : Mem} : RPl M zeroP z11 := by
  refine RPl_iff.2 ⟨[.int .i64 0, .int .i64 0, .int .i64 0, st [], .int .i64 0, .slice none 0 0], .slice none 0 0, .slice none 0 0, .slice none 0 0, rfl, ?_, RS_nil, RS_nil, RS_nil⟩
  exact REx_iff.2 ⟨_, rfl, RS_nil⟩
theorem qq_fault {T N : Tm} {M : Mem} {rels : List Rel} {q : Q} {A B : LL} {R : RR} {b4 b5 b6 : Nat} {v0 v1 v2 v3 v4 v5 v6 v7 v8 v9 v10 vc ve : Value} {er : Int} {ag : Array Value} {e : Env} (hr : boundM rels q = .error er) (h0 : er ≠ 0) (hT : ExtT T N) (hag : ag.toList = [])
    (e4 : e 4 = .pointer (some ⟨b4, 0, none⟩)) (e5 : e 5 = .pointer (some ⟨b5, 0, none⟩)) (e6 : e 6 = .pointer (some ⟨b6, 0, none⟩)) :
    qqPan T (postQB rels q) (oopB er) e [qqD b4 b5 b6 ag] ⟨N, M, A ++ (b6, [ve]) :: (b5, [vc]) :: (b4, [v0, v1, v2, v3, v4, v5, v6, v7, v8, v9, v10]) :: B, R⟩ := by
  refine ⟨b4, b5, b6, ag, er, rfl, hag, e4, e5, e6, rfl, Close_dropL A (Close_dropAllR (Close_perm (L' := B ++ [(b4, [v0, v1, v2, v3, v4, v5, v6, v7, v8, v9, v10]), (b5, [vc]), (b6, [ve])]) ?_ (Close_dropL B (Close_id ⟨hT, rfl, ⟨_, _, _, _, _, _, _, _, _, _, _, _, _, rfl⟩, ?_⟩))))⟩
  · refine List.Perm.trans (l₂ := [(b4, [v0, v1, v2, v3, v4, v5, v6, v7, v8, v9, v10]), (b5, [vc]), (b6, [ve])] ++ B) ?_ List.perm_append_comm
    have h3 : ([(b6, [ve]), (b5, [vc]), (b4, [v0, v1, v2, v3, v4, v5, v6, v7, v8, v9, v10])] : LL).Perm [(b4, [v0, v1, v2, v3, v4, v5, v6, v7, v8, v9, v10]), (b5, [vc]), (b6, [ve])] := by
      have := List.reverse_perm ([(b4, [v0, v1, v2, v3, v4, v5, v6, v7, v8, v9, v10]), (b5, [vc]), (b6, [ve])] : LL)
      simpa using this
    exact h3.append_right B
  · unfold postQB
    rw [hr]
    exact ⟨h0, _, rfl, RPl_zero⟩
theorem qq_fail {T N : Tm} {M : Mem} {rels : List Rel} {q : Q} {A B : LL} {R : RR} {b4 b5 b6 : Nat} {v0 v1 v2 v3 v4 v5 v6 v7 v8 v9 v10 vc ve : Value} {er : Int} {ag : Array Value} {e : Env} {dr ts} (hr : boundM rels q = .error er) (h0 : er ≠ 0) (hT : ExtT T N) (hag : ag.toList = [])
    (e4 : e 4 = .pointer (some ⟨b4, 0, none⟩)) (e5 : e 5 = .pointer (some ⟨b5, 0, none⟩)) (e6 : e 6 = .pointer (some ⟨b6, 0, none⟩)) :
    (qqFi T dr ts (postQB rels q)).pan (oopB er) e [qqD b4 b5 b6 ag] ⟨N, M, A ++ (b6, [ve]) :: (b5, [vc]) :: (b4, [v0, v1, v2, v3, v4, v5, v6, v7, v8, v9, v10]) :: B, R⟩ := by
  rw [qqFi_pan]
  exact qq_fault hr h0 hT hag e4 e5 e6
theorem selB_nlen {rels : List Rel} (hc : ∀ r ∈ rels, r.cols.length ≤ 1048576) {s : Se} (hok : OkSe s) {r : Pl × List Bs} (h : selB rels s = .ok r) : r.2.length ≤ 16777216 := by
  unfold selB at h
  split at h
  · cases h
  · rename_i f hf
    have h1 := fromM_len hc hf
    have h2 := hok.src
    split at h
    · cases h
    · simp only at h
      split at h
      · cases h
      · injection h with h
        rw [← h]
        simp only
        split
        · rw [List.length_map]; omega
        · rename_i hs
          have h3 := (hok.its (by simpa using hs)).1
          have h4 : ∀ (l : List It) (i : Nat), (calledL i l).length = l.length := by
            intro l
            induction l with
            | nil => intro i; rfl
            | cons x l ih => intro i; rw [calledL, List.length_cons, List.length_cons, ih]
          rw [h4]; omega
theorem partsB_cons0 {rels : List Rel} {ops : List Int} {p : Pl} {names : List Bs} {s : Se} {l : List Se} {r : Pl × List Bs} (h : selB rels s = .ok r) : partsB rels ops 0 p names (s :: l) = partsB rels ops 1 r.1 r.2 l := by
  rw [partsB, h]; rfl
theorem partsB_consS {rels : List Rel} {ops : List Int} {i : Nat} {p : Pl} {names : List Bs} {s : Se} {l : List Se} {r : Pl × List Bs} (h : selB rels s = .ok r) (h0 : i ≠ 0) : partsB rels ops i p names (s :: l) = partsB rels ops (i + 1) (setB (ops.getD (i - 1) 0) p r.1) names l := by
  rw [partsB, h]; simp only; rw [if_neg h0]
theorem partsB_err {rels : List Rel} {ops : List Int} {i : Nat} {p : Pl} {names : List Bs} {s : Se} {l : List Se} {e : Int} (h : selB rels s = .error e) : partsB rels ops i p names (s :: l) = .error e := by
  rw [partsB, h]
theorem Close_pre {N : Tm} {L : LL} {R : RR} {k : Sh → Prop} : ∀ {A : LL} {M : Mem}, noneL M (A ++ L) → (∀ M', Ext M M' → heldL M' A → noneL M' L → Close ⟨N, M', L, R⟩ k) → Close ⟨N, M, A ++ L, R⟩ k
  | [], M, hn, h => h M Ext.rfl' trivial hn
  | (b, cs) :: A, M, hn, h => Close_freeze fun he hb hno => Close_pre hno fun M' hM' hA hL => h M' (he.trans hM') ⟨hM' _ _ hb, hA⟩ hL
theorem topB_nolim {q : Q} {r : Pl × List Bs} (h : ¬ 0 ≤ q.limit) : topB q r = .ok r.1 := by unfold topB; rw [if_neg h]
theorem topB_err {q : Q} {r : Pl × List Bs} {e : Int} (h : 0 ≤ q.limit) (he : exprsB (r.2.map fun n => ([], n)) q.order = .error e) : topB q r = .error e := by unfold topB; rw [if_pos h, he]
theorem topB_ok {q : Q} {r : Pl × List Bs} {xs : List Ex} (h : 0 ≤ q.limit) (he : exprsB (r.2.map fun n => ([], n)) q.order = .ok xs) : topB q r = .ok (.mk 13 q.limit zeroE xs [] [r.1]) := by unfold topB; rw [if_pos h, he]
def QbQ (rels : List Rel) (q : Q) (T : Tm) (M : Mem) (b3 b4 b5 b6 : Nat) (r0 nv : Value) (names : List Bs) (e : Env) (ds : List Deferred) (h : Sh) : Prop :=
  ds = [qqD b4 b5 b6 #[]] ∧ live e [(0, r0), (3, .pointer (some ⟨b3, 0, none⟩)), (4, .pointer (some ⟨b4, 0, none⟩)), (5, .pointer (some ⟨b5, 0, none⟩)), (6, .pointer (some ⟨b6, 0, none⟩)), (8, nv)] ∧
  ∃ N' M' p' A c0 c1 c2 c3 c4 c5 c6 c7 c8 c9 c10, ExtT T N' ∧ Ext M M' ∧ noneL M' (A ++ [(b6, [.int .i64 0]), (b5, [.slice none 0 0]), (b4, [c0, c1, c2, c3, c4, c5, c6, c7, c8, c9, c10])]) ∧ apart1 b4 A ∧
    (∀ M'', Ext M' M'' → heldL M'' A → RPl M'' p' [c0, c1, c2, c3, c4, c5, c6, c7, c8, c9, c10]) ∧ queryB rels q = .ok (p', names) ∧ h = ⟨N', M', A ++ [(b6, [.int .i64 0]), (b5, [.slice none 0 0]), (b4, [c0, c1, c2, c3, c4, c5, c6, c7, c8, c9, c10])], []⟩
theorem RCo_oneB {c : Co} {cs : List Value} (h : RCo c cs) : ∀ u ∈ cs, u.oneCell' = true := by
  rw [h]; intro u hu; simp only [List.mem_cons, List.not_mem_nil, or_false] at hu; rcases hu with rfl | rfl <;> rfl
theorem zipC_get : ∀ {l : List Bs} {m : List Int} {i : Nat} (h : i < m.length) (hl : m.length ≤ l.length), (zipC l m)[i]? = some ⟨l[i], m[i]⟩
  | a :: l, t :: m, 0, _, _ => rfl
  | a :: l, t :: m, i + 1, h, hl => by
    rw [zipC, List.getElem?_cons_succ, zipC_get (by simpa using h) (by simpa using hl)]; rfl
  | [], t :: m, _, _, hl => by simp at hl
theorem zipC_len2 : ∀ {l : List Bs} {m : List Int}, m.length ≤ l.length → (zipC l m).length = m.length
  | [], [], _ => rfl
  | a :: l, [], _ => rfl
  | a :: l, t :: m, h => by rw [zipC, List.length_cons, List.length_cons, zipC_len2 (by simpa using h)]
  | [], t :: m, hl => by simp at hl
theorem ct_bQuery {M : Mem} {rels : List Rel} {rv : Value} {q : Q} {cs : List Value} (hr : RS M (RRel M) 14 rels rv) (hq : RQ M q cs) (hlen : rels.length ≤ 1048576) (hcols : ∀ r ∈ rels, r.cols.length ≤ 1048576) (hok : ∀ s ∈ q.parts, OkSe s)
    (hpar : q.parts.length ≤ q.ops.length + 1) (hpl : q.parts.length ≤ 1048576) (hord : 0 ≤ q.limit → q.order.length ≤ 1048576 ∧ ∀ x ∈ q.order, okX x) (hne : ∀ e, queryB rels q = .error e → e ≠ 0) (hwid : ∀ r t, queryB rels q = .ok r → colsT (tablesM rels) r.1 = .ok t → t.length ≤ r.2.length) (T : Tm) :
    CtT Tryz.prog 10 [rv, .agg ⟨cs⟩] T M [] [] (postQB rels q) noPan := by
  obtain ⟨_, ra, rc, rfl, _⟩ := RS_elim (by decide) (fun _ _ => RRel_len) hr
  obtain ⟨pv, ov, dv, hps, hos, hds, hcs⟩ := hq
  obtain ⟨hpb, pa, pc, rfl, hple, _, hpg⟩ := RS_elim (by decide) (fun _ _ => RSe_len) hps
  obtain ⟨_, oa, oc, rfl, _, _, hog⟩ := RS_elim (by decide) (fun _ _ => RI_len) hos
  obtain ⟨_, da, dc, rfl, _⟩ := RS_elim (by decide) (fun _ _ => RX_len) hds
  subst hcs
  refine ct_runqq bod10 Tryz.func10 rfl (by rw [nt10]; exact Nat.le_of_ble_eq_true rfl) (dr := dr10) (by kernel_rfl) rs10 ?_
  rw [rs10]
  simp +contextual only [go_sem, Rcb, Rbk, sevalprocAttr, qqFi_ret, qqFi_dr]
  intro b3 T3 hb3 hT3 hTb3 b4 T4 hb4 hap4 hT4 hTb4 b5 T5 hb5 hap5 hT5 hTb5 b6 T6 hb6 hap6 hT6 hTb6 b7 T7 hb7 hap7 hT7 hTb7
  have hT := (((hT3.trans hT4).trans hT5).trans hT6).trans hT7
  have hap : (¬ b6 = b5 ∧ ¬ b5 = b6) ∧ (¬ b6 = b4 ∧ ¬ b4 = b6) ∧ (¬ b5 = b4 ∧ ¬ b4 = b5) := ⟨hap6.1, hap6.2.1, hap5.1⟩
  refine loop_rangeC q.parts.length 25 [(0, .slice ra rels.length rc), (3, .pointer (some ⟨b3, 0, none⟩)), (4, .pointer (some ⟨b4, 0, none⟩)), (5, .pointer (some ⟨b5, 0, none⟩)), (6, .pointer (some ⟨b6, 0, none⟩)), (7, .pointer (some ⟨b7, 0, none⟩)), (24, .int .i64 (q.parts.length : Int))]
    (fun i e h => ∃ N' M' p names nv c0 c1 c2 c3 c4 c5 c6 c7 c8 c9 c10, ExtT T N' ∧ Ext M M' ∧ M' b7 = some [.slice ra rels.length rc] ∧ M' b3 = some [.slice pa q.parts.length pc, .slice oa q.ops.length oc, .slice da q.order.length dc, .int .i64 q.limit] ∧ M' b6 = none ∧ M' b5 = none ∧ M' b4 = none ∧
      RPl M' p [c0, c1, c2, c3, c4, c5, c6, c7, c8, c9, c10] ∧ e 8 = nv ∧ RS M' RSt 1 names nv ∧ names.length ≤ 16777216 ∧ partsB rels q.ops i p names (q.parts.drop i) = partsB rels q.ops 0 zeroP [] q.parts ∧ h = ⟨N', M', [(b6, [.int .i64 0]), (b5, [.slice none 0 0]), (b4, [c0, c1, c2, c3, c4, c5, c6, c7, c8, c9, c10])], []⟩)
    0 (by omega) (by simp only [live, go_sem, Rcb, Rbk, sevalprocAttr]) (by simp only [go_sem, Rcb, Rbk, sevalprocAttr])
    (Close_perm (L' := [(b7, [.slice ra rels.length rc]), (b3, [.slice pa q.parts.length pc, .slice oa q.ops.length oc, .slice da q.order.length dc, .int .i64 q.limit]), (b6, [.int .i64 0]), (b5, [.slice none 0 0]), (b4, z11)]) ((List.perm_append_comm (l₁ := [(b6, _), (b5, _), (b4, _)]) (l₂ := [(b3, _)])).cons _) (Close_freeze fun he1 h7 hno1 => Close_freeze fun he2 h3 hno2 => Close_id ⟨T7, _, zeroP, [], .slice none 0 0, _, _, _, _, _, _, _, _, _, _, _, hT, he1.trans he2, he2 _ _ h7, h3, hno2.1, hno2.2.1, hno2.2.2.1, RPl_zero, by simp only [go_sem, Rcb, Rbk, sevalprocAttr], RS_nil, by simp, rfl, rfl⟩)) ?_
  rintro i e h hi hlv ht ⟨T8, M1, p, names, nv, c0, c1, c2, c3, c4, c5, c6, c7, c8, c9, c10, hT8, hM1, h7, h3, n6, n5, n4, hp, e8, hnv, hnl, hres, rfl⟩
  simp only [live] at hlv
  have hb7s := hcols
  by_cases hlt : i < q.parts.length
  · obtain ⟨b', o', cs', rfl, hat, hrx⟩ := hpg i q.parts[i] (List.getElem?_eq_getElem hlt)
    have hdrop : q.parts.drop i = q.parts[i] :: q.parts.drop (i + 1) := List.drop_eq_getElem_cons hlt
    rw [hdrop] at hres
    have hoki := hok q.parts[i] (List.getElem_mem hlt)
    simp +contextual only [go_sem, Rcb, Rbk, sevalprocAttr, qqFi_ret, qqFi_dr, hlv, ht, hlt, mcell_some h3]
    refine rCall_pure (ct_bsel (RS_ext hM1 (RRel_ext hM1) hr) h7 hcols (hat.ext hM1) (RSe_ext hM1 _ _ hrx) hoki T8) ?_ ?_
    rotate_left
    · rintro ch M2 hM2 hno2 ⟨er, he, rfl⟩
      rw [partsB_err he] at hres
      have hqe : queryB rels q = .error er := by unfold queryB; rw [← hres]
      refine qq_fail (A := []) (B := []) (by unfold boundM; rw [hqe]) (hne er hqe) hT8 rfl ?_ ?_ ?_
      · simp only [hlv, go_sem, Rcb, Rbk, sevalprocAttr]
      · simp only [hlv, go_sem, Rcb, Rbk, sevalprocAttr]
      · simp only [hlv, go_sem, Rcb, Rbk, sevalprocAttr]
    rintro v M2 hM2 hno2 ⟨⟨r, rn⟩, hsel, qs, rnv, rfl, hrp, hrn⟩
    simp only at hrp hrn
    simp only [List.cons_append, List.nil_append, noneL, noneL_wL] at hno2
    obtain ⟨_, rna, rnc, rfl, _⟩ := RS_elim (by decide) (fun _ _ => RSt_len) hrn
    obtain ⟨d0, d1, d2, d3, d4, d5, d6, d7, d8, d9, d10, rfl, hd⟩ := RPl_cells hrp
    have hM12 := hM1.trans hM2
    replace h3 := hM2 _ _ h3
    replace h7 := hM2 _ _ h7
    rcases Nat.eq_zero_or_pos i with hi0 | hi0
    · subst hi0
      rw [partsB_cons0 hsel] at hres
      simp +contextual only [go_sem, Rcb, Rbk, sevalprocAttr, qqFi_ret, qqFi_dr, hlv, ht, hlt, hd, hap, hno2]
      intro b10 T10 hb10 hap10 hT10 hTb10
      refine lp_close (Close_drop (Close_id ⟨q.parts.length - 1, by omega, rfl, 1, by omega, rfl, ?_, ?_, T10, M2, r, rn, _, d0, d1, d2, d3, d4, d5, d6, d7, d8, d9, d10, hT8.trans hT10, hM12, h7, h3, hno2.1, hno2.2.1, hno2.2.2.1, hrp, ?_, hrn, selB_nlen hcols hoki hsel, hres, rfl⟩))
      · simp only [live, hlv, go_sem, Rcb, Rbk, sevalprocAttr]
      · simp only [ht, go_sem, Rcb, Rbk, sevalprocAttr]; rfl
      · simp only [go_sem, Rcb, Rbk, sevalprocAttr]
    · have hi1 : i ≠ 0 := by omega
      have hi2 : ¬ ((i : Int) = 0) := by omega
      rw [partsB_consS hsel hi1] at hres
      have hoi : i - 1 < q.ops.length := by omega
      obtain ⟨b2, o2, cs2, rfl, hat2, hrx2⟩ := hog (i - 1) q.ops[i - 1] (List.getElem?_eq_getElem hoi)
      unfold RI at hrx2; subst hrx2
      have z0 := At1 (hat2.ext hM12)
      rw [Nat.mul_one] at z0
      have hgd : q.ops.getD (i - 1) 0 = q.ops[i - 1] := by simp [List.getD, hoi]
      have hwi : IntKind.i64.wrap ((i : Int) - 1) = ((i - 1 : Nat) : Int) := by rw [wrap64 (by omega) (by omega)]; omega
      rw [hgd] at hres
      simp +contextual only [go_sem, Rcb, Rbk, sevalprocAttr, qqFi_ret, qqFi_dr, hlv, ht, hlt, hd, hap, hno2, hi2]
      intro b10 T10 hb10 hap10 hT10 hTb10
      rw [qqFi_pan]
      refine ⟨PanOk_qq _ rfl, draw_all ?_⟩
      have hz := hap10
      simp +contextual only [go_sem, Rcb, Rbk, sevalprocAttr, qqFi_ret, qqFi_dr, qqFi_pan, hlv, ht, hlt, hd, hap, hno2, hi2, mcell_some h3, hwi, hoi, z0, hap10, hb10]
      have hpM := RPl_ext hM2 _ _ hp
      refine rCall_pure (ct_bset (op := q.ops[i - 1]) hpM hrp T10) ?_ (fun _ _ _ _ h => h.elim)
      rintro v M3 hM3 hno3 ⟨gs, rfl, hgp⟩
      obtain ⟨g0, g1, g2, g3, g4, g5, g6, g7, g8, g9, g10, rfl, hg⟩ := RPl_cells hgp
      simp only [List.cons_append, List.nil_append, noneL, noneL_wL] at hno3
      simp +contextual only [go_sem, Rcb, Rbk, sevalprocAttr, qqFi_ret, qqFi_dr, qqFi_pan, hlv, ht, hap, hap10, hno3, hg]
      repeat refine ⟨Sub_ML hM3 ⟨hno3.1, hno3.2.1, hno3.2.2.1, hno3.2.2.2.1, trivial⟩, ?_⟩
      refine lp_close (Close_drop (Close_id ⟨q.parts.length - (i + 1), by omega, rfl, i + 1, by omega, rfl, ?_, ?_, T10, M3, _, names, _, g0, g1, g2, g3, g4, g5, g6, g7, g8, g9, g10, hT8.trans hT10, hM12.trans hM3, hM3 _ _ h7, hM3 _ _ h3, hno3.2.1, hno3.2.2.1, hno3.2.2.2.1, hgp, ?_, RS_ext (hM2.trans hM3) (fun _ _ h => h) hnv, hnl, hres, rfl⟩))
      · simp only [live, hlv, go_sem, Rcb, Rbk, sevalprocAttr]
      · simp only [ht, go_sem, Rcb, Rbk, sevalprocAttr, wrap_succ i (by omega)]
      · simp only [e8, go_sem, Rcb, Rbk, sevalprocAttr]
  · have : i = q.parts.length := by omega
    subst this
    rw [List.drop_length, partsB] at hres
    obtain ⟨_, na, nc, rfl, _, _, hng⟩ := RS_elim (by decide) (fun _ _ => RSt_len) hnv
    have hqb : queryB rels q = (match topB q (p, names) with | .error e => .error e | .ok p => .ok (p, names)) := by unfold queryB; rw [← hres]; simp only; cases topB q (p, names) <;> rfl
    simp +contextual only [go_sem, sevalprocAttr, qqFi_ret, qqFi_dr, hlv, ht, hlt, e8, mcell_some h3]
    rw [rCond_bool]
    simp +contextual only [go_sem, sevalprocAttr, qqFi_ret, qqFi_dr, hlv, ht, hlt, e8, mcell_some h3]
    refine cond_cut (QbQ rels q T M1 b3 b4 b5 b6 (.slice ra rels.length rc) (.slice na names.length nc) names) (fun S' hS' => ?_) ?_
    · rw [rCond_bool]
      by_cases hl0 : 0 ≤ q.limit
      · simp +contextual only [go_sem, Rcb, Rbk, sevalprocAttr, qqFi_ret, qqFi_dr, hl0, hlv, e8]
        intro b12 T12 hb12 hap12 hT12 hTb12
        refine loop_range names.length 58 [(0, .slice ra rels.length rc), (3, .pointer (some ⟨b3, 0, none⟩)), (4, .pointer (some ⟨b4, 0, none⟩)), (5, .pointer (some ⟨b5, 0, none⟩)), (6, .pointer (some ⟨b6, 0, none⟩)), (8, .slice na names.length nc), (12, .pointer (some ⟨b12, 0, none⟩)), (56, .slice na names.length nc), (57, .int .i64 (names.length : Int))]
          (fun j e h => ∃ N' R cv, ExtT T12 N' ∧ Acc 104 2 RCl [] R cv ((names.take j).map fun n => ([], n)) ∧ h = ⟨N', M1, [(b12, [cv, .slice none 0 0, .pointer none, .pointer none]), (b6, [.int .i64 0]), (b5, [.slice none 0 0]), (b4, [c0, c1, c2, c3, c4, c5, c6, c7, c8, c9, c10])], R⟩)
          0 (by omega) (by simp only [live, hlv, e8, go_sem, Rcb, Rbk, sevalprocAttr]) (by simp only [go_sem, Rcb, Rbk, sevalprocAttr]) ⟨T12, [], _, ExtT.rfl', Acc_nil, rfl⟩ ?_
        clear hlv ht e8 hlt hi e
        rintro j e h hj hlv ht ⟨N9, R9, cv, hN9, hacc, rfl⟩
        simp only [live] at hlv
        by_cases hlt : j < names.length
        · obtain ⟨bn, on, cn, rfl, hatn, hrn⟩ := hng j names[j] (List.getElem?_eq_getElem hlt)
          unfold RSt at hrn; subst hrn
          have z0 := At1 hatn
          rw [Nat.mul_one] at z0
          obtain ⟨va, vc, rfl⟩ := Acc_form hacc
          have hl1 : ((names.take j).map fun n => (([] : Bs), n)).length = j := by rw [List.length_map, List.length_take]; omega
          simp +contextual only [go_sem, Rcb, Rbk, sevalprocAttr, qqFi_ret, qqFi_dr, hlv, ht, hlt, z0, hb12, hap12]
          intro b14 hb14 hap14
          refine app_acc (x := (([] : Bs), names[j])) Tryz.underlying99 row99 okt99 hacc rfl (fun _ _ => RCl_len) (RCl_oneC (c := (([] : Bs), names[j])) rfl) hb14 (by rw [hl1]; omega) (by decide) ?_
          intro fv' R' hacc'
          obtain ⟨wa, wc, hfv⟩ := Acc_form hacc'
          have hsucc : ((names.take (j + 1)).map fun n => (([] : Bs), n)) = ((names.take j).map fun n => (([] : Bs), n)) ++ [([], names[j])] := by
            rw [List.take_succ_eq_append_getElem hlt, List.map_append]; rfl
          rw [← hsucc] at hacc'
          subst hfv
          simp +contextual only [go_sem, Rcb, Rbk, sevalprocAttr, qqFi_ret, qqFi_dr, hlv, ht, hlt, hb12, hap12, hb14, hap14]
          refine lp_close (Close_drop (Close_id ⟨names.length - (j + 1), by omega, rfl, j + 1, by omega, rfl, ?_, ?_, N9, R', _, hN9, hacc', rfl⟩))
          · simp only [live, hlv, go_sem, Rcb, Rbk, sevalprocAttr]
          · simp only [ht, go_sem, Rcb, Rbk, sevalprocAttr, wrap_succ j (by omega)]
        · have : j = names.length := by omega
          subst this
          rw [List.take_length] at hacc
          obtain ⟨va, vc, rfl⟩ := Acc_form hacc
          simp +contextual only [go_sem, Rcb, Rbk, sevalprocAttr, qqFi_ret, qqFi_dr, qqFi_pan, hlv, ht, hlt]
          have ha4 : (b4 ≠ b12 ∧ b12 ≠ b4) ∧ (b4 ≠ b6 ∧ b6 ≠ b4) ∧ (b4 ≠ b5 ∧ b5 ≠ b4) := by
            refine ⟨⟨hap12.2.2.2, hap12.2.2.1⟩, ⟨hap.2.1.2, hap.2.1.1⟩, ⟨hap.2.2.2, hap.2.2.1⟩⟩
          refine ⟨PanOk_qq _ rfl, draw_at ⟨T, M1, [(b4, [c0, c1, c2, c3, c4, c5, c6, c7, c8, c9, c10])], []⟩ (Sub_memL [(b12, _), (b6, _), (b5, _)] Ext.rfl' n4 ⟨ha4.1, ha4.2.1, ha4.2.2, trivial⟩) ?_⟩
          simp +contextual only [go_sem, Rcb, Rbk, sevalprocAttr, qqFi_ret, qqFi_dr, qqFi_pan, hlv, ht, hlt, mcell_some h3, n4]
          have hml : (names.map fun n => (([] : Bs), n)).length ≤ 16777216 := by rw [List.length_map]; exact hnl
          have hcall : ∀ {M5 : Mem}, Ext M1 M5 → RS M5 RCl 2 (names.map fun n => (([] : Bs), n)) (.slice va (names.map fun n => (([] : Bs), n)).length vc) → M5 b12 = some [.slice va (names.map fun n => (([] : Bs), n)).length vc, .slice none 0 0, .pointer none, .pointer none] →
              CtT Tryz.prog 31 [.pointer (some ⟨b12, 0, none⟩), .slice da q.order.length dc] N9 M5 [] [] (postX (fun l v M => RS M (REx M) 6 l v) (exprsB (names.map fun n => ([], n)) q.order)) (panX (exprsB (names.map fun n => ([], n)) q.order)) := by
            intro M5 h5 hrs hb
            exact ct_allB (fun x hx => exB _ _ x (Nat.le_refl _) ((hord hl0).2 x hx)) (hord hl0).1 hrs hb (RS_ext (hM1.trans h5) (RX_ext (hM1.trans h5)) hds) N9
          have hpan : ∀ {er : Int} {N : Tm} {M5 : Mem} {A : LL} {e : Env}, exprsB (names.map fun n => ([], n)) q.order = .error er → ExtT T N → e 4 = .pointer (some ⟨b4, 0, none⟩) → e 5 = .pointer (some ⟨b5, 0, none⟩) → e 6 = .pointer (some ⟨b6, 0, none⟩) →
              qqPan T (postQB rels q) (oopB er) e [qqD b4 b5 b6 #[]] ⟨N, M5, A ++ (b6, [.int .i64 0]) :: (b5, [.slice none 0 0]) :: (b4, [c0, c1, c2, c3, c4, c5, c6, c7, c8, c9, c10]) :: [], []⟩ := by
            intro er N M5 A e he hN e4 e5 e6
            have hqe : queryB rels q = .error er := by rw [hqb, topB_err hl0 he]
            exact qq_fault (by unfold boundM; rw [hqe]) (hne er hqe) hN rfl e4 e5 e6
          have hTN := (hT8.trans hT12).trans hN9
          have hfin : ∀ {xs : List Ex} {M6 M'' : Mem} {xv : Value} {b81 : Nat}, RS M6 (REx M6) 6 xs xv → Ext M1 M6 → Ext M6 M'' → heldL M'' [(b81, [c0, c1, c2, c3, c4, c5, c6, c7, c8, c9, c10])] →
              RPl M'' (.mk 13 q.limit zeroE xs [] [p]) [.int .i64 13, .int .i64 q.limit, .int .i64 0, .int .i64 0, .int .i64 0, st [], .int .i64 0, .slice none 0 0, xv, .slice none 0 0, .slice (some ⟨b81, 0, none⟩) 1 1] := by
            intro xs M6 M'' xv b81 hxs h16 h6 hh
            refine RPl_iff.2 ⟨[.int .i64 0, .int .i64 0, .int .i64 0, st [], .int .i64 0, .slice none 0 0], xv, .slice none 0 0, .slice (some ⟨b81, 0, none⟩) 1 1, rfl, REx_iff.2 ⟨_, rfl, RS_nil⟩, RS_ext h6 (REx_ext h6) hxs, RS_nil, ?_⟩
            exact RS_lit (fun _ _ => RPl_len) hh.1 (l := [p]) (RL_one (RPl_ext (h16.trans h6) _ _ hp)) rfl (by omega)
          refine ⟨?_, ?_⟩
          · refine rCall_close (k := fun h' => ∃ M5, Ext M1 M5 ∧ RS M5 RCl 2 (names.map fun n => (([] : Bs), n)) (.slice va (names.map fun n => (([] : Bs), n)).length vc) ∧ M5 b12 = some [.slice va (names.map fun n => (([] : Bs), n)).length vc, .slice none 0 0, .pointer none, .pointer none] ∧ h' = ⟨N9, M5, [(b6, [.int .i64 0]), (b5, [.slice none 0 0]), (b4, [c0, c1, c2, c3, c4, c5, c6, c7, c8, c9, c10])], []⟩)
              (Close_acc hacc (by omega) (by decide) ⟨hb12, n6, n5, n4, trivial⟩ fun M5 hM5 hno5 hrs => Close_freeze fun he hb hno => Close_id ⟨_, hM5.trans he, RS_ext he (fun _ _ h => h) hrs, hb, rfl⟩) ?_ bod31
            rintro h' ⟨M5, h15, hrs5, hb5', rfl⟩
            refine rCall_pure (hcall h15 hrs5 hb5') ?_ ?_
            · rintro r M6 hM6 hno6 ⟨xs, hxe, hxs⟩
              obtain ⟨_, xa, xc, rfl, _⟩ := RS_elim (by decide) (fun _ _ => REx_len) hxs
              simp only [List.cons_append, List.nil_append, noneL, noneL_wL] at hno6
              simp +contextual only [go_sem, Rcb, Rbk, sevalprocAttr, qqFi_ret, qqFi_dr, qqFi_pan, hlv, ht, hno6, hap]
              refine ⟨Sub_memL [(b6, _), (b5, _)] (h15.trans hM6) hno6.2.2.1 ⟨ha4.2.1, ha4.2.2, trivial⟩, ?_⟩
              intro b81 hb81 hap81
              refine ⟨Sub_memL [(b81, _), (b6, _), (b5, _)] (h15.trans hM6) hno6.2.2.1 ⟨⟨hap81.2.2.2, hap81.2.2.1⟩, ha4.2.1, ha4.2.2, trivial⟩, ?_⟩
              refine hS' _ _ _ ⟨rfl, ?_, N9, M6, .mk 13 q.limit zeroE xs [] [p], [(b81, _)], _, _, _, _, _, _, _, _, _, _, _, hTN, h15.trans hM6, ⟨hb81, hno6.1, hno6.2.1, hno6.2.2.1, trivial⟩, ⟨⟨hap81.2.2.2, hap81.2.2.1⟩, trivial⟩, fun M'' h6 hh => hfin hxs (h15.trans hM6) h6 hh, by rw [hqb, topB_ok hl0 hxe], rfl⟩
              simp only [live, hlv, go_sem, Rcb, Rbk, sevalprocAttr]
            · rintro ch M6 hM6 hno6 ⟨er, he, rfl⟩
              rw [qqFi_pan]
              refine hpan (A := []) he hTN ?_ ?_ ?_ <;> simp only [hlv, go_sem, Rcb, Rbk, sevalprocAttr]
          · intro b81 hb81 hap81
            have ha81 : b4 ≠ b81 ∧ b81 ≠ b4 := ⟨hap81.2.2.2.2, hap81.2.2.2.1⟩
            refine ⟨Sub_memL [(b81, _), (b12, _), (b6, _), (b5, _)] Ext.rfl' n4 ⟨ha81, ha4.1, ha4.2.1, ha4.2.2, trivial⟩, ?_⟩
            refine rCall_close (k := fun h' => ∃ M5, Ext M1 M5 ∧ RS M5 RCl 2 (names.map fun n => (([] : Bs), n)) (.slice va (names.map fun n => (([] : Bs), n)).length vc) ∧ M5 b12 = some [.slice va (names.map fun n => (([] : Bs), n)).length vc, .slice none 0 0, .pointer none, .pointer none] ∧ h' = ⟨N9, M5, [(b81, [c0, c1, c2, c3, c4, c5, c6, c7, c8, c9, c10]), (b6, [.int .i64 0]), (b5, [.slice none 0 0]), (b4, [c0, c1, c2, c3, c4, c5, c6, c7, c8, c9, c10])], []⟩)
              (Close_acc hacc (by omega) (by decide) ⟨hb81, hb12, n6, n5, n4, trivial⟩ fun M5 hM5 hno5 hrs => Close_perm (List.Perm.swap _ _ _) (Close_freeze fun he hb hno => Close_id ⟨_, hM5.trans he, RS_ext he (fun _ _ h => h) hrs, hb, rfl⟩)) ?_ bod31
            rintro h' ⟨M5, h15, hrs5, hb5', rfl⟩
            refine rCall_pure (hcall h15 hrs5 hb5') ?_ ?_
            · rintro r M6 hM6 hno6q ⟨xs, hxe, hxs⟩
              obtain ⟨_, xa, xc, rfl, _⟩ := RS_elim (by decide) (fun _ _ => REx_len) hxs
              simp only [List.cons_append, List.nil_append, noneL, noneL_wL] at hno6q
              obtain ⟨hb81', hno6⟩ := hno6q
              simp +contextual only [go_sem, Rcb, Rbk, sevalprocAttr, qqFi_ret, qqFi_dr, qqFi_pan, hlv, ht, hno6, hap, hb81', ha81, hap81]
              refine ⟨Sub_memL [(b81, _), (b6, _), (b5, _)] (h15.trans hM6) hno6.2.2.1 ⟨ha81, ha4.2.1, ha4.2.2, trivial⟩, ?_⟩
              refine hS' _ _ _ ⟨rfl, ?_, N9, M6, .mk 13 q.limit zeroE xs [] [p], [(b81, _)], _, _, _, _, _, _, _, _, _, _, _, hTN, h15.trans hM6, ⟨hb81', hno6.1, hno6.2.1, hno6.2.2.1, trivial⟩, ⟨ha81, trivial⟩, fun M'' h6 hh => hfin hxs (h15.trans hM6) h6 hh, by rw [hqb, topB_ok hl0 hxe], rfl⟩
              simp only [live, hlv, go_sem, Rcb, Rbk, sevalprocAttr]
            · rintro ch M6 hM6 hno6 ⟨er, he, rfl⟩
              rw [qqFi_pan]
              refine hpan (A := [(b81, _)]) he hTN ?_ ?_ ?_ <;> simp only [hlv, go_sem, Rcb, Rbk, sevalprocAttr]
      · simp +contextual only [go_sem, Rcb, Rbk, sevalprocAttr, hl0]
        refine hS' _ _ _ ⟨rfl, ?_, T8, M1, p, [], c0, c1, c2, c3, c4, c5, c6, c7, c8, c9, c10, hT8, Ext.rfl', ⟨n6, n5, n4, trivial⟩, trivial, fun M'' hM'' _ => RPl_ext hM'' _ _ hp, ?_, rfl⟩
        · simp only [live, hlv, e8, go_sem, Rcb, Rbk, sevalprocAttr]
        · rw [hqb, topB_nolim hl0]
    · clear hlv ht e8 hlt hi e hres hqb hp n6 n5 n4
      rintro e ds h ⟨rfl, hlv, N, M2, p', A, c0, c1, c2, c3, c4, c5, c6, c7, c8, c9, c10, hN, hM2, hnn, hapA, hpl', hqb, rfl⟩
      simp only [live] at hlv
      have ha4 : (b4 ≠ b6 ∧ b6 ≠ b4) ∧ (b4 ≠ b5 ∧ b5 ≠ b4) := ⟨⟨hap.2.1.2, hap.2.1.1⟩, ⟨hap.2.2.2, hap.2.2.1⟩⟩
      have hsub : ∀ {N : Tm} {M : Mem} {A : LL}, M b4 = none → apart1 b4 A → Vc.Sub ⟨T, fun _ => none, [(b4, [c0, c1, c2, c3, c4, c5, c6, c7, c8, c9, c10])], []⟩ ⟨N, M, A ++ [(b6, [.int .i64 0]), (b5, [.slice none 0 0]), (b4, [c0, c1, c2, c3, c4, c5, c6, c7, c8, c9, c10])], []⟩ := by
        intro N M A h4 hA
        have hA2 : ∀ {A : LL}, apart1 b4 A → apart1 b4 (A ++ [(b6, [.int .i64 0]), (b5, [.slice none 0 0])]) := by
          intro A
          induction A with
          | nil => intro _; exact ⟨ha4.1, ha4.2, trivial⟩
          | cons x A ih => intro h; exact ⟨h.1, ih h.2⟩
        have := Sub_own (T0 := T) (T := N) (M := M) (A ++ [(b6, [.int .i64 0]), (b5, [.slice none 0 0])]) (L2 := []) (R := []) (cs := [c0, c1, c2, c3, c4, c5, c6, c7, c8, c9, c10]) h4 (hA2 hA)
        simpa using this
      have hno4 : ∀ {A : LL}, noneL M2 (A ++ [(b6, [.int .i64 0]), (b5, [.slice none 0 0]), (b4, [c0, c1, c2, c3, c4, c5, c6, c7, c8, c9, c10])]) → M2 b4 = none := by
        intro A h
        exact noneL_iff h b4 (by simp [keys])
      simp +contextual only [go_sem, Rcb, Rbk, sevalprocAttr, qqFi_ret, qqFi_dr, qqFi_pan, hlv]
      refine ⟨PanOk_qq _ rfl, draw_at ⟨T, fun _ => none, [(b4, [c0, c1, c2, c3, c4, c5, c6, c7, c8, c9, c10])], []⟩ (hsub (hno4 hnn) hapA) ?_⟩
      simp +contextual only [go_sem, Rcb, Rbk, sevalprocAttr, qqFi_ret, qqFi_dr, qqFi_pan, hlv]
      refine rCall_close (k := fun h' => ∃ M3, Ext M2 M3 ∧ M3 b6 = none ∧ M3 b5 = none ∧ M3 b4 = none ∧ RPl M3 p' [c0, c1, c2, c3, c4, c5, c6, c7, c8, c9, c10] ∧ h' = ⟨N, M3, [(b6, [.int .i64 0]), (b5, [.slice none 0 0]), (b4, [c0, c1, c2, c3, c4, c5, c6, c7, c8, c9, c10])], []⟩)
        (Close_pre hnn fun M3 hM3 hA hno => Close_id ⟨M3, hM3, hno.1, hno.2.1, hno.2.2.1, hpl' M3 hM3 hA, rfl⟩) ?_ bod18
      rintro h' ⟨M3, hM3, n6, n5, n4, hp, rfl⟩
      have h03 := (hM1.trans hM2).trans hM3
      refine rCall_pure (ct_Tables (RS_ext h03 (RRel_ext h03) hr) hlen hcols N) ?_ (fun _ _ _ _ h => h.elim)
      rintro tv M4 hM4 hno4 htv
      obtain ⟨_, ta, tc, rfl, _⟩ := RS_elim (by decide) (fun _ _ => RTb_len) htv
      simp only [List.cons_append, List.nil_append, noneL, noneL_wL] at hno4
      simp +contextual only [go_sem, Rcb, Rbk, sevalprocAttr, qqFi_ret, qqFi_dr, qqFi_pan, hlv]
      refine ⟨Sub_memL (M := fun _ => none) [(b6, _), (b5, _)] (fun _ _ h => by cases h) hno4.2.2.1 ⟨ha4.1, ha4.2, trivial⟩, ?_⟩
      refine rCall_pure (ct_Cols htv (RPl_ext hM4 _ _ hp) N) ?_ (fun _ _ _ _ h => h.elim)
      rintro r M5 hM5 hno5 hr5
      obtain ⟨sv, er, rfl⟩ := tupL_form hr5
      simp only [List.cons_append, List.nil_append, noneL, noneL_wL] at hno5
      have hap' := hap
      cases hct : colsT (tablesM rels) p' with
      | error er2 =>
        rw [hct] at hr5
        obtain ⟨hne2, sv2, hsv⟩ := hr5
        injection hsv with hsv
        simp only [Array.mk.injEq, List.cons.injEq, and_true, Value.int.injEq, true_and] at hsv
        obtain ⟨rfl, rfl⟩ := hsv
        have hbm : boundM rels q = .error er := by unfold boundM; rw [hqb]; simp only; rw [hct]
        simp +contextual only [go_sem, Rcb, Rbk, sevalprocAttr, qqFi_ret, qqFi_dr, qqFi_pan, hlv, hno5, hap, hne2]
        refine ⟨PanOk_qq _ rfl, draw_at ⟨T, fun _ => none, [(b6, [.int .i64 er])], []⟩ (Sub_hd hno5.1) ?_⟩
        simp +contextual only [go_sem, Rcb, Rbk, sevalprocAttr, qqFi_ret, qqFi_dr, qqFi_pan, hlv, hno5, hap, hne2]
        refine ⟨Sub_hd hno5.1, Sub_hd hno5.1, b4, b5, b6, _, rfl, rfl, ?_⟩
        simp +contextual only [go_sem, Rcb, Rbk, sevalprocAttr, qqFi_ret, qqFi_dr, qqFi_pan, hlv, hno5, hap]
        refine end_none hN ?_
        unfold postQB
        rw [hbm]
        exact ⟨hne2, _, rfl, RPl_zero⟩
      | ok t =>
        rw [hct] at hr5
        obtain ⟨sv2, hsv, hts⟩ := hr5
        injection hsv with hsv
        simp only [Array.mk.injEq, List.cons.injEq, and_true, Value.int.injEq, true_and] at hsv
        obtain ⟨rfl, rfl⟩ := hsv
        have hbm : boundM rels q = .ok (p', zipC names t) := by unfold boundM; rw [hqb]; simp only; rw [hct]
        have htl : t.length ≤ names.length := hwid _ _ hqb hct
        have hzl := zipC_len2 htl
        obtain ⟨_, sa, sc, rfl, _, _, hsg⟩ := RS_elim (by decide) (fun _ _ => RI_len) hts
        have hp5 := RPl_ext (hM4.trans hM5) _ _ hp
        have h15 := (hM2.trans hM3).trans (hM4.trans hM5)
        simp +contextual only [go_sem, Rcb, Rbk, sevalprocAttr, qqFi_ret, qqFi_dr, qqFi_pan, hlv, hno5, hap]
        refine loop_range t.length 96 [(4, .pointer (some ⟨b4, 0, none⟩)), (5, .pointer (some ⟨b5, 0, none⟩)), (6, .pointer (some ⟨b6, 0, none⟩)), (8, .slice na names.length nc), (94, .slice sa t.length sc), (95, .int .i64 (t.length : Int))]
          (fun i e h => ∃ R cv, Acc 48 2 RCo [] R cv ((zipC names t).take i) ∧ h = ⟨N, M5, [(b6, [.int .i64 0]), (b5, [cv]), (b4, [c0, c1, c2, c3, c4, c5, c6, c7, c8, c9, c10])], R⟩) 0 (by omega) (by simp only [live, hlv, go_sem, Rcb, Rbk, sevalprocAttr]) (by simp only [go_sem, Rcb, Rbk, sevalprocAttr]) ⟨[], _, Acc_nil, rfl⟩ ?_
        clear hlv e
        rintro i e h hi hlv ht ⟨R, cv, hacc, rfl⟩
        simp only [live] at hlv
        obtain ⟨wa, wc, rfl⟩ := Acc_form hacc
        have hzi : ((zipC names t).take i).length = i := by rw [List.length_take]; omega
        by_cases hlt : i < t.length
        · obtain ⟨bn, on, cn, rfl, hatn, hrn⟩ := hng i names[i] (List.getElem?_eq_getElem (by omega))
          unfold RSt at hrn; subst hrn
          have z0 := At1 (hatn.ext h15)
          rw [Nat.mul_one] at z0
          obtain ⟨bt, ot, ct', rfl, hatt, hrt⟩ := hsg i t[i] (List.getElem?_eq_getElem hlt)
          unfold RI at hrt; subst hrt
          have z1 := At1 hatt
          rw [Nat.mul_one] at z1
          have hin : i < names.length := by omega
          simp +contextual only [go_sem, Rcb, Rbk, sevalprocAttr, qqFi_ret, qqFi_dr, qqFi_pan, hlv, ht, hlt, z1]
          refine ⟨PanOk_qq _ rfl, draw_at ⟨T, M5, [(b5, [.slice wa ((zipC names t).take i).length wc])], []⟩ (Sub_memL [(b6, _)] Ext.rfl' hno5.2.1 ⟨⟨hap.1.2, hap.1.1⟩, trivial⟩) ?_⟩
          simp +contextual only [go_sem, Rcb, Rbk, sevalprocAttr, qqFi_ret, qqFi_dr, qqFi_pan, hlv, ht, hlt, z0, z1, hno5, hap, hin]
          intro b8 hb8 hap8
          refine ⟨Sub_memL [(b8, _), (b6, _)] Ext.rfl' hno5.2.1 ⟨⟨hap8.2.1.2, hap8.2.1.1⟩, ⟨hap.1.2, hap.1.1⟩, trivial⟩, ?_⟩
          refine app_acc (x := (⟨names[i], t[i]⟩ : Co)) Tryz.underlying43 row43 okt43 hacc rfl (fun _ _ => RCo_len) (RCo_oneB (c := ⟨names[i], t[i]⟩) rfl) hb8 (by rw [hzi]; omega) (by decide) ?_
          intro fv' R' hacc'
          obtain ⟨va, vc, hfv⟩ := Acc_form hacc'
          have hsucc : (zipC names t).take (i + 1) = (zipC names t).take i ++ [⟨names[i], t[i]⟩] := by
            rw [List.take_succ, zipC_get hlt htl]; rfl
          rw [← hsucc] at hacc'
          subst hfv
          simp +contextual only [go_sem, Rcb, Rbk, sevalprocAttr, qqFi_ret, qqFi_dr, qqFi_pan, hlv, ht, hlt, hno5, hap, hap8]
          refine ⟨Sub_memL [(b8, _), (b6, _)] Ext.rfl' hno5.2.1 ⟨⟨hap8.2.1.2, hap8.2.1.1⟩, ⟨hap.1.2, hap.1.1⟩, trivial⟩, ?_⟩
          refine lp_close (Close_drop (Close_id ⟨t.length - (i + 1), by omega, rfl, i + 1, by omega, rfl, ?_, ?_, R', _, hacc', rfl⟩))
          · simp only [live, hlv, go_sem, Rcb, Rbk, sevalprocAttr]
          · simp only [ht, go_sem, Rcb, Rbk, sevalprocAttr, wrap_succ i (by omega)]
        · have : i = t.length := by omega
          subst this
          simp +contextual only [go_sem, Rcb, Rbk, sevalprocAttr, qqFi_ret, qqFi_dr, qqFi_pan, hlv, ht, hlt]
          refine ⟨PanOk_qq _ rfl, draw_all ?_⟩
          simp +contextual only [go_sem, Rcb, Rbk, sevalprocAttr, qqFi_ret, qqFi_dr, qqFi_pan, hlv, ht, hlt, hno5, hap]
          obtain ⟨_, _, _, _, _, _, _, _, _, _, _, hcx, hc⟩ := RPl_cells hp5
          cases hcx
          refine ⟨hc, Sub.refl _, b4, b5, b6, _, rfl, rfl, ?_⟩
          simp +contextual only [go_sem, Rcb, Rbk, sevalprocAttr, qqFi_ret, qqFi_dr, qqFi_pan, hlv, hno5, hap, hc]
          refine Close_acc hacc (by omega) (by decide) ⟨hno5.1, hno5.2.1, hno5.2.2.1, trivial⟩ fun M6 hM6 hno6 hrs => end_none hN ?_
          have hzt : (zipC names t).take t.length = zipC names t := List.take_of_length_le (by omega)
          rw [hzt] at hrs
          unfold postQB
          rw [hbm]
          refine ⟨_, _, rfl, RPl_ext hM6 _ _ hp5, ?_⟩
          rw [hzt]; exact hrs
def postCB (rl : Rel) (x : X) : PostP := fun r M' _ _ => match condB rl x with
  | .ok y => ∃ cs, r = .tuple ⟨[.agg ⟨cs⟩, .int .i64 0]⟩ ∧ REx M' y cs
  | .error e => e ≠ 0 ∧ ∃ cs, r = .tuple ⟨[.agg ⟨cs⟩, .int .i64 e]⟩ ∧ REx M' zeroE cs
theorem cc_fault {T N : Tm} {M : Mem} {rl : Rel} {x : X} {A B : LL} {R : RR} {b4 b5 : Nat} {v0 v1 v2 v3 v4 v5 ve : Value} {er : Int} {ag : Array Value} {e : Env} {dr ts} (hr : condB rl x = .error er) (h0 : er ≠ 0) (hT : ExtT T N) (hag : ag.toList = [])
    (e4 : e 4 = .pointer (some ⟨b4, 0, none⟩)) (e5 : e 5 = .pointer (some ⟨b5, 0, none⟩)) :
    (ccFi T dr ts (postCB rl x)).pan (oopB er) e [ccD b4 b5 ag] ⟨N, M, A ++ (b5, [ve]) :: (b4, [v0, v1, v2, v3, v4, v5]) :: B, R⟩ := by
  rw [ccFi_pan]
  refine ⟨b4, b5, ag, er, rfl, hag, e4, e5, rfl, Close_dropL A (Close_dropAllR (Close_perm (L' := B ++ [(b4, [v0, v1, v2, v3, v4, v5]), (b5, [ve])]) ?_ (Close_dropL B (Close_id ⟨hT, rfl, ⟨_, _, _, _, _, _, _, rfl⟩, ?_⟩))))⟩
  · refine List.Perm.trans (List.Perm.swap _ _ _) ?_
    exact List.perm_append_comm (l₁ := [(b4, _), (b5, _)])
  · unfold postCB
    rw [hr]
    exact ⟨h0, _, rfl, REx_iff.2 ⟨_, rfl, RS_nil⟩⟩
theorem ct_bCond {M : Mem} {rl : Rel} {x : X} {cs xs : List Value} (hr : RRel M rl cs) (hx : RX M x xs) (hcols : rl.cols.length ≤ 1048576) (hok : okX x) (hne : ∀ e, condB rl x = .error e → e ≠ 0) (T : Tm) :
    CtT Tryz.prog 13 [.agg ⟨cs⟩, .agg ⟨xs⟩] T M [] [] (postCB rl x) noPan := by
  obtain ⟨ca, cn, s1, a1, n1, a2, n2, a3, n3, hcs, hs1, hcl, hpl⟩ := RRel_form hr
  obtain ⟨hcb, _, _, hcx, hcle, _, hcg⟩ := RS_elim (by decide) (fun _ _ => RCo_len) hcl
  cases hcx
  obtain ⟨sx, hxs, hsx, hkx⟩ := RX_form hx
  have hrc : ∀ (v : Value), True := fun _ => trivial
  subst hcs
  refine ct_runcc bod13 Tryz.func13 rfl (by rw [nt13]; exact Nat.le_of_ble_eq_true rfl) (dr := dr13) (by kernel_rfl) rs13 ?_
  rw [rs13]
  subst hxs
  simp +contextual only [go_sem, Rcb, Rbk, sevalprocAttr, ccFi_ret, ccFi_dr, hs1, hsx]
  intro b2 T2 hb2 hT2 hTb2 b3 T3 hb3 hap3 hT3 hTb3 b4 T4 hb4 hap4 hT4 hTb4 b5 T5 hb5 hap5 hT5 hTb5 b6 T6 hb6 hap6 hT6 hTb6
  have hT := (((hT2.trans hT3).trans hT4).trans hT5).trans hT6
  have hap : (¬ b6 = b5 ∧ ¬ b5 = b6) ∧ (¬ b6 = b4 ∧ ¬ b4 = b6) ∧ (¬ b5 = b4 ∧ ¬ b4 = b5) := ⟨hap6.1, hap6.2.1, hap5.1⟩
  obtain ⟨rc2, hrc2⟩ : ∃ l : List Value, l = [st rl.name, .slice ca rl.cols.length cn, .bool rl.view, .int .i64 rl.plan.k, .int .i64 rl.plan.n, .int .i64 rl.plan.x.k, .int .i64 rl.plan.x.v.k, .int .i64 rl.plan.x.v.n, st rl.plan.x.v.t, .int .i64 rl.plan.x.c, s1, .slice a1 rl.plan.xs.length n1, .slice a2 rl.plan.ags.length n2, .slice a3 rl.plan.kids.length n3] := ⟨_, rfl⟩
  obtain ⟨xc3, hxc3⟩ : ∃ l : List Value, l = [.int .i64 x.k, .int .i64 x.v.k, .int .i64 x.v.n, st x.v.t, st x.tab, st x.name, sx] := ⟨_, rfl⟩
  refine loop_rangeC rl.cols.length 15 [(2, .pointer (some ⟨b2, 0, none⟩)), (3, .pointer (some ⟨b3, 0, none⟩)), (4, .pointer (some ⟨b4, 0, none⟩)), (5, .pointer (some ⟨b5, 0, none⟩)), (6, .pointer (some ⟨b6, 0, none⟩)), (13, .slice ca rl.cols.length cn), (14, .int .i64 (rl.cols.length : Int))]
    (fun i e h => ∃ N' M' R cv, ExtT T N' ∧ Ext M M' ∧ M' b2 = some rc2 ∧ M' b3 = some xc3 ∧ M' b6 = none ∧ M' b5 = none ∧ M' b4 = none ∧ Acc 104 2 RCl [] R cv ((rl.cols.take i).map fun c => (rl.name, c.name)) ∧
      h = ⟨N', M', [(b6, [cv, .slice none 0 0, .pointer none, .pointer none]), (b5, [.int .i64 0]), (b4, [.int .i64 0, .int .i64 0, .int .i64 0, st [], .int .i64 0, .slice none 0 0])], R⟩)
    0 (by omega) (by simp only [live, go_sem, Rcb, Rbk, sevalprocAttr]) (by simp only [go_sem, Rcb, Rbk, sevalprocAttr])
    (Close_perm (L' := [(b2, rc2), (b3, xc3), (b6, [.slice none 0 0, .slice none 0 0, .pointer none, .pointer none]), (b5, [.int .i64 0]), (b4, [.int .i64 0, .int .i64 0, .int .i64 0, st [], .int .i64 0, .slice none 0 0])]) (by
      rw [hrc2, hxc3]
      exact (List.perm_append_comm (l₁ := [(b6, _), (b5, _), (b4, _)]) (l₂ := [(b3, _), (b2, _)])).trans (List.Perm.swap _ _ _))
      (Close_freeze fun he1 h2 hno1 => Close_freeze fun he2 h3 hno2 => Close_id ⟨T6, _, [], _, hT, he1.trans he2, he2 _ _ h2, h3, hno2.1, hno2.2.1, hno2.2.2.1, Acc_nil, rfl⟩)) ?_
  rintro i e h hi hlv ht ⟨N1, M1, R1, cv, hN1, hM1, h2, h3, n6, n5, n4, hacc, rfl⟩
  simp only [live] at hlv
  obtain ⟨va, vc, rfl⟩ := Acc_form hacc
  have hl1 : ((rl.cols.take i).map fun c => (rl.name, c.name)).length = i := by rw [List.length_map, List.length_take]; omega
  by_cases hlt : i < rl.cols.length
  · obtain ⟨bc, oc, cc', rfl, hatc, hrc'⟩ := hcg i rl.cols[i] (List.getElem?_eq_getElem hlt)
    unfold RCo at hrc'; subst hrc'
    obtain ⟨z0, z1⟩ := At2 (hatc.ext hM1)
    have h2c : mcell M1 ⟨b2, 0, none⟩ = some (st rl.name) := by rw [mcell_some h2, hrc2]; rfl
    simp +contextual only [go_sem, Rcb, Rbk, sevalprocAttr, ccFi_ret, ccFi_dr, hlv, ht, hlt, z0, z1]
    intro b8 T8 hb8 hap8 hT8 hTb8
    rw [ccFi_pan]
    refine ⟨PanOk_cc _ rfl, draw_all ?_⟩
    simp +contextual only [go_sem, Rcb, Rbk, sevalprocAttr, ccFi_ret, ccFi_dr, hlv, ht, hlt, z0, z1, hb8, hap8, n6, hap, h2c]
    intro b9 hb9 hap9
    refine ⟨Sub_ML1 Ext.rfl' ⟨hb8, n6, n5, n4, trivial⟩ ⟨hap9.1, hap9.2.1, hap9.2.2.1, hap9.2.2.2, trivial⟩, ?_⟩
    refine app_acc (x := (rl.name, rl.cols[i].name)) Tryz.underlying99 row99 okt99 hacc rfl (fun _ _ => RCl_len) (RCl_oneC (c := (rl.name, rl.cols[i].name)) rfl) hb9 (by rw [hl1]; omega) (by decide) ?_
    intro fv' R' hacc'
    obtain ⟨wa, wc, hfv⟩ := Acc_form hacc'
    have hsucc : ((rl.cols.take (i + 1)).map fun c => (rl.name, c.name)) = ((rl.cols.take i).map fun c => (rl.name, c.name)) ++ [(rl.name, rl.cols[i].name)] := by
      rw [List.take_succ_eq_append_getElem hlt, List.map_append]; rfl
    rw [← hsucc] at hacc'
    subst hfv
    simp +contextual only [go_sem, Rcb, Rbk, sevalprocAttr, ccFi_ret, ccFi_dr, hlv, ht, hlt, hb8, hap8, n6, hap, hb9, hap9]
    refine ⟨Sub_ML1 Ext.rfl' ⟨hb8, n6, n5, n4, trivial⟩ ⟨hap9.1, hap9.2.1, hap9.2.2.1, hap9.2.2.2, trivial⟩, ?_⟩
    refine lp_close (Close_drop (Close_drop (Close_id ⟨rl.cols.length - (i + 1), by omega, rfl, i + 1, by omega, rfl, ?_, ?_, T8, M1, R', _, hN1.trans hT8, hM1, h2, h3, n6, n5, n4, hacc', rfl⟩)))
    · simp only [live, hlv, go_sem, Rcb, Rbk, sevalprocAttr]
    · simp only [ht, go_sem, Rcb, Rbk, sevalprocAttr, wrap_succ i (by omega)]
  · have : i = rl.cols.length := by omega
    subst this
    simp +contextual only [go_sem, Rcb, Rbk, sevalprocAttr, ccFi_ret, ccFi_dr, hlv, ht, hlt]
    have hnm : (rl.cols.take rl.cols.length).map (fun c => (rl.name, c.name)) = rl.cols.map fun c => (rl.name, c.name) := by rw [List.take_length]
    refine rCall_close (k := fun h' => ∃ M3 lv, Ext M1 M3 ∧ M3 b5 = none ∧ M3 b4 = none ∧ RS M3 RCl 2 (rl.cols.map fun c => (rl.name, c.name)) lv ∧ M3 b6 = some [lv, .slice none 0 0, .pointer none, .pointer none] ∧ h' = ⟨N1, M3, [(b5, [.int .i64 0]), (b4, [.int .i64 0, .int .i64 0, .int .i64 0, st [], .int .i64 0, .slice none 0 0])], []⟩)
      (Close_acc hacc (by omega) (by decide) ⟨n6, n5, n4, trivial⟩ fun M3 hM3 hno3 hrs => Close_freeze fun he hb hno => Close_id ⟨_, .slice va ((rl.cols.take rl.cols.length).map fun c => (rl.name, c.name)).length vc, hM3.trans he, hno.1, hno.2.1, RS_ext he (fun _ _ h => h) (by rw [hnm] at hrs; rw [hnm]; exact hrs), hb, rfl⟩) ?_ bod37
    rintro h' ⟨M3, lv, hM3, n5, n4, hrs, hb6', rfl⟩
    have hxa : At M3 b3 0 xc3 := At_self (hM3 _ _ h3)
    have hxr : RX M3 x xc3 := by rw [hxc3]; exact RX_ext (hM1.trans hM3) _ _ hx
    refine rCall_pure (exB _ _ x (Nat.le_refl _) hok M3 N1 b6 lv _ _ b3 0 _ hrs hb6' hxa hxr) ?_ ?_
    · rintro r M4 hM4 hno4 ⟨y, hy, ys, rfl, hye⟩
      obtain ⟨s6, rfl, hs6, _⟩ := REx_form hye
      simp only [List.cons_append, List.nil_append, noneL, noneL_wL] at hno4
      simp +contextual only [go_sem, Rcb, Rbk, sevalprocAttr, ccFi_ret, ccFi_dr, hlv, ht, hlt, hno4, hap, hs6]
      refine ⟨b4, b5, _, rfl, rfl, ?_⟩
      simp +contextual only [go_sem, Rcb, Rbk, sevalprocAttr, ccFi_ret, ccFi_dr, hlv, hno4, hap, hs6]
      refine end_none hN1 ?_
      have hc : condB rl x = .ok y := hy
      unfold postCB
      rw [hc]
      exact ⟨_, rfl, hye⟩
    · rintro ch M4 hM4 hno4 ⟨er, he, rfl⟩
      exact cc_fault (A := []) (B := []) he (hne er he) hN1 rfl (by simp only [hlv, go_sem, Rcb, Rbk, sevalprocAttr]) (by simp only [hlv, go_sem, Rcb, Rbk, sevalprocAttr])
def letr (t : Int) : Int := if t = 1 then 97 else if t = 2 then 98 else if t = 3 then 105 else if t = 4 then 116 else 63
theorem letr_inj {t u : Int} (ht : 1 ≤ t ∧ t ≤ 4) (hu : 1 ≤ u ∧ u ≤ 4) : letr t = letr u ↔ t = u := by
  unfold letr
  have h1 : t = 1 ∨ t = 2 ∨ t = 3 ∨ t = 4 := by omega
  have h2 : u = 1 ∨ u = 2 ∨ u = 3 ∨ u = 4 := by omega
  rcases h1 with rfl | rfl | rfl | rfl <;> rcases h2 with rfl | rfl | rfl | rfl <;> simp
def togM (a b : Int) : Int := if a = 97 ∨ a = b then b else if b = 97 then a else 0
theorem togM_one {t u : Int} (ht : 1 ≤ t ∧ t ≤ 4) (hu : 1 ≤ u ∧ u ≤ 4) : togM (letr t) (letr u) = match oneT t u with | some o => letr o | none => 0 := by
  unfold togM oneT letr
  have h1 : t = 1 ∨ t = 2 ∨ t = 3 ∨ t = 4 := by omega
  have h2 : u = 1 ∨ u = 2 ∨ u = 3 ∨ u = 4 := by omega
  rcases h1 with rfl | rfl | rfl | rfl <;> rcases h2 with rfl | rfl | rfl | rfl <;> simp
theorem togM_fit {t u : Int} (ht : 1 ≤ t ∧ t ≤ 4) (hu : 2 ≤ u ∧ u ≤ 4) : decide (togM (letr t) (letr u) = letr u) = fitT t u := by
  unfold togM fitT oneT letr
  have h1 : t = 1 ∨ t = 2 ∨ t = 3 ∨ t = 4 := by omega
  have h2 : u = 2 ∨ u = 3 ∨ u = 4 := by omega
  rcases h1 with rfl | rfl | rfl | rfl <;> rcases h2 with rfl | rfl | rfl <;> simp
theorem oneT_rng {t u o : Int} (ht : 1 ≤ t ∧ t ≤ 4) (hu : 1 ≤ u ∧ u ≤ 4) (h : oneT t u = some o) : 1 ≤ o ∧ o ≤ 4 := by
  unfold oneT at h
  split at h
  · injection h with h; omega
  · split at h
    · injection h with h; omega
    · cases h
theorem wrongV_rng {v : V} (h : wrongV v = 0) : 1 ≤ v.k ∧ v.k ≤ 4 := by
  unfold wrongV at h
  repeat' split at h
  all_goals first | omega | simp at h
theorem kindT_rng {k t : Int} {l : List Int} (hl : ∀ t ∈ l, 1 ≤ t ∧ t ≤ 4) (hk : 18 = k ∨ k ≤ 17) (h17 : k = 17 → 3 ≤ l.length) (h2 : 18 = k → 2 ≤ l.length) (h16 : k ≠ 16) (h : kindT' k l = .ok t) : 1 ≤ t ∧ t ≤ 4 := by
  have hg : ∀ i, i < l.length → 1 ≤ l.getD i 0 ∧ l.getD i 0 ≤ 4 := by
    intro i hi
    have := hl l[i] (List.getElem_mem hi)
    simpa [List.getD, hi] using this
  unfold kindT' at h
  split at h
  · split at h
    · injection h with h; omega
    · cases h
  split at h
  · split at h
    · injection h with h; omega
    · cases h
  split at h
  · split at h
    · injection h with h; omega
    · cases h
  split at h
  · split at h
    · injection h with h; omega
    · cases h
  split at h
  · rename_i hk17
    have h3 := h17 hk17
    split at h
    · rename_i o ho
      split at h
      · injection h with h; subst h; exact oneT_rng (hg 1 (by omega)) (hg 2 (by omega)) ho
      · cases h
    · cases h
  · split at h
    · rename_i o ho
      injection h with h; subst h
      have h3 := h2 (by omega)
      exact oneT_rng (hg 0 (by omega)) (hg 1 (by omega)) ho
    · cases h
mutual
theorem typE_rng {cols : List Int} (hc : ∀ c ∈ cols, 1 ≤ c ∧ c ≤ 4) (deep n : Nat) : ∀ x {t}, (typE cols deep n x).1 = .ok t → 1 ≤ t ∧ t ≤ 4
  | .mk k v c kids, t, h => by
    rw [typE] at h
    split at h
    · cases h
    split at h
    · cases h
    · rename_i hk0
      split at h
      · cases h
      · rename_i hkl
        split at h
        · cases h
        · rename_i ts m hm
          have hts := typL_rng hc (deep + 1) (n + 1) kids (l := ts) (by rw [hm])
          have htl := typL_lenB cols (deep + 1) (n + 1) kids (l := ts) (by rw [hm])
          simp only at h
          split at h
          · split at h
            · rename_i hw
              injection h with h; subst h; exact wrongV_rng hw
            · cases h
          split at h
          · split at h
            · rename_i hc2
              injection h with h; subst h
              have h3 : c.toNat < cols.length := by omega
              have := hc cols[c.toNat] (List.getElem_mem h3)
              simpa [List.getD, h3] using this
            · cases h
          split at h
          · injection h with h; omega
          · rename_i h16
            have hkk : (kids.length : Int) = kidsE k := Decidable.not_not.1 hkl
            have hk18 : k ≤ 18 := by
              unfold kidsE at hk0
              grind
            refine kindT_rng hts (by omega) ?_ ?_ h16 h
            · intro h17; subst h17
              have : kidsE 17 = 3 := rfl
              omega
            · intro h17; subst h17
              have : kidsE 18 = 2 := rfl
              omega
theorem typL_rng {cols : List Int} (hc : ∀ c ∈ cols, 1 ≤ c ∧ c ≤ 4) (deep n : Nat) : ∀ xs {l}, (typL cols deep n xs).1 = .ok l → ∀ t ∈ l, 1 ≤ t ∧ t ≤ 4
  | [], l, h => by rw [typL] at h; cases h; intro t ht; cases ht
  | x :: xs, l, h => by
    rw [typL] at h
    split at h
    · cases h
    · rename_i t m hm
      split at h
      · cases h
      · rename_i ts m' hm'
        injection h with h
        intro u hu
        rw [← h, List.mem_cons] at hu
        rcases hu with rfl | hu
        · exact typE_rng hc deep n x (by rw [hm])
        · exact typL_rng hc deep m xs (by rw [hm']) u hu
theorem typL_lenB (cols : List Int) (deep n : Nat) : ∀ xs {l}, (typL cols deep n xs).1 = .ok l → l.length = xs.length
  | [], l, h => by rw [typL] at h; cases h; rfl
  | x :: xs, l, h => by
    rw [typL] at h
    split at h
    · cases h
    · rename_i t m hm
      split at h
      · cases h
      · rename_i ts m' hm'
        injection h with h
        rw [← h, List.length_cons, List.length_cons, typL_lenB cols deep m xs (by rw [hm'])]
end
theorem ct_letter (t : Int) (ht : 1 ≤ t ∧ t ≤ 4) {M : Mem} (T : Tm) : CtT Tryz.prog 225 [.int .i64 t] T M [] [] (fun r _ _ _ => r = .int .u8 (letr t)) noPan := by
  refine ct_run mx bod225 Tryz.func225 rfl (by rw [nt225]; exact Nat.le_of_ble_eq_true rfl) (dr := dr225) (by kernel_rfl) rs225 ?_
  intro _ _
  have h1 : t = 1 ∨ t = 2 ∨ t = 3 ∨ t = 4 := by omega
  rcases h1 with rfl | rfl | rfl | rfl
  all_goals
    simp +contextual only [go_sem, Rcb, Rbk, sevalprocAttr]
    exact end_none ExtT.rfl' rfl
theorem ct_rkids3 (k : Int) {M : Mem} (T : Tm) : CtT Tryz.prog 269 [.int .i64 k] T M [] [] (fun r _ _ _ => r = .int .i64 (kidsE k)) noPan := by
  refine ct_run mx bod269 Tryz.func269 rfl (by rw [nt269]; exact Nat.le_of_ble_eq_true rfl) (dr := dr269) (by kernel_rfl) rs269 ?_
  intro _ _
  by_cases h1 : k < 1
  · simp +contextual only [go_sem, Rcb, Rbk, sevalprocAttr, h1]
    refine end_none ExtT.rfl' (int_eq ?_)
    unfold kidsE; grind
  by_cases h2 : 18 < k
  · simp +contextual only [go_sem, Rcb, Rbk, sevalprocAttr, h1, h2]
    refine end_none ExtT.rfl' (int_eq ?_)
    unfold kidsE; grind
  have h3 : k = 1 ∨ k = 2 ∨ k = 3 ∨ k = 4 ∨ k = 5 ∨ k = 6 ∨ k = 7 ∨ k = 8 ∨ k = 9 ∨ k = 10 ∨ k = 11 ∨ k = 12 ∨ k = 13 ∨ k = 14 ∨ k = 15 ∨ k = 16 ∨ k = 17 ∨ k = 18 := by omega
  rcases h3 with rfl | rfl | rfl | rfl | rfl | rfl | rfl | rfl | rfl | rfl | rfl | rfl | rfl | rfl | rfl | rfl | rfl | rfl
  all_goals
    simp +contextual only [go_sem, Rcb, Rbk, sevalprocAttr]
    intro b3 hb3
    exact end_none ExtT.rfl' rfl
theorem ct_tog3 (a b : Int) {M : Mem} (T : Tm) : CtT Tryz.prog 270 [.int .u8 a, .int .u8 b] T M [] [] (fun r _ _ _ => r = .int .u8 (togM a b)) noPan := by
  refine ct_run mx bod270 Tryz.func270 rfl (by rw [nt270]; exact Nat.le_of_ble_eq_true rfl) (dr := dr270) (by kernel_rfl) rs270 ?_
  intro _ _
  unfold togM
  simp +contextual only [go_sem, Rcb, Rbk, sevalprocAttr]
  by_cases h1 : a = 97
  · simp +contextual only [go_sem, Rcb, Rbk, sevalprocAttr, h1]
    exact end_none ExtT.rfl' (by simp)
  · by_cases h2 : a = b
    · simp +contextual only [go_sem, Rcb, Rbk, sevalprocAttr, h1, h2]
      exact end_none ExtT.rfl' (by simp)
    · by_cases h3 : b = 97
      · simp +contextual only [go_sem, Rcb, Rbk, sevalprocAttr, h1, h2, h3]
        exact end_none ExtT.rfl' (by simp [h1])
      · simp +contextual only [go_sem, Rcb, Rbk, sevalprocAttr, h1, h2, h3]
        exact end_none ExtT.rfl' rfl
def RBt (t : Int) (cs : List Value) : Prop := cs = [.int .u8 (letr t)]
theorem RBt_len {t : Int} {cs} (h : RBt t cs) : cs.length = 1 := by unfold RBt at h; subst h; rfl
theorem RBt_one {t : Int} {cs} (h : RBt t cs) : ∀ u ∈ cs, u.oneCell' = true := by
  rw [h]; intro u hu; simp only [List.mem_singleton] at hu; subst hu; rfl
def tupB (res : Except Int Int) (v : Value) : Prop := match res with
  | .ok t => v = .tuple ⟨[.int .u8 (letr t), .int .i64 0]⟩
  | .error e => e ≠ 0 ∧ ∃ t, v = .tuple ⟨[.int .u8 t, .int .i64 e]⟩
def AccZ {α : Type} (el : TypeId) (sz : Nat) (r : α → List Value → Prop) (R : RR) (fv : Value) (acc : List α) : Prop :=
  (acc = [] ∧ (∃ b, fv = .slice (some ⟨b, 0, none⟩) 0 0) ∧ R = []) ∨ (acc ≠ [] ∧ Acc el sz r [] R fv acc)
theorem AccZ_form {α : Type} {el : TypeId} {sz : Nat} {r : α → List Value → Prop} {R : RR} {fv : Value} {acc : List α} (h : AccZ el sz r R fv acc) : ∃ a c, fv = .slice a acc.length c := by
  rcases h with ⟨rfl, ⟨a, rfl⟩, _⟩ | ⟨_, h⟩
  · exact ⟨_, _, rfl⟩
  · exact Acc_form h
theorem app_accZ {α : Type} {el : TypeId} {sz : Nat} {r : α → List Value → Prop} {R : RR} {fv : Value} {acc : List α} {P : Program} {F : Fi} {s : List Vc.Item} {e : Env} {ds : List Deferred} {dd : Option Nat} {T : Tm} {M : Mem} {L : LL} {t : TypeId} {z : List Value} {b : Nat} {x : α} {cs : List Value} (hu : P.underlying t = some (.slice el)) (hrow : rowT P t = some (el, sz, z)) (hok : okT P t = true)
    (h : AccZ el sz r R fv acc) (hx : r x cs) (hlen : ∀ x cs, r x cs → cs.length = sz) (hone : ∀ u ∈ cs, u.oneCell' = true) (hb : M b = none) (hl : acc.length * sz + sz ≤ 4294967296) (hpos : 0 < sz)
    (k : ∀ fv' R', AccZ el sz r R' fv' (acc ++ [x]) → Run P F s (updo e dd fv') ds ⟨T, M, (b, cs) :: L, R'⟩ ⟨⟩) : rApp P F t t fv (.slice (some ⟨b, 0, none⟩) 1 1) dd s e ds ⟨T, M, (b, cs) :: L, R⟩ ⟨⟩ := by
  have hcl := hlen x cs hx
  rcases h with ⟨rfl, ⟨a, rfl⟩, rfl⟩ | ⟨hne, h⟩
  · refine app_read (n := 0) (xs := []) hrow hok (.slice _ 1 _ _ _ hu (cells_own [] hb trivial (by rw [hcl, Nat.one_mul])) hone) (by rw [Nat.zero_mul]; rfl) (by omega) (by simp only [List.length_nil] at hl ⊢; omega) ?_
    intro ra rm rc hrm
    have : rm = 1 := by
      rw [hcl] at hrm
      refine Nat.eq_of_mul_eq_mul_right hpos ?_
      simpa using hrm
    subst this
    exact k _ _ (.inr ⟨by simp, .inr ⟨_, _, _, rfl, RL_one hx, rfl⟩⟩)
  · exact app_acc hu hrow hok h hx hlen hone hb hl hpos fun fv' R' h' => k fv' R' (.inr ⟨by simp, h'⟩)
theorem letr_nz (t : Int) : ¬ letr t = 0 := by
  unfold letr
  repeat' split
  all_goals decide
def TyR (x : Ex) : Prop := ∀ (M : Mem) (T : Tm) (hb deep n : Nat) (cs : List Value) (cols : List Int) (cv : Value), REx M x cs → RS M RI 1 cols cv → (∀ c ∈ cols, 1 ≤ c ∧ c ≤ 4) → n ≤ 200 → deep ≤ 21 →
  CtT Tryz.prog 224 [.pointer (some ⟨hb, 0, none⟩), .agg ⟨cs⟩, .int .i64 (deep : Int)] T M [(hb, [cv, .int .i64 (n : Int)])] [] (fun r M' L' R' => tupB (typE cols deep n x).1 r ∧ L' = [(hb, [cv, .int .i64 ((typE cols deep n x).2 : Int)])] ∧ R' = []) noPan
set_option maxHeartbeats 2000000 in
theorem tyR : ∀ (sz : Nat) (x : Ex), SizeOf.sizeOf x ≤ sz → TyR x := by
  intro sz
  induction sz with
  | zero => intro x hx; cases x; simp at hx
  | succ sz ih =>
    intro x hsz M T hb deep n cs cols cv hx hcv hrng hn hdeep
    obtain ⟨s0, rfl, hs0, hs⟩ := REx_form hx
    obtain ⟨hbk, a, c', rfl, hle, hac, hg⟩ := RS_elim (by decide) (fun _ _ => REx_len) hs
    cases x with | mk k v c0 kids =>
    simp only [Ex.k, Ex.v, Ex.c, Ex.kids] at hs hle hg hbk
    obtain ⟨S, hS⟩ : ∃ S, S = typE cols deep n (.mk k v c0 kids) := ⟨_, rfl⟩
    rw [← hS]
    have hSr : ∀ t, S.1 = .ok t → 1 ≤ t ∧ t ≤ 4 := fun t h => typE_rng hrng deep n (.mk k v c0 kids) (by rw [← hS]; exact h)
    rw [typE] at hS
    have hwn := wrap_succ n (by omega)
    have hwd := wrap_succ deep (by omega)
    simp only [Ex.k, Ex.v, Ex.c, Ex.kids]
    refine ct_run mx bod224 Tryz.func224 rfl (by rw [nt224]; exact Nat.le_of_ble_eq_true rfl) (dr := dr224) (by kernel_rfl) rs224 ?_
    intro hno _
    simp only [noneL, and_true] at hno
    simp +contextual only [go_sem, Rcb, Rbk, sevalprocAttr, hno, hwn]
    intro b4 T4 hb4 hap4 hT4 hTb4
    by_cases hmuch : 200 < n + 1 ∨ 20 < deep
    · rw [if_pos hmuch] at hS
      rw [if_pos (by omega)]
      exact Close_drop (end_id hT4 rfl rfl ⟨by rw [hS]; exact ⟨by decide, _, rfl⟩, by rw [hS], rfl⟩)
    rw [if_neg hmuch] at hS
    rw [if_neg (by omega)]
    refine rCall_frz bod269 fun M0 hM0 h4 hno0 => ?_
    simp only [noneL, and_true] at hno0
    refine rCall_pure (ct_rkids3 k T4) ?_ (fun _ _ _ _ h => h.elim)
    rintro r M1 hM01 hno1 rfl
    simp only [noneL, and_true] at hno1
    replace h4 := hM01 _ _ h4
    have hM1 := hM0.trans hM01
    have m0 : mcell M1 ⟨b4, 0, none⟩ = some (.int .i64 k) := by rw [mcell_some h4]; rfl
    have m1 : mcell M1 ⟨b4, 1, none⟩ = some (.int .i64 v.k) := by rw [mcell_some h4]; rfl
    have m2 : mcell M1 ⟨b4, 2, none⟩ = some (.int .i64 v.n) := by rw [mcell_some h4]; rfl
    have m3 : mcell M1 ⟨b4, 3, none⟩ = some (st v.t) := by rw [mcell_some h4]; rfl
    have m4 : mcell M1 ⟨b4, 4, none⟩ = some (.int .i64 c0) := by rw [mcell_some h4]; rfl
    have m5 : mcell M1 ⟨b4, 5, none⟩ = some (.slice a kids.length c') := by rw [mcell_some h4]; rfl
    by_cases hk0 : kidsE k < 0
    · rw [if_pos hk0] at hS
      simp +contextual only [go_sem, Rcb, Rbk, sevalprocAttr, hk0]
      exact end_id hT4 rfl rfl ⟨by rw [hS]; exact ⟨by decide, _, rfl⟩, by rw [hS], rfl⟩
    rw [if_neg hk0] at hS
    by_cases hkl : (kids.length : Int) = kidsE k
    rotate_left
    · rw [if_pos hkl] at hS
      simp +contextual only [go_sem, Rcb, Rbk, sevalprocAttr, hk0, hkl, m5]
      exact end_id hT4 rfl rfl ⟨by rw [hS]; exact ⟨by decide, _, rfl⟩, by rw [hS], rfl⟩
    rw [if_neg (fun h => h hkl)] at hS
    have hk3 : kids.length ≤ 3 := by
      have : kidsE k ≤ 3 := by unfold kidsE; repeat' split <;> omega
      omega
    simp +contextual only [go_sem, Rcb, Rbk, sevalprocAttr, hk0, hkl, m5]
    intro bz hbz hapz
    refine loop_rangeC kids.length 47 [(0, .pointer (some ⟨hb, 0, none⟩)), (2, .int .i64 (deep : Int)), (4, .pointer (some ⟨b4, 0, none⟩)), (45, .slice a kids.length c'), (46, .int .i64 (kids.length : Int))]
      (fun i e h => ∃ (N' : Tm) (M' : Mem) (n' : Nat) (R : RR) (fv : Value) (acc : List Int), ExtT T4 N' ∧ Ext M1 M' ∧ M' hb = none ∧ n' ≤ 200 ∧ h = ⟨N', M', [(hb, [cv, .int .i64 (n' : Int)])], R⟩ ∧ e 9 = fv ∧ acc.length = i ∧ (i < kids.length → AccZ 5 1 RBt R fv acc) ∧ (i = kids.length → R = [] ∧ (acc ≠ [] → RS M' RBt 1 acc fv)) ∧ preT acc (typL cols (deep + 1) n' (kids.drop i)) = typL cols (deep + 1) (n + 1) kids)
      0 (by omega) (by simp only [live, hkl, go_sem, Rcb, Rbk, sevalprocAttr]) (by simp only [go_sem, Rcb, Rbk, sevalprocAttr]) (Close_drop (Close_id ⟨T4, M1, n + 1, [], .slice (some ⟨bz, 0, none⟩) 0 0, [], ExtT.rfl', Ext.rfl', hno1, by omega, rfl, by simp only [go_sem, Rcb, Rbk, sevalprocAttr], rfl, fun _ => .inl ⟨rfl, ⟨_, rfl⟩, rfl⟩, fun _ => ⟨rfl, fun h => (h rfl).elim⟩, preT_nil _⟩)) ?_
    rintro i e h hi hlv ht ⟨N2, M2, n', R2, fv, acc, hN2, hM2, n2, hn', rfl, e9, hacl, hacc, hfr, hres⟩
    simp only [live] at hlv
    have h12 := hM1.trans hM2
    by_cases hlt : i < kids.length
    · obtain ⟨b', o', cs', rfl, hatk, hrx⟩ := hg i kids[i] (List.getElem?_eq_getElem hlt)
      have hdrop : kids.drop i = kids[i] :: kids.drop (i + 1) := List.drop_eq_getElem_cons hlt
      rw [hdrop] at hres
      have hsz2 : SizeOf.sizeOf kids[i] ≤ sz := by
        have h1 := List.sizeOf_lt_of_mem (List.getElem_mem hlt)
        simp only [Ex.mk.sizeOf_spec] at hsz
        omega
      have hle2 := typE_le cols (deep + 1) n' kids[i] hn'
      replace hrx := REx_ext h12 _ _ hrx
      obtain ⟨s7, rfl, hs7, _⟩ := REx_form hrx
      obtain ⟨z0, z1, z2, z3, z4, z5⟩ := At6 (hatk.ext h12)
      simp +contextual only [go_sem, Rcb, Rbk, sevalprocAttr, hlv, ht, hlt, z0, z1, z2, z3, z4, z5, hwd, hs7]
      intro b11 T11 hb11 hap11 hT11 hTb11
      refine rCall_one [(b11, _)] (ih kids[i] hsz2 M2 T11 hb (deep + 1) n' _ cols cv hrx (RS_ext h12 (fun _ _ h => h) hcv) hrng hn' (by omega)) ?_ (fun _ _ _ _ _ _ h => h.elim)
      rintro r M3 L' hM3 hk3' hno3 ⟨hr, rfl, -⟩
      simp only [List.cons_append, List.nil_append, noneL, and_true] at hno3
      rcases hty : typE cols (deep + 1) n' kids[i] with ⟨r1, m⟩
      rw [hty] at hr hle2
      have hTT := (hT4.trans hN2).trans hT11
      cases r1 with
      | error er =>
        obtain ⟨hne, t, rfl⟩ := hr
        rw [typL_err hty] at hres
        rw [← hres] at hS
        simp +contextual only [go_sem, Rcb, Rbk, sevalprocAttr, hlv, ht, hlt, hne]
        refine Close_drop (Close_dropAllR (end_id hTT rfl rfl ⟨?_, ?_, rfl⟩))
        · rw [hS]; exact ⟨hne, _, rfl⟩
        · rw [hS]
      | ok t =>
        simp only [tupB] at hr
        subst hr
        rw [typL_ok hty] at hres
        simp +contextual only [go_sem, Rcb, Rbk, sevalprocAttr, hlv, ht, hlt, e9]
        intro b7 hb7 hap7
        refine app_accZ (Tryz.underlying134) row134 okt134 (x := t) (hacc hlt) rfl (fun _ _ => RBt_len) (RBt_one rfl) hb7 (by omega) (by decide) ?_
        intro fv' R' hacc'
        simp +contextual only [go_sem, Rcb, Rbk, sevalprocAttr, hlv, ht, hlt]
        refine lp_close (Close_drop (Close_drop ?_))
        by_cases hie : i + 1 = kids.length
        · have hacc2 : Acc 5 1 RBt [] R' fv' (acc ++ [t]) := by
            rcases hacc' with ⟨h, _⟩ | ⟨_, h⟩
            · simp at h
            · exact h
          refine Close_acc hacc2 (by rw [List.length_append]; simp only [List.length_cons, List.length_nil]; omega) (by decide) ⟨hno3.2, trivial⟩ fun M4 hM4 hno4 hrs => Close_id ⟨kids.length - (i + 1), by omega, rfl, i + 1, by omega, rfl, ?_, ?_, T11, M4, m, [], fv', acc ++ [t], hN2.trans hT11, (hM2.trans hM3).trans hM4, hno4.1, hle2.2 t rfl, rfl, ?_, ?_, fun h => absurd h (by omega), fun _ => ⟨rfl, fun _ => hrs⟩, hres⟩
          · simp only [live, hlv, go_sem, Rcb, Rbk, sevalprocAttr]
          · simp only [ht, go_sem, Rcb, Rbk, sevalprocAttr, wrap_succ i (by omega)]
          · simp only [go_sem, Rcb, Rbk, sevalprocAttr]
          · rw [List.length_append, hacl]; rfl
        · refine Close_id ⟨kids.length - (i + 1), by omega, rfl, i + 1, by omega, rfl, ?_, ?_, T11, M3, m, R', fv', acc ++ [t], hN2.trans hT11, hM2.trans hM3, hno3.2, hle2.2 t rfl, rfl, ?_, ?_, fun _ => hacc', fun h => absurd h hie, hres⟩
          · simp only [live, hlv, go_sem, Rcb, Rbk, sevalprocAttr]
          · simp only [ht, go_sem, Rcb, Rbk, sevalprocAttr, wrap_succ i (by omega)]
          · simp only [go_sem, Rcb, Rbk, sevalprocAttr]
          · rw [List.length_append, hacl]; rfl
    · have : i = kids.length := by omega
      subst this
      rw [List.drop_length, typL] at hres
      simp only [preT, List.append_nil] at hres
      have hrl : ∀ t ∈ acc, 1 ≤ t ∧ t ≤ 4 := typL_rng hrng (deep + 1) (n + 1) kids (by rw [← hres])
      rw [← hres] at hS
      simp only at hS
      replace m0 := mcell_ext hM2 m0
      replace m1 := mcell_ext hM2 m1
      replace m2 := mcell_ext hM2 m2
      replace m3 := mcell_ext hM2 m3
      replace m4 := mcell_ext hM2 m4
      have hTT := hT4.trans hN2
      have hend : ∀ {N : Tm} {M' : Mem} {A : LL} {R : RR} {t : Int} {e0 : Int}, ExtT T N → tupB S.1 (.tuple ⟨[.int .u8 t, .int .i64 e0]⟩) → S.2 = n' → Close ⟨N, M', A ++ [(hb, [cv, .int .i64 (n' : Int)])], R⟩ (endF T (keys [(hb, [cv, .int .i64 (n : Int)])]) 0 (fun r M' L' R' => tupB S.1 r ∧ L' = [(hb, [cv, .int .i64 (S.2 : Int)])] ∧ R' = []) (.tuple ⟨[.int .u8 t, .int .i64 e0]⟩)) := by
        intro N M' A R t e0 hN ht2 h2
        exact Close_dropL A (Close_dropAllR (end_id hN rfl rfl ⟨ht2, by rw [h2], rfl⟩))
      by_cases h1 : k = 1
      · subst h1
        rw [if_pos rfl] at hS
        simp +contextual only [go_sem, Rcb, Rbk, sevalprocAttr, hlv, ht, hlt, m0, m1, m2, m3]
        refine rCall_pure (ct_ref1_Wrong v M2 N2) ?_ (fun _ _ _ _ h => h.elim)
        rintro r M3 hM3 hno3 rfl
        by_cases hw : wrongV v = 0
        · rw [if_pos hw] at hS
          replace m1 := mcell_ext hM3 m1
          simp +contextual only [go_sem, Rcb, Rbk, sevalprocAttr, hlv, hw, m1]
          refine rCall_pure (ct_letter v.k (wrongV_rng hw) N2) ?_ (fun _ _ _ _ h => h.elim)
          rintro r M4 hM4 hno4 rfl
          simp +contextual only [go_sem, Rcb, Rbk, sevalprocAttr]
          exact hend (A := []) hTT (by rw [hS]; rfl) (by rw [hS])
        · rw [if_neg hw] at hS
          simp +contextual only [go_sem, Rcb, Rbk, sevalprocAttr, hlv, hw]
          exact hend (A := []) hTT (by rw [hS]; exact ⟨hw, _, rfl⟩) (by rw [hS])
      rw [if_neg h1] at hS
      by_cases h2 : k = 2
      · subst h2
        rw [if_pos rfl] at hS
        obtain ⟨_, ca, cc, rfl, _, _, hcg⟩ := RS_elim (by decide) (fun _ _ => RI_len) (RS_ext h12 (fun _ _ h => h) hcv)
        simp +contextual only [go_sem, Rcb, Rbk, sevalprocAttr, hlv, ht, hlt, m0]
        refine draw_all ?_
        by_cases hlo : c0 < 0
        · simp +contextual only [go_sem, Rcb, Rbk, sevalprocAttr, hlv, m4, n2, hlo]
          refine hend (A := []) hTT ?_ (by rw [hS])
          rw [hS]; simp only; rw [if_neg (by omega)]; exact ⟨by decide, _, rfl⟩
        · by_cases hhi : (cols.length : Int) ≤ c0
          · simp +contextual only [go_sem, Rcb, Rbk, sevalprocAttr, hlv, m4, n2, hlo, hhi]
            refine hend (A := []) hTT ?_ (by rw [hS])
            rw [hS]; simp only; rw [if_neg (by omega)]; exact ⟨by decide, _, rfl⟩
          · obtain ⟨j, hj⟩ : ∃ j : Nat, c0 = (j : Int) := ⟨c0.toNat, by omega⟩
            subst hj
            have hjl : j < cols.length := by omega
            obtain ⟨b', o', cs', rfl, hatk, hrx⟩ := hcg j cols[j] (List.getElem?_eq_getElem hjl)
            unfold RI at hrx; subst hrx
            have x0 := At1 hatk
            rw [Nat.mul_one] at x0
            have hlo' : ¬ ((j : Int) < 0) := hlo
            simp +contextual only [go_sem, Rcb, Rbk, sevalprocAttr, hlv, m4, n2, hlo', hhi]
            refine draw_all ?_
            simp +contextual only [go_sem, Rcb, Rbk, sevalprocAttr, hlv, m4, n2, hjl, x0]
            refine rCall_pure (ct_letter cols[j] (hrng _ (List.getElem_mem hjl)) N2) ?_ (fun _ _ _ _ h => h.elim)
            rintro r M4 hM4 hno4 rfl
            simp +contextual only [go_sem, Rcb, Rbk, sevalprocAttr]
            simp only [noneL, and_true] at hno4
            have hgd : cols.getD (j : Int).toNat 0 = cols[j] := by simp [List.getD, hjl]
            exact ⟨Sub_ML hM4 ⟨hno4, trivial⟩, hend (A := []) hTT (by rw [hS]; simp only; rw [if_pos (by omega), hgd]; rfl) (by rw [hS])⟩
      rw [if_neg h2] at hS
      obtain ⟨rfl, hrs⟩ := hfr rfl
      by_cases h16 : k = 16
      · subst h16
        rw [if_pos rfl] at hS
        simp +contextual only [go_sem, Rcb, Rbk, sevalprocAttr, hlv, ht, hlt, m0]
        exact hend (A := []) hTT (by rw [hS]; rfl) (by rw [hS])
      rw [if_neg h16] at hS
      have hS2 : S.2 = n' := by rw [hS]
      have hS1 : S.1 = kindT' k acc := by rw [hS]
      have hkk : k = 3 ∨ k = 17 ∨ ((4 ≤ k ∧ k ≤ 15) ∨ k = 18) := by
        unfold kidsE at hk0
        grind
      have hpos : 0 < kidsE k := by
        unfold kidsE
        grind
      have hne : acc ≠ [] := by
        intro h; rw [h] at hacl; simp at hacl; omega
      obtain ⟨_, fa, fc, rfl, hfc, _, hfg⟩ := RS_elim (by decide) (fun _ _ => RBt_len) (hrs hne)
      rcases hkk with rfl | rfl | hkk
      · have hk1 : kidsE 3 = 1 := rfl
        obtain ⟨t0, rfl⟩ : ∃ t0, acc = [t0] := by
          match acc, hacl with
          | [t0], _ => exact ⟨t0, rfl⟩
          | [], h => exact (hne rfl).elim
          | _ :: _ :: _, h => simp only [List.length_cons] at h; omega
        obtain ⟨b0, o0, cs0, rfl, hat0, hr0⟩ := hfg 0 t0 rfl
        unfold RBt at hr0; subst hr0
        have x0 := At1 hat0
        rw [Nat.zero_mul, Nat.add_zero] at x0
        have ht0 := hrl t0 (by simp)
        have hf0 := togM_fit ht0 (u := 2) (by omega)
        have hl2 : letr 2 = 98 := rfl
        rw [hl2] at hf0
        simp +contextual only [go_sem, Rcb, Rbk, sevalprocAttr, hlv, ht, hlt, m0, e9, x0]
        refine rCall_pure (ct_tog3 (letr t0) 98 N2) ?_ (fun _ _ _ _ h => h.elim)
        rintro r M4 hM4 hno4 rfl
        by_cases hf : togM (letr t0) 98 = 98
        · rw [decide_eq_true hf] at hf0
          simp +contextual only [go_sem, Rcb, Rbk, sevalprocAttr, hlv, hf]
          exact hend (A := []) hTT (by rw [hS1]; simp only [kindT']; simp [← hf0]; rfl) hS2
        · rw [decide_eq_false hf] at hf0
          simp +contextual only [go_sem, Rcb, Rbk, sevalprocAttr, hlv, hf]
          exact hend (A := []) hTT (by rw [hS1]; simp only [kindT']; simp [← hf0]; exact ⟨by decide, _, rfl⟩) hS2
      · have hk1 : kidsE 17 = 3 := rfl
        obtain ⟨t0, t1, t2, rfl⟩ : ∃ t0 t1 t2, acc = [t0, t1, t2] := by
          match acc, hacl with
          | [t0, t1, t2], _ => exact ⟨t0, t1, t2, rfl⟩
          | [], h => exact (hne rfl).elim
          | [_], h => simp only [List.length_cons, List.length_nil] at h; omega
          | [_, _], h => simp only [List.length_cons, List.length_nil] at h; omega
          | _ :: _ :: _ :: _ :: _, h => simp only [List.length_cons] at h; omega
        obtain ⟨b0, o0, cs0, rfl, hat0, hr0⟩ := hfg 0 t0 rfl
        obtain ⟨b1, o1, cs1, hb1, hat1, hr1⟩ := hfg 1 t1 rfl
        cases hb1
        obtain ⟨b2, o2, cs2, hb2, hat2, hr2⟩ := hfg 2 t2 rfl
        cases hb2
        unfold RBt at hr0 hr1 hr2; subst hr0 hr1 hr2
        have x0 := At1 hat0
        have x1 := At1 hat1
        have x2 := At1 hat2
        rw [Nat.zero_mul, Nat.add_zero] at x0
        rw [Nat.one_mul] at x1
        rw [Nat.mul_one] at x2
        have ht0 := hrl t0 (by simp)
        have ht1 := hrl t1 (by simp)
        have ht2 := hrl t2 (by simp)
        have ho := togM_one ht1 ht2
        have hf0 := togM_fit ht0 (u := 2) (by omega)
        have hl2 : letr 2 = 98 := rfl
        rw [hl2] at hf0
        simp +contextual only [go_sem, Rcb, Rbk, sevalprocAttr, hlv, ht, hlt, m0, e9, x0]
        refine draw_all ?_
        simp +contextual only [go_sem, Rcb, Rbk, sevalprocAttr, hlv, e9, n2, x0, x1, x2]
        refine rCall_pure (ct_tog3 (letr t1) (letr t2) N2) ?_ (fun _ _ _ _ h => h.elim)
        rintro r M4 hM4 hno4 rfl
        simp only [noneL, and_true] at hno4
        cases hone : oneT t1 t2 with
        | none =>
          rw [hone] at ho
          simp +contextual only [go_sem, Rcb, Rbk, sevalprocAttr, ho]
          exact hend (A := []) hTT (by rw [hS1]; simp only [kindT']; simp [hone]; exact ⟨by decide, _, rfl⟩) hS2
        | some o =>
          rw [hone] at ho
          simp only at ho
          have hnz := letr_nz o
          have y0 := mcell_ext hM4 x0
          simp +contextual only [go_sem, Rcb, Rbk, sevalprocAttr, ho, hnz, e9, y0]
          refine rCall_pure (ct_tog3 (letr t0) 98 N2) ?_ (fun _ _ _ _ h => h.elim)
          rintro r M5 hM5 hno5 rfl
          by_cases hf : togM (letr t0) 98 = 98
          · rw [decide_eq_true hf] at hf0
            simp +contextual only [go_sem, Rcb, Rbk, sevalprocAttr, hlv, hf]
            exact hend (A := []) hTT (by rw [hS1]; simp only [kindT']; simp [hone, ← hf0]; rfl) hS2
          · rw [decide_eq_false hf] at hf0
            simp +contextual only [go_sem, Rcb, Rbk, sevalprocAttr, hlv, hf]
            exact hend (A := []) hTT (by rw [hS1]; simp only [kindT']; simp [hone, ← hf0]; exact ⟨by decide, _, rfl⟩) hS2
      · have hk2 : kidsE k = 2 := by unfold kidsE; grind
        obtain ⟨t0, t1, rfl⟩ : ∃ t0 t1, acc = [t0, t1] := by
          match acc, hacl with
          | [t0, t1], _ => exact ⟨t0, t1, rfl⟩
          | [], h => exact (hne rfl).elim
          | [_], h => simp only [List.length_cons, List.length_nil] at h; omega
          | _ :: _ :: _ :: _, h => simp only [List.length_cons] at h; omega
        obtain ⟨b0, o0, cs0, rfl, hat0, hr0⟩ := hfg 0 t0 rfl
        obtain ⟨b1, o1, cs1, hb1, hat1, hr1⟩ := hfg 1 t1 rfl
        cases hb1
        unfold RBt at hr0 hr1; subst hr0 hr1
        have x0 := At1 hat0
        have x1 := At1 hat1
        rw [Nat.zero_mul, Nat.add_zero] at x0
        rw [Nat.one_mul] at x1
        have ht0 := hrl t0 (by simp)
        have ht1 := hrl t1 (by simp)
        rcases (show (k = 4 ∨ k = 5) ∨ (k = 12 ∨ k = 13 ∨ k = 14) ∨ k = 15 ∨ k = 18 ∨ (k = 6 ∨ k = 7 ∨ k = 8 ∨ k = 9 ∨ k = 10 ∨ k = 11) by omega) with h' | h' | h' | h' | h'
        · have hf0 := togM_fit ht0 (u := 2) (by omega)
          have hf1 := togM_fit ht1 (u := 2) (by omega)
          have hl2 : letr 2 = 98 := rfl
          rw [hl2] at hf0 hf1
          rcases h' with rfl | rfl
          all_goals
            simp +contextual only [go_sem, Rcb, Rbk, sevalprocAttr, hlv, ht, hlt, m0, e9, x0]
            refine rCall_pure (ct_tog3 (letr t0) 98 N2) ?_ (fun _ _ _ _ h => h.elim)
            rintro r M4 hM4 hno4 rfl
            by_cases hf : togM (letr t0) 98 = 98
            · rw [decide_eq_true hf] at hf0
              have y1 := mcell_ext hM4 x1
              simp +contextual only [go_sem, Rcb, Rbk, sevalprocAttr, hlv, hf, e9, y1]
              refine rCall_pure (ct_tog3 (letr t1) 98 N2) ?_ (fun _ _ _ _ h => h.elim)
              rintro r M5 hM5 hno5 rfl
              by_cases hg : togM (letr t1) 98 = 98
              · rw [decide_eq_true hg] at hf1
                simp +contextual only [go_sem, Rcb, Rbk, sevalprocAttr, hlv, hg]
                exact hend (A := []) hTT (by rw [hS1]; simp only [kindT']; simp [← hf0, ← hf1]; rfl) hS2
              · rw [decide_eq_false hg] at hf1
                simp +contextual only [go_sem, Rcb, Rbk, sevalprocAttr, hlv, hg]
                exact hend (A := []) hTT (by rw [hS1]; simp only [kindT']; simp [← hf0, ← hf1]; exact ⟨by decide, _, rfl⟩) hS2
            · rw [decide_eq_false hf] at hf0
              simp +contextual only [go_sem, Rcb, Rbk, sevalprocAttr, hlv, hf]
              exact hend (A := []) hTT (by rw [hS1]; simp only [kindT']; simp [← hf0]; exact ⟨by decide, _, rfl⟩) hS2
        · have hf0 := togM_fit ht0 (u := 3) (by omega)
          have hf1 := togM_fit ht1 (u := 3) (by omega)
          have hl2 : letr 3 = 105 := rfl
          rw [hl2] at hf0 hf1
          rcases h' with rfl | rfl | rfl
          all_goals
            simp +contextual only [go_sem, Rcb, Rbk, sevalprocAttr, hlv, ht, hlt, m0, e9, x0]
            refine rCall_pure (ct_tog3 (letr t0) 105 N2) ?_ (fun _ _ _ _ h => h.elim)
            rintro r M4 hM4 hno4 rfl
            by_cases hf : togM (letr t0) 105 = 105
            · rw [decide_eq_true hf] at hf0
              have y1 := mcell_ext hM4 x1
              simp +contextual only [go_sem, Rcb, Rbk, sevalprocAttr, hlv, hf, e9, y1]
              refine rCall_pure (ct_tog3 (letr t1) 105 N2) ?_ (fun _ _ _ _ h => h.elim)
              rintro r M5 hM5 hno5 rfl
              by_cases hg : togM (letr t1) 105 = 105
              · rw [decide_eq_true hg] at hf1
                simp +contextual only [go_sem, Rcb, Rbk, sevalprocAttr, hlv, hg]
                exact hend (A := []) hTT (by rw [hS1]; simp only [kindT']; simp [← hf0, ← hf1]; rfl) hS2
              · rw [decide_eq_false hg] at hf1
                simp +contextual only [go_sem, Rcb, Rbk, sevalprocAttr, hlv, hg]
                exact hend (A := []) hTT (by rw [hS1]; simp only [kindT']; simp [← hf0, ← hf1]; exact ⟨by decide, _, rfl⟩) hS2
            · rw [decide_eq_false hf] at hf0
              simp +contextual only [go_sem, Rcb, Rbk, sevalprocAttr, hlv, hf]
              exact hend (A := []) hTT (by rw [hS1]; simp only [kindT']; simp [← hf0]; exact ⟨by decide, _, rfl⟩) hS2
        · have hf0 := togM_fit ht0 (u := 4) (by omega)
          have hf1 := togM_fit ht1 (u := 4) (by omega)
          have hl2 : letr 4 = 116 := rfl
          rw [hl2] at hf0 hf1
          rcases h' with rfl
          all_goals
            simp +contextual only [go_sem, Rcb, Rbk, sevalprocAttr, hlv, ht, hlt, m0, e9, x0]
            refine rCall_pure (ct_tog3 (letr t0) 116 N2) ?_ (fun _ _ _ _ h => h.elim)
            rintro r M4 hM4 hno4 rfl
            by_cases hf : togM (letr t0) 116 = 116
            · rw [decide_eq_true hf] at hf0
              have y1 := mcell_ext hM4 x1
              simp +contextual only [go_sem, Rcb, Rbk, sevalprocAttr, hlv, hf, e9, y1]
              refine rCall_pure (ct_tog3 (letr t1) 116 N2) ?_ (fun _ _ _ _ h => h.elim)
              rintro r M5 hM5 hno5 rfl
              by_cases hg : togM (letr t1) 116 = 116
              · rw [decide_eq_true hg] at hf1
                simp +contextual only [go_sem, Rcb, Rbk, sevalprocAttr, hlv, hg]
                exact hend (A := []) hTT (by rw [hS1]; simp only [kindT']; simp [← hf0, ← hf1]; rfl) hS2
              · rw [decide_eq_false hg] at hf1
                simp +contextual only [go_sem, Rcb, Rbk, sevalprocAttr, hlv, hg]
                exact hend (A := []) hTT (by rw [hS1]; simp only [kindT']; simp [← hf0, ← hf1]; exact ⟨by decide, _, rfl⟩) hS2
            · rw [decide_eq_false hf] at hf0
              simp +contextual only [go_sem, Rcb, Rbk, sevalprocAttr, hlv, hf]
              exact hend (A := []) hTT (by rw [hS1]; simp only [kindT']; simp [← hf0]; exact ⟨by decide, _, rfl⟩) hS2
        · subst h'
          have ho := togM_one ht0 ht1
          simp +contextual only [go_sem, Rcb, Rbk, sevalprocAttr, hlv, ht, hlt, m0, e9, x0]
          refine draw_all ?_
          simp +contextual only [go_sem, Rcb, Rbk, sevalprocAttr, hlv, e9, n2, x0, x1]
          refine rCall_pure (ct_tog3 (letr t0) (letr t1) N2) ?_ (fun _ _ _ _ h => h.elim)
          rintro r M4 hM4 hno4 rfl
          simp only [noneL, and_true] at hno4
          cases hone : oneT t0 t1 with
          | none =>
            rw [hone] at ho
            simp +contextual only [go_sem, Rcb, Rbk, sevalprocAttr, ho]
            exact hend (A := []) hTT (by rw [hS1]; simp only [kindT']; simp [hone]; exact ⟨by decide, _, rfl⟩) hS2
          | some o =>
            rw [hone] at ho
            simp only at ho
            have hnz := letr_nz o
            simp +contextual only [go_sem, Rcb, Rbk, sevalprocAttr, ho, hnz]
            exact hend (A := []) hTT (by rw [hS1]; simp only [kindT']; simp [hone]; rfl) hS2
        · have ho := togM_one ht0 ht1
          rcases h' with rfl | rfl | rfl | rfl | rfl | rfl
          all_goals
            simp +contextual only [go_sem, Rcb, Rbk, sevalprocAttr, hlv, ht, hlt, m0, e9, x0]
            refine draw_all ?_
            simp +contextual only [go_sem, Rcb, Rbk, sevalprocAttr, hlv, e9, n2, x0, x1]
            refine rCall_pure (ct_tog3 (letr t0) (letr t1) N2) ?_ (fun _ _ _ _ h => h.elim)
            rintro r M4 hM4 hno4 rfl
            simp only [noneL, and_true] at hno4
            cases hone : oneT t0 t1 with
            | none =>
              rw [hone] at ho
              simp +contextual only [go_sem, Rcb, Rbk, sevalprocAttr, ho]
              exact hend (A := []) hTT (by rw [hS1]; simp only [kindT']; simp [hone]; exact ⟨by decide, _, rfl⟩) hS2
            | some o =>
              rw [hone] at ho
              simp only at ho
              have hnz := letr_nz o
              simp +contextual only [go_sem, Rcb, Rbk, sevalprocAttr, ho, hnz]
              exact hend (A := []) hTT (by rw [hS1]; simp only [kindT']; simp [hone]; rfl) hS2
theorem ct_TypeOf3 {M : Mem} {cols : List Int} {cv : Value} {x : Ex} {cs : List Value} (hcv : RS M RI 1 cols cv) (hx : REx M x cs) (T : Tm) :
    CtT Tryz.prog 172 [cv, .agg ⟨cs⟩] T M [] [] (fun r _ _ _ => tupE (typeX cols x) r) noPan := by
  obtain ⟨hbk, a, c, rfl, hle, _, hg⟩ := RS_elim (by decide) (fun _ _ => RI_len) hcv
  obtain ⟨s0, rfl, hs0, hk0⟩ := REx_form hx
  unfold typeX
  refine ct_run mx bod172 Tryz.func172 rfl (by rw [nt172]; exact Nat.le_of_ble_eq_true rfl) (dr := dr172) (by kernel_rfl) rs172 ?_
  intro hno _
  by_cases h16 : 16 < cols.length
  · have h16' : (16 : Int) < (cols.length : Int) := by omega
    rw [if_pos h16]
    simp +contextual only [go_sem, Rcb, Rbk, sevalprocAttr, hs0, h16']
    intro b3 T3 hb3 hT3 hTb3
    exact end_none hT3 ⟨by decide, _, rfl⟩
  have h16' : ¬ (16 : Int) < (cols.length : Int) := by omega
  rw [if_neg h16]
  simp +contextual only [go_sem, Rcb, Rbk, sevalprocAttr, hs0, h16']
  intro b3 T3 hb3 hT3 hTb3
  refine loop_rangeC cols.length 16 [(0, .slice a cols.length c), (3, .pointer (some ⟨b3, 0, none⟩)), (14, .slice a cols.length c), (15, .int .i64 (cols.length : Int))] (fun i e h => ∃ M', Ext M M' ∧ M' b3 = some [.int .i64 x.k, .int .i64 x.v.k, .int .i64 x.v.n, st x.v.t, .int .i64 x.c, s0] ∧ h = ⟨T3, M', [], []⟩ ∧ (cols.drop i).all (fun t => decide (1 ≤ t ∧ t ≤ 4)) = cols.all (fun t => decide (1 ≤ t ∧ t ≤ 4))) 0 (by omega) (by simp only [live, go_sem, Rcb, Rbk, sevalprocAttr]) (by simp only [go_sem, Rcb, Rbk, sevalprocAttr]) (Close_freeze fun he h3 _ => Close_id ⟨_, he, h3, rfl, rfl⟩) ?_
  rintro i e h hi hlv ht ⟨M1, hM1, h3, rfl, hres⟩
  simp only [live] at hlv
  by_cases hlt : i < cols.length
  · obtain ⟨b', o', cs', rfl, hat, hrx⟩ := hg i cols[i] (List.getElem?_eq_getElem hlt)
    unfold RI at hrx; subst hrx
    have x0 := At1 (hat.ext hM1)
    rw [Nat.mul_one] at x0
    have hdrop : cols.drop i = cols[i] :: cols.drop (i + 1) := List.drop_eq_getElem_cons hlt
    rw [hdrop, List.all_cons] at hres
    by_cases hb : 1 ≤ cols[i] ∧ cols[i] ≤ 4
    · rw [decide_eq_true hb, Bool.true_and] at hres
      have hb1 : ¬ cols[i] < 1 := by omega
      have hb2 : ¬ 4 < cols[i] := by omega
      simp +contextual only [go_sem, Rcb, Rbk, sevalprocAttr, hlv, ht, hlt, x0, hb1, hb2]
      refine lp_range hlt ?_ ?_ ⟨M1, hM1, h3, rfl, hres⟩
      · simp only [live, hlv, go_sem, Rcb, Rbk, sevalprocAttr]
      · simp only [ht, go_sem, Rcb, Rbk, sevalprocAttr, wrap_succ i (by omega)]
    · rw [decide_eq_false hb, Bool.false_and] at hres
      rw [← hres, if_neg (by decide)]
      by_cases hb1 : cols[i] < 1
      · simp +contextual only [go_sem, Rcb, Rbk, sevalprocAttr, hlv, ht, hlt, x0, hb1]
        exact end_none hT3 ⟨by decide, _, rfl⟩
      · have hb2 : 4 < cols[i] := by omega
        simp +contextual only [go_sem, Rcb, Rbk, sevalprocAttr, hlv, ht, hlt, x0, hb1, hb2]
        exact end_none hT3 ⟨by decide, _, rfl⟩
  · have : i = cols.length := by omega
    subst this
    rw [List.drop_length] at hres
    rw [← hres, List.all_nil, if_pos rfl]
    have hrng : ∀ c ∈ cols, 1 ≤ c ∧ c ≤ 4 := by
      rw [List.all_nil] at hres
      have h1 := List.all_eq_true.1 hres.symm
      intro c hc
      exact of_decide_eq_true (h1 c hc)
    have m0 : mcell M1 ⟨b3, 0, none⟩ = some (.int .i64 x.k) := by rw [mcell_some h3]; rfl
    have m1 : mcell M1 ⟨b3, 1, none⟩ = some (.int .i64 x.v.k) := by rw [mcell_some h3]; rfl
    have m2 : mcell M1 ⟨b3, 2, none⟩ = some (.int .i64 x.v.n) := by rw [mcell_some h3]; rfl
    have m3 : mcell M1 ⟨b3, 3, none⟩ = some (st x.v.t) := by rw [mcell_some h3]; rfl
    have m4 : mcell M1 ⟨b3, 4, none⟩ = some (.int .i64 x.c) := by rw [mcell_some h3]; rfl
    have m5 : mcell M1 ⟨b3, 5, none⟩ = some s0 := by rw [mcell_some h3]; rfl
    simp +contextual only [go_sem, Rcb, Rbk, sevalprocAttr, hlv, ht, hlt, m0, m1, m2, m3, m4, m5, hs0]
    intro b9 T9 hb9 hT9 hTb9
    refine rCall_one [] (tyR _ x (Nat.le_refl _) M1 T9 b9 1 0 _ cols _ (REx_ext hM1 _ _ hx) (RS_ext hM1 (fun _ _ h => h) hcv) hrng (by omega) (by omega)) ?_ (fun _ _ _ _ _ _ h => h.elim)
    rintro r M3 L' hM3 hk3' hno3 ⟨hr, rfl, -⟩
    have hTT := hT3.trans hT9
    cases hty : (typE cols 1 0 x).1 with
    | ok t =>
      rw [hty] at hr
      simp only [tupB] at hr
      subst hr
      have hrt := typE_rng hrng 1 0 x hty
      simp +contextual only [go_sem, Rcb, Rbk, sevalprocAttr, hlv]
      refine loop_rule (fun m e ds h => ds = [] ∧ e 8 = .int .u8 (letr t) ∧ ∃ (u : Int) (M' : Mem), e 10 = .int .i64 u ∧ 1 ≤ u ∧ u ≤ t ∧ (m : Int) = t - u ∧ h = ⟨T9, M', [(b9, [.slice a cols.length c, .int .i64 ((typE cols 1 0 x).2 : Int)])], []⟩) ⟨(t - 1).toNat, rfl, by simp only [go_sem, Rcb, Rbk, sevalprocAttr], 1, M3, by simp only [go_sem, Rcb, Rbk, sevalprocAttr], by omega, by omega, by omega, rfl⟩ ?_
      rintro m e ds h ⟨rfl, e8, u, M5, e10, hu1, hut, hm, rfl⟩
      have hle4 : u ≤ 4 := by omega
      simp +contextual only [go_sem, Rcb, Rbk, sevalprocAttr, e8, e10, hle4]
      refine rCall_pure (ct_letter u (by omega) T9) ?_ (fun _ _ _ _ h => h.elim)
      rintro r M4 hM4 hno4 rfl
      by_cases hut2 : u = t
      · subst hut2
        simp +contextual only [go_sem, Rcb, Rbk, sevalprocAttr, e8, e10]
        exact end_none hTT rfl
      · have hne : ¬ letr u = letr t := fun h => hut2 ((letr_inj (by omega) hrt).1 h)
        simp +contextual only [go_sem, Rcb, Rbk, sevalprocAttr, e8, e10, hne]
        refine lp_close (Close_id ⟨m - 1, by omega, rfl, ?_, u + 1, M4, ?_, by omega, by omega, by omega, rfl⟩)
        · simp only [e8, go_sem, Rcb, Rbk, sevalprocAttr]
        · simp only [go_sem, Rcb, Rbk, sevalprocAttr]; rw [wrap64 (by omega) (by omega)]
    | error er =>
      rw [hty] at hr
      obtain ⟨hne, t, rfl⟩ := hr
      simp +contextual only [go_sem, Rcb, Rbk, sevalprocAttr, hne]
      exact end_none hTT ⟨hne, _, rfl⟩
theorem typeX_rng {cols : List Int} {x : Ex} {t : Int} (h : typeX cols x = .ok t) : 1 ≤ t ∧ t ≤ 4 := by
  unfold typeX at h
  split at h
  · cases h
  · split at h
    · rename_i hc
      refine typE_rng (fun c hc2 => ?_) 1 0 x h
      have h1 := List.all_eq_true.1 hc
      exact of_decide_eq_true (h1 c hc2)
    · cases h
theorem ct_Cond4 {M : Mem} {cols : List Int} {cv : Value} {x : Ex} {cs : List Value} (hcv : RS M RI 1 cols cv) (hx : REx M x cs) (T : Tm) :
    CtT Tryz.prog 115 [cv, .agg ⟨cs⟩] T M [] [] (fun r _ _ _ => r = .int .i64 (condW cols x) ∧ ∀ e, condT cols x = .error e → e ≠ 0) noPan := by
  obtain ⟨s0, hc0, hs0, hk0⟩ := REx_form hx
  refine ct_run mx bod115 Tryz.func115 rfl (by rw [nt115]; exact Nat.le_of_ble_eq_true rfl) (dr := dr115) (by kernel_rfl) rs115 ?_
  intro hno _
  have hl := REx_len hx
  subst hc0
  simp +contextual only [go_sem, Rcb, Rbk, sevalprocAttr, hs0]
  intro b3 T3 hb3 hT3 hTb3
  refine rCall_pure (ct_TypeOf3 hcv hx T3) ?_ (fun _ _ _ _ h => h.elim)
  rintro r M1 hM1 hno1 hr
  unfold condW condT
  cases hty : typeX cols x with
  | error er =>
    rw [hty] at hr
    obtain ⟨hne, t, rfl⟩ := hr
    simp +contextual only [go_sem, Rcb, Rbk, sevalprocAttr, hne]
    exact end_none hT3 ⟨rfl, fun e h => by injection h with h; rw [← h]; exact hne⟩
  | ok t =>
    rw [hty] at hr
    simp only [tupE] at hr
    subst hr
    have hrt := typeX_rng hty
    by_cases h2 : t = 2 ∨ t = 1
    · have h3 : ¬ 2 < t := by omega
      simp +contextual only [go_sem, Rcb, Rbk, sevalprocAttr, h3]
      exact end_none hT3 ⟨by simp [h2], fun e h => by simp [h2] at h⟩
    · have h3 : 2 < t := by omega
      simp +contextual only [go_sem, Rcb, Rbk, sevalprocAttr, h3]
      exact end_none hT3 ⟨by simp [h2], fun e h => by simp [h2] at h; omega⟩
theorem ct_Types4 {M : Mem} {cols : List Int} {cv sv : Value} {xs : List Ex} (hcv : RS M RI 1 cols cv) (hs : RS M (REx M) 6 xs sv) (T : Tm) :
    CtT Tryz.prog 116 [cv, sv] T M [] [] (fun r M' _ _ => tupN (typesX cols xs) r M') noPan := by
  obtain ⟨hbk, a, c, rfl, hle, _, hg⟩ := RS_elim (by decide) (fun _ _ => REx_len) hs
  unfold typesX
  refine ct_run mx bod116 Tryz.func116 rfl (by rw [nt116]; exact Nat.le_of_ble_eq_true rfl) (dr := dr116) (by kernel_rfl) rs116 ?_
  intro hno _
  by_cases h8 : 8 < xs.length
  · have h8' : (8 : Int) < (xs.length : Int) := by omega
    rw [if_pos h8]
    simp +contextual only [go_sem, Rcb, Rbk, sevalprocAttr, h8']
    exact end_none ExtT.rfl' ⟨by decide, rfl⟩
  have h8' : ¬ (8 : Int) < (xs.length : Int) := by omega
  rw [if_neg h8]
  simp +contextual only [go_sem, Rcb, Rbk, sevalprocAttr, h8']
  refine loop_range xs.length 15 [(0, cv), (1, .slice a xs.length c), (14, .int .i64 (xs.length : Int))] (fun i e h => ∃ N' M' R fv acc, ExtT T N' ∧ Ext M M' ∧ h = ⟨N', M', [], R⟩ ∧ e 6 = fv ∧ acc.length = i ∧ Acc 3 1 RI [] R fv acc ∧ preE acc (typesE cols (xs.drop i)) = typesE cols xs) 0 (by omega) (by simp only [live, go_sem, Rcb, Rbk, sevalprocAttr]) (by simp only [go_sem, Rcb, Rbk, sevalprocAttr]) ⟨T, M, [], _, [], ExtT.rfl', Ext.rfl', rfl, by simp only [go_sem, Rcb, Rbk, sevalprocAttr], rfl, Acc_nil, preE_nil _⟩ ?_
  rintro i e h hi hlv ht ⟨N1, M1, R1, fv, acc, hN1, hM1, rfl, e6, hacl, hacc, hres⟩
  simp only [live] at hlv
  by_cases hlt : i < xs.length
  · obtain ⟨b', o', cs', rfl, hat, hrx⟩ := hg i xs[i] (List.getElem?_eq_getElem hlt)
    have hrx1 := REx_ext hM1 _ _ hrx
    obtain ⟨s0, rfl, hs0, hk0⟩ := REx_form hrx1
    obtain ⟨x0, x1, x2, x3, x4, x5⟩ := At6 (hat.ext hM1)
    have hdrop : xs.drop i = xs[i] :: xs.drop (i + 1) := List.drop_eq_getElem_cons hlt
    rw [hdrop] at hres
    simp +contextual only [go_sem, Rcb, Rbk, sevalprocAttr, hlv, ht, hlt, x0, x1, x2, x3, x4, x5, hs0]
    refine rCall_pure (ct_TypeOf3 (RS_ext hM1 (fun _ _ h => h) hcv) hrx1 N1) ?_ (fun _ _ _ _ h => h.elim)
    rintro r M2 hM2 hno2 hr
    have hT := hN1
    cases hty : typeX cols xs[i] with
    | error er =>
      rw [hty] at hr
      obtain ⟨hne, t, rfl⟩ := hr
      rw [typesE_err hty] at hres
      rw [← hres]
      simp +contextual only [go_sem, Rcb, Rbk, sevalprocAttr, hne]
      exact end_none hT ⟨hne, rfl⟩
    | ok t =>
      rw [hty] at hr
      simp only [tupE] at hr
      subst hr
      rw [typesE_ok hty, ← preE_cons] at hres
      simp +contextual only [go_sem, Rcb, Rbk, sevalprocAttr, hlv, ht, hlt, e6]
      intro b7 hb7
      refine app_acc (Tryz.underlying24) row24 okt24 (x := t) hacc rfl (fun _ _ => RI_len) (RI_oneC rfl) hb7 (by omega) (by decide) ?_
      intro fv' R' hacc'
      simp +contextual only [go_sem, Rcb, Rbk, sevalprocAttr, hlv, ht, hlt]
      refine lp_close (Close_drop (Close_id ⟨xs.length - (i + 1), by omega, rfl, i + 1, by omega, rfl, ?_, ?_, N1, M2, R', fv', acc ++ [t], hT, hM1.trans hM2, rfl, ?_, ?_, hacc', hres⟩))
      · simp only [live, hlv, go_sem, Rcb, Rbk, sevalprocAttr]
      · simp only [ht, go_sem, Rcb, Rbk, sevalprocAttr, wrap_succ i (by omega)]
      · simp only [go_sem, Rcb, Rbk, sevalprocAttr]
      · rw [List.length_append, hacl]; rfl
  · have : i = xs.length := by omega
    subst this
    rw [List.drop_length] at hres
    simp only [typesE, preE, List.append_nil] at hres
    rw [← hres]
    simp +contextual only [go_sem, Rcb, Rbk, sevalprocAttr, hlv, ht, hlt, e6]
    exact Close_acc hacc (by omega) (by decide) hno fun M2 hM2 hno2 hrs => end_none hN1 ⟨_, rfl, hrs⟩
theorem ct_AggTypes4 {M : Mem} {cols : List Int} {cv sv : Value} {l : List Ag} (hcv : RS M RI 1 cols cv) (hs : RS M (RAg M) 7 l sv) (hlen : l.length ≤ 1048576) (T : Tm) :
    CtT Tryz.prog 118 [cv, sv] T M [] [] (fun r M' _ _ => tupN (aggsT cols l) r M') noPan := by
  obtain ⟨hbk, a, c, rfl, hle, _, hg⟩ := RS_elim (by decide) (fun _ _ => RAg_len) hs
  refine ct_run mx bod118 Tryz.func118 rfl (by rw [nt118]; exact Nat.le_of_ble_eq_true rfl) (dr := dr118) (by kernel_rfl) rs118 ?_
  intro hno _
  simp +contextual only [go_sem, Rcb, Rbk, sevalprocAttr]
  refine loop_range l.length 13 [(0, cv), (11, .slice a l.length c), (12, .int .i64 (l.length : Int))] (fun i e h => ∃ N' M' R fv acc, ExtT T N' ∧ Ext M M' ∧ h = ⟨N', M', [], R⟩ ∧ e 6 = fv ∧ acc.length = i ∧ Acc 3 1 RI [] R fv acc ∧ preE acc (aggsT cols (l.drop i)) = aggsT cols l) 0 (by omega) (by simp only [live, go_sem, Rcb, Rbk, sevalprocAttr]) (by simp only [go_sem, Rcb, Rbk, sevalprocAttr]) ⟨T, M, [], _, [], ExtT.rfl', Ext.rfl', rfl, by simp only [go_sem, Rcb, Rbk, sevalprocAttr], rfl, Acc_nil, preE_nil _⟩ ?_
  rintro i e h hi hlv ht ⟨N1, M1, R1, fv, acc, hN1, hM1, rfl, e6, hacl, hacc, hres⟩
  simp only [live] at hlv
  by_cases hlt : i < l.length
  · obtain ⟨b', o', cs', rfl, hat, hrx⟩ := hg i l[i] (List.getElem?_eq_getElem hlt)
    obtain ⟨s0, rfl, hs0, hxe⟩ := RAg_form (RAg_ext hM1 _ _ hrx)
    obtain ⟨x0, x1, x2, x3, x4, x5, x6⟩ := At7 (hat.ext hM1)
    have hdrop : l.drop i = l[i] :: l.drop (i + 1) := List.drop_eq_getElem_cons hlt
    rw [hdrop] at hres
    have hstep : ∀ (t : Int), aggT cols l[i] = .ok t → preE (acc ++ [t]) (aggsT cols (l.drop (i + 1))) = aggsT cols l := fun t h => by rw [aggsT_ok h, ← preE_cons] at hres; exact hres
    have hstop : ∀ (er : Int), aggT cols l[i] = .error er → aggsT cols l = .error er := fun er h => by rw [aggsT_err h] at hres; exact hres.symm
    simp +contextual only [go_sem, Rcb, Rbk, sevalprocAttr, hlv, ht, hlt, e6, x0, x1, x2, x3, x4, x5, x6, hs0]
    intro b8 T8 hb8 hT8 hTb8
    have hT := hN1.trans hT8
    by_cases hk : l[i].k < 1 ∨ 5 < l[i].k
    · rw [if_pos hk]
      have := hstop 1 (by unfold aggT; rw [if_pos hk])
      rw [this]
      exact end_none hT ⟨by decide, rfl⟩
    rw [if_neg hk]
    by_cases hk1 : l[i].k = 1
    · rw [if_pos hk1]
      have hst := hstep 3 (by unfold aggT; rw [if_neg hk, if_pos hk1])
      intro b7 hb7 hap7
      refine app_acc (Tryz.underlying24) row24 okt24 (x := (3 : Int)) (cs := [.int .i64 3]) hacc rfl (fun _ _ => RI_len) (RI_oneC rfl) hb7 (by omega) (by decide) ?_
      intro fv' R' hacc'
      simp +contextual only [go_sem, Rcb, Rbk, sevalprocAttr, hlv, ht, hlt]
      refine lp_close (Close_drop (Close_drop (Close_id ⟨l.length - (i + 1), by omega, rfl, i + 1, by omega, rfl, ?_, ?_, T8, M1, R', fv', acc ++ [3], hT, hM1, rfl, ?_, ?_, hacc', hst⟩)))
      · simp only [live, hlv, go_sem, Rcb, Rbk, sevalprocAttr]
      · simp only [ht, go_sem, Rcb, Rbk, sevalprocAttr, wrap_succ i (by omega)]
      · simp only [go_sem, Rcb, Rbk, sevalprocAttr]
      · rw [List.length_append, hacl]; rfl
    rw [if_neg hk1]
    have hrx1 : REx M1 l[i].x [.int .i64 l[i].x.k, .int .i64 l[i].x.v.k, .int .i64 l[i].x.v.n, st l[i].x.v.t, .int .i64 l[i].x.c, s0] := hxe
    refine rCall_pure (ct_TypeOf3 (RS_ext hM1 (fun _ _ h => h) hcv) hrx1 T8) ?_ (fun _ _ _ _ h => h.elim)
    rintro r M2 hM2 hno2 hr
    cases hty : typeX cols l[i].x with
    | error er =>
      rw [hty] at hr
      obtain ⟨hne, t, rfl⟩ := hr
      rw [hstop er (by unfold aggT; rw [if_neg hk, if_neg hk1, hty])]
      simp +contextual only [go_sem, Rcb, Rbk, sevalprocAttr, hne]
      exact end_none hT ⟨hne, rfl⟩
    | ok t =>
      rw [hty] at hr
      simp only [tupE] at hr
      subst hr
      simp only [List.cons_append, List.nil_append, noneL, noneL_wL] at hno2
      have hm0 : mcell M2 ⟨b8, 0, none⟩ = none := by first | exact hno2 | simp [mcell, hno2]
      by_cases g1 : l[i].k = 3
      · by_cases g2 : t = 3
        · have hst := hstep 3 (by unfold aggT; rw [if_neg hk, if_neg hk1, hty]; simp [g1, g2])
          simp +contextual only [go_sem, Rcb, Rbk, sevalprocAttr, hlv, ht, hlt, e6, hm0, g1, g2]
          intro b7 hb7 hap7
          refine app_acc (Tryz.underlying24) row24 okt24 (x := (3 : Int)) (cs := [.int .i64 3]) hacc rfl (fun _ _ => RI_len) (RI_oneC rfl) hb7 (by omega) (by decide) ?_
          intro fv' R' hacc'
          simp +contextual only [go_sem, Rcb, Rbk, sevalprocAttr, hlv, ht, hlt]
          refine lp_close (Close_drop (Close_drop (Close_id ⟨l.length - (i + 1), by omega, rfl, i + 1, by omega, rfl, ?_, ?_, T8, M2, R', fv', acc ++ [3], hT, hM1.trans hM2, rfl, ?_, ?_, hacc', hst⟩)))
          · simp only [live, hlv, go_sem, Rcb, Rbk, sevalprocAttr]
          · simp only [ht, go_sem, Rcb, Rbk, sevalprocAttr, wrap_succ i (by omega)]
          · simp only [go_sem, Rcb, Rbk, sevalprocAttr]
          · rw [List.length_append, hacl]; rfl
        · by_cases g3 : t = 1
          · have hst := hstep 3 (by unfold aggT; rw [if_neg hk, if_neg hk1, hty]; simp [g1, g3])
            simp +contextual only [go_sem, Rcb, Rbk, sevalprocAttr, hlv, ht, hlt, e6, hm0, g1, g3]
            intro b7 hb7 hap7
            refine app_acc (Tryz.underlying24) row24 okt24 (x := (3 : Int)) (cs := [.int .i64 3]) hacc rfl (fun _ _ => RI_len) (RI_oneC rfl) hb7 (by omega) (by decide) ?_
            intro fv' R' hacc'
            simp +contextual only [go_sem, Rcb, Rbk, sevalprocAttr, hlv, ht, hlt]
            refine lp_close (Close_drop (Close_drop (Close_id ⟨l.length - (i + 1), by omega, rfl, i + 1, by omega, rfl, ?_, ?_, T8, M2, R', fv', acc ++ [3], hT, hM1.trans hM2, rfl, ?_, ?_, hacc', hst⟩)))
            · simp only [live, hlv, go_sem, Rcb, Rbk, sevalprocAttr]
            · simp only [ht, go_sem, Rcb, Rbk, sevalprocAttr, wrap_succ i (by omega)]
            · simp only [go_sem, Rcb, Rbk, sevalprocAttr]
            · rw [List.length_append, hacl]; rfl
          · rw [hstop 9 (by unfold aggT; rw [if_neg hk, if_neg hk1, hty]; simp [g1, g2, g3])]
            simp +contextual only [go_sem, Rcb, Rbk, sevalprocAttr, hlv, ht, hlt, e6, hm0, g1, g2, g3]
            exact end_none hT ⟨by decide, rfl⟩
      · by_cases g4 : 4 ≤ l[i].k
        · have hst := hstep t (by unfold aggT; rw [if_neg hk, if_neg hk1, hty]; simp [g1, g4])
          have g5 : ¬ l[i].k = 2 := by omega
          simp +contextual only [go_sem, Rcb, Rbk, sevalprocAttr, hlv, ht, hlt, e6, hm0, g1, g4, g5]
          intro b7 hb7 hap7
          refine app_acc (Tryz.underlying24) row24 okt24 (x := (t : Int)) (cs := [.int .i64 t]) hacc rfl (fun _ _ => RI_len) (RI_oneC rfl) hb7 (by omega) (by decide) ?_
          intro fv' R' hacc'
          simp +contextual only [go_sem, Rcb, Rbk, sevalprocAttr, hlv, ht, hlt]
          refine lp_close (Close_drop (Close_drop (Close_id ⟨l.length - (i + 1), by omega, rfl, i + 1, by omega, rfl, ?_, ?_, T8, M2, R', fv', acc ++ [t], hT, hM1.trans hM2, rfl, ?_, ?_, hacc', hst⟩)))
          · simp only [live, hlv, go_sem, Rcb, Rbk, sevalprocAttr]
          · simp only [ht, go_sem, Rcb, Rbk, sevalprocAttr, wrap_succ i (by omega)]
          · simp only [go_sem, Rcb, Rbk, sevalprocAttr]
          · rw [List.length_append, hacl]; rfl
        · have hst := hstep 3 (by unfold aggT; rw [if_neg hk, if_neg hk1, hty]; simp [g1, g4])
          have g5 : l[i].k = 2 := by
            have h2 : l[i].k ≠ 1 := hk1
            omega
          simp +contextual only [go_sem, Rcb, Rbk, sevalprocAttr, hlv, ht, hlt, e6, hm0, g1, g4, g5]
          intro b7 hb7 hap7
          refine app_acc (Tryz.underlying24) row24 okt24 (x := (3 : Int)) (cs := [.int .i64 3]) hacc rfl (fun _ _ => RI_len) (RI_oneC rfl) hb7 (by omega) (by decide) ?_
          intro fv' R' hacc'
          simp +contextual only [go_sem, Rcb, Rbk, sevalprocAttr, hlv, ht, hlt]
          refine lp_close (Close_drop (Close_drop (Close_id ⟨l.length - (i + 1), by omega, rfl, i + 1, by omega, rfl, ?_, ?_, T8, M2, R', fv', acc ++ [3], hT, hM1.trans hM2, rfl, ?_, ?_, hacc', hst⟩)))
          · simp only [live, hlv, go_sem, Rcb, Rbk, sevalprocAttr]
          · simp only [ht, go_sem, Rcb, Rbk, sevalprocAttr, wrap_succ i (by omega)]
          · simp only [go_sem, Rcb, Rbk, sevalprocAttr]
          · rw [List.length_append, hacl]; rfl
  · have : i = l.length := by omega
    subst this
    rw [List.drop_length] at hres
    simp only [aggsT, preE, List.append_nil] at hres
    rw [← hres]
    simp +contextual only [go_sem, Rcb, Rbk, sevalprocAttr, hlv, ht, hlt, e6]
    exact Close_acc hacc (by omega) (by decide) hno fun M2 hM2 hno2 hrs => end_none hN1 ⟨_, rfl, hrs⟩
theorem ct_pkids5 (k : Int) {M : Mem} (T : Tm) : CtT Tryz.prog 114 [.int .i64 k] T M [] [] (fun r _ _ _ => r = .int .i64 (kidsPl k)) noPan := by
  refine ct_run mx bod114 Tryz.func114 rfl (by rw [nt114]; exact Nat.le_of_ble_eq_true rfl) (dr := dr114) (by kernel_rfl) rs114 ?_
  intro _ _
  by_cases h1 : k < 1
  · simp +contextual only [go_sem, Rcb, Rbk, sevalprocAttr, h1]
    refine end_none ExtT.rfl' (int_eq ?_)
    unfold kidsPl; grind
  by_cases h2 : 13 < k
  · simp +contextual only [go_sem, Rcb, Rbk, sevalprocAttr, h1, h2]
    refine end_none ExtT.rfl' (int_eq ?_)
    unfold kidsPl; grind
  have h3 : k = 1 ∨ k = 2 ∨ k = 3 ∨ k = 4 ∨ k = 5 ∨ k = 6 ∨ k = 7 ∨ k = 8 ∨ k = 9 ∨ k = 10 ∨ k = 11 ∨ k = 12 ∨ k = 13 := by omega
  rcases h3 with rfl | rfl | rfl | rfl | rfl | rfl | rfl | rfl | rfl | rfl | rfl | rfl | rfl
  all_goals
    simp +contextual only [go_sem, Rcb, Rbk, sevalprocAttr]
    intro b3 hb3
    exact end_none ExtT.rfl' rfl
theorem RS_blk {α : Type} {M : Mem} {r : α → List Value → Prop} {sz b c : Nat} {l : List α} {xs junk : List Value} (hb : M b = some (xs ++ junk)) (hl : RL r l xs) (hlen : ∀ x cs, r x cs → cs.length = sz) (hc : l.length ≤ c) (hle : l.length ≤ 140737488355328) : RS M r sz l (.slice (some ⟨b, 0, none⟩) l.length c) := by
  refine ⟨hle, xs, .inr ⟨b, 0, l.length, c, rfl, hc, RL_len hlen hl, ?_⟩, hl⟩
  have := At_of hb (xs ++ junk) 0 (by simp)
  exact (At_app.1 this).1
theorem app_accsZ {α : Type} {el : TypeId} {sz : Nat} {r : α → List Value → Prop} {R : RR} {fv : Value} {acc l : List α} {P : Program} {F : Fi} {s : List Vc.Item} {e : Env} {ds : List Deferred} {dd : Option Nat} {T : Tm} {M : Mem} {L : LL} {t : TypeId} {z ys : List Value} {y : Value} (hrow : rowT P t = some (el, sz, z)) (hok : okT P t = true)
    (h : AccZ el sz r R fv acc) (hys : RL r l ys) (hs : ∀ R, Srcs P t sz ⟨T, M, L, R⟩ y ys) (hlen : ∀ x cs, r x cs → cs.length = sz) (hl : acc.length * sz + l.length * sz ≤ 4294967296) (hpos : 0 < sz)
    (k : ∀ fv' R', AccZ el sz r R' fv' (acc ++ l) → Run P F s (updo e dd fv') ds ⟨T, M, L, R'⟩ ⟨⟩) : rApp P F t t fv y dd s e ds ⟨T, M, L, R⟩ ⟨⟩ := by
  have hyl := RL_len hlen hys
  rcases h with ⟨rfl, ⟨b, rfl⟩, rfl⟩ | ⟨hne, h⟩
  · by_cases hz : l = []
    · subst hz
      have : ys = [] := List.length_eq_zero_iff.1 (by rw [hyl]; simp)
      subst this
      exact app_nothing hrow hok (hs _) (Nat.le_refl _) (k _ _ (.inl ⟨rfl, ⟨b, rfl⟩, rfl⟩))
    · have hlp : 0 < l.length := List.length_pos_iff.2 hz
      have hyp : 0 < ys.length := by rw [hyl]; exact Nat.mul_pos hlp hpos
      refine app_read (n := 0) (xs := []) hrow hok (hs _) (by rw [Nat.zero_mul]; rfl) hyp (by simp only [List.length_nil] at hl ⊢; omega) ?_
      intro ra rm rc hrm
      have : rm = l.length := by
        rw [hyl] at hrm
        refine Nat.eq_of_mul_eq_mul_right hpos ?_
        simpa using hrm
      subst this
      refine k _ _ (.inr ⟨by simpa using hz, .inr ⟨ra, rc, ys, ?_, by simpa using hys, ?_⟩⟩)
      · simp
      · simp
  · exact app_accs hrow hok h hys hs hlen hl hpos fun fv' R' h' => k fv' R' (.inr ⟨by simp [hne], h'⟩)
theorem oneT_comb {t u : Int} (h : t = 1 ∨ u = 1 ∨ t = u) : oneT t u = some (if t = 1 then u else t) := by
  unfold oneT
  by_cases h1 : t = 1
  · subst h1
    by_cases h2 : u = 1
    · subst h2; rfl
    · rw [if_neg (by rintro (h | h); exact h2 h.symm; exact h2 h), if_pos rfl, if_pos rfl]
  · rw [if_pos (by rcases h with h | h | h; exact (h1 h).elim; exact .inr h; exact .inl h), if_neg h1]
theorem oneT_none {t u : Int} (h1 : ¬ t = 1) (h2 : ¬ u = 1) (h3 : ¬ t = u) : oneT t u = none := by
  unfold oneT
  rw [if_neg (by rintro (h | h); exact h3 h; exact h2 h), if_neg h1]
theorem sideT_ok {t u o : Int} {a b : List Int} (h : oneT t u = some o) : sideT (t :: a) (u :: b) = consE o (sideT a b) := by
  rw [sideT, h]; cases sideT a b <;> rfl
theorem sideT_none {t u : Int} {a b : List Int} (h : oneT t u = none) : sideT (t :: a) (u :: b) = .error 9 := by rw [sideT, h]
theorem RL_RI : ∀ {l : List Int} {ys : List Value}, RL RI l ys → ys = l.map (Value.int .i64)
  | [], ys, h => h
  | x :: l, ys, h => by
    obtain ⟨cs, rest, rfl, h1, h2⟩ := h
    rw [h1, RL_RI h2]; rfl
theorem RL_RI1 (t : Int) : RL RI [t] [.int .i64 t] := RL_one (r := RI) (cs := [.int .i64 t]) rfl
theorem sideT_nil : sideT [] [] = .ok [] := by simp [sideT]
theorem set_mid {zs ys junk : List Value} {v w : Value} {i : Nat} (h : zs.length = i) : (zs ++ (v :: ys) ++ junk).set i w = zs ++ [w] ++ ys ++ junk := by
  subst h
  rw [List.append_assoc, List.set_append_right _ _ (Nat.le_refl _), Nat.sub_self, List.cons_append, List.set_cons_zero]
  simp
theorem ct_Side {M : Mem} {l m : List Int} {lv mv : Value} (hl : RS M RI 1 l lv) (hm : RS M RI 1 m mv) (hlen : l.length ≤ 16777216) (T : Tm) : CtT Tryz.prog 117 [lv, mv] T M [] [] (fun r M' _ _ => tupL (togetherT l m) r M') noPan := by
  obtain ⟨hbk, a, c, rfl, hle, hac, hg⟩ := RS_elim (by decide) (fun _ _ => RI_len) hl
  obtain ⟨hbk2, a2, c2, rfl, hle2, _, hg2⟩ := RS_elim (by decide) (fun _ _ => RI_len) hm
  unfold togetherT
  refine ct_run mx bod117 Tryz.func117 rfl (by rw [nt117]; exact Nat.le_of_ble_eq_true rfl) (dr := dr117) (by kernel_rfl) rs117 ?_
  intro hno _
  by_cases hne : l.length = m.length
  rotate_left
  · have hne' : ¬ ((l.length : Int) = (m.length : Int)) := by omega
    rw [if_pos hne]
    simp +contextual only [go_sem, Rcb, Rbk, sevalprocAttr, hne']
    exact end_none ExtT.rfl' ⟨by decide, _, rfl⟩
  have hne' : (l.length : Int) = (m.length : Int) := by omega
  rw [if_neg (fun h => h hne)]
  obtain ⟨ys, hyl, hys, hsr⟩ := srcs_RS (P := Tryz.prog) Tryz.underlying24 (fun _ _ => RI_len) (fun _ _ h => RI_oneC h) hl
  simp +contextual only [go_sem, Rcb, Rbk, sevalprocAttr, hne']
  intro bz hbz
  by_cases h0 : l = []
  · subst h0
    have hm0 : m = [] := List.length_eq_zero_iff.1 (by simpa using hne.symm)
    subst hm0
    have : ys = [] := List.length_eq_zero_iff.1 (by rw [hyl]; simp)
    subst this
    refine app_nothing row24 okt24 (hsr _ _ _) (Nat.le_refl _) ?_
    simp +contextual only [go_sem, Rcb, Rbk, sevalprocAttr]
    refine loop_rule (fun m e ds h => ds = [] ∧ e 6 = .slice (some ⟨bz, 0, none⟩) 0 0 ∧ e 17 = .int .i64 0 ∧ e 18 = .int .i64 0 ∧ h = ⟨T, M, [(bz, [])], []⟩) ⟨0, rfl, by simp only [go_sem, Rcb, Rbk, sevalprocAttr], by simp only [go_sem, Rcb, Rbk, sevalprocAttr], by simp only [go_sem, Rcb, Rbk, sevalprocAttr], rfl⟩ ?_
    rintro m e ds h ⟨rfl, e6, e17, e18, rfl⟩
    simp +contextual only [go_sem, Rcb, Rbk, sevalprocAttr, e17, e18]
    simp +contextual only [go_sem, Rcb, Rbk, sevalprocAttr, e6]
    exact Close_freeze fun he hb2 hno2 => end_none ExtT.rfl' ⟨_, rfl, RS_lit (fun _ _ => RI_len) hb2 (l := []) rfl rfl (by omega)⟩
  · have hlp : 0 < l.length := List.length_pos_iff.2 h0
    refine app_open (n := 0) (xs := []) row24 okt24 (hsr _ _ _) (by rw [Nat.zero_mul]; rfl) (by omega) (by simp only [List.length_nil]; omega) ?_
    intro g rm rc junk hgM hgL hrm hrc hjunk
    simp only [List.nil_append, List.length_nil, Nat.zero_add, Nat.mul_one] at hrm hjunk
    have : rm = l.length := by omega
    subst this
    simp +contextual only [go_sem, Rcb, Rbk, sevalprocAttr]
    refine loop_range l.length 18 [(0, .slice a l.length c), (1, .slice a2 m.length c2), (17, .int .i64 (l.length : Int)), (6, .slice (some ⟨g, 0, none⟩) l.length rc)]
      (fun i e h => ∃ acc zs, acc.length = i ∧ RL RI acc zs ∧ preE acc (sideT (l.drop i) (m.drop i)) = sideT l m ∧ h = ⟨T, M, [(g, zs ++ (ys.drop i ++ junk)), (bz, [])], []⟩)
      0 (by omega) (by simp only [live, go_sem, Rcb, Rbk, sevalprocAttr]) (by simp only [go_sem, Rcb, Rbk, sevalprocAttr]) ⟨[], [], rfl, rfl, preE_nil _, by simp⟩ ?_
    rintro i e h hi hlv ht ⟨acc, zs, hacl, hzs, hres, rfl⟩
    simp only [live] at hlv
    have hzl := RL_len (fun _ _ => RI_len) hzs
    by_cases hlt : i < l.length
    · have hlt2 : i < m.length := by omega
      obtain ⟨b', o', cs', rfl, hat, hrx⟩ := hg i l[i] (List.getElem?_eq_getElem hlt)
      unfold RI at hrx; subst hrx
      have x0 := At1 hat
      rw [Nat.mul_one] at x0
      obtain ⟨b2, o2, cs2, rfl, hat2, hrx2⟩ := hg2 i m[i] (List.getElem?_eq_getElem hlt2)
      unfold RI at hrx2; subst hrx2
      have y0 := At1 hat2
      rw [Nat.mul_one] at y0
      have hd1 : l.drop i = l[i] :: l.drop (i + 1) := List.drop_eq_getElem_cons hlt
      have hd2 : m.drop i = m[i] :: m.drop (i + 1) := List.drop_eq_getElem_cons hlt2
      rw [hd1, hd2] at hres
      have hy := RL_RI hys
      have hyd : ys.drop i = .int .i64 l[i] :: ys.drop (i + 1) := by
        rw [hy, ← List.map_drop, hd1, List.map_cons, List.map_drop]
      have hsetM : ∀ (w : Value), (zs ++ (ys.drop i ++ junk)).set i w = (zs ++ [w]) ++ (ys.drop (i + 1) ++ junk) := by
        intro w; rw [hyd, ← List.append_assoc, set_mid (by omega), List.append_assoc]
      have hri : i + 1 ≤ (zs ++ (ys.drop i ++ junk)).length := by simp only [List.length_append, List.length_drop]; omega
      by_cases h1 : l[i] = 1
      · rw [sideT_ok (oneT_comb (.inl h1)), if_pos h1, ← preE_cons] at hres
        simp +contextual only [go_sem, Rcb, Rbk, sevalprocAttr, hlv, ht, hlt, hlt2, x0, y0, h1, hgM, hri, hsetM]
        refine lp_close (Close_id ⟨l.length - (i + 1), by omega, rfl, i + 1, by omega, rfl, ?_, ?_, acc ++ [m[i]], zs ++ [.int .i64 m[i]], by rw [List.length_append, hacl]; rfl, RL_append hzs (RL_RI1 m[i]), hres, ?_⟩)
        · simp only [live, hlv, go_sem, Rcb, Rbk, sevalprocAttr]
        · simp only [ht, go_sem, Rcb, Rbk, sevalprocAttr, wrap_succ i (by omega)]
        · simp
      · by_cases h2 : m[i] = 1
        · rw [sideT_ok (oneT_comb (.inr (.inl h2))), if_neg h1, ← preE_cons] at hres
          simp +contextual only [go_sem, Rcb, Rbk, sevalprocAttr, hlv, ht, hlt, hlt2, x0, y0, h1]
          refine draw_all ?_
          simp +contextual only [go_sem, Rcb, Rbk, sevalprocAttr, hlv, ht, hlt, hlt2, x0, y0, h1, h2]
          refine lp_close (Close_id ⟨l.length - (i + 1), by omega, rfl, i + 1, by omega, rfl, ?_, ?_, acc ++ [l[i]], zs ++ [.int .i64 l[i]], by rw [List.length_append, hacl]; rfl, RL_append hzs (RL_RI1 l[i]), hres, by rw [hyd]; simp⟩)
          · simp only [live, hlv, go_sem, Rcb, Rbk, sevalprocAttr]
          · simp only [ht, go_sem, Rcb, Rbk, sevalprocAttr, wrap_succ i (by omega)]
        · by_cases h3 : l[i] = m[i]
          · rw [sideT_ok (oneT_comb (.inr (.inr h3))), if_neg h1, ← preE_cons] at hres
            have h3' : m[i] = l[i] := h3.symm
            simp +contextual only [go_sem, Rcb, Rbk, sevalprocAttr, hlv, ht, hlt, hlt2, x0, y0, h1]
            refine draw_all ?_
            simp +contextual only [go_sem, Rcb, Rbk, sevalprocAttr, hlv, ht, hlt, hlt2, x0, y0, h1, h2, h3']
            refine lp_close (Close_id ⟨l.length - (i + 1), by omega, rfl, i + 1, by omega, rfl, ?_, ?_, acc ++ [l[i]], zs ++ [.int .i64 l[i]], by rw [List.length_append, hacl]; rfl, RL_append hzs (RL_RI1 l[i]), hres, by rw [hyd]; simp⟩)
            · simp only [live, hlv, go_sem, Rcb, Rbk, sevalprocAttr]
            · simp only [ht, go_sem, Rcb, Rbk, sevalprocAttr, wrap_succ i (by omega)]
          · rw [sideT_none (oneT_none h1 h2 h3)] at hres
            have h3' : ¬ m[i] = l[i] := fun h => h3 h.symm
            rw [← hres]
            simp +contextual only [go_sem, Rcb, Rbk, sevalprocAttr, hlv, ht, hlt, hlt2, x0, y0, h1]
            refine draw_all ?_
            simp +contextual only [go_sem, Rcb, Rbk, sevalprocAttr, hlv, ht, hlt, hlt2, x0, y0, h1, h2, h3']
            exact end_none ExtT.rfl' ⟨by decide, _, rfl⟩
    · have : i = l.length := by omega
      subst this
      simp +contextual only [go_sem, Rcb, Rbk, sevalprocAttr, hlv, ht, hlt]
      rw [List.drop_length] at hres
      have hdm : m.drop l.length = [] := by rw [hne, List.drop_length]
      have hdy : ys.drop l.length = [] := by rw [List.drop_eq_nil_iff]; omega
      rw [hdm, sideT_nil] at hres
      simp only [preE, List.append_nil] at hres
      rw [← hres]
      refine Close_freeze fun he hb2 hno2 => end_none ExtT.rfl' ⟨_, rfl, ?_⟩
      rw [hdy, List.nil_append] at hb2
      rw [hdy, List.nil_append]
      have := RS_blk (c := rc) hb2 hzs (fun _ _ => RI_len) (by omega) (by omega)
      rw [hacl] at this
      exact this
theorem Close_accZ {α : Type} {el : TypeId} {sz : Nat} {r : α → List Value → Prop} {R : RR} {fv : Value} {acc : List α} {N : Tm} {M : Mem} {L : LL} {k : Sh → Prop} (h : AccZ el sz r R fv acc) (hb : acc.length ≤ 140737488355328) (hpos : 0 < sz) (hno : noneL M L) (hk : ∀ M', Ext M M' → noneL M' L → RS M' r sz acc fv → Close ⟨N, M', L, []⟩ k) : Close ⟨N, M, L, R⟩ k := by
  rcases h with ⟨rfl, ⟨b, rfl⟩, rfl⟩ | ⟨_, h⟩
  · exact hk M Ext.rfl' hno ⟨by simp, [], .inl ⟨_, _, rfl, rfl, fun h => by cases h⟩, rfl⟩
  · exact Close_acc h hb hpos hno hk
theorem getD_app0 {acc : List (List Int)} {t : List Int} (h : acc.length = 0) : (acc ++ [t]).getD 0 [] = t ∧ (acc ++ [t]).getD 1 [] = [] := by
  have : acc = [] := List.length_eq_zero_iff.1 h
  subst this; simp
theorem getD_app1 {acc : List (List Int)} {t : List Int} (h : acc.length = 1) : (acc ++ [t]).getD 0 [] = acc.getD 0 [] ∧ (acc ++ [t]).getD 1 [] = t := by
  match acc, h with
  | [u], _ => simp
def ClR (p : Pl) : Prop := ∀ (M : Mem) (T : Tm) (hb deep n : Nat) (cs : List Value) (tabs : List (List Int)) (tv : Value), RPl M p cs → RS M (RTb M) 1 tabs tv → (∀ t ∈ tabs, t.length ≤ 8) → n ≤ 60 → deep ≤ 16 →
  CtT Tryz.prog 75 [.pointer (some ⟨hb, 0, none⟩), .agg ⟨cs⟩, .int .i64 (deep : Int)] T M [(hb, [tv, .int .i64 (n : Int)])] [] (fun r M' L' R' => tupL (colsPl tabs deep n p).1 r M' ∧ L' = [(hb, [tv, .int .i64 ((colsPl tabs deep n p).2 : Int)])] ∧ R' = []) noPan
set_option maxHeartbeats 2000000 in
theorem clR : ∀ (sz : Nat) (p : Pl), SizeOf.sizeOf p ≤ sz → ClR p := by
  intro sz
  induction sz with
  | zero => intro p hp; cases p; simp at hp
  | succ sz ih =>
    intro p hsz M T hb deep n cs tabs tv hp htv htl hn hdeep
    obtain ⟨s1, a1, n1, a2, n2, a3, n3, rfl, hs1, hkx, hxs, hag, hkids⟩ := RPl_form hp
    obtain ⟨hbk, a', c', hsl, hle, hac, hg⟩ := RS_elim (by decide) (fun _ _ => RPl_len) hkids
    injection hsl with h1 h2 h3
    subst h1 h3
    cases p with | mk k pn x xs ags kids =>
    simp only [Pl.k, Pl.n, Pl.x, Pl.xs, Pl.ags, Pl.kids] at hxs hag hkids hle hg hbk hkx
    obtain ⟨S, hS⟩ : ∃ S, S = colsPl tabs deep n (.mk k pn x xs ags kids) := ⟨_, rfl⟩
    rw [← hS]
    rw [colsPl] at hS
    have hwn := wrap_succ n (by omega)
    have hwd := wrap_succ deep (by omega)
    simp only [plV, Pl.k, Pl.n, Pl.x, Pl.xs, Pl.ags, Pl.kids]
    refine ct_run mx bod75 Tryz.func75 rfl (by rw [nt75]; exact Nat.le_of_ble_eq_true rfl) (dr := dr75) (by kernel_rfl) rs75 ?_
    intro hno _
    simp only [noneL, and_true] at hno
    simp +contextual only [go_sem, Rcb, Rbk, sevalprocAttr, hno, hwn, hs1]
    intro b4 T4 hb4 hap4 hT4 hTb4
    by_cases hmuch : 60 < n + 1 ∨ 15 < deep
    · rw [if_pos hmuch] at hS
      rw [if_pos (by omega)]
      exact Close_drop (end_id hT4 rfl rfl ⟨by rw [hS]; exact ⟨by decide, _, rfl⟩, by rw [hS], rfl⟩)
    rw [if_neg hmuch] at hS
    rw [if_neg (by omega)]
    refine rCall_frz bod114 fun M0 hM0 h4 hno0 => ?_
    simp only [noneL, and_true] at hno0
    refine rCall_pure (ct_pkids5 k T4) ?_ (fun _ _ _ _ h => h.elim)
    rintro r M1 hM01 hno1 rfl
    simp only [noneL, and_true] at hno1
    replace h4 := hM01 _ _ h4
    have hM1 := hM0.trans hM01
    have m0 : mcell M1 ⟨b4, 0, none⟩ = some (.int .i64 k) := by rw [mcell_some h4]; rfl
    have m1 : mcell M1 ⟨b4, 1, none⟩ = some (.int .i64 pn) := by rw [mcell_some h4]; rfl
    have m2 : mcell M1 ⟨b4, 2, none⟩ = some (.int .i64 x.k) := by rw [mcell_some h4]; rfl
    have m3 : mcell M1 ⟨b4, 3, none⟩ = some (.int .i64 x.v.k) := by rw [mcell_some h4]; rfl
    have m4 : mcell M1 ⟨b4, 4, none⟩ = some (.int .i64 x.v.n) := by rw [mcell_some h4]; rfl
    have m5 : mcell M1 ⟨b4, 5, none⟩ = some (st x.v.t) := by rw [mcell_some h4]; rfl
    have m6 : mcell M1 ⟨b4, 6, none⟩ = some (.int .i64 x.c) := by rw [mcell_some h4]; rfl
    have m7 : mcell M1 ⟨b4, 7, none⟩ = some s1 := by rw [mcell_some h4]; rfl
    have m8 : mcell M1 ⟨b4, 8, none⟩ = some (.slice a1 xs.length n1) := by rw [mcell_some h4]; rfl
    have m9 : mcell M1 ⟨b4, 9, none⟩ = some (.slice a2 ags.length n2) := by rw [mcell_some h4]; rfl
    have m10 : mcell M1 ⟨b4, 10, none⟩ = some (.slice a3 kids.length n3) := by rw [mcell_some h4]; rfl
    by_cases hk0 : kidsPl k < 0
    · rw [if_pos hk0] at hS
      simp +contextual only [go_sem, Rcb, Rbk, sevalprocAttr, hk0]
      exact end_id hT4 rfl rfl ⟨by rw [hS]; exact ⟨by decide, _, rfl⟩, by rw [hS], rfl⟩
    rw [if_neg hk0] at hS
    by_cases hkl : (kids.length : Int) = kidsPl k
    rotate_left
    · rw [if_pos hkl] at hS
      have hkl' : ¬ kidsPl k = (kids.length : Int) := fun h => hkl h.symm
      simp +contextual only [go_sem, Rcb, Rbk, sevalprocAttr, hk0, hkl', m10]
      exact end_id hT4 rfl rfl ⟨by rw [hS]; exact ⟨by decide, _, rfl⟩, by rw [hS], rfl⟩
    rw [if_neg (fun h => h hkl)] at hS
    have hk3 : kids.length ≤ 2 := by
      have : kidsPl k ≤ 2 := by unfold kidsPl; repeat' split <;> omega
      omega
    simp +contextual only [go_sem, Rcb, Rbk, sevalprocAttr, hk0, hkl, m10]
    refine loop_range kids.length 51 [(0, .pointer (some ⟨hb, 0, none⟩)), (2, .int .i64 (deep : Int)), (4, .pointer (some ⟨b4, 0, none⟩)), (49, .slice a3 kids.length n3), (50, .int .i64 (kids.length : Int))]
      (fun i e h => ∃ (N' : Tm) (M' : Mem) (n' : Nat) (av bv : Value) (acc : List (List Int)), ExtT T4 N' ∧ Ext M1 M' ∧ M' hb = none ∧ n' ≤ 60 ∧ h = ⟨N', M', [(hb, [tv, .int .i64 (n' : Int)])], []⟩ ∧ e 9 = av ∧ e 10 = bv ∧ acc.length = i ∧ RS M' RI 1 (acc.getD 0 []) av ∧ RS M' RI 1 (acc.getD 1 []) bv ∧ preTC acc (colsL tabs (deep + 1) n' (kids.drop i)) = colsL tabs (deep + 1) (n + 1) kids ∧ ∀ t ∈ acc, t.length ≤ 8)
      0 (by omega) (by simp only [live, hkl, go_sem, Rcb, Rbk, sevalprocAttr]) (by simp only [go_sem, Rcb, Rbk, sevalprocAttr]) ⟨T4, M1, n + 1, _, _, [], ExtT.rfl', Ext.rfl', hno1, by omega, rfl, by simp only [go_sem, Rcb, Rbk, sevalprocAttr], by simp only [go_sem, Rcb, Rbk, sevalprocAttr], rfl, RS_nil, RS_nil, preTC_nil _, by intro t ht; cases ht⟩ ?_
    rintro i e h hi hlv ht ⟨N2, M2, n', av, bv, acc, hN2, hM2, n2', hn', rfl, e9, e10, hacl, hav, hbv, hres, hal8⟩
    simp only [live] at hlv
    have h12 := hM1.trans hM2
    by_cases hlt : i < kids.length
    · obtain ⟨b', o', cs', rfl, hatk, hrx⟩ := hg i kids[i] (List.getElem?_eq_getElem hlt)
      have hdrop : kids.drop i = kids[i] :: kids.drop (i + 1) := List.drop_eq_getElem_cons hlt
      rw [hdrop] at hres
      have hsz2 : SizeOf.sizeOf kids[i] ≤ sz := by
        have h1 := List.sizeOf_lt_of_mem (List.getElem_mem hlt)
        simp only [Pl.mk.sizeOf_spec] at hsz
        omega
      have hle2 := colsPl_le tabs (deep + 1) n' kids[i] hn'
      replace hrx := RPl_ext h12 _ _ hrx
      obtain ⟨s7, a5, n5, a6, n6, a7, n7, rfl, hs7, _⟩ := RPl_form hrx
      obtain ⟨z0, z1, z8, z9, z10⟩ := At11 (hatk.ext h12)
      obtain ⟨z2, z3, z4, z5, z6, z7⟩ := At11x (hatk.ext h12)
      simp +contextual only [go_sem, Rcb, Rbk, sevalprocAttr, hlv, ht, hlt, z0, z1, z2, z3, z4, z5, z6, z7, z8, z9, z10, hwd, hs7]
      intro b12 T12 hb12 hap12 hT12 hTb12
      refine rCall_one [(b12, _)] (ih kids[i] hsz2 M2 T12 hb (deep + 1) n' _ tabs tv hrx (RS_ext h12 (RTb_ext h12) htv) htl hn' (by omega)) ?_ (fun _ _ _ _ _ _ h => h.elim)
      rintro r M3 L' hM3 hk3' hno3 ⟨hr, rfl, -⟩
      simp only [List.cons_append, List.nil_append, noneL, and_true] at hno3
      rcases hty : colsPl tabs (deep + 1) n' kids[i] with ⟨r1, m⟩
      rw [hty] at hr hle2
      have hTT := (hT4.trans hN2).trans hT12
      cases r1 with
      | error er =>
        obtain ⟨hne, t, rfl⟩ := hr
        rw [colsL_err hty] at hres
        rw [← hres] at hS
        simp +contextual only [go_sem, Rcb, Rbk, sevalprocAttr, hlv, ht, hlt, hne]
        refine Close_drop (end_id hTT rfl rfl ⟨?_, ?_, rfl⟩)
        · rw [hS]; exact ⟨hne, _, rfl⟩
        · rw [hS]
      | ok t =>
        simp only [tupL] at hr
        obtain ⟨kv, rfl, hkv⟩ := hr
        rw [colsL_ok hty] at hres
        have hal8' : ∀ u ∈ acc ++ [t], u.length ≤ 8 := by
          intro u hu
          rw [List.mem_append, List.mem_singleton] at hu
          rcases hu with hu | rfl
          · exact hal8 u hu
          · exact colsPl_len htl (deep + 1) n' kids[i] (by rw [hty])
        by_cases hi0 : i = 0
        · subst hi0
          obtain ⟨g0, g1⟩ := getD_app0 (t := t) hacl
          simp +contextual only [go_sem, Rcb, Rbk, sevalprocAttr, hlv, ht, hlt]
          refine lp_close (Close_drop (Close_id ⟨kids.length - 1, by omega, rfl, 1, by omega, rfl, ?_, ?_, T12, M3, m, kv, bv, acc ++ [t], hN2.trans hT12, hM2.trans hM3, hno3.2, hle2.2 t rfl, rfl, ?_, ?_, ?_, ?_, ?_, hres, hal8'⟩))
          · simp only [live, hlv, go_sem, Rcb, Rbk, sevalprocAttr]
          · simp only [ht, go_sem, Rcb, Rbk, sevalprocAttr]; rfl
          · simp only [go_sem, Rcb, Rbk, sevalprocAttr]
          · simp only [e10, go_sem, Rcb, Rbk, sevalprocAttr]
          · rw [List.length_append, hacl]; rfl
          · rw [g0]; exact hkv
          · have h0 : acc.getD 1 [] = [] := by rw [List.length_eq_zero_iff.1 hacl]; rfl
            rw [g1, ← h0]; exact RS_ext hM3 (fun _ _ h => h) hbv
        · have hi1 : i = 1 := by omega
          subst hi1
          obtain ⟨g0, g1⟩ := getD_app1 (t := t) hacl
          simp +contextual only [go_sem, Rcb, Rbk, sevalprocAttr, hlv, ht, hlt]
          refine lp_close (Close_drop (Close_id ⟨kids.length - 2, by omega, rfl, 2, by omega, rfl, ?_, ?_, T12, M3, m, av, kv, acc ++ [t], hN2.trans hT12, hM2.trans hM3, hno3.2, hle2.2 t rfl, rfl, ?_, ?_, ?_, ?_, ?_, hres, hal8'⟩))
          · simp only [live, hlv, go_sem, Rcb, Rbk, sevalprocAttr]
          · simp only [ht, go_sem, Rcb, Rbk, sevalprocAttr]; rfl
          · simp only [e9, go_sem, Rcb, Rbk, sevalprocAttr]
          · simp only [go_sem, Rcb, Rbk, sevalprocAttr]
          · rw [List.length_append, hacl]; rfl
          · rw [g0]; exact RS_ext hM3 (fun _ _ h => h) hav
          · rw [g1]; exact hkv
    · have : i = kids.length := by omega
      subst this
      rw [List.drop_length, colsL] at hres
      simp only [preTC, List.append_nil] at hres
      rw [← hres] at hS
      simp only at hS
      replace m0 := mcell_ext hM2 m0
      replace m1 := mcell_ext hM2 m1
      replace m2 := mcell_ext hM2 m2
      replace m3 := mcell_ext hM2 m3
      replace m4 := mcell_ext hM2 m4
      replace m5 := mcell_ext hM2 m5
      replace m6 := mcell_ext hM2 m6
      replace m7 := mcell_ext hM2 m7
      replace m8 := mcell_ext hM2 m8
      replace m9 := mcell_ext hM2 m9
      have hTT := hT4.trans hN2
      have ha8 := getD_len hal8 0
      have hb8 := getD_len hal8 1
      have hnd : nodeT tabs k pn x xs ags acc = S.1 := by rw [hS]
      have hS2 : S.2 = n' := by rw [hS]
      obtain ⟨A, hA⟩ : ∃ A, A = acc.getD 0 [] := ⟨_, rfl⟩
      obtain ⟨B, hB⟩ : ∃ B, B = acc.getD 1 [] := ⟨_, rfl⟩
      rw [← hA] at hav ha8
      rw [← hB] at hbv hb8
      obtain ⟨_, aa, ac, rfl, _⟩ := RS_elim (by decide) (fun _ _ => RI_len) hav
      obtain ⟨_, ba, bc, rfl, _⟩ := RS_elim (by decide) (fun _ _ => RI_len) hbv
      obtain ⟨ys, hyl, hys, hsr⟩ := srcs_RS (P := Tryz.prog) Tryz.underlying24 (fun _ _ => RI_len) (fun _ _ h => RI_oneC h) hav
      obtain ⟨ys2, hyl2, hys2, hsr2⟩ := srcs_RS (P := Tryz.prog) Tryz.underlying24 (fun _ _ => RI_len) (fun _ _ h => RI_oneC h) hbv
      have hend : ∀ {N : Tm} {M' : Mem} {R : RR} {v : Value} {Lx : LL}, ExtT T N → tupL S.1 v M' → Lx = [(hb, [tv, .int .i64 (n' : Int)])] → Close ⟨N, M', Lx, R⟩ (endF T (keys [(hb, [tv, .int .i64 (n : Int)])]) 0 (fun r M' L' R' => tupL S.1 r M' ∧ L' = [(hb, [tv, .int .i64 (S.2 : Int)])] ∧ R' = []) v) := by
        intro N M' R v Lx hN ht2 hL
        subst hL
        exact Close_dropAllR (end_id hN rfl rfl ⟨ht2, by rw [hS2], rfl⟩)
      simp +contextual only [go_sem, Rcb, Rbk, sevalprocAttr, hlv, ht, hlt, e9, e10]
      intro bz hbz hapz
      refine app_accsZ row24 okt24 (.inl ⟨rfl, ⟨bz, rfl⟩, rfl⟩) hys (fun _ => hsr _ _ _) (fun _ _ => RI_len) (by simp only [List.length_nil]; omega) (by decide) ?_
      intro fv1 R1 hacc1
      simp +contextual only [go_sem, Rcb, Rbk, sevalprocAttr, hlv, ht, hlt, e9, e10]
      refine app_accsZ row24 okt24 hacc1 hys2 (fun _ => hsr2 _ _ _) (fun _ _ => RI_len) (by simp only [List.nil_append]; omega) (by decide) ?_
      intro fv2 R2 hacc2
      rw [List.nil_append] at hacc2
      have hxx : REx M2 x [.int .i64 x.k, .int .i64 x.v.k, .int .i64 x.v.n, st x.v.t, .int .i64 x.c, s1] := REx_iff.2 ⟨s1, rfl, RS_ext h12 (REx_ext h12) hkx⟩
      have hxs2 := RS_ext h12 (REx_ext h12) hxs
      have hag2 := RS_ext h12 (RAg_ext h12) hag
      by_cases k1 : k = 1
      · subst k1
        unfold nodeT at hnd
        rw [if_pos rfl] at hnd
        obtain ⟨_, ta, tc, rfl, htc, _, htg⟩ := RS_elim (by decide) (fun _ _ => RTb_len) htv
        simp +contextual only [go_sem, Rcb, Rbk, sevalprocAttr, hlv, ht, hlt, m0, m1, n2']
        refine draw_all ?_
        by_cases hlo : pn < 0
        · rw [if_neg (by omega)] at hnd
          simp +contextual only [go_sem, Rcb, Rbk, sevalprocAttr, hlv, m1, n2', hlo, hapz]
          exact Close_drop (hend hTT (by rw [← hnd]; exact ⟨by decide, _, rfl⟩) rfl)
        · by_cases hhi : (tabs.length : Int) ≤ pn
          · rw [if_neg (by omega)] at hnd
            simp +contextual only [go_sem, Rcb, Rbk, sevalprocAttr, hlv, m1, n2', hlo, hhi, hapz]
            exact Close_drop (hend hTT (by rw [← hnd]; exact ⟨by decide, _, rfl⟩) rfl)
          · rw [if_pos (by omega)] at hnd
            obtain ⟨j, rfl⟩ := Int.eq_ofNat_of_zero_le (show 0 ≤ pn by omega)
            have hjl : j < tabs.length := by omega
            obtain ⟨b', o', cs', rfl, hatk, v, rfl, hrv⟩ := htg j tabs[j] (List.getElem?_eq_getElem hjl)
            have z0 := At1 (hatk.ext h12)
            rw [Nat.mul_one] at z0
            simp +contextual only [go_sem, Rcb, Rbk, sevalprocAttr, hlv, m1, n2', hlo, hhi, hjl, z0, hapz]
            refine draw_all ?_
            simp +contextual only [go_sem, Rcb, Rbk, sevalprocAttr, hlv, m1, n2', hjl, z0, hapz]
            have hgd : tabs.getD (j : Int).toNat [] = tabs[j] := by simp [List.getD, hjl]
            exact Close_drop (hend hTT (by rw [← hnd, hgd]; exact ⟨_, rfl, RS_ext h12 (fun _ _ h => h) hrv⟩) rfl)
      by_cases k2 : k = 2
      · subst k2
        rw [nodeT_cond, ← hA] at hnd
        simp +contextual only [go_sem, Rcb, Rbk, sevalprocAttr, hlv, ht, hlt, m0, m2, m3, m4, m5, m6, m7, hs1, e9]
        refine rCall_close (k := fun h' => h' = ⟨N2, M2, [(hb, [tv, .int .i64 (n' : Int)])], []⟩) (Close_drop (Close_dropAllR (Close_id rfl))) ?_ bod115
        rintro h' rfl
        refine rCall_pure (ct_Cond4 hav hxx N2) ?_ (fun _ _ _ _ h => h.elim)
        rintro r M6 hM6 hno6 ⟨rfl, hre⟩
        simp +contextual only [go_sem, Rcb, Rbk, sevalprocAttr]
        exact hend hTT (by rw [← hnd]; exact tupL_cond (RS_ext hM6 (fun _ _ h => h) hav) hre) rfl
      by_cases k3 : k = 3
      · subst k3
        have hnode : nodeT tabs 3 pn x xs ags acc = typesX (acc.getD 0 []) xs := by unfold nodeT; simp
        rw [hnode, ← hA] at hnd
        simp +contextual only [go_sem, Rcb, Rbk, sevalprocAttr, hlv, ht, hlt, m0, m8, e9]
        refine rCall_close (k := fun h' => h' = ⟨N2, M2, [(hb, [tv, .int .i64 (n' : Int)])], []⟩) (Close_drop (Close_dropAllR (Close_id rfl))) ?_ bod116
        rintro h' rfl
        refine rCall_pure (ct_Types4 hav hxs2 N2) ?_ (fun _ _ _ _ h => h.elim)
        rintro r M6 hM6 hno6 hr
        replace hr := tupN_L hr
        obtain ⟨sv, er, rfl⟩ := tupL_form hr
        simp +contextual only [go_sem, Rcb, Rbk, sevalprocAttr]
        exact hend hTT (by rw [← hnd]; exact hr) rfl
      by_cases k8 : k = 8 ∨ k = 9
      · have hnode : nodeT tabs k pn x xs ags acc = togetherT (acc.getD 0 []) (acc.getD 1 []) := by unfold nodeT; rcases k8 with rfl | rfl <;> simp
        rw [hnode, ← hA, ← hB] at hnd
        rcases k8 with rfl | rfl
        all_goals
          simp +contextual only [go_sem, Rcb, Rbk, sevalprocAttr, hlv, ht, hlt, m0, e9, e10]
          refine rCall_close (k := fun h' => h' = ⟨N2, M2, [(hb, [tv, .int .i64 (n' : Int)])], []⟩) (Close_drop (Close_dropAllR (Close_id rfl))) ?_ bod117
          rintro h' rfl
          refine rCall_pure (ct_Side hav hbv (by omega) N2) ?_ (fun _ _ _ _ h => h.elim)
          rintro r M6 hM6 hno6 hr
          obtain ⟨sv, er, rfl⟩ := tupL_form hr
          simp +contextual only [go_sem, Rcb, Rbk, sevalprocAttr]
          exact hend hTT (by rw [← hnd]; exact hr) rfl
      by_cases k10 : k = 10 ∨ k = 11
      · have hnode : nodeT tabs k pn x xs ags acc = .ok (acc.getD 0 []) := by unfold nodeT; rcases k10 with rfl | rfl <;> simp
        rw [hnode, ← hA] at hnd
        rcases k10 with rfl | rfl
        all_goals
          simp +contextual only [go_sem, Rcb, Rbk, sevalprocAttr, hlv, ht, hlt, m0, e9, e10]
          exact Close_drop (hend hTT (by rw [← hnd]; exact ⟨_, rfl, hav⟩) rfl)
      by_cases k13 : k = 13
      · subst k13
        rw [nodeT_group (.inr rfl), ← hA] at hnd
        unfold groupT at hnd
        rw [if_neg (by decide)] at hnd
        simp +contextual only [go_sem, Rcb, Rbk, sevalprocAttr, hlv, ht, hlt, m0, m8, e9]
        refine rCall_close (k := fun h' => h' = ⟨N2, M2, [(hb, [tv, .int .i64 (n' : Int)])], []⟩) (Close_drop (Close_dropAllR (Close_id rfl))) ?_ bod116
        rintro h' rfl
        refine rCall_pure (ct_Types4 hav hxs2 N2) ?_ (fun _ _ _ _ h => h.elim)
        rintro r M6 hM6 hno6 hr
        cases hty : typesX A xs with
        | error er =>
          rw [hty] at hr hnd
          obtain ⟨hne, rfl⟩ := hr
          simp +contextual only [go_sem, Rcb, Rbk, sevalprocAttr, hne]
          exact hend hTT (by rw [← hnd]; exact ⟨hne, _, rfl⟩) rfl
        | ok ks =>
          rw [hty] at hr hnd
          obtain ⟨kv, rfl, hkv⟩ := hr
          replace m1 := mcell_ext hM6 m1
          simp +contextual only [go_sem, Rcb, Rbk, sevalprocAttr, hlv, e9, m1]
          split
          · rename_i hc
            exact hend hTT (by rw [← hnd]; simp only; rw [if_pos hc]; exact ⟨by decide, _, rfl⟩) rfl
          · rename_i hc
            exact hend hTT (by rw [← hnd]; simp only; rw [if_neg hc]; exact ⟨_, rfl, RS_ext hM6 (fun _ _ h => h) hav⟩) rfl
      by_cases k12 : k = 12
      · subst k12
        rw [nodeT_group (.inl rfl), ← hA] at hnd
        unfold groupT at hnd
        rw [if_pos rfl] at hnd
        have hlx := (RS_elim (by decide) (fun _ _ => REx_len) hxs).1
        have hla := (RS_elim (by decide) (fun _ _ => RAg_len) hag).1
        have hw : IntKind.i64.wrap ((xs.length : Int) + (ags.length : Int)) = ((xs.length + ags.length : Nat) : Int) := by
          rw [wrap64 (by omega) (by omega)]; omega
        by_cases h8 : 8 < xs.length + ags.length
        · have h8' : (8 : Int) < ((xs.length + ags.length : Nat) : Int) := by omega
          rw [if_pos h8] at hnd
          simp +contextual only [go_sem, Rcb, Rbk, sevalprocAttr, hlv, ht, hlt, m0, m8, m9, e9, hw, h8']
          exact Close_drop (hend hTT (by rw [← hnd]; exact ⟨by decide, _, rfl⟩) rfl)
        have h8' : ¬ (8 : Int) < ((xs.length + ags.length : Nat) : Int) := by omega
        rw [if_neg h8] at hnd
        simp +contextual only [go_sem, Rcb, Rbk, sevalprocAttr, hlv, ht, hlt, m0, m8, m9, e9, hw, h8']
        refine rCall_close (k := fun h' => h' = ⟨N2, M2, [(hb, [tv, .int .i64 (n' : Int)])], []⟩) (Close_drop (Close_dropAllR (Close_id rfl))) ?_ bod116
        rintro h' rfl
        refine rCall_pure (ct_Types4 hav hxs2 N2) ?_ (fun _ _ _ _ h => h.elim)
        rintro r M6 hM6 hno6 hr
        cases hty : typesX A xs with
        | error er =>
          rw [hty] at hr hnd
          obtain ⟨hne, rfl⟩ := hr
          simp +contextual only [go_sem, Rcb, Rbk, sevalprocAttr, hne]
          exact hend hTT (by rw [← hnd]; exact ⟨hne, _, rfl⟩) rfl
        | ok ks =>
          rw [hty] at hr hnd
          obtain ⟨kv, rfl, hkv⟩ := hr
          have hksl := (typesX_len hty).1
          replace m9 := mcell_ext hM6 m9
          simp +contextual only [go_sem, Rcb, Rbk, sevalprocAttr, hlv, e9, m9]
          refine rCall_pure (ct_AggTypes4 (RS_ext hM6 (fun _ _ h => h) hav) (RS_ext hM6 (RAg_ext hM6) hag2) (by omega) N2) ?_ (fun _ _ _ _ h => h.elim)
          rintro r M7 hM7 hno7 hr
          obtain ⟨ya, hya, hysa, hsra⟩ := srcs_RS (P := Tryz.prog) Tryz.underlying24 (fun _ _ => RI_len) (fun _ _ h => RI_oneC h) (RS_ext hM7 (fun _ _ h => h) hkv)
          cases hgt : aggsT A ags with
          | error er =>
            rw [hgt] at hr hnd
            obtain ⟨hne, rfl⟩ := hr
            simp +contextual only [go_sem, Rcb, Rbk, sevalprocAttr]
            intro bq hbq hapq
            refine app_accsZ row24 okt24 (.inl ⟨rfl, ⟨bq, rfl⟩, rfl⟩) hysa (fun _ => hsra _ _ _) (fun _ _ => RI_len) (by simp only [List.length_nil]; omega) (by decide) ?_
            intro fv3 R3 hacc3
            simp +contextual only [go_sem, Rcb, Rbk, sevalprocAttr]
            refine app_accsZ (l := []) (ys := []) row24 okt24 hacc3 rfl (fun _ => .nil 0 3 Tryz.underlying24) (fun _ _ => RI_len) (by simp only [List.nil_append, List.length_nil]; omega) (by decide) ?_
            intro fv4 R4 hacc4
            simp +contextual only [go_sem, Rcb, Rbk, sevalprocAttr]
            exact Close_drop (hend hTT (by rw [← hnd]; exact ⟨hne, _, rfl⟩) rfl)
          | ok g =>
            rw [hgt] at hr hnd
            obtain ⟨gv, rfl, hgv⟩ := hr
            have hgl := aggsT_len hgt
            obtain ⟨yb, hyb, hysb, hsrb⟩ := srcs_RS (P := Tryz.prog) Tryz.underlying24 (fun _ _ => RI_len) (fun _ _ h => RI_oneC h) hgv
            simp +contextual only [go_sem, Rcb, Rbk, sevalprocAttr]
            intro bq hbq hapq
            refine app_accsZ row24 okt24 (.inl ⟨rfl, ⟨bq, rfl⟩, rfl⟩) hysa (fun _ => hsra _ _ _) (fun _ _ => RI_len) (by simp only [List.length_nil]; omega) (by decide) ?_
            intro fv3 R3 hacc3
            simp +contextual only [go_sem, Rcb, Rbk, sevalprocAttr]
            refine app_accsZ row24 okt24 hacc3 hysb (fun _ => hsrb _ _ _) (fun _ _ => RI_len) (by simp only [List.nil_append]; omega) (by decide) ?_
            intro fv4 R4 hacc4
            rw [List.nil_append] at hacc4
            simp +contextual only [go_sem, Rcb, Rbk, sevalprocAttr]
            simp only [noneL, and_true] at hno7
            exact Close_drop (Close_accZ hacc4 (by rw [List.length_append]; omega) (by decide) ⟨hno7, trivial⟩ fun M8 hM8 hno8 hrs => hend hTT (by rw [← hnd]; exact ⟨_, rfl, hrs⟩) rfl)
      have hk47 : 4 ≤ k ∧ k ≤ 7 := by
        unfold kidsPl at hk0
        grind
      rw [nodeT_join hk47, ← hA, ← hB] at hnd
      have k8a : ¬ k = 8 := fun h => k8 (.inl h)
      have k9a : ¬ k = 9 := fun h => k8 (.inr h)
      have k10a : ¬ k = 10 := fun h => k10 (.inl h)
      have k11a : ¬ k = 11 := fun h => k10 (.inr h)
      obtain ⟨fa, fc, rfl⟩ := AccZ_form hacc2
      by_cases h8 : 8 < (A ++ B).length
      · have h8' : (8 : Int) < ((A ++ B).length : Int) := by omega
        rw [if_pos h8] at hnd
        simp +contextual only [go_sem, Rcb, Rbk, sevalprocAttr, hlv, ht, hlt, m0, e9, k1, k2, k3, k8a, k9a, k10a, k11a, k12, k13, h8']
        exact Close_drop (hend hTT (by rw [← hnd]; exact ⟨by decide, _, rfl⟩) rfl)
      have h8' : ¬ (8 : Int) < ((A ++ B).length : Int) := by omega
      rw [if_neg h8] at hnd
      simp +contextual only [go_sem, Rcb, Rbk, sevalprocAttr, hlv, ht, hlt, m0, m2, m3, m4, m5, m6, m7, hs1, e9, k1, k2, k3, k8a, k9a, k10a, k11a, k12, k13, h8']
      refine rCall_close (k := fun h' => ∃ M3, Ext M2 M3 ∧ RS M3 RI 1 (A ++ B) (.slice fa (A ++ B).length fc) ∧ h' = ⟨N2, M3, [(hb, [tv, .int .i64 (n' : Int)])], []⟩) (Close_drop (Close_accZ hacc2 (by omega) (by decide) ⟨n2', trivial⟩ fun M3 hM3 hno3 hrs => Close_id ⟨M3, hM3, hrs, rfl⟩)) ?_ bod115
      rintro h' ⟨M3, hM3, hboth, rfl⟩
      refine rCall_pure (ct_Cond4 hboth (REx_ext hM3 _ _ hxx) N2) ?_ (fun _ _ _ _ h => h.elim)
      rintro r M6 hM6 hno6 ⟨rfl, hre⟩
      replace m0 := mcell_ext (hM3.trans hM6) m0
      by_cases k56 : k = 5 ∨ k = 6
      · rw [if_pos k56] at hnd
        rcases k56 with rfl | rfl
        all_goals
          simp +contextual only [go_sem, Rcb, Rbk, sevalprocAttr, hlv, m0, e9]
          exact hend hTT (by rw [← hnd]; exact tupL_cond (RS_ext (hM3.trans hM6) (fun _ _ h => h) hav) hre) rfl
      · rw [if_neg k56] at hnd
        have k5a : ¬ k = 5 := fun h => k56 (.inl h)
        have k6a : ¬ k = 6 := fun h => k56 (.inr h)
        simp +contextual only [go_sem, Rcb, Rbk, sevalprocAttr, hlv, m0, e9, k5a, k6a]
        exact hend hTT (by rw [← hnd]; exact tupL_cond (RS_ext hM6 (fun _ _ h => h) hboth) hre) rfl
theorem ct_Types5 {M : Mem} {tabs : List (List Int)} {tv : Value} {p : Pl} {cs : List Value} (htv : RS M (RTb M) 1 tabs tv) (hp : RPl M p cs) (T : Tm) :
    CtT Tryz.prog 35 [tv, .agg ⟨cs⟩] T M [] [] (fun r M' _ _ => tupL (colsT tabs p) r M') noPan := by
  obtain ⟨hbk, a, c, rfl, hle, _, hg⟩ := RS_elim (by decide) (fun _ _ => RTb_len) htv
  have hcl := RPl_len hp
  have hone := RPl_oneC hp
  obtain ⟨s1, a1, n1, a2, n2, a3, n3, hcs, hs1, _⟩ := RPl_form hp
  unfold plV at hcs
  unfold colsT
  refine ct_run mx bod35 Tryz.func35 rfl (by rw [nt35]; exact Nat.le_of_ble_eq_true rfl) (dr := dr35) (by kernel_rfl) rs35 ?_
  intro hno _
  by_cases h8 : 8 < tabs.length
  · have h8' : (8 : Int) < (tabs.length : Int) := by omega
    rw [if_pos h8]
    subst hcs
    simp +contextual only [go_sem, Rcb, Rbk, sevalprocAttr, hs1, h8']
    intro b3 T3 hb3 hT3 hTb3
    exact end_none hT3 ⟨by decide, _, rfl⟩
  have h8' : ¬ (8 : Int) < (tabs.length : Int) := by omega
  rw [if_neg h8]
  rw [hcs]
  simp +contextual only [go_sem, Rcb, Rbk, sevalprocAttr, hs1, h8']
  intro b3 T3 hb3 hT3 hTb3
  refine loop_rangeC tabs.length 17 [(0, .slice a tabs.length c), (3, .pointer (some ⟨b3, 0, none⟩)), (15, .slice a tabs.length c), (16, .int .i64 (tabs.length : Int))] (fun i e h => ∃ M', Ext M M' ∧ M' b3 = some cs ∧ h = ⟨T3, M', [], []⟩ ∧ tabW (tabs.drop i) = tabW tabs) 0 (by omega) (by simp only [live, go_sem, Rcb, Rbk, sevalprocAttr]) (by simp only [go_sem, Rcb, Rbk, sevalprocAttr]) (Close_freeze fun he h3 _ => Close_id ⟨_, he, by rw [hcs]; exact h3, rfl, rfl⟩) ?_
  rintro i e h hi hlv ht ⟨M1, hM1, h3, rfl, hres⟩
  simp only [live] at hlv
  by_cases hlt : i < tabs.length
  · obtain ⟨b', o', cs', rfl, hat, v, rfl, hrv⟩ := hg i tabs[i] (List.getElem?_eq_getElem hlt)
    obtain ⟨_, va, vc, rfl, _, _, hvg⟩ := RS_elim (by decide) (fun _ _ => RI_len) hrv
    have x0 := At1 (hat.ext hM1)
    rw [Nat.mul_one] at x0
    have hdrop : tabs.drop i = tabs[i] :: tabs.drop (i + 1) := List.drop_eq_getElem_cons hlt
    rw [hdrop, tabW] at hres
    by_cases hl8 : 8 < tabs[i].length
    · have hl8' : (8 : Int) < (tabs[i].length : Int) := by omega
      rw [if_pos hl8] at hres
      rw [← hres, if_pos (by decide)]
      simp +contextual only [go_sem, Rcb, Rbk, sevalprocAttr, hlv, ht, hlt, x0, hl8']
      exact end_none hT3 ⟨by decide, _, rfl⟩
    have hl8' : ¬ (8 : Int) < (tabs[i].length : Int) := by omega
    rw [if_neg hl8] at hres
    simp +contextual only [go_sem, Rcb, Rbk, sevalprocAttr, hlv, ht, hlt, x0, hl8']
    refine loop_range tabs[i].length 26 [(0, .slice (some ⟨b', o', none⟩) tabs.length c), (3, .pointer (some ⟨b3, 0, none⟩)), (15, .slice (some ⟨b', o', none⟩) tabs.length c), (16, .int .i64 (tabs.length : Int)), (17, .int .i64 (i : Int)), (24, .slice va tabs[i].length vc), (25, .int .i64 (tabs[i].length : Int))] (fun j e h => h = ⟨T3, M1, [], []⟩ ∧ (tabs[i].drop j).all (fun t => decide (1 ≤ t ∧ t ≤ 4)) = tabs[i].all (fun t => decide (1 ≤ t ∧ t ≤ 4))) 0 (by omega) (by simp only [live, hlv, ht, go_sem, Rcb, Rbk, sevalprocAttr]) (by simp only [go_sem, Rcb, Rbk, sevalprocAttr]) ⟨rfl, rfl⟩ ?_
    clear hlv ht e
    rintro j e h hj hlv ht ⟨rfl, hall⟩
    simp only [live] at hlv
    by_cases hjt : j < tabs[i].length
    · obtain ⟨b2, o2, cs2, hb2, hat2, hrx⟩ := hvg j tabs[i][j] (List.getElem?_eq_getElem hjt)
      unfold RI at hrx; subst hrx hb2
      have y0 := At1 (hat2.ext hM1)
      rw [Nat.mul_one] at y0
      have hdrop2 : tabs[i].drop j = tabs[i][j] :: tabs[i].drop (j + 1) := List.drop_eq_getElem_cons hjt
      rw [hdrop2, List.all_cons] at hall
      by_cases hb : 1 ≤ tabs[i][j] ∧ tabs[i][j] ≤ 4
      · rw [decide_eq_true hb, Bool.true_and] at hall
        have hb1 : ¬ tabs[i][j] < 1 := by omega
        have hb2 : ¬ 4 < tabs[i][j] := by omega
        simp +contextual only [go_sem, Rcb, Rbk, sevalprocAttr, hlv, ht, hjt, y0, hb1, hb2]
        refine lp_range hjt ?_ ?_ ⟨rfl, hall⟩
        · simp only [live, hlv, go_sem, Rcb, Rbk, sevalprocAttr]
        · simp only [ht, go_sem, Rcb, Rbk, sevalprocAttr, wrap_succ j (by omega)]
      · rw [decide_eq_false hb, Bool.false_and] at hall
        rw [← hall, if_neg (by decide)] at hres
        rw [← hres, if_pos (by decide)]
        by_cases hb1 : tabs[i][j] < 1
        · simp +contextual only [go_sem, Rcb, Rbk, sevalprocAttr, hlv, ht, hjt, y0, hb1]
          exact end_none hT3 ⟨by decide, _, rfl⟩
        · have hb2 : 4 < tabs[i][j] := by omega
          simp +contextual only [go_sem, Rcb, Rbk, sevalprocAttr, hlv, ht, hjt, y0, hb1, hb2]
          exact end_none hT3 ⟨by decide, _, rfl⟩
    · have : j = tabs[i].length := by omega
      subst this
      rw [List.drop_length] at hall
      rw [← hall, List.all_nil, if_pos rfl] at hres
      simp +contextual only [go_sem, Rcb, Rbk, sevalprocAttr, hlv, ht, hjt]
      refine lp_range hlt ?_ ?_ ⟨M1, hM1, h3, rfl, hres⟩
      · simp only [live, hlv, go_sem, Rcb, Rbk, sevalprocAttr]
      · simp only [hlv, go_sem, Rcb, Rbk, sevalprocAttr, wrap_succ i (by omega)]
  · have : i = tabs.length := by omega
    subst this
    rw [List.drop_length, tabW] at hres
    rw [← hres, if_neg (by simp)]
    have htl := tabW_len hres.symm
    have m : ∀ (i : Nat) (v : Value), cs[i]? = some v → mcell M1 ⟨b3, i, none⟩ = some v := by
      intro i v h
      rw [mcell_some h3]; exact h
    rw [hcs] at m
    have m0 := m 0 _ rfl
    have m1 := m 1 _ rfl
    have m2 := m 2 _ rfl
    have m3 := m 3 _ rfl
    have m4 := m 4 _ rfl
    have m5 := m 5 _ rfl
    have m6 := m 6 _ rfl
    have m7 := m 7 _ rfl
    have m8 := m 8 _ rfl
    have m9 := m 9 _ rfl
    have m10 := m 10 _ rfl
    have hp1 := RPl_ext hM1 _ _ hp
    rw [hcs] at hp1
    simp +contextual only [go_sem, Rcb, Rbk, sevalprocAttr, hlv, ht, hlt, m0, m1, m2, m3, m4, m5, m6, m7, m8, m9, m10, hs1]
    intro b9 T9 hb9 hT9 hTb9
    refine rCall_one [] (clR _ p (Nat.le_refl _) M1 T9 b9 1 0 _ tabs _ hp1 (RS_ext hM1 (RTb_ext hM1) htv) htl (by omega) (by omega)) ?_ (fun _ _ _ _ _ _ h => h.elim)
    rintro r M3 L' hM3 hk3' hno3 ⟨hr, rfl, -⟩
    have hTT := hT3.trans hT9
    cases hty : (colsPl tabs 1 0 p).1 with
    | ok t =>
      rw [hty] at hr
      obtain ⟨kv, rfl, hkv⟩ := hr
      simp +contextual only [go_sem, Rcb, Rbk, sevalprocAttr]
      exact end_none hTT ⟨_, rfl, hkv⟩
    | error er =>
      rw [hty] at hr
      obtain ⟨hne, t, rfl⟩ := hr
      simp +contextual only [go_sem, Rcb, Rbk, sevalprocAttr, hne]
      exact end_none hTT ⟨hne, _, rfl⟩
def refB (v : V) : V := ⟨v.k, if v.k = 2 ∨ v.k = 3 then v.n else 0, if v.k = 4 then v.t else []⟩
theorem refB_val {v : V} (h : 1 ≤ v.k ∧ v.k ≤ 4) : refB v = valB v := by
  obtain ⟨k, n, t⟩ := v
  unfold refB valB
  have h1 : k = 1 ∨ k = 2 ∨ k = 3 ∨ k = 4 := by simp only at h; omega
  rcases h1 with rfl | rfl | rfl | rfl <;> simp
theorem ct_refB {M : Mem} (v : V) (T : Tm) : CtT Tryz.prog 113 [.agg ⟨[.int .i64 v.k, .int .i64 v.n, st v.t]⟩] T M [] [] (fun r _ _ _ => r = .agg ⟨[.int .i64 (refB v).k, .int .i64 (refB v).n, st (refB v).t]⟩) noPan := by
  obtain ⟨k, n, t⟩ := v
  unfold refB
  refine ct_run mx bod113 Tryz.func113 rfl (by rw [nt113]; exact Nat.le_of_ble_eq_true rfl) (dr := dr113) (by kernel_rfl) rs113 ?_
  intro hno _
  by_cases h4 : k = 4
  · subst h4
    simp +contextual only [go_sem, Rcb, Rbk, sevalprocAttr]
    intro b1 T1 hb1 hT1 hTb1 b2 T2 hb2 hap2 hT2 hTb2 b3 T3 hb3 hap3 hT3 hTb3
    exact end_none ((hT1.trans hT2).trans hT3) rfl
  by_cases h2 : k = 2
  · subst h2
    simp +contextual only [go_sem, Rcb, Rbk, sevalprocAttr]
    intro b1 T1 hb1 hT1 hTb1 b2 T2 hb2 hap2 hT2 hTb2 b3 T3 hb3 hap3 hT3 hTb3
    exact end_none ((hT1.trans hT2).trans hT3) rfl
  by_cases h3 : k = 3
  · subst h3
    simp +contextual only [go_sem, Rcb, Rbk, sevalprocAttr]
    intro b1 T1 hb1 hT1 hTb1 b2 T2 hb2 hap2 hT2 hTb2 b3 T3 hb3 hap3 hT3 hTb3
    exact end_none ((hT1.trans hT2).trans hT3) rfl
  simp +contextual only [go_sem, Rcb, Rbk, sevalprocAttr, h4, h2, h3]
  intro b1 T1 hb1 hT1 hTb1 b2 T2 hb2 hap2 hT2 hTb2 b3 T3 hb3 hap3 hT3 hTb3
  exact end_none ((hT1.trans hT2).trans hT3) rfl
theorem ct_Tables12 {M : Mem} {rels : List Rel} {rv : Value} (hr : RS M (RRel M) 14 rels rv) (hlen : rels.length ≤ 1048576) (hcols : ∀ r ∈ rels, r.cols.length ≤ 1048576) (T : Tm) :
    CtT Tryz.prog 27 [rv] T M [] [] (fun r M' _ _ => RS M' (RTb M') 1 (tablesM rels) r) noPan := by
  obtain ⟨hbk, a, c, rfl, hle, _, hg⟩ := RS_elim (by decide) (fun _ _ => RRel_len) hr
  refine ct_run mx bod27 Tryz.func27 rfl (by rw [nt27]; exact Nat.le_of_ble_eq_true rfl) (dr := dr27) (by kernel_rfl) rs27 ?_
  intro hno _
  simp +contextual only [go_sem, Rcb, Rbk, sevalprocAttr]
  refine loop_range rels.length 11 [(9, .slice a rels.length c), (10, .int .i64 (rels.length : Int))] (fun i e h => ∃ N' M' R fv, ExtT T N' ∧ Ext M M' ∧ h = ⟨N', M', [], R⟩ ∧ e 3 = fv ∧ Acc 24 1 (RTb M') [] R fv (tablesM (rels.take i)) ∧ (tablesM (rels.take i)).length ≤ i) 0 (by omega) (by simp only [live, go_sem, Rcb, Rbk, sevalprocAttr]) (by simp only [go_sem, Rcb, Rbk, sevalprocAttr]) ⟨T, M, [], _, ExtT.rfl', Ext.rfl', rfl, by simp only [go_sem, Rcb, Rbk, sevalprocAttr], Acc_nil, by simp [tablesM]⟩ ?_
  rintro i e h hi hlv ht ⟨N1, M1, R1, fv, hN1, hM1, rfl, e3, hacc, hal⟩
  simp only [live] at hlv
  by_cases hlt : i < rels.length
  · obtain ⟨b', o', cs', rfl, hat, hrx⟩ := hg i rels[i] (List.getElem?_eq_getElem hlt)
    obtain ⟨ca, cn, s1, a1, n1, a2, n2, a3, n3, rfl, hs1, hcs, hpl⟩ := RRel_form (RRel_ext hM1 _ _ hrx)
    obtain ⟨x0, x1, x2, x3, x4, x5, x6, x7, x8, x9, x10, x11, x12, x13⟩ := At14 (hat.ext hM1)
    have hsucc := tablesM_succ hlt
    simp +contextual only [go_sem, Rcb, Rbk, sevalprocAttr, hlv, ht, hlt, x0, x1, x2, x3, x4, x5, x6, x7, x8, x9, x10, x11, x12, x13, hs1]
    intro b5 T5 hb5 hT5 hTb5
    have hT1 := hN1.trans hT5
    by_cases hview : rels[i].view = true
    · rw [if_pos hview]
      rw [if_pos hview, List.append_nil] at hsucc
      refine lp_close (Close_drop (Close_id ⟨rels.length - (i + 1), by omega, rfl, i + 1, by omega, rfl, ?_, ?_, T5, M1, R1, fv, hT1, hM1, rfl, ?_, ?_, ?_⟩))
      · simp only [live, hlv, go_sem, Rcb, Rbk, sevalprocAttr]
      · simp only [ht, go_sem, Rcb, Rbk, sevalprocAttr, wrap_succ i (by omega)]
      · simp only [e3, go_sem, Rcb, Rbk, sevalprocAttr]
      · rw [hsucc]; exact hacc
      · rw [hsucc]; omega
    rw [if_neg hview]
    rw [if_neg hview] at hsucc
    obtain ⟨hcb, _, _, hcx, hcle, _, hcg⟩ := RS_elim (by decide) (fun _ _ => RCo_len) hcs
    cases hcx
    have hcolb := hcols rels[i] (List.getElem_mem hlt)
    refine loop_rangeC rels[i].cols.length 21 [(3, fv), (9, .slice (some ⟨b', o', none⟩) rels.length c), (10, .int .i64 (rels.length : Int)), (11, .int .i64 (i : Nat)), (19, .slice ca rels[i].cols.length cn), (20, .int .i64 (rels[i].cols.length : Int))]
      (fun j e h => ∃ N' M' R' tv, ExtT T N' ∧ Ext M1 M' ∧ h = ⟨N', M', [], R'⟩ ∧ e 6 = tv ∧ (j < rels[i].cols.length → Acc 3 1 RI R1 R' tv ((rels[i].cols.take j).map (·.ty))) ∧ (j = rels[i].cols.length → R' = R1 ∧ RS M' RI 1 (rels[i].cols.map (·.ty)) tv))
      0 (by omega) (by simp only [live, hlv, e3, ht, go_sem, Rcb, Rbk, sevalprocAttr]) (by simp only [go_sem, Rcb, Rbk, sevalprocAttr]) ?_ ?_
    · exact Close_drop (Close_id ⟨T5, M1, R1, .slice none 0 0, hT1, Ext.rfl', rfl, by simp only [go_sem, Rcb, Rbk, sevalprocAttr], fun _ => Acc_nil, fun h0 => ⟨rfl, by rw [List.eq_nil_of_length_eq_zero h0.symm]; exact RS_nil⟩⟩)
    · rintro j e h hj hlv2 ht2 ⟨N2, M2, R2, tv, hN2, hM2, rfl, e6, hac2, hfin2⟩
      simp only [live] at hlv2
      by_cases hjlt : j < rels[i].cols.length
      · obtain ⟨bc, oc, cc', rfl, hatc, hrc⟩ := hcg j rels[i].cols[j] (List.getElem?_eq_getElem hjlt)
        unfold RCo at hrc
        subst hrc
        obtain ⟨z0, z1⟩ := At2 (hatc.ext hM2)
        have hac := hac2 hjlt
        simp +contextual only [go_sem, Rcb, Rbk, sevalprocAttr, hlv2, ht2, hjlt, z0, z1, e6]
        intro b8 T8 hb8 hT8 hTb8 b7 hb7 hap7
        have htk : (rels[i].cols.take (j + 1)).map (·.ty) = (rels[i].cols.take j).map (·.ty) ++ [rels[i].cols[j].ty] := by
          rw [← List.take_append_getElem hjlt, List.map_append]; rfl
        have hjl : ((rels[i].cols.take j).map (·.ty)).length = j := by rw [List.length_map, List.length_take]; omega
        refine app_acc (Tryz.underlying24) row24 okt24 (x := rels[i].cols[j].ty) (cs := [.int .i64 rels[i].cols[j].ty]) hac rfl (fun _ _ => RI_len) (RI_oneC rfl) hb7 (by omega) (by decide) ?_
        intro tv' R' hac'
        rw [← htk] at hac'
        simp +contextual only [go_sem, Rcb, Rbk, sevalprocAttr, hlv2, ht2, hjlt]
        refine lp_close (Close_drop (Close_drop ?_))
        by_cases hje : j + 1 = rels[i].cols.length
        · have hfull : (rels[i].cols.take (j + 1)).map (·.ty) = rels[i].cols.map (·.ty) := by rw [hje, List.take_length]
          rw [hfull] at hac'
          refine Close_acc hac' (by rw [List.length_map]; omega) (by decide) trivial fun M3 hM3 _ hrs => Close_id ⟨rels[i].cols.length - (j + 1), by omega, rfl, j + 1, by omega, rfl, ?_, ?_, T8, M3, R1, tv', hN2.trans hT8, hM2.trans hM3, rfl, ?_, fun h => absurd h (by omega), fun _ => ⟨rfl, hrs⟩⟩
          · simp only [live, hlv2, go_sem, Rcb, Rbk, sevalprocAttr]
          · simp only [ht2, go_sem, Rcb, Rbk, sevalprocAttr, wrap_succ j (by omega)]
          · simp only [go_sem, Rcb, Rbk, sevalprocAttr]
        · refine Close_id ⟨rels[i].cols.length - (j + 1), by omega, rfl, j + 1, by omega, rfl, ?_, ?_, T8, M2, R', tv', hN2.trans hT8, hM2, rfl, ?_, fun _ => hac', fun h => absurd h hje⟩
          · simp only [live, hlv2, go_sem, Rcb, Rbk, sevalprocAttr]
          · simp only [ht2, go_sem, Rcb, Rbk, sevalprocAttr, wrap_succ j (by omega)]
          · simp only [go_sem, Rcb, Rbk, sevalprocAttr]
      · have : j = rels[i].cols.length := by omega
        subst this
        obtain ⟨rfl, hrs⟩ := hfin2 rfl
        obtain ⟨_, ta, tc, rfl, _⟩ := RS_elim (by decide) (fun _ _ => RI_len) hrs
        simp +contextual only [go_sem, Rcb, Rbk, sevalprocAttr, hlv2, ht2, hjlt, e6]
        intro b7 hb7
        refine app_acc (Tryz.underlying58) row58 okt58 (Acc_mono (RTb_ext hM2) hacc) ⟨_, rfl, hrs⟩ (fun _ _ => RTb_len) (RTb_oneC (M := M2) ⟨_, rfl, hrs⟩) hb7 (by omega) (by decide) ?_
        intro fv' R' hacc'
        simp +contextual only [go_sem, Rcb, Rbk, sevalprocAttr, hlv2, ht2, hjlt]
        refine lp_close (Close_drop (Close_id ⟨rels.length - (i + 1), by omega, rfl, i + 1, by omega, rfl, ?_, ?_, N2, M2, R', fv', hN2, hM1.trans hM2, rfl, ?_, ?_, ?_⟩))
        · simp only [live, hlv2, go_sem, Rcb, Rbk, sevalprocAttr]
        · simp only [hlv2, go_sem, Rcb, Rbk, sevalprocAttr, wrap_succ i (by omega)]
        · simp only [go_sem, Rcb, Rbk, sevalprocAttr]
        · rw [hsucc]; exact hacc'
        · rw [hsucc, List.length_append]; simp only [List.length_cons, List.length_nil]; omega
  · have : i = rels.length := by omega
    subst this
    rw [List.take_length] at hacc hal
    simp +contextual only [go_sem, Rcb, Rbk, sevalprocAttr, hlv, ht, hlt, e3]
    exact Close_acc hacc (by omega) (by decide) hno fun M2 hM2 hno2 hrs => end_none hN1 (RS_ext Ext.rfl' (RTb_ext hM2) hrs)
def putE (e f : Int) : Int := if e = 0 then f else e
theorem ct_put {M : Mem} {bb : Nat} (e f : Int) (T : Tm) : CtT Tryz.prog 71 [.pointer (some ⟨bb, 0, none⟩), .int .i64 f] T M [(bb, [.int .i64 e])] [] (fun _ _ L' R' => L' = [(bb, [.int .i64 (putE e f)])] ∧ R' = []) noPan := by
  refine ct_run mx bod71 Tryz.func71 rfl (by rw [nt71]; exact Nat.le_of_ble_eq_true rfl) (dr := dr71) (by kernel_rfl) rs71 ?_
  intro hno _
  simp only [noneL, and_true] at hno
  unfold putE
  by_cases h : e = 0
  · simp +contextual only [go_sem, Rcb, Rbk, sevalprocAttr, hno, h]
    exact end_id ExtT.rfl' rfl rfl ⟨rfl, rfl⟩
  · simp +contextual only [go_sem, Rcb, Rbk, sevalprocAttr, hno, h]
    exact end_id ExtT.rfl' rfl rfl ⟨rfl, rfl⟩
theorem ct_over {M : Mem} (k : Int) {l : List Pl} {sv : Value} (hs : RS M (RPl M) 11 l sv) (T : Tm) : CtT Tryz.prog 33 [.int .i64 k, sv] T M [] [] (fun r M' _ _ => encP (.mk k 0 zeroE [] [] l) r M') noPan := by
  obtain ⟨_, sa, sc, rfl, _⟩ := RS_elim (by decide) (fun _ _ => RPl_len) hs
  refine ct_run mx bod33 Tryz.func33 rfl (by rw [nt33]; exact Nat.le_of_ble_eq_true rfl) (dr := dr33) (by kernel_rfl) rs33 ?_
  intro hno _
  simp +contextual only [go_sem, Rcb, Rbk, sevalprocAttr]
  intro b4 T4 hb4 hT4 hTb4
  refine end_none hT4 ⟨_, rfl, RPl_iff.2 ⟨[.int .i64 0, .int .i64 0, .int .i64 0, st [], .int .i64 0, .slice none 0 0], .slice none 0 0, .slice none 0 0, .slice sa l.length sc, rfl, REx_iff.2 ⟨_, rfl, RS_nil⟩, RS_nil, RS_nil, hs⟩⟩
theorem ct_Has : ∀ (sz : Nat) (x : X), SizeOf.sizeOf x ≤ sz → ∀ {M : Mem} {cs : List Value}, RX M x cs → ∀ (T : Tm), CtT Tryz.prog 70 [.agg ⟨cs⟩] T M [] [] (fun r _ _ _ => r = .bool (hasX x)) noPan := by
  intro sz
  induction sz with
  | zero => intro x hx; cases x; simp at hx
  | succ sz ih =>
    intro x hsz M cs hx T
    obtain ⟨s, rfl, hs1, hs⟩ := RX_form hx
    obtain ⟨hbk, a, c, rfl, hle, _, hg⟩ := RS_elim (by decide) (fun _ _ => RX_len) hs
    cases x with | mk k v tab name kids =>
    simp only [X.k, X.v, X.tab, X.name, X.kids] at hs hle hg hbk
    simp only [X.k, X.v, X.tab, X.name, X.kids]
    refine ct_run mx bod70 Tryz.func70 rfl (by rw [nt70]; exact Nat.le_of_ble_eq_true rfl) (dr := dr70) (by kernel_rfl) rs70 ?_
    intro hno _
    rw [hasX]
    by_cases h19 : 19 ≤ k
    · simp +contextual only [go_sem, Rcb, Rbk, sevalprocAttr, h19]
      intro b1 T1 hb1 hT1 hTb1
      exact end_none hT1 (by simp [h19])
    simp +contextual only [go_sem, Rcb, Rbk, sevalprocAttr, h19]
    intro b1 T1 hb1 hT1 hTb1
    rw [decide_eq_false h19, Bool.false_or]
    refine loop_rangeC kids.length 11 [(9, .slice a kids.length c), (10, .int .i64 (kids.length : Int))] (fun i e h => ∃ N' M', ExtT T N' ∧ Ext M M' ∧ hasL (kids.drop i) = hasL kids ∧ h = ⟨N', M', [], []⟩) 0 (by omega) (by simp only [live, go_sem, Rcb, Rbk, sevalprocAttr]) (by simp only [go_sem, Rcb, Rbk, sevalprocAttr]) ?_ ?_
    · exact Close_drop (Close_id ⟨T1, M, hT1, Ext.rfl', rfl, rfl⟩)
    · rintro i e h hi hlv ht ⟨N1, M1, hN1, hM1, hres, rfl⟩
      simp only [live] at hlv
      by_cases hlt : i < kids.length
      · obtain ⟨b', o', cs', rfl, hat, hrx⟩ := hg i kids[i] (List.getElem?_eq_getElem hlt)
        obtain ⟨s0, rfl, k0, x0, x1, x2, x3, x4, x5, x6⟩ := RX_atf (RX_ext hM1 _ _ hrx) (hat.ext hM1)
        have hsz2 : SizeOf.sizeOf kids[i] ≤ sz := by
          have h1 := List.sizeOf_lt_of_mem (List.getElem_mem hlt)
          simp only [X.mk.sizeOf_spec] at hsz
          omega
        have hdrop : kids.drop i = kids[i] :: kids.drop (i + 1) := List.drop_eq_getElem_cons hlt
        rw [hdrop, hasL] at hres
        simp +contextual only [go_sem, Rcb, Rbk, sevalprocAttr, hlv, ht, hlt, x0, x1, x2, x3, x4, x5, x6, k0]
        intro b4 T4 hb4 hT4 hTb4
        refine rCall_pure (ih kids[i] hsz2 (RX_ext hM1 _ _ hrx) T4) ?_ (fun _ _ _ _ h => h.elim)
        rintro r M2 hM2 hno2 rfl
        cases hb : hasX kids[i] with
        | true =>
          rw [hb, Bool.true_or] at hres
          simp +contextual only [go_sem, Rcb, Rbk, sevalprocAttr, hlv, ht, hlt]
          exact end_none (hN1.trans hT4) (by rw [← hres])
        | false =>
          rw [hb, Bool.false_or] at hres
          simp +contextual only [go_sem, Rcb, Rbk, sevalprocAttr, hlv, ht, hlt]
          refine lp_close (Close_drop (Close_id ⟨kids.length - (i + 1), by omega, rfl, i + 1, by omega, rfl, ?_, ?_, T4, M2, hN1.trans hT4, hM1.trans hM2, hres, rfl⟩))
          · simp only [live, hlv, go_sem, Rcb, Rbk, sevalprocAttr]
          · simp only [ht, go_sem, Rcb, Rbk, sevalprocAttr, wrap_succ i (by omega)]
      · have : i = kids.length := by omega
        subst this
        rw [List.drop_length, hasL] at hres
        simp +contextual only [go_sem, Rcb, Rbk, sevalprocAttr, hlv, ht, hlt]
        exact end_none hN1 (by rw [← hres])
def placeI (l : List (Bs × Bs)) (tab name : Bs) : Int := match placeG tab name 0 none l with | some k => optI k | none => -1
theorem ct_Place {M : Mem} {names : List (Bs × Bs)} {lv : Value} {x : X} {cs : List Value} (hl : RS M RCl 2 names lv) (hx : RX M x cs) (T : Tm) :
    CtT Tryz.prog 74 [lv, .agg ⟨cs⟩] T M [] [] (fun r _ _ _ => r = .int .i64 (placeI names x.tab x.name)) noPan := by
  obtain ⟨s, rfl, hs1, hs⟩ := RX_form hx
  obtain ⟨hbk, la, c, rfl, hle, _, hget⟩ := RS_elim (by decide) (fun _ _ => RCl_len) hl
  obtain ⟨W, hW⟩ : ∃ W, W = placeI names x.tab x.name := ⟨_, rfl⟩
  rw [← hW]
  unfold placeI at hW
  refine ct_run mx bod74 Tryz.func74 rfl (by rw [nt74]; exact Nat.le_of_ble_eq_true rfl) (dr := dr74) (by kernel_rfl) rs74 ?_
  intro hno _
  simp +contextual only [go_sem, Rcb, Rbk, sevalprocAttr, hs1]
  intro b3 T3 hb3 hT3 hTb3
  refine loop_rangeC names.length 10 [(3, .pointer (some ⟨b3, 0, none⟩)), (8, .slice la names.length c), (9, .int .i64 (names.length : Int))] (fun i e h => ∃ N' M' k, ExtT T N' ∧ Ext M M' ∧ M' b3 = some [.int .i64 x.k, .int .i64 x.v.k, .int .i64 x.v.n, st x.v.t, st x.tab, st x.name, s] ∧ e 5 = .int .i64 (optI k) ∧ placeG x.tab x.name i k (names.drop i) = placeG x.tab x.name 0 none names ∧ h = ⟨N', M', [], []⟩) 0 (by omega) (by simp only [live, go_sem, Rcb, Rbk, sevalprocAttr]) (by simp only [go_sem, Rcb, Rbk, sevalprocAttr]) ?_ ?_
  · exact Close_freeze fun he hb hno2 => Close_id ⟨T3, _, none, hT3, he, hb, by simp only [go_sem, Rcb, Rbk, sevalprocAttr, optI], rfl, rfl⟩
  rintro i e h hi hlv ht ⟨N1, M1, k, hN1, hM1, h3, e5, hres, rfl⟩
  simp only [live] at hlv
  have m4 : mcell M1 ⟨b3, 4, none⟩ = some (st x.tab) := by rw [mcell_some h3]; rfl
  have m5 : mcell M1 ⟨b3, 5, none⟩ = some (st x.name) := by rw [mcell_some h3]; rfl
  by_cases hlt : i < names.length
  · obtain ⟨b', o', cs', rfl, hat, hrx⟩ := hget i names[i] (List.getElem?_eq_getElem hlt)
    unfold RCl at hrx; subst hrx
    obtain ⟨y0, y1⟩ := At2 (hat.ext hM1)
    have hdrop : names.drop i = names[i] :: names.drop (i + 1) := List.drop_eq_getElem_cons hlt
    rw [hdrop, placeG_cons] at hres
    simp +contextual only [go_sem, Rcb, Rbk, sevalprocAttr, hlv, ht, hlt, y0, y1, m4, m5]
    intro b7 T7 hb7 hT7 hTb7
    have hT := hN1.trans hT7
    by_cases h1 : names[i].2 = x.name
    · by_cases h2 : x.tab = [] ∨ names[i].1 = x.tab
      · rw [if_pos ⟨h1, h2⟩] at hres
        have hcs : x.tab = [] ∨ (¬ x.tab = [] ∧ names[i].1 = x.tab) := by
          by_cases h : x.tab = []
          · exact .inl h
          · exact .inr ⟨h, h2.resolve_left h⟩
        rcases hcs with g3 | ⟨g3, g4⟩
        · cases k with
          | some j =>
            have hj : (0 : Int) ≤ (j : Int) := by omega
            have e5' : e 5 = .int .i64 (j : Int) := e5
            simp only at hres
            rw [← hres] at hW
            simp +contextual only [go_sem, Rcb, Rbk, sevalprocAttr, h1, g3, e5', hj, hlv, ht, hlt, m4, m5, hb7]
            exact end_none hT (by rw [hW])
          | none =>
            have e5' : e 5 = .int .i64 (-1) := e5
            simp only at hres
            simp +contextual only [go_sem, Rcb, Rbk, sevalprocAttr, h1, g3, e5', hlv, ht, hlt, m4, m5, hb7]
            refine lp_close (Close_drop (Close_id ⟨names.length - (i + 1), by omega, rfl, i + 1, by omega, rfl, ?_, ?_, T7, M1, some i, hT, hM1, h3, ?_, hres, rfl⟩))
            · simp only [live, hlv, go_sem, Rcb, Rbk, sevalprocAttr]
            · simp only [ht, go_sem, Rcb, Rbk, sevalprocAttr, wrap_succ i (by omega)]
            · simp only [go_sem, Rcb, Rbk, sevalprocAttr, optI]
        · cases k with
          | some j =>
            have hj : (0 : Int) ≤ (j : Int) := by omega
            have e5' : e 5 = .int .i64 (j : Int) := e5
            simp only at hres
            rw [← hres] at hW
            simp +contextual only [go_sem, Rcb, Rbk, sevalprocAttr, h1, g3, g4, e5', hj, hlv, ht, hlt, m4, m5, hb7]
            exact end_none hT (by rw [hW])
          | none =>
            have e5' : e 5 = .int .i64 (-1) := e5
            simp only at hres
            simp +contextual only [go_sem, Rcb, Rbk, sevalprocAttr, h1, g3, g4, e5', hlv, ht, hlt, m4, m5, hb7]
            refine lp_close (Close_drop (Close_id ⟨names.length - (i + 1), by omega, rfl, i + 1, by omega, rfl, ?_, ?_, T7, M1, some i, hT, hM1, h3, ?_, hres, rfl⟩))
            · simp only [live, hlv, go_sem, Rcb, Rbk, sevalprocAttr]
            · simp only [ht, go_sem, Rcb, Rbk, sevalprocAttr, wrap_succ i (by omega)]
            · simp only [go_sem, Rcb, Rbk, sevalprocAttr, optI]
      · rw [if_neg (fun h => h2 h.2)] at hres
        have h3' : ¬ x.tab = [] := fun h => h2 (.inl h)
        have h4' : ¬ names[i].1 = x.tab := fun h => h2 (.inr h)
        simp +contextual only [go_sem, Rcb, Rbk, sevalprocAttr, h1, h3', h4', hlv, ht, hlt, m4, m5, hb7]
        refine lp_close (Close_drop (Close_id ⟨names.length - (i + 1), by omega, rfl, i + 1, by omega, rfl, ?_, ?_, T7, M1, k, hT, hM1, h3, ?_, hres, rfl⟩))
        · simp only [live, hlv, go_sem, Rcb, Rbk, sevalprocAttr]
        · simp only [ht, go_sem, Rcb, Rbk, sevalprocAttr, wrap_succ i (by omega)]
        · simp only [e5, go_sem, Rcb, Rbk, sevalprocAttr]
    · rw [if_neg (fun h => h1 h.1)] at hres
      simp +contextual only [go_sem, Rcb, Rbk, sevalprocAttr, h1, hlv, ht, hlt, m4, m5, hb7]
      refine lp_close (Close_drop (Close_id ⟨names.length - (i + 1), by omega, rfl, i + 1, by omega, rfl, ?_, ?_, T7, M1, k, hT, hM1, h3, ?_, hres, rfl⟩))
      · simp only [live, hlv, go_sem, Rcb, Rbk, sevalprocAttr]
      · simp only [ht, go_sem, Rcb, Rbk, sevalprocAttr, wrap_succ i (by omega)]
      · simp only [e5, go_sem, Rcb, Rbk, sevalprocAttr]
  · have : i = names.length := by omega
    subst this
    rw [List.drop_length, placeG] at hres
    rw [← hres] at hW
    simp +contextual only [go_sem, Rcb, Rbk, sevalprocAttr, hlv, ht, hlt, e5]
    exact end_none hN1 (by rw [hW])
def findR (rels : List Rel) (name : Bs) : Pl × List Co := (findG name 0 rels).getD (zeroP, [])
theorem ct_Find {M : Mem} {rels : List Rel} {rv : Value} (name : Bs) (hr : RS M (RRel M) 14 rels rv) (T : Tm) :
    CtT Tryz.prog 111 [rv, st name] T M [] [] (fun r M' _ _ => ∃ cs cv, r = .tuple ⟨[.agg ⟨cs⟩, cv, .bool (findG name 0 rels).isSome]⟩ ∧ RPl M' (findR rels name).1 cs ∧ RS M' RCo 2 (findR rels name).2 cv) noPan := by
  obtain ⟨hbk, a, c, rfl, hle, _, hg⟩ := RS_elim (by decide) (fun _ _ => RRel_len) hr
  unfold findR
  obtain ⟨W, hW⟩ : ∃ W, W = findG name 0 rels := ⟨_, rfl⟩
  rw [← hW]
  refine ct_run mx bod111 Tryz.func111 rfl (by rw [nt111]; exact Nat.le_of_ble_eq_true rfl) (dr := dr111) (by kernel_rfl) rs111 ?_
  intro hno _
  simp +contextual only [go_sem, Rcb, Rbk, sevalprocAttr]
  intro b4 T4 hb4 hT4 hTb4
  refine loop_range rels.length 12 [(1, st name), (4, .pointer (some ⟨b4, 0, none⟩)), (10, .slice a rels.length c), (11, .int .i64 (rels.length : Int))] (fun i e h => ∃ T' n, ExtT T4 T' ∧ h = ⟨T', M, [(b4, [.int .i64 0, .int .i64 0, .int .i64 0, .int .i64 0, .int .i64 0, st [], .int .i64 0, .slice none 0 0, .slice none 0 0, .slice none 0 0, .slice none 0 0])], []⟩ ∧ e 7 = .int .i64 ((n : Nat) : Int) ∧ n ≤ i ∧ findG name n (rels.drop i) = findG name 0 rels) 0 (by omega) (by simp only [live, go_sem, Rcb, Rbk, sevalprocAttr]) (by simp only [go_sem, Rcb, Rbk, sevalprocAttr]) ⟨T4, 0, ExtT.rfl', rfl, by simp only [go_sem, Rcb, Rbk, sevalprocAttr], by omega, rfl⟩ ?_
  rintro i e h hi hlv ht ⟨T1, n, hT1, rfl, e7, hni, hres⟩
  simp only [live] at hlv
  by_cases hlt : i < rels.length
  · obtain ⟨b', o', cs', rfl, hat, hrx⟩ := hg i rels[i] (List.getElem?_eq_getElem hlt)
    obtain ⟨ca, cn, s1, a1, n1, a2, n2, a3, n3, rfl, hs1, hcols, hpl⟩ := RRel_form hrx
    obtain ⟨y0, y1, y2, y3, y4, y5, y6, y7, y8, y9, y10, y11, y12, y13⟩ := At14 hat
    have hdrop : rels.drop i = rels[i] :: rels.drop (i + 1) := List.drop_eq_getElem_cons hlt
    rw [hdrop, findG_cons, ← hW] at hres
    have hT := hT4.trans hT1
    by_cases hn : rels[i].name = name
    · rw [if_pos hn] at hres
      cases hv : rels[i].view with
      | true =>
        rw [hv, if_pos rfl] at hres
        simp +contextual only [go_sem, Rcb, Rbk, sevalprocAttr, hlv, ht, hlt, y0, y1, y2, y3, y4, y5, y6, y7, y8, y9, y10, y11, y12, y13, hb4, hs1, hn, hv]
        intro b8 T8 hb8 hap8 hT8 hTb8
        refine draw_at ⟨T, fun _ => none, [(b8, _)], []⟩ (Sub_hd hb8) ?_
        simp +contextual only [go_sem, Rcb, Rbk, sevalprocAttr, hlv, ht, hlt, y0, y1, y2, y3, y4, y5, y6, y7, y8, y9, y10, y11, y12, y13, hb4, hs1, hn, hv, hb8, hap8]
        exact ⟨Sub_hd hb8, end_none (hT.trans hT8) (by rw [← hres]; exact ⟨_, _, rfl, hpl, hcols⟩)⟩
      | false =>
        rw [hv, if_neg (by decide)] at hres
        simp +contextual only [go_sem, Rcb, Rbk, sevalprocAttr, hlv, ht, hlt, y0, y1, y2, y3, y4, y5, y6, y7, y8, y9, y10, y11, y12, y13, hb4, hs1, hn, hv, e7]
        intro b8 T8 hb8 hap8 hT8 hTb8
        refine draw_at ⟨T, fun _ => none, [(b8, _)], []⟩ (Sub_hd hb8) ?_
        simp +contextual only [go_sem, Rcb, Rbk, sevalprocAttr, hlv, ht, hlt, y0, y1, y2, y3, y4, y5, y6, y7, y8, y9, y10, y11, y12, y13, hb4, hs1, hn, hv, hb8, hap8, e7]
        exact ⟨Sub_hd hb8, end_none (hT.trans hT8) (by rw [← hres]; exact ⟨_, _, rfl, tableP_R M n, hcols⟩)⟩
    · rw [if_neg hn] at hres
      cases hv : rels[i].view with
      | true =>
        rw [hv, if_pos rfl] at hres
        simp +contextual only [go_sem, Rcb, Rbk, sevalprocAttr, hlv, ht, hlt, y0, y1, y2, y3, y4, y5, y6, y7, y8, y9, y10, y11, y12, y13, hb4, hs1, hn, hv, e7]
        intro b8 T8 hb8 hap8 hT8 hTb8
        refine lp_close (Close_drop (Close_id ⟨rels.length - (i + 1), by omega, rfl, i + 1, by omega, rfl, ?_, ?_, T8, n, hT1.trans hT8, rfl, ?_, by omega, (by rw [← hW]; exact hres)⟩))
        · simp only [live, hlv, go_sem, Rcb, Rbk, sevalprocAttr]
        · simp only [ht, go_sem, Rcb, Rbk, sevalprocAttr, wrap_succ i (by omega)]
        · simp only [e7, go_sem, Rcb, Rbk, sevalprocAttr]
      | false =>
        rw [hv, if_neg (by decide)] at hres
        simp +contextual only [go_sem, Rcb, Rbk, sevalprocAttr, hlv, ht, hlt, y0, y1, y2, y3, y4, y5, y6, y7, y8, y9, y10, y11, y12, y13, hb4, hs1, hn, hv, e7]
        intro b8 T8 hb8 hap8 hT8 hTb8
        refine lp_close (Close_drop (Close_id ⟨rels.length - (i + 1), by omega, rfl, i + 1, by omega, rfl, ?_, ?_, T8, n + 1, hT1.trans hT8, rfl, ?_, by omega, (by rw [← hW]; exact hres)⟩))
        · simp only [live, hlv, go_sem, Rcb, Rbk, sevalprocAttr]
        · simp only [ht, go_sem, Rcb, Rbk, sevalprocAttr, wrap_succ i (by omega)]
        · simp only [e7, go_sem, Rcb, Rbk, sevalprocAttr, wrap_succ n (by omega)]
  · have : i = rels.length := by omega
    subst this
    rw [List.drop_length, findG, ← hW] at hres
    simp +contextual only [go_sem, Rcb, Rbk, sevalprocAttr, hlv, ht, hlt, hb4]
    exact end_none (hT4.trans hT1) (by rw [← hres]; exact ⟨_, _, rfl, zeroP_R M, RS_nil⟩)
theorem neVal2 (k n : Int) (t : Bs) (k' n' : Int) (t' : Bs) : vBinP Tryz.prog .neq 29 (.agg ⟨[.int .i64 k, .int .i64 n, .string (bs t)]⟩) (.agg ⟨[.int .i64 k', .int .i64 n', .string (bs t')]⟩) = some (.bool (!sameV ⟨k, n, t⟩ ⟨k', n', t'⟩)) := by
  show (match sigT Tryz.prog 29 with | some ks => (eqK ks _ _).map (fun b => Value.bool !b) | none => none) = _
  rw [sigVal]; simp only [eqK, eqV, sameV, st, bs_inj, Option.map]
  cases decide (k = k') <;> cases decide (n = n') <;> cases decide (t = t') <;> simp
def SmR (x : X) : Prop := ∀ (M : Mem) (T : Tm) (y : X) (cs cs' : List Value), okX x → okX y → RX M x cs → RX M y cs' → CtT Tryz.prog 73 [.agg ⟨cs⟩, .agg ⟨cs'⟩] T M [] [] (fun r _ _ _ => r = .bool (alikeX x y)) noPan
set_option maxHeartbeats 2000000 in
theorem ct_Alike : ∀ (sz : Nat) (x : X), SizeOf.sizeOf x ≤ sz → SmR x := by
  intro sz
  induction sz with
  | zero => intro x hx; cases x; simp at hx
  | succ sz ih =>
    intro x hsz M T y cs cs' hokx hoky hx hy
    obtain ⟨s, rfl, ks, hs⟩ := RX_form hx
    obtain ⟨hbk, a, c, rfl, hle, _, hg⟩ := RS_elim (by decide) (fun _ _ => RX_len) hs
    obtain ⟨s', rfl, ks', hs'⟩ := RX_form hy
    obtain ⟨hbk', a', c', rfl, hle', _, hg'⟩ := RS_elim (by decide) (fun _ _ => RX_len) hs'
    cases x with | mk k v tab name kids =>
    cases y with | mk k' v' tab' name' kids' =>
    simp only [X.k, X.v, X.tab, X.name, X.kids] at hs hs' hle hle' hg hg' hbk hbk'
    simp only [X.k, X.v, X.tab, X.name, X.kids]
    obtain ⟨hn, hvk, hokk⟩ := hokx
    obtain ⟨hn', hvk', hokk'⟩ := hoky
    obtain ⟨W, hW⟩ : ∃ W, W = alikeX (.mk k v tab name kids) (.mk k' v' tab' name' kids') := ⟨_, rfl⟩
    rw [← hW]
    rw [alikeX] at hW
    refine ct_run mx bod73 Tryz.func73 rfl (by rw [nt73]; exact Nat.le_of_ble_eq_true rfl) (dr := dr73) (by kernel_rfl) rs73 ?_
    intro hno _
    simp +contextual only [go_sem, Rcb, Rbk, sevalprocAttr]
    intro b2 T2 hb2 hT2 hTb2 b3 T3 hb3 hap3 hT3 hTb3
    have hT := hT2.trans hT3
    refine draw_cut (fun e ds h => ds = [] ∧ live e [(2, .pointer (some ⟨b2, 0, none⟩)), (3, .pointer (some ⟨b3, 0, none⟩))] ∧ ∃ bad M', e 52 = .bool bad ∧ (bad = true → W = false) ∧ (bad = false → W = alikeL kids kids' ∧ kids.length = kids'.length) ∧ Ext M M' ∧ M' b2 = none ∧ M' b3 = none ∧
      h = ⟨T3, M', [(b3, [.int .i64 k', .int .i64 v'.k, .int .i64 v'.n, st v'.t, st tab', st name', .slice a' kids'.length c']), (b2, [.int .i64 k, .int .i64 v.k, .int .i64 v.n, st v.t, st tab, st name, .slice a kids.length c])], []⟩) (fun S' hS' => ?_) ?_
    · refine draw_all ?_
      by_cases hk : k = k'
      rotate_left
      · simp +contextual only [go_sem, Rcb, Rbk, sevalprocAttr, hk, hb2, hb3, hap3]
        repeat refine ⟨Sub.refl _, ?_⟩
        refine hS' _ _ _ ⟨rfl, ?_, true, M, ?_, fun _ => by rw [hW]; simp [hk], (fun h => by cases h), Ext.rfl', hb2, hb3, rfl⟩
        · simp only [live, go_sem, Rcb, Rbk, sevalprocAttr]
        · simp only [go_sem, Rcb, Rbk, sevalprocAttr]
      subst hk
      have hlen : kids.length = kids'.length := by omega
      have hlen' : (kids.length : Int) = (kids'.length : Int) := by omega
      rw [decide_eq_true rfl, Bool.true_and] at hW
      by_cases h1 : k = 1
      · subst h1
        rw [if_pos rfl] at hW
        have hv1 := hvk rfl
        have hv2 := hvk' rfl
        have hk0 : kids = [] := List.length_eq_zero_iff.1 (by have : kidsN 1 = 0 := rfl; omega)
        have hk0' : kids' = [] := List.length_eq_zero_iff.1 (by rw [← hlen, hk0]; rfl)
        simp +contextual only [go_sem, Rcb, Rbk, sevalprocAttr, hb2, hb3, hap3, hlen']
        refine rCall_pure (ct_refB v T3) ?_ (fun _ _ _ _ h => h.elim)
        rintro r M1 hM1 hno1 rfl
        simp only [noneL, and_true] at hno1
        simp +contextual only [go_sem, Rcb, Rbk, sevalprocAttr, hno1, hap3]
        refine ⟨Sub_ML hM1 ⟨hno1.1, hno1.2, trivial⟩, ?_⟩
        refine rCall_pure (ct_refB v' T3) ?_ (fun _ _ _ _ h => h.elim)
        rintro r M2 hM2 hno2 rfl
        simp only [noneL, and_true] at hno2
        rw [refB_val hv1, refB_val hv2]
        cases hsm : sameV (valB v) (valB v') with
        | false =>
          rw [hsm] at hW
          simp +contextual only [go_sem, Rcb, Rbk, sevalprocAttr, hno2, hap3, neVal2, hsm, hb2]
          refine ⟨Sub_ML (hM1.trans hM2) ⟨hno2.1, hno2.2, trivial⟩, hS' _ _ _ ⟨rfl, ?_, true, M2, ?_, fun _ => hW, (fun h => by cases h), hM1.trans hM2, hno2.2, hno2.1, rfl⟩⟩
          · simp only [live, go_sem, Rcb, Rbk, sevalprocAttr]
          · simp only [go_sem, Rcb, Rbk, sevalprocAttr]
        | true =>
          rw [hsm] at hW
          simp +contextual only [go_sem, Rcb, Rbk, sevalprocAttr, hno2, hap3, neVal2, hsm, hb2]
          refine ⟨Sub_ML (hM1.trans hM2) ⟨hno2.1, hno2.2, trivial⟩, hS' _ _ _ ⟨rfl, ?_, false, M2, ?_, (fun h => by cases h), fun _ => ⟨by rw [hW, hk0, hk0']; rfl, hlen⟩, hM1.trans hM2, hno2.2, hno2.1, rfl⟩⟩
          · simp only [live, go_sem, Rcb, Rbk, sevalprocAttr]
          · simp only [go_sem, Rcb, Rbk, sevalprocAttr]
      rw [if_neg h1] at hW
      by_cases h2 : k = 2
      · subst h2
        rw [if_pos rfl] at hW
        have hk0 : kids = [] := List.length_eq_zero_iff.1 (by have : kidsN 2 = 0 := rfl; omega)
        have hk0' : kids' = [] := List.length_eq_zero_iff.1 (by rw [← hlen, hk0]; rfl)
        by_cases ht : tab = tab'
        · by_cases hn2 : name = name'
          · simp +contextual only [go_sem, Rcb, Rbk, sevalprocAttr, hb2, hb3, hap3, hlen', ht, hn2]
            repeat refine ⟨Sub.refl _, ?_⟩
            refine hS' _ _ _ ⟨rfl, ?_, false, M, ?_, (fun h => by cases h), fun _ => ⟨by rw [hW, hk0, hk0']; simp [ht, hn2, alikeL], hlen⟩, Ext.rfl', hb2, hb3, by rw [ht, hn2] <;> rfl⟩
            · simp only [live, go_sem, Rcb, Rbk, sevalprocAttr]
            · simp only [go_sem, Rcb, Rbk, sevalprocAttr]
          · simp +contextual only [go_sem, Rcb, Rbk, sevalprocAttr, hb2, hb3, hap3, hlen', ht, hn2]
            repeat refine ⟨Sub.refl _, ?_⟩
            refine hS' _ _ _ ⟨rfl, ?_, true, M, ?_, fun _ => by rw [hW]; simp [ht, hn2], (fun h => by cases h), Ext.rfl', hb2, hb3, by rw [ht] <;> rfl⟩
            · simp only [live, go_sem, Rcb, Rbk, sevalprocAttr]
            · simp only [go_sem, Rcb, Rbk, sevalprocAttr]
        · simp +contextual only [go_sem, Rcb, Rbk, sevalprocAttr, hb2, hb3, hap3, hlen', ht]
          repeat refine ⟨Sub.refl _, ?_⟩
          refine hS' _ _ _ ⟨rfl, ?_, true, M, ?_, fun _ => by rw [hW]; simp [ht], (fun h => by cases h), Ext.rfl', hb2, hb3, rfl⟩
          · simp only [live, go_sem, Rcb, Rbk, sevalprocAttr]
          · simp only [go_sem, Rcb, Rbk, sevalprocAttr]
      rw [if_neg h2] at hW
      simp +contextual only [go_sem, Rcb, Rbk, sevalprocAttr, hb2, hb3, hap3, hlen', h1, h2]
      repeat refine ⟨Sub.refl _, ?_⟩
      refine hS' _ _ _ ⟨rfl, ?_, false, M, ?_, (fun h => by cases h), fun _ => ⟨hW, hlen⟩, Ext.rfl', hb2, hb3, rfl⟩
      · simp only [live, go_sem, Rcb, Rbk, sevalprocAttr]
      · simp only [go_sem, Rcb, Rbk, sevalprocAttr]
    · rintro e ds h ⟨rfl, hlv, bad, M1, e52, hb, hg2, hM1, n2, n3, rfl⟩
      simp only [live] at hlv
      cases bad with
      | true =>
        simp +contextual only [go_sem, Rcb, Rbk, sevalprocAttr, e52, hlv]
        exact end_none hT (by rw [hb rfl])
      | false =>
        obtain ⟨hWl, hlen⟩ := hg2 rfl
        simp +contextual only [go_sem, Rcb, Rbk, sevalprocAttr, e52, hlv, n2, n3, hap3]
        refine loop_rangeC kids.length 56 [(2, .pointer (some ⟨b2, 0, none⟩)), (3, .pointer (some ⟨b3, 0, none⟩)), (55, .int .i64 (kids.length : Int))]
          (fun i e h => ∃ M', Ext M M' ∧ M' b2 = some [.int .i64 k, .int .i64 v.k, .int .i64 v.n, st v.t, st tab, st name, .slice a kids.length c] ∧ M' b3 = some [.int .i64 k', .int .i64 v'.k, .int .i64 v'.n, st v'.t, st tab', st name', .slice a' kids'.length c'] ∧ alikeL (kids.drop i) (kids'.drop i) = W ∧ h = ⟨T3, M', [], []⟩)
          0 (by omega) (by simp only [live, hlv, go_sem, Rcb, Rbk, sevalprocAttr]) (by simp only [go_sem, Rcb, Rbk, sevalprocAttr]) (Close_freeze fun he h3 _ => Close_freeze fun he2 h2 _ => Close_id ⟨_, (hM1.trans he).trans he2, h2, he2 _ _ h3, hWl.symm, rfl⟩) ?_
        clear hlv e52
        rintro i e h hi hlv ht ⟨M2, hM2, h2, h3, hres, rfl⟩
        simp only [live] at hlv
        have m6 : mcell M2 ⟨b2, 6, none⟩ = some (.slice a kids.length c) := by rw [mcell_some h2]; rfl
        have q6 : mcell M2 ⟨b3, 6, none⟩ = some (.slice a' kids'.length c') := by rw [mcell_some h3]; rfl
        by_cases hlt : i < kids.length
        · have hlt' : i < kids'.length := by omega
          obtain ⟨b', o', cs1, rfl, hat, hrx⟩ := hg i kids[i] (List.getElem?_eq_getElem hlt)
          obtain ⟨s0, rfl, k0, x0, x1, x2, x3, x4, x5, x6⟩ := RX_atf (RX_ext hM2 _ _ hrx) (hat.ext hM2)
          obtain ⟨b'', o'', cs2, rfl, hat', hrx'⟩ := hg' i kids'[i] (List.getElem?_eq_getElem hlt')
          obtain ⟨s1, rfl, k1, y0, y1, y2, y3, y4, y5, y6⟩ := RX_atf (RX_ext hM2 _ _ hrx') (hat'.ext hM2)
          have hsz2 : SizeOf.sizeOf kids[i] ≤ sz := by
            have h1 := List.sizeOf_lt_of_mem (List.getElem_mem hlt)
            simp only [X.mk.sizeOf_spec] at hsz
            omega
          have hd1 : kids.drop i = kids[i] :: kids.drop (i + 1) := List.drop_eq_getElem_cons hlt
          have hd2 : kids'.drop i = kids'[i] :: kids'.drop (i + 1) := List.drop_eq_getElem_cons hlt'
          rw [hd1, hd2, alikeL] at hres
          simp +contextual only [go_sem, Rcb, Rbk, sevalprocAttr, hlv, ht, hlt]
          refine draw_all ?_
          simp +contextual only [go_sem, Rcb, Rbk, sevalprocAttr, hlv, ht, hlt, hlt', m6, q6, x0, x1, x2, x3, x4, x5, x6, y0, y1, y2, y3, y4, y5, y6, k0, k1]
          refine rCall_pure (ih kids[i] hsz2 M2 T3 kids'[i] _ _ (okXs_mem hokk _ (List.getElem_mem hlt)) (okXs_mem hokk' _ (List.getElem_mem hlt')) (RX_ext hM2 _ _ hrx) (RX_ext hM2 _ _ hrx')) ?_ (fun _ _ _ _ h => h.elim)
          rintro r M3 hM3 hno3 rfl
          cases hb2 : alikeX kids[i] kids'[i] with
          | true =>
            rw [hb2, Bool.true_and] at hres
            simp +contextual only [go_sem, Rcb, Rbk, sevalprocAttr, hlv, ht]
            refine ⟨Sub_ext hM3, ?_⟩
            refine lp_range hlt ?_ ?_ ⟨M3, hM2.trans hM3, hM3 _ _ h2, hM3 _ _ h3, hres, rfl⟩
            · simp only [live, hlv, go_sem, Rcb, Rbk, sevalprocAttr]
            · simp only [ht, go_sem, Rcb, Rbk, sevalprocAttr, wrap_succ i (by omega)]
          | false =>
            rw [hb2, Bool.false_and] at hres
            simp +contextual only [go_sem, Rcb, Rbk, sevalprocAttr, hlv, ht]
            exact ⟨Sub_ext hM3, end_none hT (by rw [← hres])⟩
        · have : i = kids.length := by omega
          subst this
          have hd2 : kids'.drop kids.length = [] := by rw [hlen, List.drop_length]
          rw [List.drop_length, hd2, alikeL] at hres
          simp +contextual only [go_sem, Rcb, Rbk, sevalprocAttr, hlv, ht, hlt]
          exact end_none hT (by rw [← hres])
mutual
def exprR (names : List (Bs × Bs)) : X → Int → Ex × Int
  | .mk k v tab name kids, e => if 19 ≤ k then (.mk k zeroV 0 [], putE e 8)
    else if k = 2 then (.mk 2 zeroV (placeI names tab name) [], if placeI names tab name < 0 then putE e 7 else e)
    else if k = 1 then (.mk 1 v 0 [], e)
    else (.mk k zeroV 0 (exprsR names kids e).1, (exprsR names kids e).2)
def exprsR (names : List (Bs × Bs)) : List X → Int → List Ex × Int
  | [], e => ([], e)
  | x :: l, e => ((exprR names x e).1 :: (exprsR names l (exprR names x e).2).1, (exprsR names l (exprR names x e).2).2)
end
theorem lcell_pre {L2 : LL} {a : Addr} {x : Option Value} : ∀ {L1 : LL}, lcell L1 a = some x → lcell (L1 ++ L2) a = some x
  | [], h => by simp [lcell] at h
  | (k, cs) :: L1, h => by
    rw [List.cons_append]
    simp only [lcell] at h ⊢
    split
    · rename_i hk; rw [if_pos hk] at h; exact h
    · rename_i hk; rw [if_neg hk] at h; exact lcell_pre h
theorem Sub_preM {T0 T : Tm} {M M' : Mem} {L1 L2 : LL} {R0 R : RR} (h : Ext M M') (hn : noneL M' L1) : Vc.Sub ⟨T0, M, L1, R0⟩ ⟨T, M', L1 ++ L2, R⟩ := by
  intro a v hv
  have h1 := Sub_ML (T0 := T0) (T := T) (R0 := R0) (R := R) h hn a v hv
  simp only [Sh.cell] at h1 ⊢
  cases hm : mcell M' a with
  | some w => rw [hm] at h1; exact h1
  | none =>
    rw [hm] at h1
    simp only at h1 ⊢
    cases hl : lcell L1 a with
    | none => rw [hl] at h1; simp at h1
    | some x => rw [lcell_pre hl]; rw [hl] at h1; exact h1
theorem Sub_trans' {a b c : Sh} (h : Vc.Sub a b) (h2 : Vc.Sub b c) : Vc.Sub a c := fun x v hv => h2 x v (h x v hv)
theorem zeroE_R2 {M : Mem} (k : Int) : REx M (.mk k zeroV 0 []) [.int .i64 k, .int .i64 0, .int .i64 0, st [], .int .i64 0, .slice none 0 0] := REx_iff.2 ⟨_, rfl, RS_nil⟩
def ExR (names : List (Bs × Bs)) (x : X) : Prop := ∀ (M : Mem) (T : Tm) (vb bb : Nat) (lv kv av : Value) (cs : List Value) (e : Int), RS M RCl 2 names lv → M vb = some [lv, .bool false, kv, av] → RX M x cs → okX x →
  CtT Tryz.prog 34 [.pointer (some ⟨vb, 0, none⟩), .pointer (some ⟨bb, 0, none⟩), .agg ⟨cs⟩] T M [(bb, [.int .i64 e])] [] (fun r M' L' R' => (∃ ys, r = .agg ⟨ys⟩ ∧ REx M' (exprR names x e).1 ys) ∧ L' = [(bb, [.int .i64 (exprR names x e).2])] ∧ R' = []) noPan
theorem exR (names : List (Bs × Bs)) : ∀ (sz : Nat) (x : X), SizeOf.sizeOf x ≤ sz → ExR names x := by
  intro sz
  induction sz with
  | zero => intro x hx; cases x; simp at hx
  | succ sz ih =>
    intro x hsz M T vb bb lv kv av cs e0 hlv hvb hx hok
    obtain ⟨s, rfl, ks, hs⟩ := RX_form hx
    obtain ⟨hbk, a, c, rfl, hle, _, hg⟩ := RS_elim (by decide) (fun _ _ => RX_len) hs
    obtain ⟨_, la, lc, rfl, _⟩ := RS_elim (by decide) (fun _ _ => RCl_len) hlv
    cases x with | mk k v tab name kids =>
    simp only [X.k, X.v, X.tab, X.name, X.kids] at hs hle hg hbk
    simp only [X.k, X.v, X.tab, X.name, X.kids]
    obtain ⟨hkn, hvk, hokk⟩ := hok
    have hk3 : kids.length ≤ 3 := by
      have : kidsN k ≤ 3 := by unfold kidsN; repeat' split <;> omega
      omega
    obtain ⟨W, hW⟩ : ∃ W, W = exprR names (.mk k v tab name kids) e0 := ⟨_, rfl⟩
    rw [← hW]
    rw [exprR] at hW
    refine ct_run mx bod34 Tryz.func34 rfl (by rw [nt34]; exact Nat.le_of_ble_eq_true rfl) (dr := dr34) (by kernel_rfl) rs34 ?_
    intro hno _
    simp only [noneL, and_true] at hno
    by_cases h19 : 19 ≤ k
    · rw [if_pos h19] at hW
      simp +contextual only [go_sem, Rcb, Rbk, sevalprocAttr, mcell_some hvb, h19]
      intro b5 T5 hb5 hap5 hT5 hTb5 b6 T6 hb6 hap6 hT6 hTb6 b9 T9 hb9 hap9 hT9 hTb9
      have hT := (hT5.trans hT6).trans hT9
      refine rCall_one [(b9, _), (b6, _), (b5, _)] (ct_put e0 8 T9) ?_ (fun _ _ _ _ _ _ h => h.elim)
      rintro r M1 L1 hM1 hk1 hno1 ⟨rfl, -⟩
      simp only [List.cons_append, List.nil_append, noneL, and_true] at hno1
      simp +contextual only [go_sem, Rcb, Rbk, sevalprocAttr, hno1, hap9, hap6]
      exact Close_drop (Close_drop (Close_drop (end_id hT rfl rfl ⟨⟨_, rfl, by rw [hW]; exact zeroE_R2 k⟩, by rw [hW], rfl⟩)))
    rw [if_neg h19] at hW
    by_cases h2 : k = 2
    · subst h2
      rw [if_pos rfl] at hW
      simp +contextual only [go_sem, Rcb, Rbk, sevalprocAttr, mcell_some hvb]
      intro b5 T5 hb5 hap5 hT5 hTb5 b6 T6 hb6 hap6 hT6 hTb6 b9 T9 hb9 hap9 hT9 hTb9
      have hT := (hT5.trans hT6).trans hT9
      refine draw_at ⟨T, M, [(b5, [.int .i64 2, .int .i64 v.k, .int .i64 v.n, st v.t, st tab, st name, .slice a kids.length c])], []⟩ (Sub_memL [(b9, _), (b6, _)] Ext.rfl' hb5 ⟨⟨hap9.2.1.2, hap9.2.1.1⟩, ⟨hap6.1.2, hap6.1.1⟩, trivial⟩) ?_
      simp +contextual only [go_sem, Rcb, Rbk, sevalprocAttr, mcell_some hvb, hb5, hap6, hap9]
      have hxx : RX M (.mk 2 v tab name kids) [.int .i64 2, .int .i64 v.k, .int .i64 v.n, st v.t, st tab, st name, .slice a kids.length c] := hx
      refine rCall_pure (ct_Place hlv hxx T9) ?_ (fun _ _ _ _ h => h.elim)
      rintro r M1 hM1 hno1 rfl
      simp only [noneL, and_true] at hno1
      simp only [X.tab, X.name]
      have hcol : ∀ {M' : Mem}, REx M' (.mk 2 zeroV (placeI names tab name) []) [.int .i64 2, .int .i64 0, .int .i64 0, st [], .int .i64 (placeI names tab name), .slice none 0 0] := REx_iff.2 ⟨_, rfl, RS_nil⟩
      simp +contextual only [go_sem, Rcb, Rbk, sevalprocAttr, hno1, hap9, hap6]
      by_cases hneg : placeI names tab name < 0
      · rw [if_pos hneg] at hW ⊢
        refine rCall_one [(b9, _), (b6, _), (b5, _)] (ct_put e0 7 T9) ?_ (fun _ _ _ _ _ _ h => h.elim)
        rintro r M2 L2 hM2 hk2 hno2 ⟨rfl, -⟩
        simp only [List.cons_append, List.nil_append, noneL, and_true] at hno2
        simp +contextual only [go_sem, Rcb, Rbk, sevalprocAttr, hno2, hap9, hap6]
        exact Close_drop (Close_drop (Close_drop (end_id hT rfl rfl ⟨⟨_, rfl, by rw [hW]; exact hcol⟩, by rw [hW], rfl⟩)))
      · rw [if_neg hneg] at hW ⊢
        exact Close_drop (Close_drop (Close_drop (end_id hT rfl rfl ⟨⟨_, rfl, by rw [hW]; exact hcol⟩, by rw [hW], rfl⟩)))
    rw [if_neg h2] at hW
    by_cases h1 : k = 1
    · subst h1
      rw [if_pos rfl] at hW
      simp +contextual only [go_sem, Rcb, Rbk, sevalprocAttr, mcell_some hvb]
      intro b5 T5 hb5 hap5 hT5 hTb5 b6 T6 hb6 hap6 hT6 hTb6 b9 T9 hb9 hap9 hT9 hTb9
      have hT := (hT5.trans hT6).trans hT9
      exact Close_drop (Close_drop (Close_drop (end_id hT rfl rfl ⟨⟨_, rfl, by rw [hW]; exact REx_iff.2 ⟨_, rfl, RS_nil⟩⟩, by rw [hW], rfl⟩)))
    rw [if_neg h1] at hW
    simp +contextual only [go_sem, Rcb, Rbk, sevalprocAttr, mcell_some hvb, h19, h1, h2]
    intro b5 T5 hb5 hap5 hT5 hTb5 b6 T6 hb6 hap6 hT6 hTb6 b9 T9 hb9 hap9 hT9 hTb9
    have hT := (hT5.trans hT6).trans hT9
    refine loop_rangeC kids.length 40 [(0, .pointer (some ⟨vb, 0, none⟩)), (1, .pointer (some ⟨bb, 0, none⟩)), (6, .pointer (some ⟨b6, 0, none⟩)), (9, .pointer (some ⟨b9, 0, none⟩)), (38, .slice a kids.length c), (39, .int .i64 (kids.length : Int))]
      (fun i e h => ∃ N' M' R fv acc f, ExtT T9 N' ∧ Ext M M' ∧ M' b9 = none ∧ M' b6 = none ∧ M' bb = none ∧ acc.length = i ∧ Acc 38 6 (REx M') [] R fv acc ∧ (acc ++ (exprsR names (kids.drop i) f).1, (exprsR names (kids.drop i) f).2) = exprsR names kids e0 ∧
        h = ⟨N', M', [(b9, [.int .i64 k, .int .i64 0, .int .i64 0, st [], .int .i64 0, fv]), (b6, [.int .i64 0, .int .i64 0, .int .i64 0, st [], .int .i64 0, .slice none 0 0]), (bb, [.int .i64 f])], R⟩)
      0 (by omega) (by simp only [live, go_sem, Rcb, Rbk, sevalprocAttr]) (by simp only [go_sem, Rcb, Rbk, sevalprocAttr])
      (Close_perm (L' := [(b5, _), (b9, _), (b6, _), (bb, _)]) (List.perm_append_comm (l₁ := [(b9, _), (b6, _)]) (l₂ := [(b5, _)]) |>.append_right [(bb, _)]) (Close_drop (Close_id ⟨T9, M, [], .slice none 0 0, [], e0, ExtT.rfl', Ext.rfl', hb9, hb6, hno, rfl, Acc_nil, rfl, rfl⟩))) ?_
    rintro i e h hi hlv2 ht ⟨N1, M1, R1, fv, acc, f, hN1, hM1, n9, n6, nb, hacl, hacc, hres, rfl⟩
    simp only [live] at hlv2
    have hne : ¬ b9 = b6 ∧ ¬ b6 = b9 := ⟨hap9.1.1, hap9.1.2⟩
    obtain ⟨fa, fc, rfl⟩ := Acc_form hacc
    by_cases hlt : i < kids.length
    · obtain ⟨b', o', cs1, rfl, hat, hrx⟩ := hg i kids[i] (List.getElem?_eq_getElem hlt)
      obtain ⟨s0, rfl, k0, x0, x1, x2, x3, x4, x5, x6⟩ := RX_atf (RX_ext hM1 _ _ hrx) (hat.ext hM1)
      have hsz2 : SizeOf.sizeOf kids[i] ≤ sz := by
        have h1 := List.sizeOf_lt_of_mem (List.getElem_mem hlt)
        simp only [X.mk.sizeOf_spec] at hsz
        omega
      have hd1 : kids.drop i = kids[i] :: kids.drop (i + 1) := List.drop_eq_getElem_cons hlt
      rw [hd1, exprsR] at hres
      simp only at hres
      simp +contextual only [go_sem, Rcb, Rbk, sevalprocAttr, hlv2, ht, hlt, x0, x1, x2, x3, x4, x5, x6, k0]
      intro b13 T13 hb13 hap13 hT13 hTb13
      refine draw_at ⟨T, M1, [(b13, _), (b9, _)], []⟩ (Sub_preM (L1 := [(b13, _), (b9, _)]) Ext.rfl' ⟨hb13, n9, trivial⟩) ?_
      simp +contextual only [go_sem, Rcb, Rbk, sevalprocAttr, hlv2, ht, hlt, n9, k0, hb13, hap13]
      refine rCall_one [(b13, _), (b9, _), (b6, _)] (ih kids[i] hsz2 M1 T13 vb bb _ kv av _ f (RS_ext hM1 (fun _ _ h => h) hlv) (hM1 _ _ hvb) (RX_ext hM1 _ _ hrx) (okXs_mem hokk _ (List.getElem_mem hlt))) ?_ (fun _ _ _ _ _ _ h => h.elim)
      rintro r M2 L2 hM2 hk2 hno2 ⟨⟨ys, rfl, hye⟩, rfl, -⟩
      simp only [List.cons_append, List.nil_append, noneL, and_true] at hno2
      obtain ⟨s6, rfl, hs6, _⟩ := REx_form hye
      simp +contextual only [go_sem, Rcb, Rbk, sevalprocAttr, hlv2, ht, hno2, hap13, hs6]
      refine ⟨Sub_preM (L1 := [(b13, _), (b9, _)]) hM2 ⟨hno2.1, hno2.2.1, trivial⟩, ?_⟩
      intro b14 hb14 hap14
      have hsub2 : ∀ {R0 R : RR} {L2 : LL} {x y z : List Value}, Vc.Sub ⟨T, M1, [(b13, x), (b9, y)], R0⟩ ⟨T13, M2, (b14, z) :: (b13, x) :: (b9, y) :: L2, R⟩ := by
        intro R0 R L2 x y z
        have h1 := Sub_ML1 (T0 := T) (T := T13) (R0 := R0) (R := R) (b := b14) (cs := z) hM2 (L := [(b13, x), (b9, y)]) ⟨hno2.1, hno2.2.1, trivial⟩ ⟨hap14.1, hap14.2.1, trivial⟩
        exact Sub_trans' h1 (Sub_preM (L1 := [(b14, z), (b13, x), (b9, y)]) Ext.rfl' ⟨hb14, hno2.1, hno2.2.1, trivial⟩)
      refine ⟨hsub2, ?_⟩
      refine app_acc (x := (exprR names kids[i] f).1) Tryz.underlying36 row36 okt36 (Acc_mono (REx_ext hM2) hacc) hye (fun _ _ => REx_len) (REx_oneC hye) hb14 (by omega) (by decide) ?_
      intro fv' R' hacc'
      obtain ⟨wa, wc, hfv⟩ := Acc_form hacc'
      subst hfv
      simp +contextual only [go_sem, Rcb, Rbk, sevalprocAttr, hlv2, ht, hno2, hap13, hb14, hap14]
      refine ⟨hsub2, ?_⟩
      refine lp_close (Close_drop (Close_drop (Close_id ⟨kids.length - (i + 1), by omega, rfl, i + 1, by omega, rfl, ?_, ?_, T13, M2, R', _, acc ++ [(exprR names kids[i] f).1], (exprR names kids[i] f).2, hN1.trans hT13, hM1.trans hM2, hno2.2.1, hno2.2.2.1, hno2.2.2.2, ?_, hacc', ?_, rfl⟩)))
      · simp only [live, hlv2, go_sem, Rcb, Rbk, sevalprocAttr]
      · simp only [ht, go_sem, Rcb, Rbk, sevalprocAttr, wrap_succ i (by omega)]
      · rw [List.length_append, hacl]; rfl
      · rw [← hres, List.append_assoc]; rfl
    · have : i = kids.length := by omega
      subst this
      rw [List.drop_length, exprsR] at hres
      simp only [List.append_nil] at hres
      simp +contextual only [go_sem, Rcb, Rbk, sevalprocAttr, hlv2, ht, hlt, n9, n6, hne]
      refine Close_acc hacc (by omega) (by decide) ⟨n9, n6, nb, trivial⟩ fun M2 hM2 hno2 hrs => Close_drop (Close_drop (end_id (hT.trans hN1) rfl rfl ⟨⟨_, rfl, ?_⟩, ?_, rfl⟩))
      · rw [hW, ← hres]
        exact REx_iff.2 ⟨_, rfl, RS_ext Ext.rfl' (REx_ext hM2) hrs⟩
      · rw [hW, ← hres]
def argR (names : List (Bs × Bs)) (kids : List X) (e : Int) : Ex × Int := match kids with
  | [] => (zeroE, e)
  | x :: _ => exprR names x e
mutual
def exprH (names : List (Bs × Bs)) (keys : List X) : X → Int → List Ag → Ex × Int × List Ag
  | .mk k v tab name kids, e, ags => match keys.findIdx? (fun y => alikeX y (.mk k v tab name kids)) with
    | some i => (colE i, e, ags)
    | none => if 19 ≤ k then (colE (keys.length + ags.length), (argR names kids e).2, ags ++ [⟨k - 18, (argR names kids e).1⟩])
      else if k = 2 then (.mk 2 zeroV 0 [], putE e 8, ags) else if k = 1 then (.mk 1 v 0 [], e, ags)
      else (.mk k zeroV 0 (exprsH names keys kids e ags).1, (exprsH names keys kids e ags).2)
def exprsH (names : List (Bs × Bs)) (keys : List X) : List X → Int → List Ag → List Ex × Int × List Ag
  | [], e, ags => ([], e, ags)
  | x :: l, e, ags => ((exprH names keys x e ags).1 :: (exprsH names keys l (exprH names keys x e ags).2.1 (exprH names keys x e ags).2.2).1, (exprsH names keys l (exprH names keys x e ags).2.1 (exprH names keys x e ags).2.2).2)
end
mutual
theorem exprH_cnt (names : List (Bs × Bs)) (keys : List X) : ∀ (x : X) (e : Int) (ags : List Ag), (exprH names keys x e ags).2.2.length ≤ ags.length + cntX x
  | .mk k v tab name kids, e, ags => by
    rw [exprH, cntX]
    split
    · simp only; omega
    · split
      · simp only [List.length_append, List.length_cons, List.length_nil]; omega
      · split
        · simp only; omega
        · split
          · simp only; omega
          · have := exprsH_cnt names keys kids e ags
            simp only; omega
theorem exprsH_cnt (names : List (Bs × Bs)) (keys : List X) : ∀ (l : List X) (e : Int) (ags : List Ag), (exprsH names keys l e ags).2.2.length ≤ ags.length + cntL l
  | [], e, ags => by rw [exprsH]; simp
  | x :: l, e, ags => by
    rw [exprsH, cntL]
    have h1 := exprH_cnt names keys x e ags
    have h2 := exprsH_cnt names keys l (exprH names keys x e ags).2.1 (exprH names keys x e ags).2.2
    simp only; omega
end
def AgV (M : Mem) (vb bb : Nat) (lv kv : Value) (L : LL) (R : RR) (e : Int) (ags : List Ag) : Prop := ∃ a c xs, L = [(vb, [lv, .bool true, kv, .slice a ags.length c]), (bb, [.int .i64 e])] ∧ R = [(.slice a ags.length c, 119, 7, xs)] ∧ RL (RAg M) ags xs
def ExH (names : List (Bs × Bs)) (keys : List X) (x : X) : Prop := ∀ (M : Mem) (T : Tm) (vb bb : Nat) (lv kv : Value) (cs : List Value) (e : Int) (ags : List Ag) (L : LL) (R : RR), RS M RCl 2 names lv → RS M (RX M) 7 keys kv → AgV M vb bb lv kv L R e ags → ags.length + cntX x ≤ 1048576 → RX M x cs → okX x →
  CtT Tryz.prog 34 [.pointer (some ⟨vb, 0, none⟩), .pointer (some ⟨bb, 0, none⟩), .agg ⟨cs⟩] T M L R (fun r M' L' R' => (∃ ys, r = .agg ⟨ys⟩ ∧ REx M' (exprH names keys x e ags).1 ys) ∧ AgV M' vb bb lv kv L' R' (exprH names keys x e ags).2.1 (exprH names keys x e ags).2.2) noPan
theorem app_ag {F : Fi} {s : List Vc.Item} {e : Env} {ds : List Deferred} {dd : Option Nat} {T : Tm} {M : Mem} {L : LL} {b : Nat} {x : Ag} {cs : List Value} {ags : List Ag} {a : Option Addr} {c : Nat} {xs : List Value} (hax : RL (RAg M) ags xs) (hx : RAg M x cs) (hb : M b = none) (hl : ags.length ≤ 1048576)
    (k : ∀ a' c', Run Tryz.prog F s (updo e dd (.slice a' (ags ++ [x]).length c')) ds ⟨T, M, (b, cs) :: L, [(.slice a' (ags ++ [x]).length c', 119, 7, xs ++ cs)]⟩ ⟨⟩) : rApp Tryz.prog F 39 39 (.slice a ags.length c) (.slice (some ⟨b, 0, none⟩) 1 1) dd s e ds ⟨T, M, (b, cs) :: L, [(.slice a ags.length c, 119, 7, xs)]⟩ ⟨⟩ := by
  have hcl := RAg_len hx
  have hxl := RL_len (fun _ _ => RAg_len) hax
  have hone : ∀ u ∈ cs, u.oneCell' = true := by
    obtain ⟨c0, h1, rfl⟩ := hx
    intro u hu
    rcases List.mem_cons.1 hu with rfl | hu
    · rfl
    · exact REx_oneC h1 u hu
  refine app_row row39 okt39 (.slice _ 1 _ _ _ Tryz.underlying39 (cells_own [] hb trivial (by rw [hcl])) hone) (by rw [hcl, hxl]; omega) ?_
  intro ra rm rc hrm
  have : rm = (ags ++ [x]).length := by
    rw [hcl, hxl] at hrm
    rw [List.length_append]; simp only [List.length_cons, List.length_nil]
    omega
  subst this
  exact k ra rc
set_option maxHeartbeats 4000000 in
theorem exH (names : List (Bs × Bs)) (keys : List X) (hkl : keys.length ≤ 1048576) (hkok : ∀ y ∈ keys, okX y) : ∀ (sz : Nat) (x : X), SizeOf.sizeOf x ≤ sz → ExH names keys x := by
  intro sz
  induction sz with
  | zero => intro x hx; cases x; simp at hx
  | succ sz ih =>
    intro x hsz M T vb bb lv kv cs e0 ags L R hlv hkv hA hcnt hx hok
    obtain ⟨s, rfl, ks, hs⟩ := RX_form hx
    obtain ⟨hbk, a, c, rfl, hle, _, hg⟩ := RS_elim (by decide) (fun _ _ => RX_len) hs
    obtain ⟨_, la, lc, rfl, _⟩ := RS_elim (by decide) (fun _ _ => RCl_len) hlv
    obtain ⟨_, ka, kc, rfl, _, _, hkg⟩ := RS_elim (by decide) (fun _ _ => RX_len) hkv
    obtain ⟨aa, ac, axs, rfl, rfl, hax⟩ := hA
    have hokx := hok
    cases x with | mk k v tab name kids =>
    simp only [X.k, X.v, X.tab, X.name, X.kids] at hs hle hg hbk
    simp only [X.k, X.v, X.tab, X.name, X.kids]
    obtain ⟨hkn, hvk, hokk⟩ := hok
    obtain ⟨W, hW⟩ : ∃ W, W = exprH names keys (.mk k v tab name kids) e0 ags := ⟨_, rfl⟩
    rw [← hW]
    rw [exprH] at hW
    rw [cntX] at hcnt
    refine ct_run mx bod34 Tryz.func34 rfl (by rw [nt34]; exact Nat.le_of_ble_eq_true rfl) (dr := dr34) (by kernel_rfl) rs34 ?_
    intro hno hapt
    simp only [noneL, and_true] at hno
    have hvb : ¬ vb = bb ∧ ¬ bb = vb := by
      have := hapt.1.1
      exact ⟨this.1, this.2⟩
    simp +contextual only [go_sem, Rcb, Rbk, sevalprocAttr, hno, hvb]
    intro b5 T5 hb5 hap5 hT5 hTb5 b6 T6 hb6 hap6 hT6 hTb6
    have hT := hT5.trans hT6
    have hap6' := hap6
    refine loop_range keys.length 23 [(0, .pointer (some ⟨vb, 0, none⟩)), (1, .pointer (some ⟨bb, 0, none⟩)), (5, .pointer (some ⟨b5, 0, none⟩)), (6, .pointer (some ⟨b6, 0, none⟩)), (21, .slice ka keys.length kc), (22, .int .i64 (keys.length : Int))]
      (fun i e h => ∃ N' M', ExtT T6 N' ∧ Ext M M' ∧ M' b6 = none ∧ M' b5 = none ∧ M' vb = none ∧ M' bb = none ∧ (∀ (j : Nat) (hj : j < keys.length), j < i → alikeX keys[j] (.mk k v tab name kids) = false) ∧
        h = ⟨N', M', [(b6, [.int .i64 0, .int .i64 0, .int .i64 0, st [], .int .i64 0, .slice none 0 0]), (b5, [.int .i64 k, .int .i64 v.k, .int .i64 v.n, st v.t, st tab, st name, .slice a kids.length c]), (vb, [.slice la names.length lc, .bool true, .slice ka keys.length kc, .slice aa ags.length ac]), (bb, [.int .i64 e0])], [(.slice aa ags.length ac, 119, 7, axs)]⟩)
      0 (by omega) (by simp only [live, go_sem, Rcb, Rbk, sevalprocAttr]) (by simp only [go_sem, Rcb, Rbk, sevalprocAttr]) ⟨T6, M, ExtT.rfl', Ext.rfl', hb6, hb5, hno.1, hno.2, fun j _ h => by omega, rfl⟩ ?_
    rintro i e h hi hlv2 ht ⟨N1, M1, hN1, hM1, n6, n5, nv, nb, hpre, rfl⟩
    simp only [live] at hlv2
    have hTT := hT.trans hN1
    by_cases hlt : i < keys.length
    · obtain ⟨b', o', cs1, rfl, hat, hrx⟩ := hkg i keys[i] (List.getElem?_eq_getElem hlt)
      obtain ⟨s0, rfl, k0, x0, x1, x2, x3, x4, x5, x6⟩ := RX_atf (RX_ext hM1 _ _ hrx) (hat.ext hM1)
      simp +contextual only [go_sem, Rcb, Rbk, sevalprocAttr, hlv2, ht, hlt, x0, x1, x2, x3, x4, x5, x6, k0]
      intro b8 T8 hb8 hap8 hT8 hTb8
      simp +contextual only [go_sem, Rcb, Rbk, sevalprocAttr, hlv2, ht, hlt, n5, n6, hap6, hb8, hap8, k0]
      refine rCall_pure (ct_Alike _ keys[i] (Nat.le_refl _) M1 T8 (.mk k v tab name kids) _ _ (hkok _ (List.getElem_mem hlt)) hokx (RX_ext hM1 _ _ hrx) (RX_ext hM1 _ _ hx)) ?_ (fun _ _ _ _ h => h.elim)
      rintro r M2 hM2 hno2 rfl
      simp only [noneL, and_true] at hno2
      cases hal : alikeX keys[i] (.mk k v tab name kids) with
      | true =>
        have hfi : keys.findIdx? (fun y => alikeX y (.mk k v tab name kids)) = some i := List.findIdx?_eq_some_iff_getElem.2 ⟨hlt, hal, fun j hj => by simp [hpre j (by omega) hj]⟩
        rw [hfi] at hW
        simp +contextual only [go_sem, Rcb, Rbk, sevalprocAttr, hlv2, ht, hno2, hap6, hap8]
        exact Close_drop (Close_drop (Close_drop (end_id (hTT.trans hT8) rfl rfl ⟨⟨_, rfl, by rw [hW]; exact colE_R _ _⟩, by rw [hW]; exact ⟨_, _, _, rfl, rfl, RL_mono (RAg_ext (hM1.trans hM2)) hax⟩⟩)))
      | false =>
        simp +contextual only [go_sem, Rcb, Rbk, sevalprocAttr, hlv2, ht, hno2, hap6, hap8]
        refine lp_close (Close_drop (Close_id ⟨keys.length - (i + 1), by omega, rfl, i + 1, by omega, rfl, ?_, ?_, T8, M2, hN1.trans hT8, hM1.trans hM2, hno2.2.1, hno2.2.2.1, hno2.2.2.2.1, hno2.2.2.2.2, fun j hj hji => ?_, rfl⟩))
        · simp only [live, hlv2, go_sem, Rcb, Rbk, sevalprocAttr]
        · simp only [ht, go_sem, Rcb, Rbk, sevalprocAttr, wrap_succ i (by omega)]
        · by_cases hje : j = i
          · subst hje; exact hal
          · exact hpre j hj (by omega)
    · have : i = keys.length := by omega
      subst this
      have hfi : keys.findIdx? (fun y => alikeX y (.mk k v tab name kids)) = none := by
        rw [List.findIdx?_eq_none_iff]
        intro y hy
        obtain ⟨j, hj, rfl⟩ := List.getElem_of_mem hy
        exact hpre j hj hj
      rw [hfi] at hW
      simp only at hW
      have hax1 := RL_mono (RAg_ext hM1) hax
      have hap5' := hap5
      by_cases h19 : 19 ≤ k
      · rw [if_pos h19] at hW
        have hk23 : k ≤ 23 := by
          unfold kidsN at hkn
          repeat' split at hkn
          all_goals omega
        have hw18 : IntKind.i64.wrap (k - 18) = k - 18 := wrap64 (by omega) (by omega)
        have hk2n : ¬ k = 2 := by omega
        have w3 : ∀ {x : Ag}, IntKind.i64.wrap ((keys.length : Int) + ((ags ++ [x]).length : Int)) = ((keys.length + ags.length + 1 : Nat) : Int) := by
          intro x
          rw [wrap64 (by simp only [List.length_append, List.length_cons, List.length_nil]; omega) (by simp only [List.length_append, List.length_cons, List.length_nil]; omega)]
          simp only [List.length_append, List.length_cons, List.length_nil]; omega
        have w4 : IntKind.i64.wrap (((keys.length + ags.length + 1 : Nat) : Int) - 1) = ((keys.length + ags.length : Nat) : Int) := by
          rw [wrap64 (by omega) (by omega)]; omega
        by_cases h20 : 19 < k
        · obtain ⟨y, rfl⟩ : ∃ y, kids = [y] := by
            have h1 : kids.length = 1 := by
              have : kidsN k = 1 := by unfold kidsN; grind
              omega
            match kids, h1 with
            | [y], _ => exact ⟨y, rfl⟩
          obtain ⟨b', o', cs1, rfl, hat, hrx⟩ := hg 0 y rfl
          obtain ⟨s0, rfl, k0, x0, x1, x2, x3, x4, x5, x6⟩ := RX_atf (RX_ext hM1 _ _ hrx) (hat.ext hM1)
          rw [Nat.zero_mul, Nat.add_zero] at x0 x1 x2 x3 x4 x5 x6
          simp +contextual only [go_sem, Rcb, Rbk, sevalprocAttr, hlv2, ht, hlt, n5, n6, nv, hap5, hap6, h19, h20, hk2n, hw18, x0, x1, x2, x3, x4, x5, x6, k0]
          intro b9 T9 hb9 hap9 hT9 hTb9 b10 T10 hb10 hap10 hT10 hTb10 b11 T11 hb11 hap11 hT11 hTb11
          refine rCall_frz bod34 fun M2 hM2 h11 hno2 => ?_
          simp only [noneL, and_true] at hno2
          have h12 := hM1.trans hM2
          refine rCall_one [(b10, _), (b9, _), (b6, _), (b5, _), (vb, _)] (exR names _ y (Nat.le_refl _) M2 T11 b11 bb _ _ _ _ e0 (RS_ext h12 (fun _ _ h => h) hlv) h11 (RX_ext h12 _ _ hrx) (okXs_mem hokk _ (by simp))) ?_ (fun _ _ _ _ _ _ h => h.elim)
          rintro r M3 L3 hM3 hk3' hno3 ⟨⟨ys, rfl, hye⟩, rfl, -⟩
          simp only [List.cons_append, List.nil_append, noneL, and_true] at hno3
          obtain ⟨s6, rfl, hs6, _⟩ := REx_form hye
          have nn : M3 b10 = none ∧ M3 b9 = none ∧ M3 b6 = none ∧ M3 b5 = none ∧ M3 vb = none ∧ M3 bb = none := hno3
          simp +contextual only [go_sem, Rcb, Rbk, sevalprocAttr, hlv2, nn, hs6]
          have hpp : (¬ b10 = vb ∧ ¬ vb = b10) ∧ (¬ b9 = vb ∧ ¬ vb = b9) ∧ (¬ b6 = vb ∧ ¬ vb = b6) ∧ (¬ b5 = vb ∧ ¬ vb = b5) ∧ (¬ b10 = b9 ∧ ¬ b9 = b10) ∧ (¬ b10 = b6 ∧ ¬ b6 = b10) ∧ (¬ b10 = b5 ∧ ¬ b5 = b10) ∧ (¬ b9 = b6 ∧ ¬ b6 = b9) ∧ (¬ b9 = b5 ∧ ¬ b5 = b9) ∧ (¬ b6 = b5 ∧ ¬ b5 = b6) := ⟨hap10.2.2.2.1, hap9.2.2.1, hap6.2.1, hap5.1, hap10.1, hap10.2.1, hap10.2.2.1, hap9.1, hap9.2.1, hap6.1⟩
          have hagx : RAg M3 ⟨k - 18, (exprR names y e0).1⟩ (.int .i64 (k - 18) :: [.int .i64 (exprR names y e0).1.k, .int .i64 (exprR names y e0).1.v.k, .int .i64 (exprR names y e0).1.v.n, st (exprR names y e0).1.v.t, .int .i64 (exprR names y e0).1.c, s6]) := RAg_one hye
          have hsub : ∀ {N : Tm} {R0 R : RR} {b14 : Nat} {x0 x1 x2 x3 x4 x5 x6 : List Value}, (¬ b14 = b10 ∧ ¬ b10 = b14) ∧ (¬ b14 = b9 ∧ ¬ b9 = b14) ∧ (¬ b14 = b6 ∧ ¬ b6 = b14) ∧ (¬ b14 = b5 ∧ ¬ b5 = b14) ∧ (¬ b14 = vb ∧ ¬ vb = b14) ∧ ¬ b14 = bb ∧ ¬ bb = b14 → Vc.Sub ⟨N, M3, [(b10, x1), (b9, x2), (b6, x3), (b5, x4), (vb, x5), (bb, x6)], R0⟩ ⟨N, M3, [(b14, x0), (b10, x1), (b9, x2), (b6, x3), (b5, x4), (vb, x5), (bb, x6)], R⟩ :=
            fun h => Sub_ML1 Ext.rfl' ⟨nn.1, nn.2.1, nn.2.2.1, nn.2.2.2.1, nn.2.2.2.2.1, nn.2.2.2.2.2, trivial⟩ ⟨h.1, h.2.1, h.2.2.1, h.2.2.2.1, h.2.2.2.2.1, h.2.2.2.2.2, trivial⟩
          refine draw_all ?_
          simp +contextual only [go_sem, Rcb, Rbk, sevalprocAttr, hlv2, nn, hpp, hw18, hs6]
          intro b14 hb14 hap14
          refine ⟨hsub hap14, ?_⟩
          refine app_ag (x := ⟨k - 18, (exprR names y e0).1⟩) (RL_mono (RAg_ext (hM2.trans hM3)) hax1) hagx hb14 (by omega) ?_
          intro a' c'
          simp +contextual only [go_sem, Rcb, Rbk, sevalprocAttr, hlv2, nn, hpp, hap14, hb14]
          refine ⟨hsub hap14, ?_⟩
          refine draw_all ?_
          simp +contextual only [go_sem, Rcb, Rbk, sevalprocAttr, hlv2, nn, hpp, hap14, hb14, w3, w4]
          refine Close_drop (Close_drop (Close_drop (Close_drop (Close_drop (end_id ((hTT.trans hT9).trans (hT10.trans hT11)) rfl rfl ⟨⟨_, rfl, by rw [hW]; exact colE_R _ _⟩, ?_⟩)))))
          rw [hW]
          exact ⟨_, _, _, rfl, rfl, RL_append (RL_mono (RAg_ext (hM2.trans hM3)) hax1) (RL_one hagx)⟩
        · have hk19 : k = 19 := by omega
          have hk0 : kids = [] := List.length_eq_zero_iff.1 (by have : kidsN k = 0 := by rw [hk19]; rfl
                                                                omega)
          subst hk0
          simp +contextual only [go_sem, Rcb, Rbk, sevalprocAttr, hlv2, ht, hlt, n5, n6, nv, hap5, hap6, h19, h20, hk2n, hw18]
          intro b9 T9 hb9 hap9 hT9 hTb9 b10 T10 hb10 hap10 hT10 hTb10
          have hye : REx M1 zeroE [.int .i64 0, .int .i64 0, .int .i64 0, st [], .int .i64 0, .slice none 0 0] := zeroE_R M1
          have nn : M1 b10 = none ∧ M1 b9 = none ∧ M1 b6 = none ∧ M1 b5 = none ∧ M1 vb = none ∧ M1 bb = none := ⟨hb10, hb9, n6, n5, nv, nb⟩
          have hpp : (¬ b10 = vb ∧ ¬ vb = b10) ∧ (¬ b9 = vb ∧ ¬ vb = b9) ∧ (¬ b6 = vb ∧ ¬ vb = b6) ∧ (¬ b5 = vb ∧ ¬ vb = b5) ∧ (¬ b10 = b9 ∧ ¬ b9 = b10) ∧ (¬ b10 = b6 ∧ ¬ b6 = b10) ∧ (¬ b10 = b5 ∧ ¬ b5 = b10) ∧ (¬ b9 = b6 ∧ ¬ b6 = b9) ∧ (¬ b9 = b5 ∧ ¬ b5 = b9) ∧ (¬ b6 = b5 ∧ ¬ b5 = b6) := ⟨hap10.2.2.2.1, hap9.2.2.1, hap6.2.1, hap5.1, hap10.1, hap10.2.1, hap10.2.2.1, hap9.1, hap9.2.1, hap6.1⟩
          have hagx : RAg M1 ⟨k - 18, zeroE⟩ (.int .i64 (k - 18) :: [.int .i64 0, .int .i64 0, .int .i64 0, st [], .int .i64 0, .slice none 0 0]) := RAg_one hye
          have hsub : ∀ {N : Tm} {R0 R : RR} {b14 : Nat} {x0 x1 x2 x3 x4 x5 x6 : List Value}, (¬ b14 = b10 ∧ ¬ b10 = b14) ∧ (¬ b14 = b9 ∧ ¬ b9 = b14) ∧ (¬ b14 = b6 ∧ ¬ b6 = b14) ∧ (¬ b14 = b5 ∧ ¬ b5 = b14) ∧ (¬ b14 = vb ∧ ¬ vb = b14) ∧ ¬ b14 = bb ∧ ¬ bb = b14 → Vc.Sub ⟨N, M1, [(b10, x1), (b9, x2), (b6, x3), (b5, x4), (vb, x5), (bb, x6)], R0⟩ ⟨N, M1, [(b14, x0), (b10, x1), (b9, x2), (b6, x3), (b5, x4), (vb, x5), (bb, x6)], R⟩ :=
            fun h => Sub_ML1 Ext.rfl' ⟨nn.1, nn.2.1, nn.2.2.1, nn.2.2.2.1, nn.2.2.2.2.1, nn.2.2.2.2.2, trivial⟩ ⟨h.1, h.2.1, h.2.2.1, h.2.2.2.1, h.2.2.2.2.1, h.2.2.2.2.2, trivial⟩
          refine draw_all ?_
          simp +contextual only [go_sem, Rcb, Rbk, sevalprocAttr, hlv2, nn, hpp, hw18]
          intro b14 hb14 hap14
          refine ⟨hsub hap14, ?_⟩
          refine app_ag (x := ⟨k - 18, zeroE⟩) (RL_mono (RAg_ext Ext.rfl') hax1) hagx hb14 (by omega) ?_
          intro a' c'
          simp +contextual only [go_sem, Rcb, Rbk, sevalprocAttr, hlv2, nn, hpp, hap14, hb14]
          refine ⟨hsub hap14, ?_⟩
          refine draw_all ?_
          simp +contextual only [go_sem, Rcb, Rbk, sevalprocAttr, hlv2, nn, hpp, hap14, hb14, w3, w4]
          refine Close_drop (Close_drop (Close_drop (Close_drop (Close_drop (end_id ((hTT.trans hT9).trans hT10) rfl rfl ⟨⟨_, rfl, by rw [hW]; exact colE_R _ _⟩, ?_⟩)))))
          rw [hW]
          exact ⟨_, _, _, rfl, rfl, RL_append (RL_mono (RAg_ext Ext.rfl') hax1) (RL_one hagx)⟩
      rw [if_neg h19] at hW
      by_cases h2 : k = 2
      · subst h2
        rw [if_pos rfl] at hW
        simp +contextual only [go_sem, Rcb, Rbk, sevalprocAttr, hlv2, ht, hlt, n5, n6, nv, hap5, hap6]
        intro b9 T9 hb9 hap9 hT9 hTb9
        refine rCall_one [(b9, _), (b6, _), (b5, _), (vb, _)] (ct_put e0 8 T9) ?_ (fun _ _ _ _ _ _ h => h.elim)
        rintro r M2 L2 hM2 hk2 hno2 ⟨rfl, -⟩
        simp only [List.cons_append, List.nil_append, noneL, and_true] at hno2
        simp +contextual only [go_sem, Rcb, Rbk, sevalprocAttr, hno2, hap9, hap6, hlv2]
        exact Close_drop (Close_drop (Close_drop (end_id (hTT.trans hT9) rfl rfl ⟨⟨_, rfl, by rw [hW]; exact zeroE_R2 2⟩, by rw [hW]; exact ⟨_, _, _, rfl, rfl, RL_mono (RAg_ext hM2) hax1⟩⟩)))
      rw [if_neg h2] at hW
      by_cases h1 : k = 1
      · subst h1
        rw [if_pos rfl] at hW
        simp +contextual only [go_sem, Rcb, Rbk, sevalprocAttr, hlv2, ht, hlt, n5, n6, nv, hap5, hap6]
        intro b9 T9 hb9 hap9 hT9 hTb9
        exact Close_drop (Close_drop (Close_drop (end_id (hTT.trans hT9) rfl rfl ⟨⟨_, rfl, by rw [hW]; exact REx_iff.2 ⟨_, rfl, RS_nil⟩⟩, by rw [hW]; exact ⟨_, _, _, rfl, rfl, hax1⟩⟩)))
      rw [if_neg h1] at hW
      simp +contextual only [go_sem, Rcb, Rbk, sevalprocAttr, hlv2, ht, hlt, n5, n6, nv, hap5, hap6, h19, h1, h2]
      intro b9 T9 hb9 hap9 hT9 hTb9
      have hk3 : kids.length ≤ 3 := by
        have : kidsN k ≤ 3 := by unfold kidsN; repeat' split <;> omega
        omega
      have hne : (¬ b9 = b6 ∧ ¬ b6 = b9) ∧ (¬ b9 = vb ∧ ¬ vb = b9) ∧ (¬ b9 = bb ∧ ¬ bb = b9) ∧ (¬ b6 = vb ∧ ¬ vb = b6) ∧ (¬ b6 = bb ∧ ¬ bb = b6) := by
        refine ⟨hap9.1, hap9.2.2.1, hap9.2.2.2, hap6.2.1, hap6.2.2⟩
      refine loop_rangeC kids.length 40 [(0, .pointer (some ⟨vb, 0, none⟩)), (1, .pointer (some ⟨bb, 0, none⟩)), (6, .pointer (some ⟨b6, 0, none⟩)), (9, .pointer (some ⟨b9, 0, none⟩)), (38, .slice a kids.length c), (39, .int .i64 (kids.length : Int))]
        (fun i e h => ∃ N' M' L0 R0 R fv acc f g, ExtT T9 N' ∧ Ext M1 M' ∧ M' b9 = none ∧ M' b6 = none ∧ M' vb = none ∧ M' bb = none ∧ AgV M' vb bb (.slice la names.length lc) (.slice ka keys.length kc) L0 R0 f g ∧ g.length + cntL (kids.drop i) ≤ 1048576 ∧ acc.length = i ∧ Acc 38 6 (REx M') R0 R fv acc ∧
          (acc ++ (exprsH names keys (kids.drop i) f g).1, (exprsH names keys (kids.drop i) f g).2) = exprsH names keys kids e0 ags ∧
          h = ⟨N', M', (b9, [.int .i64 k, .int .i64 0, .int .i64 0, st [], .int .i64 0, fv]) :: (b6, [.int .i64 0, .int .i64 0, .int .i64 0, st [], .int .i64 0, .slice none 0 0]) :: L0, R⟩)
        0 (by omega) (by simp only [live, hlv2, go_sem, Rcb, Rbk, sevalprocAttr]) (by simp only [go_sem, Rcb, Rbk, sevalprocAttr])
        (Close_perm (L' := (b5, _) :: (b9, _) :: (b6, _) :: [(vb, _), (bb, _)]) (List.perm_append_comm (l₁ := [(b9, _), (b6, _)]) (l₂ := [(b5, _)]) |>.append_right [(vb, _), (bb, _)]) (Close_drop (Close_id ⟨T9, M1, _, _, _, .slice none 0 0, [], e0, ags, ExtT.rfl', Ext.rfl', hb9, n6, nv, nb, ⟨_, _, _, rfl, rfl, hax1⟩, by simp only [List.drop_zero]; omega, rfl, Acc_nil, rfl, rfl⟩))) ?_
      clear hlv2 ht hlt hi e
      rintro i e h hi hlv2 ht ⟨N2, M2, L0, R0, R2, fv, acc, f, g, hN2, hM2, n9, n6, nv, nb, hA, hgc, hacl, hacc, hres, rfl⟩
      simp only [live] at hlv2
      have h12 := hM1.trans hM2
      obtain ⟨fa, fc, rfl⟩ := Acc_form hacc
      by_cases hlt : i < kids.length
      · obtain ⟨b', o', cs1, rfl, hat, hrx⟩ := hg i kids[i] (List.getElem?_eq_getElem hlt)
        obtain ⟨s0, rfl, k0, x0, x1, x2, x3, x4, x5, x6⟩ := RX_atf (RX_ext h12 _ _ hrx) (hat.ext h12)
        have hsz2 : SizeOf.sizeOf kids[i] ≤ sz := by
          have h1 := List.sizeOf_lt_of_mem (List.getElem_mem hlt)
          simp only [X.mk.sizeOf_spec] at hsz
          omega
        have hd1 : kids.drop i = kids[i] :: kids.drop (i + 1) := List.drop_eq_getElem_cons hlt
        rw [hd1, exprsH] at hres
        rw [hd1, cntL] at hgc
        have hcn := exprH_cnt names keys kids[i] f g
        simp only at hres
        have hA' := hA
        obtain ⟨ga, gc, gxs, rfl, rfl, hgx⟩ := hA'
        simp +contextual only [go_sem, Rcb, Rbk, sevalprocAttr, hlv2, ht, hlt, x0, x1, x2, x3, x4, x5, x6, k0]
        intro b13 T13 hb13 hap13 hT13 hTb13
        refine draw_at ⟨T, M2, [(b13, _), (b9, _)], []⟩ (Sub_preM (L1 := [(b13, _), (b9, _)]) Ext.rfl' ⟨hb13, n9, trivial⟩) ?_
        simp +contextual only [go_sem, Rcb, Rbk, sevalprocAttr, hlv2, ht, hlt, n9, k0, hb13, hap13]
        refine rCall_acc [(b13, _), (b9, _), (b6, _)] (ih kids[i] hsz2 M2 T13 vb bb _ _ _ f g _ _ (RS_ext h12 (fun _ _ h => h) hlv) (RS_ext h12 (RX_ext h12) hkv) hA (by omega) (RX_ext h12 _ _ hrx) (okXs_mem hokk _ (List.getElem_mem hlt))) hacc ?_ (fun _ _ _ _ _ _ _ _ h => h.elim)
        rintro r M3 L3 R3 R4 hM3 hk3' hR3 hno3 ⟨⟨ys, rfl, hye⟩, hA3⟩ hacc3
        have hA3' := hA3
        obtain ⟨ga3, gc3, gxs3, rfl, rfl, hgx3⟩ := hA3'
        simp only [List.cons_append, List.nil_append, noneL, and_true] at hno3
        obtain ⟨s6, rfl, hs6, _⟩ := REx_form hye
        simp +contextual only [go_sem, Rcb, Rbk, sevalprocAttr, hlv2, ht, hno3, hap13, hs6]
        refine ⟨Sub_preM (L1 := [(b13, _), (b9, _)]) hM3 ⟨hno3.1, hno3.2.1, trivial⟩, ?_⟩
        intro b14 hb14 hap14
        have hsub2 : ∀ {R0 R : RR} {L2 : LL} {x y z : List Value}, Vc.Sub ⟨T, M2, [(b13, x), (b9, y)], R0⟩ ⟨T13, M3, (b14, z) :: (b13, x) :: (b9, y) :: L2, R⟩ := by
          intro R0 R L2 x y z
          have h1 := Sub_ML1 (T0 := T) (T := T13) (R0 := R0) (R := R) (b := b14) (cs := z) hM3 (L := [(b13, x), (b9, y)]) ⟨hno3.1, hno3.2.1, trivial⟩ ⟨hap14.1, hap14.2.1, trivial⟩
          exact Sub_trans' h1 (Sub_preM (L1 := [(b14, z), (b13, x), (b9, y)]) Ext.rfl' ⟨hb14, hno3.1, hno3.2.1, trivial⟩)
        refine ⟨hsub2, ?_⟩
        refine app_acc (x := (exprH names keys kids[i] f g).1) Tryz.underlying36 row36 okt36 (Acc_mono (REx_ext hM3) hacc3) hye (fun _ _ => REx_len) (REx_oneC hye) hb14 (by omega) (by decide) ?_
        intro fv' R' hacc'
        obtain ⟨wa, wc, hfv⟩ := Acc_form hacc'
        subst hfv
        simp +contextual only [go_sem, Rcb, Rbk, sevalprocAttr, hlv2, ht, hno3, hap13, hb14, hap14]
        refine ⟨hsub2, ?_⟩
        refine lp_close (Close_drop (Close_drop (Close_id ⟨kids.length - (i + 1), by omega, rfl, i + 1, by omega, rfl, ?_, ?_, T13, M3, _, _, R', _, acc ++ [(exprH names keys kids[i] f g).1], _, _, hN2.trans hT13, hM2.trans hM3, hno3.2.1, hno3.2.2.1, hno3.2.2.2.1, hno3.2.2.2.2, hA3, by omega, ?_, hacc', ?_, rfl⟩)))
        · simp only [live, hlv2, go_sem, Rcb, Rbk, sevalprocAttr]
        · simp only [ht, go_sem, Rcb, Rbk, sevalprocAttr, wrap_succ i (by omega)]
        · rw [List.length_append, hacl]; rfl
        · rw [← hres, List.append_assoc]; rfl
      · have : i = kids.length := by omega
        subst this
        rw [List.drop_length, exprsH] at hres
        simp only [List.append_nil] at hres
        obtain ⟨ga, gc, gxs, rfl, rfl, hgx⟩ := hA
        simp +contextual only [go_sem, Rcb, Rbk, sevalprocAttr, hlv2, ht, hlt, n9, n6, hne]
        refine Close_acc hacc (by omega) (by decide) ⟨n9, n6, nv, nb, trivial⟩ fun M4 hM4 hno4 hrs => Close_drop (Close_drop (end_id ((hTT.trans hT9).trans hN2) rfl rfl ⟨⟨_, rfl, ?_⟩, ?_⟩))
        · rw [hW, ← hres]
          exact REx_iff.2 ⟨_, rfl, RS_ext Ext.rfl' (REx_ext hM4) hrs⟩
        · rw [hW, ← hres]
          exact ⟨_, _, _, rfl, rfl, RL_mono (RAg_ext hM4) hgx⟩
end Go.Proofs.YtmccpbcbofhmlaaGreatDoor

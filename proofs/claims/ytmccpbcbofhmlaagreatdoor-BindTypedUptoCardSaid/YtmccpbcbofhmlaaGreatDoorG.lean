import Derived.Test.YtmccpbcbofhmlaaGreatDoorF
set_option linter.all false
namespace Go.Proofs.YtmccpbcbofhmlaaGreatDoor
open Go Vc
set_option maxRecDepth 10000
def postQB (rels : List Rel) (q : Q) : PostP := fun r M' _ _ => match boundM rels q with
  | .ok w => ∃ cs cv, r = .tuple ⟨[.agg ⟨cs⟩, cv, .int .i64 0]⟩ ∧ RPl M' w.1 cs ∧ RS M' RCo 2 w.2 cv
  | .error e => e ≠ 0 ∧ ∃ cs, r = .tuple ⟨[.agg ⟨cs⟩, .slice none 0 0, .int .i64 e]⟩ ∧ RPl M' zeroP cs
theorem RPl_zero {M : Mem} : RPl M zeroP z11 := by
  refine RPl_iff.2 ⟨[.int .i64 0, .int .i64 0, .int .i64 0, st [], .int .i64 0, .slice none 0 0], .slice none 0 0, .slice none 0 0, .slice none 0 0, rfl, ?_, RS_nil, RS_nil, RS_nil⟩
  exact REx_iff.2 ⟨_, rfl, RS_nil⟩
theorem qq_fault {T N : Tm} {M : Mem} {rels : List Rel} {q : Q} {A B : LL} {R : RR} {b4 b5 b6 : Nat} {v0 v1 v2 v3 v4 v5 v6 v7 v8 v9 v10 vc ve : Value} {er : Int} {ag : Array Value} {e : Env} (hr : boundM rels q = .error er) (h0 : er ≠ 0) (hT : ExtT T N) (hag : ag.toList = [])
    (e4 : e 4 = .pointer (some ⟨b4, 0, none⟩)) (e5 : e 5 = .pointer (some ⟨b5, 0, none⟩)) (e6 : e 6 = .pointer (some ⟨b6, 0, none⟩)) :
    qqPan T (postQB rels q) (oopB er) e [qqD b4 b5 b6 ag] ⟨N, M, A ++ (b6, [ve]) :: (b5, [vc]) :: (b4, [v0, v1, v2, v3, v4, v5, v6, v7, v8, v9, v10]) :: B, R⟩ := by
  refine ⟨b4, b5, b6, ag, er, rfl, hag, e4, e5, e6, rfl, Close_dropL A (Close_dropAllR (Close_perm (L' := B ++ [(b4, [v0, v1, v2, v3, v4, v5, v6, v7, v8, v9, v10]), (b5, [vc]), (b6, [ve])]) ?_ (Close_dropL B (Close_id ⟨hT, rfl, ⟨_, _, _, _, _, _, _, _, _, _, _, _, _, rfl⟩, ?_⟩))))⟩
  · refine List.Perm.trans (l₂ := [(b4, [v0, v1, v2, v3, v4, v5, v6, v7, v8, v9, v10]), (b5, [vc]), (b6, [ve])] ++ B) ?_ List.perm_append_comm
    have h3 : ([(b6, [ve]), (b5, [vc]), (b4, [v0, v1, v2, v3, v4, v5, v6, v7, v8, v9, v10])] : LL).Perm [(b4, [v0, v1, v2, v3, v4, v5, v6, v7, v8, v9, v10]), (b5, [vc]), (b6, [ve])] := by
      have := List.reverse_perm ([(b4, [v0, v1, v2, v3, v4, v5, v6, v7, v8, v9, v10]), (b5, [vc]), (b6, [ve])] : LL)
      simpa using this
    exact h3.append_right B
  · unfold postQB
    rw [hr]
    exact ⟨h0, _, rfl, RPl_zero⟩
theorem qq_fail {T N : Tm} {M : Mem} {rels : List Rel} {q : Q} {A B : LL} {R : RR} {b4 b5 b6 : Nat} {v0 v1 v2 v3 v4 v5 v6 v7 v8 v9 v10 vc ve : Value} {er : Int} {ag : Array Value} {e : Env} {dr ts} (hr : boundM rels q = .error er) (h0 : er ≠ 0) (hT : ExtT T N) (hag : ag.toList = [])
    (e4 : e 4 = .pointer (some ⟨b4, 0, none⟩)) (e5 : e 5 = .pointer (some ⟨b5, 0, none⟩)) (e6 : e 6 = .pointer (some ⟨b6, 0, none⟩)) :
    (qqFi T dr ts (postQB rels q)).pan (oopB er) e [qqD b4 b5 b6 ag] ⟨N, M, A ++ (b6, [ve]) :: (b5, [vc]) :: (b4, [v0, v1, v2, v3, v4, v5, v6, v7, v8, v9, v10]) :: B, R⟩ := by
  rw [qqFi_pan]
  exact qq_fault hr h0 hT hag e4 e5 e6
theorem selB_nlen {rels : List Rel} (hc : ∀ r ∈ rels, r.cols.length ≤ 1048576) {s : Se} (hok : OkSe s) {r : Pl × List Bs} (h : selB rels s = .ok r) : r.2.length ≤ 16777216 := by
  unfold selB at h
  split at h
  · cases h
  · rename_i f hf
    have h1 := fromM_len hc hf
    have h2 := hok.src
    split at h
    · cases h
    · simp only at h
      split at h
      · cases h
      · injection h with h
        rw [← h]
        simp only
        split
        · rw [List.length_map]; omega
        · rename_i hs
          have h3 := (hok.its (by simpa using hs)).1
          have h4 : ∀ (l : List It) (i : Nat), (calledL i l).length = l.length := by
            intro l
            induction l with
            | nil => intro i; rfl
            | cons x l ih => intro i; rw [calledL, List.length_cons, List.length_cons, ih]
          rw [h4]; omega
theorem partsB_cons0 {rels : List Rel} {ops : List Int} {p : Pl} {names : List Bs} {s : Se} {l : List Se} {r : Pl × List Bs} (h : selB rels s = .ok r) : partsB rels ops 0 p names (s :: l) = partsB rels ops 1 r.1 r.2 l := by
  rw [partsB, h]; rfl
theorem partsB_consS {rels : List Rel} {ops : List Int} {i : Nat} {p : Pl} {names : List Bs} {s : Se} {l : List Se} {r : Pl × List Bs} (h : selB rels s = .ok r) (h0 : i ≠ 0) : partsB rels ops i p names (s :: l) = partsB rels ops (i + 1) (setB (ops.getD (i - 1) 0) p r.1) names l := by
  rw [partsB, h]; simp only; rw [if_neg h0]
theorem partsB_err {rels : List Rel} {ops : List Int} {i : Nat} {p : Pl} {names : List Bs} {s : Se} {l : List Se} {e : Int} (h : selB rels s = .error e) : partsB rels ops i p names (s :: l) = .error e := by
  rw [partsB, h]
theorem Close_pre {N : Tm} {L : LL} {R : RR} {k : Sh → Prop} : ∀ {A : LL} {M : Mem}, noneL M (A ++ L) → (∀ M', Ext M M' → heldL M' A → noneL M' L → Close ⟨N, M', L, R⟩ k) → Close ⟨N, M, A ++ L, R⟩ k
  | [], M, hn, h => h M Ext.rfl' trivial hn
  | (b, cs) :: A, M, hn, h => Close_freeze fun he hb hno => Close_pre hno fun M' hM' hA hL => h M' (he.trans hM') ⟨hM' _ _ hb, hA⟩ hL
theorem topB_nolim {q : Q} {r : Pl × List Bs} (h : ¬ 0 ≤ q.limit) : topB q r = .ok r.1 := by unfold topB; rw [if_neg h]
theorem topB_err {q : Q} {r : Pl × List Bs} {e : Int} (h : 0 ≤ q.limit) (he : exprsB (r.2.map fun n => ([], n)) q.order = .error e) : topB q r = .error e := by unfold topB; rw [if_pos h, he]
theorem topB_ok {q : Q} {r : Pl × List Bs} {xs : List Ex} (h : 0 ≤ q.limit) (he : exprsB (r.2.map fun n => ([], n)) q.order = .ok xs) : topB q r = .ok (.mk 13 q.limit zeroE xs [] [r.1]) := by unfold topB; rw [if_pos h, he]
def QbQ (rels : List Rel) (q : Q) (T : Tm) (M : Mem) (b3 b4 b5 b6 : Nat) (r0 nv : Value) (names : List Bs) (e : Env) (ds : List Deferred) (h : Sh) : Prop :=
  ds = [qqD b4 b5 b6 #[]] ∧ live e [(0, r0), (3, .pointer (some ⟨b3, 0, none⟩)), (4, .pointer (some ⟨b4, 0, none⟩)), (5, .pointer (some ⟨b5, 0, none⟩)), (6, .pointer (some ⟨b6, 0, none⟩)), (8, nv)] ∧
  ∃ N' M' p' A c0 c1 c2 c3 c4 c5 c6 c7 c8 c9 c10, ExtT T N' ∧ Ext M M' ∧ noneL M' (A ++ [(b6, [.int .i64 0]), (b5, [.slice none 0 0]), (b4, [c0, c1, c2, c3, c4, c5, c6, c7, c8, c9, c10])]) ∧ apart1 b4 A ∧
    (∀ M'', Ext M' M'' → heldL M'' A → RPl M'' p' [c0, c1, c2, c3, c4, c5, c6, c7, c8, c9, c10]) ∧ queryB rels q = .ok (p', names) ∧ h = ⟨N', M', A ++ [(b6, [.int .i64 0]), (b5, [.slice none 0 0]), (b4, [c0, c1, c2, c3, c4, c5, c6, c7, c8, c9, c10])], []⟩
theorem RCo_oneB {c : Co} {cs : List Value} (h : RCo c cs) : ∀ u ∈ cs, u.oneCell' = true := by
  rw [h]; intro u hu; simp only [List.mem_cons, List.not_mem_nil, or_false] at hu; rcases hu with rfl | rfl <;> rfl
theorem zipC_get : ∀ {l : List Bs} {m : List Int} {i : Nat} (h : i < m.length) (hl : m.length ≤ l.length), (zipC l m)[i]? = some ⟨l[i], m[i]⟩
  | a :: l, t :: m, 0, _, _ => rfl
  | a :: l, t :: m, i + 1, h, hl => by
    rw [zipC, List.getElem?_cons_succ, zipC_get (by simpa using h) (by simpa using hl)]; rfl
  | [], t :: m, _, _, hl => by simp at hl
theorem zipC_len2 : ∀ {l : List Bs} {m : List Int}, m.length ≤ l.length → (zipC l m).length = m.length
  | [], [], _ => rfl
  | a :: l, [], _ => rfl
  | a :: l, t :: m, h => by rw [zipC, List.length_cons, List.length_cons, zipC_len2 (by simpa using h)]
  | [], t :: m, hl => by simp at hl
theorem ct_bQuery {M : Mem} {rels : List Rel} {rv : Value} {q : Q} {cs : List Value} (hr : RS M (RRel M) 14 rels rv) (hq : RQ M q cs) (hlen : rels.length ≤ 1048576) (hcols : ∀ r ∈ rels, r.cols.length ≤ 1048576) (hok : ∀ s ∈ q.parts, OkSe s)
    (hpar : q.parts.length ≤ q.ops.length + 1) (hpl : q.parts.length ≤ 1048576) (hord : 0 ≤ q.limit → q.order.length ≤ 1048576 ∧ ∀ x ∈ q.order, okX x) (hne : ∀ e, queryB rels q = .error e → e ≠ 0) (hwid : ∀ r t, queryB rels q = .ok r → colsT (tablesM rels) r.1 = .ok t → t.length ≤ r.2.length) (T : Tm) :
    CtT Tryz.prog 10 [rv, .agg ⟨cs⟩] T M [] [] (postQB rels q) noPan := by
  obtain ⟨_, ra, rc, rfl, _⟩ := RS_elim (by decide) (fun _ _ => RRel_len) hr
  obtain ⟨pv, ov, dv, hps, hos, hds, hcs⟩ := hq
  obtain ⟨hpb, pa, pc, rfl, hple, _, hpg⟩ := RS_elim (by decide) (fun _ _ => RSe_len) hps
  obtain ⟨_, oa, oc, rfl, _, _, hog⟩ := RS_elim (by decide) (fun _ _ => RI_len) hos
  obtain ⟨_, da, dc, rfl, _⟩ := RS_elim (by decide) (fun _ _ => RX_len) hds
  subst hcs
  refine ct_runqq bod10 Tryz.func10 rfl (by rw [nt10]; exact Nat.le_of_ble_eq_true rfl) (dr := dr10) (by kernel_rfl) rs10 ?_
  rw [rs10]
  simp +contextual only [go_sem, Rcb, Rbk, sevalprocAttr, qqFi_ret, qqFi_dr]
  intro b3 T3 hb3 hT3 hTb3 b4 T4 hb4 hap4 hT4 hTb4 b5 T5 hb5 hap5 hT5 hTb5 b6 T6 hb6 hap6 hT6 hTb6 b7 T7 hb7 hap7 hT7 hTb7
  have hT := (((hT3.trans hT4).trans hT5).trans hT6).trans hT7
  have hap : (¬ b6 = b5 ∧ ¬ b5 = b6) ∧ (¬ b6 = b4 ∧ ¬ b4 = b6) ∧ (¬ b5 = b4 ∧ ¬ b4 = b5) := ⟨hap6.1, hap6.2.1, hap5.1⟩
  refine loop_rangeC q.parts.length 25 [(0, .slice ra rels.length rc), (3, .pointer (some ⟨b3, 0, none⟩)), (4, .pointer (some ⟨b4, 0, none⟩)), (5, .pointer (some ⟨b5, 0, none⟩)), (6, .pointer (some ⟨b6, 0, none⟩)), (7, .pointer (some ⟨b7, 0, none⟩)), (24, .int .i64 (q.parts.length : Int))]
    (fun i e h => ∃ N' M' p names nv c0 c1 c2 c3 c4 c5 c6 c7 c8 c9 c10, ExtT T N' ∧ Ext M M' ∧ M' b7 = some [.slice ra rels.length rc] ∧ M' b3 = some [.slice pa q.parts.length pc, .slice oa q.ops.length oc, .slice da q.order.length dc, .int .i64 q.limit] ∧ M' b6 = none ∧ M' b5 = none ∧ M' b4 = none ∧
      RPl M' p [c0, c1, c2, c3, c4, c5, c6, c7, c8, c9, c10] ∧ e 8 = nv ∧ RS M' RSt 1 names nv ∧ names.length ≤ 16777216 ∧ partsB rels q.ops i p names (q.parts.drop i) = partsB rels q.ops 0 zeroP [] q.parts ∧ h = ⟨N', M', [(b6, [.int .i64 0]), (b5, [.slice none 0 0]), (b4, [c0, c1, c2, c3, c4, c5, c6, c7, c8, c9, c10])], []⟩)
    0 (by omega) (by simp only [live, go_sem, Rcb, Rbk, sevalprocAttr]) (by simp only [go_sem, Rcb, Rbk, sevalprocAttr])
    (Close_perm (L' := [(b7, [.slice ra rels.length rc]), (b3, [.slice pa q.parts.length pc, .slice oa q.ops.length oc, .slice da q.order.length dc, .int .i64 q.limit]), (b6, [.int .i64 0]), (b5, [.slice none 0 0]), (b4, z11)]) ((List.perm_append_comm (l₁ := [(b6, _), (b5, _), (b4, _)]) (l₂ := [(b3, _)])).cons _) (Close_freeze fun he1 h7 hno1 => Close_freeze fun he2 h3 hno2 => Close_id ⟨T7, _, zeroP, [], .slice none 0 0, _, _, _, _, _, _, _, _, _, _, _, hT, he1.trans he2, he2 _ _ h7, h3, hno2.1, hno2.2.1, hno2.2.2.1, RPl_zero, by simp only [go_sem, Rcb, Rbk, sevalprocAttr], RS_nil, by simp, rfl, rfl⟩)) ?_
  rintro i e h hi hlv ht ⟨T8, M1, p, names, nv, c0, c1, c2, c3, c4, c5, c6, c7, c8, c9, c10, hT8, hM1, h7, h3, n6, n5, n4, hp, e8, hnv, hnl, hres, rfl⟩
  simp only [live] at hlv
  have hb7s := hcols
  by_cases hlt : i < q.parts.length
  · obtain ⟨b', o', cs', rfl, hat, hrx⟩ := hpg i q.parts[i] (List.getElem?_eq_getElem hlt)
    have hdrop : q.parts.drop i = q.parts[i] :: q.parts.drop (i + 1) := List.drop_eq_getElem_cons hlt
    rw [hdrop] at hres
    have hoki := hok q.parts[i] (List.getElem_mem hlt)
    simp +contextual only [go_sem, Rcb, Rbk, sevalprocAttr, qqFi_ret, qqFi_dr, hlv, ht, hlt, mcell_some h3]
    refine rCall_pure (ct_bsel (RS_ext hM1 (RRel_ext hM1) hr) h7 hcols (hat.ext hM1) (RSe_ext hM1 _ _ hrx) hoki T8) ?_ ?_
    rotate_left
    · rintro ch M2 hM2 hno2 ⟨er, he, rfl⟩
      rw [partsB_err he] at hres
      have hqe : queryB rels q = .error er := by unfold queryB; rw [← hres]
      refine qq_fail (A := []) (B := []) (by unfold boundM; rw [hqe]) (hne er hqe) hT8 rfl ?_ ?_ ?_
      · simp only [hlv, go_sem, Rcb, Rbk, sevalprocAttr]
      · simp only [hlv, go_sem, Rcb, Rbk, sevalprocAttr]
      · simp only [hlv, go_sem, Rcb, Rbk, sevalprocAttr]
    rintro v M2 hM2 hno2 ⟨⟨r, rn⟩, hsel, qs, rnv, rfl, hrp, hrn⟩
    simp only at hrp hrn
    simp only [List.cons_append, List.nil_append, noneL, noneL_wL] at hno2
    obtain ⟨_, rna, rnc, rfl, _⟩ := RS_elim (by decide) (fun _ _ => RSt_len) hrn
    obtain ⟨d0, d1, d2, d3, d4, d5, d6, d7, d8, d9, d10, rfl, hd⟩ := RPl_cells hrp
    have hM12 := hM1.trans hM2
    replace h3 := hM2 _ _ h3
    replace h7 := hM2 _ _ h7
    rcases Nat.eq_zero_or_pos i with hi0 | hi0
    · subst hi0
      rw [partsB_cons0 hsel] at hres
      simp +contextual only [go_sem, Rcb, Rbk, sevalprocAttr, qqFi_ret, qqFi_dr, hlv, ht, hlt, hd, hap, hno2]
      intro b10 T10 hb10 hap10 hT10 hTb10
      refine lp_close (Close_drop (Close_id ⟨q.parts.length - 1, by omega, rfl, 1, by omega, rfl, ?_, ?_, T10, M2, r, rn, _, d0, d1, d2, d3, d4, d5, d6, d7, d8, d9, d10, hT8.trans hT10, hM12, h7, h3, hno2.1, hno2.2.1, hno2.2.2.1, hrp, ?_, hrn, selB_nlen hcols hoki hsel, hres, rfl⟩))
      · simp only [live, hlv, go_sem, Rcb, Rbk, sevalprocAttr]
      · simp only [ht, go_sem, Rcb, Rbk, sevalprocAttr]; rfl
      · simp only [go_sem, Rcb, Rbk, sevalprocAttr]
    · have hi1 : i ≠ 0 := by omega
      have hi2 : ¬ ((i : Int) = 0) := by omega
      rw [partsB_consS hsel hi1] at hres
      have hoi : i - 1 < q.ops.length := by omega
      obtain ⟨b2, o2, cs2, rfl, hat2, hrx2⟩ := hog (i - 1) q.ops[i - 1] (List.getElem?_eq_getElem hoi)
      unfold RI at hrx2; subst hrx2
      have z0 := At1 (hat2.ext hM12)
      rw [Nat.mul_one] at z0
      have hgd : q.ops.getD (i - 1) 0 = q.ops[i - 1] := by simp [List.getD, hoi]
      have hwi : IntKind.i64.wrap ((i : Int) - 1) = ((i - 1 : Nat) : Int) := by rw [wrap64 (by omega) (by omega)]; omega
      rw [hgd] at hres
      simp +contextual only [go_sem, Rcb, Rbk, sevalprocAttr, qqFi_ret, qqFi_dr, hlv, ht, hlt, hd, hap, hno2, hi2]
      intro b10 T10 hb10 hap10 hT10 hTb10
      rw [qqFi_pan]
      refine ⟨PanOk_qq _ rfl, draw_all ?_⟩
      have hz := hap10
      simp +contextual only [go_sem, Rcb, Rbk, sevalprocAttr, qqFi_ret, qqFi_dr, qqFi_pan, hlv, ht, hlt, hd, hap, hno2, hi2, mcell_some h3, hwi, hoi, z0, hap10, hb10]
      have hpM := RPl_ext hM2 _ _ hp
      refine rCall_pure (ct_bset (op := q.ops[i - 1]) hpM hrp T10) ?_ (fun _ _ _ _ h => h.elim)
      rintro v M3 hM3 hno3 ⟨gs, rfl, hgp⟩
      obtain ⟨g0, g1, g2, g3, g4, g5, g6, g7, g8, g9, g10, rfl, hg⟩ := RPl_cells hgp
      simp only [List.cons_append, List.nil_append, noneL, noneL_wL] at hno3
      simp +contextual only [go_sem, Rcb, Rbk, sevalprocAttr, qqFi_ret, qqFi_dr, qqFi_pan, hlv, ht, hap, hap10, hno3, hg]
      repeat refine ⟨Sub_ML hM3 ⟨hno3.1, hno3.2.1, hno3.2.2.1, hno3.2.2.2.1, trivial⟩, ?_⟩
      refine lp_close (Close_drop (Close_id ⟨q.parts.length - (i + 1), by omega, rfl, i + 1, by omega, rfl, ?_, ?_, T10, M3, _, names, _, g0, g1, g2, g3, g4, g5, g6, g7, g8, g9, g10, hT8.trans hT10, hM12.trans hM3, hM3 _ _ h7, hM3 _ _ h3, hno3.2.1, hno3.2.2.1, hno3.2.2.2.1, hgp, ?_, RS_ext (hM2.trans hM3) (fun _ _ h => h) hnv, hnl, hres, rfl⟩))
      · simp only [live, hlv, go_sem, Rcb, Rbk, sevalprocAttr]
      · simp only [ht, go_sem, Rcb, Rbk, sevalprocAttr, wrap_succ i (by omega)]
      · simp only [e8, go_sem, Rcb, Rbk, sevalprocAttr]
  · have : i = q.parts.length := by omega
    subst this
    rw [List.drop_length, partsB] at hres
    obtain ⟨_, na, nc, rfl, _, _, hng⟩ := RS_elim (by decide) (fun _ _ => RSt_len) hnv
    have hqb : queryB rels q = (match topB q (p, names) with | .error e => .error e | .ok p => .ok (p, names)) := by unfold queryB; rw [← hres]; simp only; cases topB q (p, names) <;> rfl
    simp +contextual only [go_sem, sevalprocAttr, qqFi_ret, qqFi_dr, hlv, ht, hlt, e8, mcell_some h3]
    rw [rCond_bool]
    simp +contextual only [go_sem, sevalprocAttr, qqFi_ret, qqFi_dr, hlv, ht, hlt, e8, mcell_some h3]
    refine cond_cut (QbQ rels q T M1 b3 b4 b5 b6 (.slice ra rels.length rc) (.slice na names.length nc) names) (fun S' hS' => ?_) ?_
    · rw [rCond_bool]
      by_cases hl0 : 0 ≤ q.limit
      · simp +contextual only [go_sem, Rcb, Rbk, sevalprocAttr, qqFi_ret, qqFi_dr, hl0, hlv, e8]
        intro b12 T12 hb12 hap12 hT12 hTb12
        refine loop_range names.length 58 [(0, .slice ra rels.length rc), (3, .pointer (some ⟨b3, 0, none⟩)), (4, .pointer (some ⟨b4, 0, none⟩)), (5, .pointer (some ⟨b5, 0, none⟩)), (6, .pointer (some ⟨b6, 0, none⟩)), (8, .slice na names.length nc), (12, .pointer (some ⟨b12, 0, none⟩)), (56, .slice na names.length nc), (57, .int .i64 (names.length : Int))]
          (fun j e h => ∃ N' R cv, ExtT T12 N' ∧ Acc 104 2 RCl [] R cv ((names.take j).map fun n => ([], n)) ∧ h = ⟨N', M1, [(b12, [cv, .slice none 0 0, .pointer none, .pointer none]), (b6, [.int .i64 0]), (b5, [.slice none 0 0]), (b4, [c0, c1, c2, c3, c4, c5, c6, c7, c8, c9, c10])], R⟩)
          0 (by omega) (by simp only [live, hlv, e8, go_sem, Rcb, Rbk, sevalprocAttr]) (by simp only [go_sem, Rcb, Rbk, sevalprocAttr]) ⟨T12, [], _, ExtT.rfl', Acc_nil, rfl⟩ ?_
        clear hlv ht e8 hlt hi e
        rintro j e h hj hlv ht ⟨N9, R9, cv, hN9, hacc, rfl⟩
        simp only [live] at hlv
        by_cases hlt : j < names.length
        · obtain ⟨bn, on, cn, rfl, hatn, hrn⟩ := hng j names[j] (List.getElem?_eq_getElem hlt)
          unfold RSt at hrn; subst hrn
          have z0 := At1 hatn
          rw [Nat.mul_one] at z0
          obtain ⟨va, vc, rfl⟩ := Acc_form hacc
          have hl1 : ((names.take j).map fun n => (([] : Bs), n)).length = j := by rw [List.length_map, List.length_take]; omega
          simp +contextual only [go_sem, Rcb, Rbk, sevalprocAttr, qqFi_ret, qqFi_dr, hlv, ht, hlt, z0, hb12, hap12]
          intro b14 hb14 hap14
          refine app_acc (x := (([] : Bs), names[j])) Tryz.underlying99 row99 okt99 hacc rfl (fun _ _ => RCl_len) (RCl_oneC (c := (([] : Bs), names[j])) rfl) hb14 (by rw [hl1]; omega) (by decide) ?_
          intro fv' R' hacc'
          obtain ⟨wa, wc, hfv⟩ := Acc_form hacc'
          have hsucc : ((names.take (j + 1)).map fun n => (([] : Bs), n)) = ((names.take j).map fun n => (([] : Bs), n)) ++ [([], names[j])] := by
            rw [List.take_succ_eq_append_getElem hlt, List.map_append]; rfl
          rw [← hsucc] at hacc'
          subst hfv
          simp +contextual only [go_sem, Rcb, Rbk, sevalprocAttr, qqFi_ret, qqFi_dr, hlv, ht, hlt, hb12, hap12, hb14, hap14]
          refine lp_close (Close_drop (Close_id ⟨names.length - (j + 1), by omega, rfl, j + 1, by omega, rfl, ?_, ?_, N9, R', _, hN9, hacc', rfl⟩))
          · simp only [live, hlv, go_sem, Rcb, Rbk, sevalprocAttr]
          · simp only [ht, go_sem, Rcb, Rbk, sevalprocAttr, wrap_succ j (by omega)]
        · have : j = names.length := by omega
          subst this
          rw [List.take_length] at hacc
          obtain ⟨va, vc, rfl⟩ := Acc_form hacc
          simp +contextual only [go_sem, Rcb, Rbk, sevalprocAttr, qqFi_ret, qqFi_dr, qqFi_pan, hlv, ht, hlt]
          have ha4 : (b4 ≠ b12 ∧ b12 ≠ b4) ∧ (b4 ≠ b6 ∧ b6 ≠ b4) ∧ (b4 ≠ b5 ∧ b5 ≠ b4) := by
            refine ⟨⟨hap12.2.2.2, hap12.2.2.1⟩, ⟨hap.2.1.2, hap.2.1.1⟩, ⟨hap.2.2.2, hap.2.2.1⟩⟩
          refine ⟨PanOk_qq _ rfl, draw_at ⟨T, M1, [(b4, [c0, c1, c2, c3, c4, c5, c6, c7, c8, c9, c10])], []⟩ (Sub_memL [(b12, _), (b6, _), (b5, _)] Ext.rfl' n4 ⟨ha4.1, ha4.2.1, ha4.2.2, trivial⟩) ?_⟩
          simp +contextual only [go_sem, Rcb, Rbk, sevalprocAttr, qqFi_ret, qqFi_dr, qqFi_pan, hlv, ht, hlt, mcell_some h3, n4]
          have hml : (names.map fun n => (([] : Bs), n)).length ≤ 16777216 := by rw [List.length_map]; exact hnl
          have hcall : ∀ {M5 : Mem}, Ext M1 M5 → RS M5 RCl 2 (names.map fun n => (([] : Bs), n)) (.slice va (names.map fun n => (([] : Bs), n)).length vc) → M5 b12 = some [.slice va (names.map fun n => (([] : Bs), n)).length vc, .slice none 0 0, .pointer none, .pointer none] →
              CtT Tryz.prog 31 [.pointer (some ⟨b12, 0, none⟩), .slice da q.order.length dc] N9 M5 [] [] (postX (fun l v M => RS M (REx M) 6 l v) (exprsB (names.map fun n => ([], n)) q.order)) (panX (exprsB (names.map fun n => ([], n)) q.order)) := by
            intro M5 h5 hrs hb
            exact ct_allB (fun x hx => exB _ _ x (Nat.le_refl _) ((hord hl0).2 x hx)) (hord hl0).1 hrs hb (RS_ext (hM1.trans h5) (RX_ext (hM1.trans h5)) hds) N9
          have hpan : ∀ {er : Int} {N : Tm} {M5 : Mem} {A : LL} {e : Env}, exprsB (names.map fun n => ([], n)) q.order = .error er → ExtT T N → e 4 = .pointer (some ⟨b4, 0, none⟩) → e 5 = .pointer (some ⟨b5, 0, none⟩) → e 6 = .pointer (some ⟨b6, 0, none⟩) →
              qqPan T (postQB rels q) (oopB er) e [qqD b4 b5 b6 #[]] ⟨N, M5, A ++ (b6, [.int .i64 0]) :: (b5, [.slice none 0 0]) :: (b4, [c0, c1, c2, c3, c4, c5, c6, c7, c8, c9, c10]) :: [], []⟩ := by
            intro er N M5 A e he hN e4 e5 e6
            have hqe : queryB rels q = .error er := by rw [hqb, topB_err hl0 he]
            exact qq_fault (by unfold boundM; rw [hqe]) (hne er hqe) hN rfl e4 e5 e6
          have hTN := (hT8.trans hT12).trans hN9
          have hfin : ∀ {xs : List Ex} {M6 M'' : Mem} {xv : Value} {b81 : Nat}, RS M6 (REx M6) 6 xs xv → Ext M1 M6 → Ext M6 M'' → heldL M'' [(b81, [c0, c1, c2, c3, c4, c5, c6, c7, c8, c9, c10])] →
              RPl M'' (.mk 13 q.limit zeroE xs [] [p]) [.int .i64 13, .int .i64 q.limit, .int .i64 0, .int .i64 0, .int .i64 0, st [], .int .i64 0, .slice none 0 0, xv, .slice none 0 0, .slice (some ⟨b81, 0, none⟩) 1 1] := by
            intro xs M6 M'' xv b81 hxs h16 h6 hh
            refine RPl_iff.2 ⟨[.int .i64 0, .int .i64 0, .int .i64 0, st [], .int .i64 0, .slice none 0 0], xv, .slice none 0 0, .slice (some ⟨b81, 0, none⟩) 1 1, rfl, REx_iff.2 ⟨_, rfl, RS_nil⟩, RS_ext h6 (REx_ext h6) hxs, RS_nil, ?_⟩
            exact RS_lit (fun _ _ => RPl_len) hh.1 (l := [p]) (RL_one (RPl_ext (h16.trans h6) _ _ hp)) rfl (by omega)
          refine ⟨?_, ?_⟩
          · refine rCall_close (k := fun h' => ∃ M5, Ext M1 M5 ∧ RS M5 RCl 2 (names.map fun n => (([] : Bs), n)) (.slice va (names.map fun n => (([] : Bs), n)).length vc) ∧ M5 b12 = some [.slice va (names.map fun n => (([] : Bs), n)).length vc, .slice none 0 0, .pointer none, .pointer none] ∧ h' = ⟨N9, M5, [(b6, [.int .i64 0]), (b5, [.slice none 0 0]), (b4, [c0, c1, c2, c3, c4, c5, c6, c7, c8, c9, c10])], []⟩)
              (Close_acc hacc (by omega) (by decide) ⟨hb12, n6, n5, n4, trivial⟩ fun M5 hM5 hno5 hrs => Close_freeze fun he hb hno => Close_id ⟨_, hM5.trans he, RS_ext he (fun _ _ h => h) hrs, hb, rfl⟩) ?_ bod31
            rintro h' ⟨M5, h15, hrs5, hb5', rfl⟩
            refine rCall_pure (hcall h15 hrs5 hb5') ?_ ?_
            · rintro r M6 hM6 hno6 ⟨xs, hxe, hxs⟩
              obtain ⟨_, xa, xc, rfl, _⟩ := RS_elim (by decide) (fun _ _ => REx_len) hxs
              simp only [List.cons_append, List.nil_append, noneL, noneL_wL] at hno6
              simp +contextual only [go_sem, Rcb, Rbk, sevalprocAttr, qqFi_ret, qqFi_dr, qqFi_pan, hlv, ht, hno6, hap]
              refine ⟨Sub_memL [(b6, _), (b5, _)] (h15.trans hM6) hno6.2.2.1 ⟨ha4.2.1, ha4.2.2, trivial⟩, ?_⟩
              intro b81 hb81 hap81
              refine ⟨Sub_memL [(b81, _), (b6, _), (b5, _)] (h15.trans hM6) hno6.2.2.1 ⟨⟨hap81.2.2.2, hap81.2.2.1⟩, ha4.2.1, ha4.2.2, trivial⟩, ?_⟩
              refine hS' _ _ _ ⟨rfl, ?_, N9, M6, .mk 13 q.limit zeroE xs [] [p], [(b81, _)], _, _, _, _, _, _, _, _, _, _, _, hTN, h15.trans hM6, ⟨hb81, hno6.1, hno6.2.1, hno6.2.2.1, trivial⟩, ⟨⟨hap81.2.2.2, hap81.2.2.1⟩, trivial⟩, fun M'' h6 hh => hfin hxs (h15.trans hM6) h6 hh, by rw [hqb, topB_ok hl0 hxe], rfl⟩
              simp only [live, hlv, go_sem, Rcb, Rbk, sevalprocAttr]
            · rintro ch M6 hM6 hno6 ⟨er, he, rfl⟩
              rw [qqFi_pan]
              refine hpan (A := []) he hTN ?_ ?_ ?_ <;> simp only [hlv, go_sem, Rcb, Rbk, sevalprocAttr]
          · intro b81 hb81 hap81
            have ha81 : b4 ≠ b81 ∧ b81 ≠ b4 := ⟨hap81.2.2.2.2, hap81.2.2.2.1⟩
            refine ⟨Sub_memL [(b81, _), (b12, _), (b6, _), (b5, _)] Ext.rfl' n4 ⟨ha81, ha4.1, ha4.2.1, ha4.2.2, trivial⟩, ?_⟩
            refine rCall_close (k := fun h' => ∃ M5, Ext M1 M5 ∧ RS M5 RCl 2 (names.map fun n => (([] : Bs), n)) (.slice va (names.map fun n => (([] : Bs), n)).length vc) ∧ M5 b12 = some [.slice va (names.map fun n => (([] : Bs), n)).length vc, .slice none 0 0, .pointer none, .pointer none] ∧ h' = ⟨N9, M5, [(b81, [c0, c1, c2, c3, c4, c5, c6, c7, c8, c9, c10]), (b6, [.int .i64 0]), (b5, [.slice none 0 0]), (b4, [c0, c1, c2, c3, c4, c5, c6, c7, c8, c9, c10])], []⟩)
              (Close_acc hacc (by omega) (by decide) ⟨hb81, hb12, n6, n5, n4, trivial⟩ fun M5 hM5 hno5 hrs => Close_perm (List.Perm.swap _ _ _) (Close_freeze fun he hb hno => Close_id ⟨_, hM5.trans he, RS_ext he (fun _ _ h => h) hrs, hb, rfl⟩)) ?_ bod31
            rintro h' ⟨M5, h15, hrs5, hb5', rfl⟩
            refine rCall_pure (hcall h15 hrs5 hb5') ?_ ?_
            · rintro r M6 hM6 hno6q ⟨xs, hxe, hxs⟩
              obtain ⟨_, xa, xc, rfl, _⟩ := RS_elim (by decide) (fun _ _ => REx_len) hxs
              simp only [List.cons_append, List.nil_append, noneL, noneL_wL] at hno6q
              obtain ⟨hb81', hno6⟩ := hno6q
              simp +contextual only [go_sem, Rcb, Rbk, sevalprocAttr, qqFi_ret, qqFi_dr, qqFi_pan, hlv, ht, hno6, hap, hb81', ha81, hap81]
              refine ⟨Sub_memL [(b81, _), (b6, _), (b5, _)] (h15.trans hM6) hno6.2.2.1 ⟨ha81, ha4.2.1, ha4.2.2, trivial⟩, ?_⟩
              refine hS' _ _ _ ⟨rfl, ?_, N9, M6, .mk 13 q.limit zeroE xs [] [p], [(b81, _)], _, _, _, _, _, _, _, _, _, _, _, hTN, h15.trans hM6, ⟨hb81', hno6.1, hno6.2.1, hno6.2.2.1, trivial⟩, ⟨ha81, trivial⟩, fun M'' h6 hh => hfin hxs (h15.trans hM6) h6 hh, by rw [hqb, topB_ok hl0 hxe], rfl⟩
              simp only [live, hlv, go_sem, Rcb, Rbk, sevalprocAttr]
            · rintro ch M6 hM6 hno6 ⟨er, he, rfl⟩
              rw [qqFi_pan]
              refine hpan (A := [(b81, _)]) he hTN ?_ ?_ ?_ <;> simp only [hlv, go_sem, Rcb, Rbk, sevalprocAttr]
      · simp +contextual only [go_sem, Rcb, Rbk, sevalprocAttr, hl0]
        refine hS' _ _ _ ⟨rfl, ?_, T8, M1, p, [], c0, c1, c2, c3, c4, c5, c6, c7, c8, c9, c10, hT8, Ext.rfl', ⟨n6, n5, n4, trivial⟩, trivial, fun M'' hM'' _ => RPl_ext hM'' _ _ hp, ?_, rfl⟩
        · simp only [live, hlv, e8, go_sem, Rcb, Rbk, sevalprocAttr]
        · rw [hqb, topB_nolim hl0]
    · clear hlv ht e8 hlt hi e hres hqb hp n6 n5 n4
      rintro e ds h ⟨rfl, hlv, N, M2, p', A, c0, c1, c2, c3, c4, c5, c6, c7, c8, c9, c10, hN, hM2, hnn, hapA, hpl', hqb, rfl⟩
      simp only [live] at hlv
      have ha4 : (b4 ≠ b6 ∧ b6 ≠ b4) ∧ (b4 ≠ b5 ∧ b5 ≠ b4) := ⟨⟨hap.2.1.2, hap.2.1.1⟩, ⟨hap.2.2.2, hap.2.2.1⟩⟩
      have hsub : ∀ {N : Tm} {M : Mem} {A : LL}, M b4 = none → apart1 b4 A → Vc.Sub ⟨T, fun _ => none, [(b4, [c0, c1, c2, c3, c4, c5, c6, c7, c8, c9, c10])], []⟩ ⟨N, M, A ++ [(b6, [.int .i64 0]), (b5, [.slice none 0 0]), (b4, [c0, c1, c2, c3, c4, c5, c6, c7, c8, c9, c10])], []⟩ := by
        intro N M A h4 hA
        have hA2 : ∀ {A : LL}, apart1 b4 A → apart1 b4 (A ++ [(b6, [.int .i64 0]), (b5, [.slice none 0 0])]) := by
          intro A
          induction A with
          | nil => intro _; exact ⟨ha4.1, ha4.2, trivial⟩
          | cons x A ih => intro h; exact ⟨h.1, ih h.2⟩
        have := Sub_own (T0 := T) (T := N) (M := M) (A ++ [(b6, [.int .i64 0]), (b5, [.slice none 0 0])]) (L2 := []) (R := []) (cs := [c0, c1, c2, c3, c4, c5, c6, c7, c8, c9, c10]) h4 (hA2 hA)
        simpa using this
      have hno4 : ∀ {A : LL}, noneL M2 (A ++ [(b6, [.int .i64 0]), (b5, [.slice none 0 0]), (b4, [c0, c1, c2, c3, c4, c5, c6, c7, c8, c9, c10])]) → M2 b4 = none := by
        intro A h
        exact noneL_iff h b4 (by simp [keys])
      simp +contextual only [go_sem, Rcb, Rbk, sevalprocAttr, qqFi_ret, qqFi_dr, qqFi_pan, hlv]
      refine ⟨PanOk_qq _ rfl, draw_at ⟨T, fun _ => none, [(b4, [c0, c1, c2, c3, c4, c5, c6, c7, c8, c9, c10])], []⟩ (hsub (hno4 hnn) hapA) ?_⟩
      simp +contextual only [go_sem, Rcb, Rbk, sevalprocAttr, qqFi_ret, qqFi_dr, qqFi_pan, hlv]
      refine rCall_close (k := fun h' => ∃ M3, Ext M2 M3 ∧ M3 b6 = none ∧ M3 b5 = none ∧ M3 b4 = none ∧ RPl M3 p' [c0, c1, c2, c3, c4, c5, c6, c7, c8, c9, c10] ∧ h' = ⟨N, M3, [(b6, [.int .i64 0]), (b5, [.slice none 0 0]), (b4, [c0, c1, c2, c3, c4, c5, c6, c7, c8, c9, c10])], []⟩)
        (Close_pre hnn fun M3 hM3 hA hno => Close_id ⟨M3, hM3, hno.1, hno.2.1, hno.2.2.1, hpl' M3 hM3 hA, rfl⟩) ?_ bod18
      rintro h' ⟨M3, hM3, n6, n5, n4, hp, rfl⟩
      have h03 := (hM1.trans hM2).trans hM3
      refine rCall_pure (ct_Tables (RS_ext h03 (RRel_ext h03) hr) hlen hcols N) ?_ (fun _ _ _ _ h => h.elim)
      rintro tv M4 hM4 hno4 htv
      obtain ⟨_, ta, tc, rfl, _⟩ := RS_elim (by decide) (fun _ _ => RTb_len) htv
      simp only [List.cons_append, List.nil_append, noneL, noneL_wL] at hno4
      simp +contextual only [go_sem, Rcb, Rbk, sevalprocAttr, qqFi_ret, qqFi_dr, qqFi_pan, hlv]
      refine ⟨Sub_memL (M := fun _ => none) [(b6, _), (b5, _)] (fun _ _ h => by cases h) hno4.2.2.1 ⟨ha4.1, ha4.2, trivial⟩, ?_⟩
      refine rCall_pure (ct_Cols htv (RPl_ext hM4 _ _ hp) N) ?_ (fun _ _ _ _ h => h.elim)
      rintro r M5 hM5 hno5 hr5
      obtain ⟨sv, er, rfl⟩ := tupL_form hr5
      simp only [List.cons_append, List.nil_append, noneL, noneL_wL] at hno5
      have hap' := hap
      cases hct : colsT (tablesM rels) p' with
      | error er2 =>
        rw [hct] at hr5
        obtain ⟨hne2, sv2, hsv⟩ := hr5
        injection hsv with hsv
        simp only [Array.mk.injEq, List.cons.injEq, and_true, Value.int.injEq, true_and] at hsv
        obtain ⟨rfl, rfl⟩ := hsv
        have hbm : boundM rels q = .error er := by unfold boundM; rw [hqb]; simp only; rw [hct]
        simp +contextual only [go_sem, Rcb, Rbk, sevalprocAttr, qqFi_ret, qqFi_dr, qqFi_pan, hlv, hno5, hap, hne2]
        refine ⟨PanOk_qq _ rfl, draw_at ⟨T, fun _ => none, [(b6, [.int .i64 er])], []⟩ (Sub_hd hno5.1) ?_⟩
        simp +contextual only [go_sem, Rcb, Rbk, sevalprocAttr, qqFi_ret, qqFi_dr, qqFi_pan, hlv, hno5, hap, hne2]
        refine ⟨Sub_hd hno5.1, Sub_hd hno5.1, b4, b5, b6, _, rfl, rfl, ?_⟩
        simp +contextual only [go_sem, Rcb, Rbk, sevalprocAttr, qqFi_ret, qqFi_dr, qqFi_pan, hlv, hno5, hap]
        refine end_none hN ?_
        unfold postQB
        rw [hbm]
        exact ⟨hne2, _, rfl, RPl_zero⟩
      | ok t =>
        rw [hct] at hr5
        obtain ⟨sv2, hsv, hts⟩ := hr5
        injection hsv with hsv
        simp only [Array.mk.injEq, List.cons.injEq, and_true, Value.int.injEq, true_and] at hsv
        obtain ⟨rfl, rfl⟩ := hsv
        have hbm : boundM rels q = .ok (p', zipC names t) := by unfold boundM; rw [hqb]; simp only; rw [hct]
        have htl : t.length ≤ names.length := hwid _ _ hqb hct
        have hzl := zipC_len2 htl
        obtain ⟨_, sa, sc, rfl, _, _, hsg⟩ := RS_elim (by decide) (fun _ _ => RI_len) hts
        have hp5 := RPl_ext (hM4.trans hM5) _ _ hp
        have h15 := (hM2.trans hM3).trans (hM4.trans hM5)
        simp +contextual only [go_sem, Rcb, Rbk, sevalprocAttr, qqFi_ret, qqFi_dr, qqFi_pan, hlv, hno5, hap]
        refine loop_range t.length 96 [(4, .pointer (some ⟨b4, 0, none⟩)), (5, .pointer (some ⟨b5, 0, none⟩)), (6, .pointer (some ⟨b6, 0, none⟩)), (8, .slice na names.length nc), (94, .slice sa t.length sc), (95, .int .i64 (t.length : Int))]
          (fun i e h => ∃ R cv, Acc 48 2 RCo [] R cv ((zipC names t).take i) ∧ h = ⟨N, M5, [(b6, [.int .i64 0]), (b5, [cv]), (b4, [c0, c1, c2, c3, c4, c5, c6, c7, c8, c9, c10])], R⟩) 0 (by omega) (by simp only [live, hlv, go_sem, Rcb, Rbk, sevalprocAttr]) (by simp only [go_sem, Rcb, Rbk, sevalprocAttr]) ⟨[], _, Acc_nil, rfl⟩ ?_
        clear hlv e
        rintro i e h hi hlv ht ⟨R, cv, hacc, rfl⟩
        simp only [live] at hlv
        obtain ⟨wa, wc, rfl⟩ := Acc_form hacc
        have hzi : ((zipC names t).take i).length = i := by rw [List.length_take]; omega
        by_cases hlt : i < t.length
        · obtain ⟨bn, on, cn, rfl, hatn, hrn⟩ := hng i names[i] (List.getElem?_eq_getElem (by omega))
          unfold RSt at hrn; subst hrn
          have z0 := At1 (hatn.ext h15)
          rw [Nat.mul_one] at z0
          obtain ⟨bt, ot, ct', rfl, hatt, hrt⟩ := hsg i t[i] (List.getElem?_eq_getElem hlt)
          unfold RI at hrt; subst hrt
          have z1 := At1 hatt
          rw [Nat.mul_one] at z1
          have hin : i < names.length := by omega
          simp +contextual only [go_sem, Rcb, Rbk, sevalprocAttr, qqFi_ret, qqFi_dr, qqFi_pan, hlv, ht, hlt, z1]
          refine ⟨PanOk_qq _ rfl, draw_at ⟨T, M5, [(b5, [.slice wa ((zipC names t).take i).length wc])], []⟩ (Sub_memL [(b6, _)] Ext.rfl' hno5.2.1 ⟨⟨hap.1.2, hap.1.1⟩, trivial⟩) ?_⟩
          simp +contextual only [go_sem, Rcb, Rbk, sevalprocAttr, qqFi_ret, qqFi_dr, qqFi_pan, hlv, ht, hlt, z0, z1, hno5, hap, hin]
          intro b8 hb8 hap8
          refine ⟨Sub_memL [(b8, _), (b6, _)] Ext.rfl' hno5.2.1 ⟨⟨hap8.2.1.2, hap8.2.1.1⟩, ⟨hap.1.2, hap.1.1⟩, trivial⟩, ?_⟩
          refine app_acc (x := (⟨names[i], t[i]⟩ : Co)) Tryz.underlying43 row43 okt43 hacc rfl (fun _ _ => RCo_len) (RCo_oneB (c := ⟨names[i], t[i]⟩) rfl) hb8 (by rw [hzi]; omega) (by decide) ?_
          intro fv' R' hacc'
          obtain ⟨va, vc, hfv⟩ := Acc_form hacc'
          have hsucc : (zipC names t).take (i + 1) = (zipC names t).take i ++ [⟨names[i], t[i]⟩] := by
            rw [List.take_succ, zipC_get hlt htl]; rfl
          rw [← hsucc] at hacc'
          subst hfv
          simp +contextual only [go_sem, Rcb, Rbk, sevalprocAttr, qqFi_ret, qqFi_dr, qqFi_pan, hlv, ht, hlt, hno5, hap, hap8]
          refine ⟨Sub_memL [(b8, _), (b6, _)] Ext.rfl' hno5.2.1 ⟨⟨hap8.2.1.2, hap8.2.1.1⟩, ⟨hap.1.2, hap.1.1⟩, trivial⟩, ?_⟩
          refine lp_close (Close_drop (Close_id ⟨t.length - (i + 1), by omega, rfl, i + 1, by omega, rfl, ?_, ?_, R', _, hacc', rfl⟩))
          · simp only [live, hlv, go_sem, Rcb, Rbk, sevalprocAttr]
          · simp only [ht, go_sem, Rcb, Rbk, sevalprocAttr, wrap_succ i (by omega)]
        · have : i = t.length := by omega
          subst this
          simp +contextual only [go_sem, Rcb, Rbk, sevalprocAttr, qqFi_ret, qqFi_dr, qqFi_pan, hlv, ht, hlt]
          refine ⟨PanOk_qq _ rfl, draw_all ?_⟩
          simp +contextual only [go_sem, Rcb, Rbk, sevalprocAttr, qqFi_ret, qqFi_dr, qqFi_pan, hlv, ht, hlt, hno5, hap]
          obtain ⟨_, _, _, _, _, _, _, _, _, _, _, hcx, hc⟩ := RPl_cells hp5
          cases hcx
          refine ⟨hc, Sub.refl _, b4, b5, b6, _, rfl, rfl, ?_⟩
          simp +contextual only [go_sem, Rcb, Rbk, sevalprocAttr, qqFi_ret, qqFi_dr, qqFi_pan, hlv, hno5, hap, hc]
          refine Close_acc hacc (by omega) (by decide) ⟨hno5.1, hno5.2.1, hno5.2.2.1, trivial⟩ fun M6 hM6 hno6 hrs => end_none hN ?_
          have hzt : (zipC names t).take t.length = zipC names t := List.take_of_length_le (by omega)
          rw [hzt] at hrs
          unfold postQB
          rw [hbm]
          refine ⟨_, _, rfl, RPl_ext hM6 _ _ hp5, ?_⟩
          rw [hzt]; exact hrs
theorem ct_Tables12 {M : Mem} {rels : List Rel} {rv : Value} (hr : RS M (RRel M) 14 rels rv) (hlen : rels.length ≤ 1048576) (hcols : ∀ r ∈ rels, r.cols.length ≤ 1048576) (T : Tm) :
    CtT Tryz.prog 27 [rv] T M [] [] (fun r M' _ _ => RS M' (RTb M') 1 (tablesM rels) r) noPan := by
  obtain ⟨hbk, a, c, rfl, hle, _, hg⟩ := RS_elim (by decide) (fun _ _ => RRel_len) hr
  refine ct_run mx bod27 Tryz.func27 rfl (by rw [nt27]; exact Nat.le_of_ble_eq_true rfl) (dr := dr27) (by kernel_rfl) rs27 ?_
  intro hno _
  simp +contextual only [go_sem, Rcb, Rbk, sevalprocAttr]
  refine loop_range rels.length 11 [(9, .slice a rels.length c), (10, .int .i64 (rels.length : Int))] (fun i e h => ∃ N' M' R fv, ExtT T N' ∧ Ext M M' ∧ h = ⟨N', M', [], R⟩ ∧ e 3 = fv ∧ Acc 24 1 (RTb M') [] R fv (tablesM (rels.take i)) ∧ (tablesM (rels.take i)).length ≤ i) 0 (by omega) (by simp only [live, go_sem, Rcb, Rbk, sevalprocAttr]) (by simp only [go_sem, Rcb, Rbk, sevalprocAttr]) ⟨T, M, [], _, ExtT.rfl', Ext.rfl', rfl, by simp only [go_sem, Rcb, Rbk, sevalprocAttr], Acc_nil, by simp [tablesM]⟩ ?_
  rintro i e h hi hlv ht ⟨N1, M1, R1, fv, hN1, hM1, rfl, e3, hacc, hal⟩
  simp only [live] at hlv
  by_cases hlt : i < rels.length
  · obtain ⟨b', o', cs', rfl, hat, hrx⟩ := hg i rels[i] (List.getElem?_eq_getElem hlt)
    obtain ⟨ca, cn, s1, a1, n1, a2, n2, a3, n3, rfl, hs1, hcs, hpl⟩ := RRel_form (RRel_ext hM1 _ _ hrx)
    obtain ⟨x0, x1, x2, x3, x4, x5, x6, x7, x8, x9, x10, x11, x12, x13⟩ := At14 (hat.ext hM1)
    have hsucc := tablesM_succ hlt
    simp +contextual only [go_sem, Rcb, Rbk, sevalprocAttr, hlv, ht, hlt, x0, x1, x2, x3, x4, x5, x6, x7, x8, x9, x10, x11, x12, x13, hs1]
    intro b5 T5 hb5 hT5 hTb5
    have hT1 := hN1.trans hT5
    by_cases hview : rels[i].view = true
    · rw [if_pos hview]
      rw [if_pos hview, List.append_nil] at hsucc
      refine lp_close (Close_drop (Close_id ⟨rels.length - (i + 1), by omega, rfl, i + 1, by omega, rfl, ?_, ?_, T5, M1, R1, fv, hT1, hM1, rfl, ?_, ?_, ?_⟩))
      · simp only [live, hlv, go_sem, Rcb, Rbk, sevalprocAttr]
      · simp only [ht, go_sem, Rcb, Rbk, sevalprocAttr, wrap_succ i (by omega)]
      · simp only [e3, go_sem, Rcb, Rbk, sevalprocAttr]
      · rw [hsucc]; exact hacc
      · rw [hsucc]; omega
    rw [if_neg hview]
    rw [if_neg hview] at hsucc
    obtain ⟨hcb, _, _, hcx, hcle, _, hcg⟩ := RS_elim (by decide) (fun _ _ => RCo_len) hcs
    cases hcx
    have hcolb := hcols rels[i] (List.getElem_mem hlt)
    refine loop_rangeC rels[i].cols.length 21 [(3, fv), (9, .slice (some ⟨b', o', none⟩) rels.length c), (10, .int .i64 (rels.length : Int)), (11, .int .i64 (i : Nat)), (19, .slice ca rels[i].cols.length cn), (20, .int .i64 (rels[i].cols.length : Int))]
      (fun j e h => ∃ N' M' R' tv, ExtT T N' ∧ Ext M1 M' ∧ h = ⟨N', M', [], R'⟩ ∧ e 6 = tv ∧ (j < rels[i].cols.length → Acc 3 1 RI R1 R' tv ((rels[i].cols.take j).map (·.ty))) ∧ (j = rels[i].cols.length → R' = R1 ∧ RS M' RI 1 (rels[i].cols.map (·.ty)) tv))
      0 (by omega) (by simp only [live, hlv, e3, ht, go_sem, Rcb, Rbk, sevalprocAttr]) (by simp only [go_sem, Rcb, Rbk, sevalprocAttr]) ?_ ?_
    · exact Close_drop (Close_id ⟨T5, M1, R1, .slice none 0 0, hT1, Ext.rfl', rfl, by simp only [go_sem, Rcb, Rbk, sevalprocAttr], fun _ => Acc_nil, fun h0 => ⟨rfl, by rw [List.eq_nil_of_length_eq_zero h0.symm]; exact RS_nil⟩⟩)
    · rintro j e h hj hlv2 ht2 ⟨N2, M2, R2, tv, hN2, hM2, rfl, e6, hac2, hfin2⟩
      simp only [live] at hlv2
      by_cases hjlt : j < rels[i].cols.length
      · obtain ⟨bc, oc, cc', rfl, hatc, hrc⟩ := hcg j rels[i].cols[j] (List.getElem?_eq_getElem hjlt)
        unfold RCo at hrc
        subst hrc
        obtain ⟨z0, z1⟩ := At2 (hatc.ext hM2)
        have hac := hac2 hjlt
        simp +contextual only [go_sem, Rcb, Rbk, sevalprocAttr, hlv2, ht2, hjlt, z0, z1, e6]
        intro b8 T8 hb8 hT8 hTb8 b7 hb7 hap7
        have htk : (rels[i].cols.take (j + 1)).map (·.ty) = (rels[i].cols.take j).map (·.ty) ++ [rels[i].cols[j].ty] := by
          rw [← List.take_append_getElem hjlt, List.map_append]; rfl
        have hjl : ((rels[i].cols.take j).map (·.ty)).length = j := by rw [List.length_map, List.length_take]; omega
        refine app_acc (Tryz.underlying24) row24 okt24 (x := rels[i].cols[j].ty) (cs := [.int .i64 rels[i].cols[j].ty]) hac rfl (fun _ _ => RI_len) (RI_oneC rfl) hb7 (by omega) (by decide) ?_
        intro tv' R' hac'
        rw [← htk] at hac'
        simp +contextual only [go_sem, Rcb, Rbk, sevalprocAttr, hlv2, ht2, hjlt]
        refine lp_close (Close_drop (Close_drop ?_))
        by_cases hje : j + 1 = rels[i].cols.length
        · have hfull : (rels[i].cols.take (j + 1)).map (·.ty) = rels[i].cols.map (·.ty) := by rw [hje, List.take_length]
          rw [hfull] at hac'
          refine Close_acc hac' (by rw [List.length_map]; omega) (by decide) trivial fun M3 hM3 _ hrs => Close_id ⟨rels[i].cols.length - (j + 1), by omega, rfl, j + 1, by omega, rfl, ?_, ?_, T8, M3, R1, tv', hN2.trans hT8, hM2.trans hM3, rfl, ?_, fun h => absurd h (by omega), fun _ => ⟨rfl, hrs⟩⟩
          · simp only [live, hlv2, go_sem, Rcb, Rbk, sevalprocAttr]
          · simp only [ht2, go_sem, Rcb, Rbk, sevalprocAttr, wrap_succ j (by omega)]
          · simp only [go_sem, Rcb, Rbk, sevalprocAttr]
        · refine Close_id ⟨rels[i].cols.length - (j + 1), by omega, rfl, j + 1, by omega, rfl, ?_, ?_, T8, M2, R', tv', hN2.trans hT8, hM2, rfl, ?_, fun _ => hac', fun h => absurd h hje⟩
          · simp only [live, hlv2, go_sem, Rcb, Rbk, sevalprocAttr]
          · simp only [ht2, go_sem, Rcb, Rbk, sevalprocAttr, wrap_succ j (by omega)]
          · simp only [go_sem, Rcb, Rbk, sevalprocAttr]
      · have : j = rels[i].cols.length := by omega
        subst this
        obtain ⟨rfl, hrs⟩ := hfin2 rfl
        obtain ⟨_, ta, tc, rfl, _⟩ := RS_elim (by decide) (fun _ _ => RI_len) hrs
        simp +contextual only [go_sem, Rcb, Rbk, sevalprocAttr, hlv2, ht2, hjlt, e6]
        intro b7 hb7
        refine app_acc (Tryz.underlying58) row58 okt58 (Acc_mono (RTb_ext hM2) hacc) ⟨_, rfl, hrs⟩ (fun _ _ => RTb_len) (RTb_oneC (M := M2) ⟨_, rfl, hrs⟩) hb7 (by omega) (by decide) ?_
        intro fv' R' hacc'
        simp +contextual only [go_sem, Rcb, Rbk, sevalprocAttr, hlv2, ht2, hjlt]
        refine lp_close (Close_drop (Close_id ⟨rels.length - (i + 1), by omega, rfl, i + 1, by omega, rfl, ?_, ?_, N2, M2, R', fv', hN2, hM1.trans hM2, rfl, ?_, ?_, ?_⟩))
        · simp only [live, hlv2, go_sem, Rcb, Rbk, sevalprocAttr]
        · simp only [hlv2, go_sem, Rcb, Rbk, sevalprocAttr, wrap_succ i (by omega)]
        · simp only [go_sem, Rcb, Rbk, sevalprocAttr]
        · rw [hsucc]; exact hacc'
        · rw [hsucc, List.length_append]; simp only [List.length_cons, List.length_nil]; omega
  · have : i = rels.length := by omega
    subst this
    rw [List.take_length] at hacc hal
    simp +contextual only [go_sem, Rcb, Rbk, sevalprocAttr, hlv, ht, hlt, e3]
    exact Close_acc hacc (by omega) (by decide) hno fun M2 hM2 hno2 hrs => end_none hN1 (RS_ext Ext.rfl' (RTb_ext hM2) hrs)
def putE (e f : Int) : Int := if e = 0 then f else e
def placeI (l : List (Bs × Bs)) (tab name : Bs) : Int := match placeG tab name 0 none l with | some k => optI k | none => -1
def findR (rels : List Rel) (name : Bs) : Pl × List Co := (findG name 0 rels).getD (zeroP, [])
mutual
def exprR (names : List (Bs × Bs)) : X → Int → Ex × Int
  | .mk k v tab name kids, e => if 19 ≤ k then (.mk k zeroV 0 [], putE e 8)
    else if k = 2 then (.mk 2 zeroV (placeI names tab name) [], if placeI names tab name < 0 then putE e 7 else e)
    else if k = 1 then (.mk 1 v 0 [], e)
    else (.mk k zeroV 0 (exprsR names kids e).1, (exprsR names kids e).2)
def exprsR (names : List (Bs × Bs)) : List X → Int → List Ex × Int
  | [], e => ([], e)
  | x :: l, e => ((exprR names x e).1 :: (exprsR names l (exprR names x e).2).1, (exprsR names l (exprR names x e).2).2)
end
def argR (names : List (Bs × Bs)) (kids : List X) (e : Int) : Ex × Int := match kids with
  | [] => (zeroE, e)
  | x :: _ => exprR names x e
mutual
def exprH (names : List (Bs × Bs)) (keys : List X) : X → Int → List Ag → Ex × Int × List Ag
  | .mk k v tab name kids, e, ags => match keys.findIdx? (fun y => alikeX y (.mk k v tab name kids)) with
    | some i => (colE i, e, ags)
    | none => if 19 ≤ k then (colE (keys.length + ags.length), (argR names kids e).2, ags ++ [⟨k - 18, (argR names kids e).1⟩])
      else if k = 2 then (.mk 2 zeroV 0 [], putE e 8, ags) else if k = 1 then (.mk 1 v 0 [], e, ags)
      else (.mk k zeroV 0 (exprsH names keys kids e ags).1, (exprsH names keys kids e ags).2)
def exprsH (names : List (Bs × Bs)) (keys : List X) : List X → Int → List Ag → List Ex × Int × List Ag
  | [], e, ags => ([], e, ags)
  | x :: l, e, ags => ((exprH names keys x e ags).1 :: (exprsH names keys l (exprH names keys x e ags).2.1 (exprH names keys x e ags).2.2).1, (exprsH names keys l (exprH names keys x e ags).2.1 (exprH names keys x e ags).2.2).2)
end
end Go.Proofs.YtmccpbcbofhmlaaGreatDoor

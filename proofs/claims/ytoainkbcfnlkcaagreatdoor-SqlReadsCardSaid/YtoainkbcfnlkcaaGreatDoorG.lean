import Derived.Test.YtoainkbcfnlkcaaGreatDoorE
set_option linter.all false
namespace Go.Proofs.YtoainkbcfnlkcaaGreatDoor
open Go Vc
set_option linter.unusedSimpArgs false
set_option linter.unusedVariables false
set_option maxRecDepth 10000

theorem rCall_frzAll {F : Fi} {f : FuncId} {args : List Value} {dd : Option Nat} {s : List Vc.Item} {e : Env} {ds : List Deferred} {N : Tm} {M : Mem} {L : LL} {R : RR} (hb : bodied Tryz.prog f = true)
    (h : ∀ M', Ext M M' → heldL M' L → rCall Tryz.prog F f args dd s e ds ⟨N, M', [], R⟩ ⟨⟩) : rCall Tryz.prog F f args dd s e ds ⟨N, M, L, R⟩ ⟨⟩ :=
  rCall_close (k := fun h' => ∃ M', Ext M M' ∧ heldL M' L ∧ h' = ⟨N, M', [], R⟩) (Close_frzAll fun M' he hL => Close_id ⟨M', he, hL, rfl⟩) (by rintro h' ⟨M', he, hL, rfl⟩; exact h M' he hL) hb
def exprW (x : X) : Int := (shapeX 1 0 x).1
theorem ct_Expr {M : Mem} {x : X} {cs : List Value} (hg : Glob M) (hx : RX M x cs) : Ct Tryz.prog 88 [.agg ⟨cs⟩] M [] [] (fun r _ _ _ => r = .int .i64 (exprW x)) noPan := by
  intro T
  obtain ⟨s, rfl, h1, _⟩ := RX_form hx
  refine ct_run mx bod88 Tryz.func88 rfl (by rw [nt88]; exact Nat.le_of_ble_eq_true rfl) (dr := dr88) (by kernel_rfl) rs88 ?_
  intro hno _
  simp +contextual only [go_sem, Rcb, Rbk, sevalprocAttr, h1]
  intro b1 T1 hb1 hT1 hTb1 b4 T4 hb4 hap4 hT4 hTb4
  refine rCall_frz2 bod132 fun M1 hM1 hb1' hno1 => ?_
  have ha : At M1 b1 0 [.int .i64 x.k, .int .i64 x.v.k, .int .i64 x.v.n, st x.v.t, st x.tab, st x.name, s] := At_of hb1' _ 0 (fun i v h => by rw [Nat.zero_add]; exact h)
  refine rCall_one [] (ct_shape _ x (Nat.le_refl _) M1 T4 b1 0 b4 1 0 _ (hg.ext hM1) ha (RX_ext hM1 _ _ hx) (by omega) (by omega)) ?_ (fun _ _ _ _ _ _ h => h.elim)
  rintro r M2 L' hM2 hk2 hno2 ⟨rfl, rfl, -⟩
  simp +contextual only [go_sem, Rcb, Rbk, sevalprocAttr]
  exact end_none (hT1.trans hT4) rfl
def orE (a b : Int) : Int := if a ≠ 0 then a else b
def firstW : List Int → Int | [] => 0 | a :: l => orE a (firstW l)
abbrev RFn (f : Nat × List Value × Int) (cs : List Value) : Prop := cs = [.func (.func f.1) ⟨[]⟩ ⟨f.2.1⟩]
theorem ct_first {M : Mem} {fs : List (Nat × List Value × Int)} {sv : Value} {es : List Int} (he : (fs.map fun f => f.2.2) = es) (hs : RS M RFn 1 fs sv)
    (hf : ∀ f ∈ fs, ∀ M' T, Ext M M' → CtT Tryz.prog f.1 f.2.1 T M' [] [] (fun r _ _ _ => r = .int .i64 f.2.2) noPan) : Ct Tryz.prog 159 [sv] M [] [] (fun r _ _ _ => r = .int .i64 (firstW es)) noPan := by
  intro T
  subst he
  obtain ⟨hb, a, c, rfl, hle, _, hget⟩ := RS_elim (by decide) (fun _ _ h => by unfold RFn at h; subst h; rfl) hs
  refine ct_run mx bod159 Tryz.func159 rfl (by rw [nt159]; exact Nat.le_of_ble_eq_true rfl) (dr := dr159) (by kernel_rfl) rs159 ?_
  intro hno _
  simp +contextual only [go_sem, Rcb, Rbk, sevalprocAttr]
  refine loop_range fs.length 8 [(6, .slice a fs.length c), (7, .int .i64 fs.length)] (fun i e h => (∃ M', Ext M M' ∧ h = ⟨T, M', [], []⟩) ∧ firstW (fs.map fun f => f.2.2) = firstW ((fs.drop i).map fun f => f.2.2)) 0 (by omega) (by simp only [live, go_sem, Rcb, Rbk, sevalprocAttr]) (by simp only [go_sem, Rcb, Rbk, sevalprocAttr]) ⟨⟨M, Ext.rfl', rfl⟩, rfl⟩ ?_
  rintro i e h hi hlv ht ⟨⟨M1, hM1, rfl⟩, hres⟩
  simp only [live] at hlv
  by_cases hlt : i < fs.length
  · obtain ⟨b, o, cs, rfl, hat, hrs⟩ := hget i fs[i] (List.getElem?_eq_getElem hlt)
    unfold RFn at hrs; subst hrs
    have hx := mcell_ext hM1 hat.1
    rw [Nat.mul_one] at hx
    have hdrop : fs.drop i = fs[i] :: fs.drop (i + 1) := List.drop_eq_getElem_cons hlt
    rw [hdrop] at hres
    simp +contextual only [go_sem, Rcb, Rbk, sevalprocAttr, hlv, ht, hlt, hx]
    refine rCall_pure (hf fs[i] (List.getElem_mem hlt) M1 T hM1) ?_ (fun _ _ _ _ h => h.elim)
    rintro v M2 hM2 _ rfl
    simp only [List.map_cons, firstW, orE] at hres
    by_cases hn : fs[i].2.2 = 0
    · rw [if_neg (fun h => h hn)] at hres
      simp +contextual only [go_sem, Rcb, Rbk, sevalprocAttr, hlv, ht, hn]
      refine lp_range hlt ?_ ?_ ⟨⟨M2, hM1.trans hM2, rfl⟩, hres⟩
      · simp only [live, hlv, go_sem, Rcb, Rbk, sevalprocAttr]
      · simp only [ht, go_sem, Rcb, Rbk, sevalprocAttr, wrap_succ i (by omega)]
    · rw [if_pos hn] at hres
      simp +contextual only [go_sem, Rcb, Rbk, sevalprocAttr, hlv, ht, hn]
      refine end_none ExtT.rfl' ?_
      rw [hres]
  · have : i = fs.length := by omega
    subst this
    simp +contextual only [go_sem, Rcb, Rbk, sevalprocAttr, hlv, ht, hlt]
    refine end_none ExtT.rfl' ?_
    rw [hres]; simp [firstW]
theorem RX_atf {M : Mem} {b o : Nat} {x : X} {cs : List Value} (h : RX M x cs) (ha : At M b o cs) : ∃ s, cs = [.int .i64 x.k, .int .i64 x.v.k, .int .i64 x.v.n, st x.v.t, st x.tab, st x.name, s] ∧ s.oneCell' = true ∧ mcell M ⟨b, o, none⟩ = some (.int .i64 x.k) ∧ mcell M ⟨b, o + 1, none⟩ = some (.int .i64 x.v.k) ∧ mcell M ⟨b, o + 2, none⟩ = some (.int .i64 x.v.n) ∧ mcell M ⟨b, o + 3, none⟩ = some (st x.v.t) ∧
    mcell M ⟨b, o + 4, none⟩ = some (st x.tab) ∧ mcell M ⟨b, o + 5, none⟩ = some (st x.name) ∧ mcell M ⟨b, o + 6, none⟩ = some s := by
  obtain ⟨s, rfl, h1, hs⟩ := RX_form h
  exact ⟨s, rfl, h1, ha.1, ha.2.1, ha.2.2.1, ha.2.2.2.1, ha.2.2.2.2.1, ha.2.2.2.2.2.1, ha.2.2.2.2.2.2.1⟩
theorem RSo_at {M : Mem} {b o : Nat} {x : So} {cs : List Value} (h : RSo M x cs) (ha : At M b o cs) : mcell M ⟨b, o, none⟩ = some (.int .i64 x.k) ∧ mcell M ⟨b, o + 1, none⟩ = some (st x.name) ∧ mcell M ⟨b, o + 2, none⟩ = some (st x.as) ∧ ∃ c, RX M x.on c ∧ At M b (o + 3) c := by
  obtain ⟨c, hx, rfl⟩ := h
  rw [At_app] at ha
  exact ⟨ha.1.1, ha.1.2.1, ha.1.2.2.1, c, hx, ha.2⟩
def sourceW (i : Nat) (s : So) : Int :=
  if (¬ (decide (s.k = 1) == decide ((i : Int) = 0)) = true ∨ s.k < 1) ∨ 5 < s.k then 1 else
  if firstW [namesW [s.name], givenW s.as] ≠ 0 ∨ i = 0 then firstW [namesW [s.name], givenW s.as] else exprW s.on
theorem ct_source1 {M : Mem} {p b o : Nat} {n : Bs} (hg : Glob M) (hp : M p = some [.pointer (some ⟨b, o, none⟩)]) (hn : mcell M ⟨b, o + 1, none⟩ = some (st n)) : Ct Tryz.prog 181 [.pointer (some ⟨p, 0, none⟩)] M [] [] (fun r _ _ _ => r = .int .i64 (namesW [n])) noPan := by
  intro T
  refine ct_run mx bod181 Tryz.func181 rfl (by rw [nt181]; exact Nat.le_of_ble_eq_true rfl) (dr := dr181) (by kernel_rfl) rs181 ?_
  intro hno _
  simp +contextual only [go_sem, Rcb, Rbk, sevalprocAttr, mcell_some hp, hn]
  intro b1 hb1
  refine rCall_frz bod86 fun M1 hM1 hb1 hno1 => ?_
  have hl : RS M1 RSt 1 [n] (.slice (some ⟨b1, 0, none⟩) 1 1) := RS_lit (fun _ _ => RSt_len) hb1 (RL_strs [n]) rfl (by decide)
  refine rCall_pure (ct_names (hg.ext hM1) hl T) ?_ (fun _ _ _ _ h => h.elim)
  rintro v M2 hM2 _ rfl
  simp +contextual only [go_sem, Rcb, Rbk, sevalprocAttr]
  exact end_none ExtT.rfl' rfl
theorem ct_source2 {M : Mem} {p b o : Nat} {n : Bs} (hg : Glob M) (hp : M p = some [.pointer (some ⟨b, o, none⟩)]) (hn : mcell M ⟨b, o + 2, none⟩ = some (st n)) : Ct Tryz.prog 182 [.pointer (some ⟨p, 0, none⟩)] M [] [] (fun r _ _ _ => r = .int .i64 (givenW n)) noPan := by
  intro T
  refine ct_run mx bod182 Tryz.func182 rfl (by rw [nt182]; exact Nat.le_of_ble_eq_true rfl) (dr := dr182) (by kernel_rfl) rs182 ?_
  intro hno _
  simp +contextual only [go_sem, Rcb, Rbk, sevalprocAttr, mcell_some hp, hn]
  refine rCall_pure (ct_given n hg T) ?_ (fun _ _ _ _ h => h.elim)
  rintro v M2 hM2 _ rfl
  simp +contextual only [go_sem, Rcb, Rbk, sevalprocAttr]
  exact end_none ExtT.rfl' rfl
theorem ct_wsource {M : Mem} {b o : Nat} {x : So} {cs : List Value} (i : Nat) (hg : Glob M) (hx : RSo M x cs) (ha : At M b o cs) : Ct Tryz.prog 163 [.int .i64 (i : Int), .pointer (some ⟨b, o, none⟩)] M [] [] (fun r _ _ _ => r = .int .i64 (sourceW i x)) noPan := by
  intro T
  obtain ⟨m0, m1, m2, c, hc, hac⟩ := RSo_at hx ha
  obtain ⟨s, rfl, ho, m3, m4, m5, m6, m7, m8, m9⟩ := RX_atf hc hac
  refine ct_run mx bod163 Tryz.func163 rfl (by rw [nt163]; exact Nat.le_of_ble_eq_true rfl) (dr := dr163) (by kernel_rfl) rs163 ?_
  intro hno _
  obtain ⟨S, hS⟩ : ∃ S, S = sourceW i x := ⟨_, rfl⟩
  rw [← hS]
  unfold sourceW at hS
  simp +contextual only [go_sem, Rcb, Rbk, sevalprocAttr, m0]
  intro b1 T1 hb1 hT1 hTb1
  by_cases hk : (¬ (decide (x.k = 1) == decide ((i : Int) = 0)) = true ∨ x.k < 1) ∨ 5 < x.k
  · rw [if_pos hk] at hS ⊢
    exact end_none hT1 (by rw [hS])
  rw [if_neg hk] at hS ⊢
  intro b2 hb2 hap2
  refine rCall_frzAll bod159 fun M1 hM1 hL1 => ?_
  obtain ⟨hf2, hp1, -⟩ := hL1
  have hg1 := hg.ext hM1
  have hfs : RS M1 RFn 1 [(181, [.pointer (some ⟨b1, 0, none⟩)], namesW [x.name]), (182, [.pointer (some ⟨b1, 0, none⟩)], givenW x.as)] (.slice (some ⟨b2, 0, none⟩) 2 2) :=
    RS_lit (fun _ _ h => by unfold RFn at h; subst h; rfl) hf2 ⟨_, _, rfl, rfl, _, _, rfl, rfl, rfl⟩ rfl (by decide)
  refine rCall_pure (ct_first (es := [namesW [x.name], givenW x.as]) rfl hfs (fun f hf M' T hM' => ?_) T1) ?_ (fun _ _ _ _ h => h.elim)
  · simp only [List.mem_cons, List.not_mem_nil, or_false] at hf
    rcases hf with rfl | rfl
    · exact ct_source1 (hg1.ext hM') (hM' _ _ hp1) (mcell_ext (hM1.trans hM') m1) T
    · exact ct_source2 (hg1.ext hM') (hM' _ _ hp1) (mcell_ext (hM1.trans hM') m2) T
  rintro v M2 hM2 _ rfl
  generalize firstW [namesW [x.name], givenW x.as] = E at hS ⊢
  have h12 := hM1.trans hM2
  replace m3 := mcell_ext h12 m3
  replace m4 := mcell_ext h12 m4
  replace m5 := mcell_ext h12 m5
  replace m6 := mcell_ext h12 m6
  replace m7 := mcell_ext h12 m7
  replace m8 := mcell_ext h12 m8
  replace m9 := mcell_ext h12 m9
  have hp2 := hM2 _ _ hp1
  by_cases hE : E = 0
  · by_cases hi0 : i = 0
    · rw [if_pos (.inr hi0)] at hS
      subst hi0
      simp +contextual only [go_sem, Rcb, Rbk, sevalprocAttr, hE]
      exact end_none hT1 (by rw [hS, hE])
    · rw [if_neg (by rintro (h | h); exact h hE; exact hi0 h)] at hS
      have hi0' : ¬ (i : Int) = 0 := by omega
      simp +contextual only [go_sem, Rcb, Rbk, sevalprocAttr, hE, hi0', mcell_some hp2, m3, m4, m5, m6, m7, m8, m9]
      refine rCall_pure (ct_Expr (hg.ext h12) (RX_ext h12 _ _ hc) T1) ?_ (fun _ _ _ _ h => h.elim)
      rintro v M3 hM3 _ rfl
      simp +contextual only [go_sem, Rcb, Rbk, sevalprocAttr]
      exact end_none hT1 (by rw [hS])
  · rw [if_pos (.inl hE)] at hS
    simp +contextual only [go_sem, Rcb, Rbk, sevalprocAttr, hE]
    exact end_none hT1 (by rw [hS])
end Go.Proofs.YtoainkbcfnlkcaaGreatDoor

namespace Go.Proofs.YtoainkbcfnlkcaaGreatDoor
open Go Vc
set_option linter.unusedSimpArgs false
set_option linter.unusedVariables false
set_option maxRecDepth 10000

theorem Sub_ext {T0 T : Tm} {M M' : Mem} {L : LL} {R : RR} (h : Ext M M') : Sub ⟨T0, M, [], []⟩ ⟨T, M', L, R⟩ := by
  intro a v hv
  simp only [Sh.cell] at hv ⊢
  cases hm : mcell M a with
  | some u =>
    rw [hm] at hv
    injection hv with hv; subst hv
    rw [mcell_ext h hm]
  | none =>
    rw [hm] at hv
    simp [lcell] at hv
theorem RIt_at {M : Mem} {b o : Nat} {x : It} {cs : List Value} (h : RIt M x cs) (ha : At M b o cs) : mcell M ⟨b, o + 7, none⟩ = some (st x.as) ∧ ∃ c, RX M x.x c ∧ At M b o c := by
  obtain ⟨c, hx, rfl⟩ := h
  rw [At_app, RX_len hx] at ha
  exact ⟨ha.2.1, c, hx, ha.1⟩
theorem ct_wsel1 {M : Mem} {p q b o i : Nat} {items : List It} {iv : Value} (hg : Glob M) (hp : M p = some [.pointer (some ⟨b, o, none⟩)]) (hq : M q = some [.int .i64 (i : Int)]) (hn : mcell M ⟨b, o + 2, none⟩ = some iv) (hi : RS M (RIt M) 8 items iv) (hlt : i < items.length) :
    Ct Tryz.prog 160 [.pointer (some ⟨p, 0, none⟩), .pointer (some ⟨q, 0, none⟩)] M [] [] (fun r _ _ _ => r = .int .i64 (exprW items[i].x)) noPan := by
  intro T
  obtain ⟨hb, a, c, rfl, hle, _, hget⟩ := RS_elim (by decide) (fun _ _ => RIt_len) hi
  obtain ⟨b', o', cs, rfl, hat, hrs⟩ := hget i items[i] (List.getElem?_eq_getElem hlt)
  obtain ⟨m7, c', hx, hac⟩ := RIt_at hrs hat
  obtain ⟨s, rfl, ho, m0, m1, m2, m3, m4, m5, m6⟩ := RX_atf hx hac
  refine ct_run mx bod160 Tryz.func160 rfl (by rw [nt160]; exact Nat.le_of_ble_eq_true rfl) (dr := dr160) (by kernel_rfl) rs160 ?_
  intro hno _
  simp +contextual only [go_sem, Rcb, Rbk, sevalprocAttr]
  refine draw_all ?_
  simp +contextual only [go_sem, Rcb, Rbk, sevalprocAttr, mcell_some hp, mcell_some hq, hn, hlt, m0, m1, m2, m3, m4, m5, m6]
  refine rCall_pure (ct_Expr hg hx T) ?_ (fun _ _ _ _ h => h.elim)
  rintro v M3 hM3 _ rfl
  simp +contextual only [go_sem, Rcb, Rbk, sevalprocAttr]
  exact ⟨Sub_ext hM3, end_none ExtT.rfl' rfl⟩
theorem ct_wsel2 {M : Mem} {p q b o i : Nat} {items : List It} {iv : Value} (hg : Glob M) (hp : M p = some [.pointer (some ⟨b, o, none⟩)]) (hq : M q = some [.int .i64 (i : Int)]) (hn : mcell M ⟨b, o + 2, none⟩ = some iv) (hi : RS M (RIt M) 8 items iv) (hlt : i < items.length) :
    Ct Tryz.prog 161 [.pointer (some ⟨p, 0, none⟩), .pointer (some ⟨q, 0, none⟩)] M [] [] (fun r _ _ _ => r = .int .i64 (givenW items[i].as)) noPan := by
  intro T
  obtain ⟨hb, a, c, rfl, hle, _, hget⟩ := RS_elim (by decide) (fun _ _ => RIt_len) hi
  obtain ⟨b', o', cs, rfl, hat, hrs⟩ := hget i items[i] (List.getElem?_eq_getElem hlt)
  obtain ⟨m7, c', hx, hac⟩ := RIt_at hrs hat
  refine ct_run mx bod161 Tryz.func161 rfl (by rw [nt161]; exact Nat.le_of_ble_eq_true rfl) (dr := dr161) (by kernel_rfl) rs161 ?_
  intro hno _
  simp +contextual only [go_sem, Rcb, Rbk, sevalprocAttr]
  refine draw_all ?_
  simp +contextual only [go_sem, Rcb, Rbk, sevalprocAttr, mcell_some hp, mcell_some hq, hn, hlt, m7]
  refine rCall_pure (ct_given items[i].as hg T) ?_ (fun _ _ _ _ h => h.elim)
  rintro v M3 hM3 _ rfl
  simp +contextual only [go_sem, Rcb, Rbk, sevalprocAttr]
  exact ⟨Sub_ext hM3, end_none ExtT.rfl' rfl⟩
theorem RSe_at {M : Mem} {b o : Nat} {x : Se} {cs : List Value} (h : RSe M x cs) (ha : At M b o cs) : ∃ i f g, RS M (RIt M) 8 x.items i ∧ RS M (RSo M) 10 x.src f ∧ RS M (RX M) 7 x.group g ∧
    mcell M ⟨b, o + 1, none⟩ = some (.bool x.star) ∧ mcell M ⟨b, o + 2, none⟩ = some i ∧ mcell M ⟨b, o + 3, none⟩ = some f ∧ mcell M ⟨b, o + 4, none⟩ = some (.bool x.hasW) ∧ mcell M ⟨b, o + 5, none⟩ = some (.bool x.hasH) ∧
    (∃ c, RX M x.wh c ∧ At M b (o + 6) c) ∧ (∃ c, RX M x.hv c ∧ At M b (o + 13) c) ∧ mcell M ⟨b, o + 20, none⟩ = some g := by
  obtain ⟨i, f, w, hh, g, h1, h2, h3, h4, h5, rfl⟩ := h
  rw [At_app, At_app, At_app, RX_len h3, RX_len h4] at ha
  obtain ⟨⟨_, a1, a2, a3, a4, a5, _⟩, aw, ah, ag, _⟩ := ha
  exact ⟨i, f, g, h1, h2, h5, a1, a2, a3, a4, a5, ⟨w, h3, aw⟩, ⟨hh, h4, ah⟩, ag⟩
def itemsW : List It → Int | [] => 0 | x :: l => orE (firstW [exprW x.x, givenW x.as]) (itemsW l)
def sourcesW : Nat → List So → Int | _, [] => 0 | i, x :: l => orE (sourceW i x) (sourcesW (i + 1) l)
def exprsW : List X → Int | [] => 0 | x :: l => orE (exprW x) (exprsW l)
def selMany (x : Se) : Bool := decide (((x.src.length : Int) < 1 ∨ 4 < (x.src.length : Int)) ∨ 8 < (x.group.length : Int)) || !x.star && (decide ((x.items.length : Int) < 1) || decide (8 < (x.items.length : Int)))
def selW4 (x : Se) : Int := if x.hasH = true then exprW x.hv else 0
def selW3 (x : Se) : Int := orE (exprsW x.group) (selW4 x)
def selW2 (x : Se) : Int := orE (if x.hasW = true then exprW x.wh else 0) (selW3 x)
def selW1 (x : Se) : Int := orE (sourcesW 0 x.src) (selW2 x)
def selW (x : Se) : Int := if selMany x = true then 5 else orE (if x.star = true then 0 else itemsW x.items) (selW1 x)
theorem orE_pos {a b : Int} (h : a ≠ 0) : orE a b = a := if_pos h
theorem orE0 (b : Int) : orE 0 b = b := if_neg (fun h' => h' rfl)
theorem orE_zero {a b : Int} (h : a = 0) : orE a b = b := if_neg (fun h' => h' h)
theorem ct_wsel {M : Mem} {b o : Nat} {x : Se} {cs : List Value} (hg : Glob M) (hx : RSe M x cs) (ha : At M b o cs) : Ct Tryz.prog 131 [.pointer (some ⟨b, o, none⟩)] M [] [] (fun r _ _ _ => r = .int .i64 (selW x)) noPan := by
  intro T
  obtain ⟨iv, fv, gv, hi, hf, hgr, m1, m2, m3, m4, m5, ⟨wc, hw, haw⟩, ⟨vc, hv, hav⟩, m20⟩ := RSe_at hx ha
  have hi0 := hi
  obtain ⟨hib, ia, ic, rfl, hil, _, higet⟩ := RS_elim (by decide) (fun _ _ => RIt_len) hi
  obtain ⟨hfb, fa, fc, rfl, hfl, _, hfget⟩ := RS_elim (by decide) (fun _ _ => RSo_len) hf
  obtain ⟨hgb, ga, gc, rfl, hgl, _, hgget⟩ := RS_elim (by decide) (fun _ _ => RX_len) hgr
  obtain ⟨sw, rfl, ow, w0, w1, w2, w3, w4, w5, w6⟩ := RX_atf hw haw
  obtain ⟨sv, rfl, ov, v0, v1, v2, v3, v4, v5, v6⟩ := RX_atf hv hav
  obtain ⟨S, hS⟩ : ∃ S, S = selW x := ⟨_, rfl⟩
  rw [← hS]
  unfold selW at hS
  refine ct_run mx bod131 Tryz.func131 rfl (by rw [nt131]; exact Nat.le_of_ble_eq_true rfl) (dr := dr131) (by kernel_rfl) rs131 ?_
  intro hno _
  simp +contextual only [go_sem, sevalprocAttr, m1, m2, m3, m4, m5, m20]
  intro b1 T1 hb1 hT1 hTb1
  show rCond _ _ (.bool (selMany x)) _ _ _ _ _ _ _
  cases hmy : selMany x with
  | true =>
    rw [if_pos hmy] at hS
    simp +contextual only [go_sem, Rcb, Rbk, sevalprocAttr]
    exact end_none hT1 (by rw [hS])
  | false =>
  rw [if_neg (by rw [hmy]; exact Bool.false_ne_true)] at hS
  rw [rCond_bool, if_neg Bool.false_ne_true]
  simp +contextual only [go_sem, sevalprocAttr, hb1, m1, m2, m3, m4, m5, m20]
  refine run_cut (fun e ds h => ds = [] ∧ e 1 = .pointer (some ⟨b1, 0, none⟩) ∧ S = selW1 x ∧ ∃ N M' L, ExtT T N ∧ Ext M M' ∧ M' b1 = some [.pointer (some ⟨b, o, none⟩)] ∧ h = ⟨N, M', L, []⟩) (fun S' hS' => ?_) ?_
  · simp +contextual only [go_sem, Rcb, Rbk, sevalprocAttr]
    refine loop_rangeC x.items.length 61 [(1, .pointer (some ⟨b1, 0, none⟩)), (60, .int .i64 (x.items.length : Int))]
      (fun i e h => ∃ N M', ExtT T N ∧ Ext M M' ∧ M' b1 = some [.pointer (some ⟨b, o, none⟩)] ∧ h = ⟨N, M', [], []⟩ ∧ S = orE (if x.star = true then 0 else itemsW (x.items.drop i)) (selW1 x))
      0 (by omega) (by simp only [live, go_sem, Rcb, Rbk, sevalprocAttr]) (by simp only [go_sem, Rcb, Rbk, sevalprocAttr]) (Close_freeze fun he hb hno => Close_id ⟨T1, _, hT1, he, hb, rfl, hS⟩) ?_
    clear hS
    rintro i e h hi hlv ht ⟨N, M1, hN, hM1, hp1, rfl, hS⟩
    simp only [live] at hlv
    have n1 := mcell_ext hM1 m1
    by_cases hlt : i < x.items.length
    · cases hst : x.star with
      | true =>
        rw [if_pos hst, orE_zero rfl] at hS
        simp +contextual only [go_sem, Rcb, Rbk, sevalprocAttr, hlv, ht, hlt, mcell_some hp1, n1, hst]
        intro b3 N3 hb3 hN3 hTb3
        refine hS' _ _ _ ⟨rfl, ?_, hS, N3, M1, _, hN.trans hN3, hM1, hp1, rfl⟩
        simp only [hlv, go_sem, Rcb, Rbk, sevalprocAttr]
      | false =>
        have hdrop : x.items.drop i = x.items[i] :: x.items.drop (i + 1) := List.drop_eq_getElem_cons hlt
        rw [if_neg (by rw [hst]; exact Bool.false_ne_true), hdrop, itemsW] at hS
        simp +contextual only [go_sem, Rcb, Rbk, sevalprocAttr, hlv, ht, hlt, mcell_some hp1, n1, hst]
        intro b3 N3 hb3 hN3 hTb3 b70 hb70 hap70
        refine rCall_frzAll bod159 fun M2 hM2 hL2 => ?_
        obtain ⟨hf2, hq2, -⟩ := hL2
        have h12 := hM1.trans hM2
        have hg2 := hg.ext h12
        have hp2 := hM2 _ _ hp1
        have hi2 := RS_ext h12 (RIt_ext h12) hi0
        have hfs : RS M2 RFn 1 [(160, [.pointer (some ⟨b1, 0, none⟩), .pointer (some ⟨b3, 0, none⟩)], exprW x.items[i].x), (161, [.pointer (some ⟨b1, 0, none⟩), .pointer (some ⟨b3, 0, none⟩)], givenW x.items[i].as)] (.slice (some ⟨b70, 0, none⟩) 2 2) :=
          RS_lit (fun _ _ h => by unfold RFn at h; subst h; rfl) hf2 ⟨_, _, rfl, rfl, _, _, rfl, rfl, rfl⟩ rfl (by decide)
        refine rCall_pure (ct_first (es := [exprW x.items[i].x, givenW x.items[i].as]) rfl hfs (fun f hf M' T hM' => ?_) N3) ?_ (fun _ _ _ _ h => h.elim)
        · simp only [List.mem_cons, List.not_mem_nil, or_false] at hf
          rcases hf with rfl | rfl
          · exact ct_wsel1 (hg2.ext hM') (hM' _ _ hp2) (hM' _ _ hq2) (mcell_ext (h12.trans hM') m2) (RS_ext hM' (RIt_ext hM') hi2) hlt T
          · exact ct_wsel2 (hg2.ext hM') (hM' _ _ hp2) (hM' _ _ hq2) (mcell_ext (h12.trans hM') m2) (RS_ext hM' (RIt_ext hM') hi2) hlt T
        rintro v M3 hM3 _ rfl
        generalize firstW [exprW x.items[i].x, givenW x.items[i].as] = E at hS ⊢
        by_cases hE : E = 0
        · rw [hE, orE0] at hS
          simp +contextual only [go_sem, Rcb, Rbk, sevalprocAttr, hlv, ht, hE]
          refine lp_range hlt ?_ ?_ ⟨N3, M3, hN.trans hN3, h12.trans hM3, hM3 _ _ hp2, rfl, ?_⟩
          · simp only [live, hlv, go_sem, Rcb, Rbk, sevalprocAttr]
          · simp only [ht, go_sem, Rcb, Rbk, sevalprocAttr, wrap_succ i (by omega)]
          · exact hS
        · rw [orE_pos hE, orE_pos hE] at hS
          simp +contextual only [go_sem, Rcb, Rbk, sevalprocAttr, hlv, ht, hE]
          exact end_none (hN.trans hN3) (by rw [hS])
    · have : i = x.items.length := by omega
      subst this
      rw [List.drop_length] at hS
      have hS2 : S = selW1 x := by rw [hS]; cases x.star <;> rfl
      simp +contextual only [go_sem, Rcb, Rbk, sevalprocAttr, hlv, ht, hlt]
      refine hS' _ _ _ ⟨rfl, ?_, hS2, N, M1, [], hN, hM1, hp1, rfl⟩
      simp only [hlv, go_sem, Rcb, Rbk, sevalprocAttr]
  clear hS
  rintro e ds h ⟨rfl, e1, hS, N, M1, L1, hN, hM1, hp1, rfl⟩
  simp +contextual only [go_sem, sevalprocAttr, e1, mcell_some hp1, mcell_ext hM1 m3]
  refine run_cut (fun e ds h => ds = [] ∧ e 1 = .pointer (some ⟨b1, 0, none⟩) ∧ S = selW2 x ∧ ∃ N M', ExtT T N ∧ Ext M M' ∧ M' b1 = some [.pointer (some ⟨b, o, none⟩)] ∧ h = ⟨N, M', [], []⟩) (fun S' hS' => ?_) ?_
  · simp +contextual only [go_sem, Rcb, Rbk, sevalprocAttr, e1]
    refine loop_rangeC x.src.length 81 [(1, .pointer (some ⟨b1, 0, none⟩)), (80, .int .i64 (x.src.length : Int))]
      (fun i e h => ∃ M', Ext M M' ∧ M' b1 = some [.pointer (some ⟨b, o, none⟩)] ∧ h = ⟨N, M', [], []⟩ ∧ S = orE (sourcesW i (x.src.drop i)) (selW2 x))
      0 (by omega) (by simp only [live, e1, go_sem, Rcb, Rbk, sevalprocAttr]) (by simp only [go_sem, Rcb, Rbk, sevalprocAttr]) (Close_dropAll (Close_id ⟨M1, hM1, hp1, rfl, hS⟩)) ?_
    clear hS e1 hp1 hM1
    rintro i e h hi hlv ht ⟨M1, hM1, hp1, rfl, hS⟩
    simp only [live] at hlv
    by_cases hlt : i < x.src.length
    · obtain ⟨b', o', cs', rfl, hat, hrs⟩ := hfget i x.src[i] (List.getElem?_eq_getElem hlt)
      have hdrop : x.src.drop i = x.src[i] :: x.src.drop (i + 1) := List.drop_eq_getElem_cons hlt
      rw [hdrop, sourcesW] at hS
      simp +contextual only [go_sem, Rcb, Rbk, sevalprocAttr, hlv, ht, hlt, mcell_some hp1, mcell_ext hM1 m3]
      refine rCall_pure (ct_wsource i (hg.ext hM1) (RSo_ext hM1 _ _ hrs) (hat.ext hM1) N) ?_ (fun _ _ _ _ h => h.elim)
      rintro v M2 hM2 _ rfl
      by_cases hE : sourceW i x.src[i] = 0
      · rw [hE, orE0] at hS
        simp +contextual only [go_sem, Rcb, Rbk, sevalprocAttr, hlv, ht, hE]
        refine lp_range hlt ?_ ?_ ⟨M2, hM1.trans hM2, hM2 _ _ hp1, rfl, hS⟩
        · simp only [live, hlv, go_sem, Rcb, Rbk, sevalprocAttr]
        · simp only [ht, go_sem, Rcb, Rbk, sevalprocAttr, wrap_succ i (by omega)]
      · rw [orE_pos hE, orE_pos hE] at hS
        simp +contextual only [go_sem, Rcb, Rbk, sevalprocAttr, hlv, ht, hE]
        exact end_none hN (by rw [hS])
    · have : i = x.src.length := by omega
      subst this
      rw [List.drop_length, sourcesW, orE0] at hS
      simp +contextual only [go_sem, Rcb, Rbk, sevalprocAttr, hlv, ht, hlt]
      refine hS' _ _ _ ⟨rfl, ?_, hS, N, M1, hN, hM1, hp1, rfl⟩
      simp only [hlv, go_sem, Rcb, Rbk, sevalprocAttr]
  clear hS e1 hp1 hM1 hN
  rintro e ds h ⟨rfl, e1, hS, N, M1, hN, hM1, hp1, rfl⟩
  unfold selW2 at hS
  simp +contextual only [go_sem, sevalprocAttr, e1, mcell_some hp1, mcell_ext hM1 m4]
  refine cond_cut (fun e ds h => ds = [] ∧ e 1 = .pointer (some ⟨b1, 0, none⟩) ∧ S = selW3 x ∧ ∃ M', Ext M M' ∧ M' b1 = some [.pointer (some ⟨b, o, none⟩)] ∧ h = ⟨N, M', [], []⟩) (fun S' hS' => ?_) ?_
  · cases hW : x.hasW with
    | false =>
      rw [if_neg (by rw [hW]; exact Bool.false_ne_true), orE0] at hS
      simp +contextual only [go_sem, Rcb, Rbk, sevalprocAttr]
      refine hS' _ _ _ ⟨rfl, ?_, hS, M1, hM1, hp1, rfl⟩
      simp only [e1, go_sem, Rcb, Rbk, sevalprocAttr]
    | true =>
      rw [if_pos hW] at hS
      simp +contextual only [go_sem, Rcb, Rbk, sevalprocAttr, e1, mcell_some hp1, mcell_ext hM1 w0, mcell_ext hM1 w1, mcell_ext hM1 w2, mcell_ext hM1 w3, mcell_ext hM1 w4, mcell_ext hM1 w5, mcell_ext hM1 w6]
      refine rCall_pure (ct_Expr (hg.ext hM1) (RX_ext hM1 _ _ hw) N) ?_ (fun _ _ _ _ h => h.elim)
      rintro v M2 hM2 _ rfl
      by_cases hE : exprW x.wh = 0
      · rw [hE, orE0] at hS
        simp +contextual only [go_sem, Rcb, Rbk, sevalprocAttr, e1, hE]
        refine hS' _ _ _ ⟨rfl, ?_, hS, M2, hM1.trans hM2, hM2 _ _ hp1, rfl⟩
        simp only [e1, go_sem, Rcb, Rbk, sevalprocAttr]
      · rw [orE_pos hE] at hS
        simp +contextual only [go_sem, Rcb, Rbk, sevalprocAttr, e1, hE]
        exact end_none hN (by rw [hS])
  clear hS e1 hp1 hM1
  rintro e ds h ⟨rfl, e1, hS, M1, hM1, hp1, rfl⟩
  unfold selW3 at hS
  simp +contextual only [go_sem, sevalprocAttr, e1, mcell_some hp1, mcell_ext hM1 m20]
  refine run_cut (fun e ds h => ds = [] ∧ e 1 = .pointer (some ⟨b1, 0, none⟩) ∧ S = selW4 x ∧ ∃ N M', ExtT T N ∧ Ext M M' ∧ M' b1 = some [.pointer (some ⟨b, o, none⟩)] ∧ h = ⟨N, M', [], []⟩) (fun S' hS' => ?_) ?_
  · simp +contextual only [go_sem, Rcb, Rbk, sevalprocAttr, e1]
    refine loop_range x.group.length 113 [(1, .pointer (some ⟨b1, 0, none⟩)), (111, .slice ga x.group.length gc), (112, .int .i64 (x.group.length : Int))]
      (fun i e h => ∃ N M', ExtT T N ∧ Ext M M' ∧ M' b1 = some [.pointer (some ⟨b, o, none⟩)] ∧ h = ⟨N, M', [], []⟩ ∧ S = orE (exprsW (x.group.drop i)) (selW4 x))
      0 (by omega) (by simp only [live, e1, go_sem, Rcb, Rbk, sevalprocAttr]) (by simp only [go_sem, Rcb, Rbk, sevalprocAttr]) ⟨N, M1, hN, hM1, hp1, rfl, hS⟩ ?_
    clear hS e1 hp1 hM1 hN
    rintro i e h hi hlv ht ⟨N, M1, hN, hM1, hp1, rfl, hS⟩
    simp only [live] at hlv
    by_cases hlt : i < x.group.length
    · obtain ⟨b', o', cs', rfl, hat, hrs⟩ := hgget i x.group[i] (List.getElem?_eq_getElem hlt)
      obtain ⟨sg, rfl, og, g0, g1, g2, g3, g4, g5, g6⟩ := RX_atf hrs hat
      have hdrop : x.group.drop i = x.group[i] :: x.group.drop (i + 1) := List.drop_eq_getElem_cons hlt
      rw [hdrop, exprsW] at hS
      simp +contextual only [go_sem, Rcb, Rbk, sevalprocAttr, hlv, ht, hlt, mcell_ext hM1 g0, mcell_ext hM1 g1, mcell_ext hM1 g2, mcell_ext hM1 g3, mcell_ext hM1 g4, mcell_ext hM1 g5, mcell_ext hM1 g6, og]
      intro b9 N9 hb9 hN9 hTb9
      refine rCall_pure (ct_Expr (hg.ext hM1) (RX_ext hM1 _ _ hrs) N9) ?_ (fun _ _ _ _ h => h.elim)
      rintro v M2 hM2 _ rfl
      by_cases hE : exprW x.group[i] = 0
      · rw [hE, orE0] at hS
        simp +contextual only [go_sem, Rcb, Rbk, sevalprocAttr, hlv, ht, hE]
        rw [Run_lp]
        refine Close_drop (Close_id ⟨x.group.length - (i + 1), by omega, rfl, i + 1, by omega, rfl, ?_, ?_, N9, M2, hN.trans hN9, hM1.trans hM2, hM2 _ _ hp1, rfl, hS⟩)
        · simp only [live, hlv, go_sem, Rcb, Rbk, sevalprocAttr]
        · simp only [ht, go_sem, Rcb, Rbk, sevalprocAttr, wrap_succ i (by omega)]
      · rw [orE_pos hE, orE_pos hE] at hS
        simp +contextual only [go_sem, Rcb, Rbk, sevalprocAttr, hlv, ht, hE]
        exact end_none (hN.trans hN9) (by rw [hS])
    · have : i = x.group.length := by omega
      subst this
      rw [List.drop_length, exprsW, orE0] at hS
      simp +contextual only [go_sem, Rcb, Rbk, sevalprocAttr, hlv, ht, hlt]
      refine hS' _ _ _ ⟨rfl, ?_, hS, N, M1, hN, hM1, hp1, rfl⟩
      simp only [hlv, go_sem, Rcb, Rbk, sevalprocAttr]
  clear hS e1 hp1 hM1 hN
  rintro e ds h ⟨rfl, e1, hS, N, M1, hN, hM1, hp1, rfl⟩
  unfold selW4 at hS
  cases hH : x.hasH with
  | false =>
    rw [if_neg (by rw [hH]; exact Bool.false_ne_true)] at hS
    rw [hH] at m5
    simp +contextual only [go_sem, Rcb, Rbk, sevalprocAttr, e1, mcell_some hp1, mcell_ext hM1 m5]
    exact end_none hN (by rw [hS])
  | true =>
    rw [if_pos hH] at hS
    rw [hH] at m5
    simp +contextual only [go_sem, Rcb, Rbk, sevalprocAttr, e1, mcell_some hp1, mcell_ext hM1 m5, mcell_ext hM1 v0, mcell_ext hM1 v1, mcell_ext hM1 v2, mcell_ext hM1 v3, mcell_ext hM1 v4, mcell_ext hM1 v5, mcell_ext hM1 v6]
    refine rCall_pure (ct_Expr (hg.ext hM1) (RX_ext hM1 _ _ hv) N) ?_ (fun _ _ _ _ h => h.elim)
    rintro v M2 hM2 _ rfl
    simp +contextual only [go_sem, Rcb, Rbk, sevalprocAttr]
    exact end_none hN (by rw [hS])
end Go.Proofs.YtoainkbcfnlkcaaGreatDoor

namespace Go.Proofs.YtoainkbcfnlkcaaGreatDoor
open Go Vc
set_option linter.unusedSimpArgs false
set_option linter.unusedVariables false
set_option maxRecDepth 10000

theorem RQ_at {M : Mem} {b o : Nat} {x : Q} {cs : List Value} (h : RQ M x cs) (ha : At M b o cs) : ∃ p f g, RS M (RSe M) 21 x.parts p ∧ RS M RI 1 x.ops f ∧ RS M (RX M) 7 x.order g ∧
    mcell M ⟨b, o, none⟩ = some p ∧ mcell M ⟨b, o + 1, none⟩ = some f ∧ mcell M ⟨b, o + 2, none⟩ = some g ∧ mcell M ⟨b, o + 3, none⟩ = some (.int .i64 x.limit) := by
  obtain ⟨p, f, g, h1, h2, h3, rfl⟩ := h
  exact ⟨p, f, g, h1, h2, h3, ha.1, ha.2.1, ha.2.2.1, ha.2.2.2.1⟩
def partsW (ops : List Int) : Nat → List Se → Int
  | _, [] => 0
  | i, s :: l => if 0 < i ∧ (ops.getD (i - 1) 0 < 1 ∨ 4 < ops.getD (i - 1) 0) then 1 else orE (selW s) (partsW ops (i + 1) l)
def queryW1 (q : Q) : Int := if q.limit < 0 then 0 else exprsW q.order
def queryMany (q : Q) : Bool := decide ((((q.parts.length : Int) < 1 ∨ 4 < (q.parts.length : Int)) ∨ (q.ops.length : Int) ≠ (q.parts.length : Int) - 1) ∨ (0 ≤ q.limit ∧ ((q.order.length : Int) < 1 ∨ 8 < (q.order.length : Int))))
def queryW (q : Q) : Int := if queryMany q = true then 5 else if 50 < q.limit then 3 else orE (partsW q.ops 0 q.parts) (queryW1 q)
theorem ct_wquery {M : Mem} {b o : Nat} {x : Q} {cs : List Value} (hg : Glob M) (hx : RQ M x cs) (ha : At M b o cs) : Ct Tryz.prog 85 [.pointer (some ⟨b, o, none⟩)] M [] [] (fun r _ _ _ => r = .int .i64 (queryW x)) noPan := by
  intro T
  obtain ⟨pv, fv, gv, hp, hf, hgr, m0, m1, m2, m3⟩ := RQ_at hx ha
  obtain ⟨hpb, pa, pc, rfl, hpl, _, hpget⟩ := RS_elim (by decide) (fun _ _ => RSe_len) hp
  obtain ⟨hfb, fa, fc, rfl, hfl, _, hfget⟩ := RS_elim (by decide) (fun _ _ => RI_len) hf
  obtain ⟨hgb, ga, gc, rfl, hgl, _, hgget⟩ := RS_elim (by decide) (fun _ _ => RX_len) hgr
  have hw1 : IntKind.i64.wrap ((x.parts.length : Int) - 1) = (x.parts.length : Int) - 1 := wrap64 (by omega) (by omega)
  obtain ⟨S, hS⟩ : ∃ S, S = queryW x := ⟨_, rfl⟩
  rw [← hS]
  unfold queryW at hS
  refine ct_run mx bod85 Tryz.func85 rfl (by rw [nt85]; exact Nat.le_of_ble_eq_true rfl) (dr := dr85) (by kernel_rfl) rs85 ?_
  intro hno _
  simp +contextual only [go_sem, sevalprocAttr]
  refine draw_cut (fun e ds h => ds = [] ∧ e 0 = .pointer (some ⟨b, o, none⟩) ∧ e 58 = .bool (queryMany x) ∧ h = ⟨T, M, [], []⟩) (fun S' hS' => ?_) ?_
  · have fin : ∀ {e : Env} {t : Bool}, e 0 = .pointer (some ⟨b, o, none⟩) → e 58 = .bool t → t = queryMany x → Run Tryz.prog (fi Tryz.prog T dr85 [ResultVar.tmp 2] (keys []) 0 (fun r x x_1 x_2 => r = Value.int IntKind.i64 S) noPan) S' e [] ⟨T, M, [], []⟩ ⟨⟩ := by
      intro e t h0 h1 h2
      exact hS' _ _ _ ⟨rfl, h0, by rw [h1, h2], rfl⟩
    refine draw_all ?_
    by_cases c1 : (x.parts.length : Int) < 1
    · simp +contextual only [go_sem, sevalprocAttr, m0, m1, m2, m3, hw1, c1]
      refine fin (t := true) ?_ ?_ ?_
      · simp only [go_sem, Rcb, Rbk, sevalprocAttr]
      · simp only [go_sem, Rcb, Rbk, sevalprocAttr]
      · simp [queryMany, c1]
    by_cases c2 : 4 < (x.parts.length : Int)
    · simp +contextual only [go_sem, sevalprocAttr, m0, m1, m2, m3, hw1, c1, c2]
      refine fin (t := true) ?_ ?_ ?_
      · simp only [go_sem, Rcb, Rbk, sevalprocAttr]
      · simp only [go_sem, Rcb, Rbk, sevalprocAttr]
      · simp [queryMany, c2]
    by_cases c3 : (x.ops.length : Int) = (x.parts.length : Int) - 1
    · by_cases c4 : 0 ≤ x.limit
      · by_cases c5 : (x.order.length : Int) < 1
        · simp +contextual only [go_sem, sevalprocAttr, m0, m1, m2, m3, hw1, c1, c2, c3, c4, c5]
          refine fin (t := true) ?_ ?_ ?_
          · simp only [go_sem, Rcb, Rbk, sevalprocAttr]
          · simp only [go_sem, Rcb, Rbk, sevalprocAttr]
          · simp [queryMany, c4, c5]
        · by_cases c6 : 8 < (x.order.length : Int)
          · simp +contextual only [go_sem, sevalprocAttr, m0, m1, m2, m3, hw1, c1, c2, c3, c4, c5, c6]
            refine fin (t := true) ?_ ?_ ?_
            · simp only [go_sem, Rcb, Rbk, sevalprocAttr]
            · simp only [go_sem, Rcb, Rbk, sevalprocAttr]
            · simp [queryMany, c4, c6]
          · simp +contextual only [go_sem, sevalprocAttr, m0, m1, m2, m3, hw1, c1, c2, c3, c4, c5, c6]
            refine fin (t := false) ?_ ?_ ?_
            · simp only [go_sem, Rcb, Rbk, sevalprocAttr]
            · simp only [go_sem, Rcb, Rbk, sevalprocAttr]
            · exact (decide_eq_false (by omega)).symm
      · simp +contextual only [go_sem, sevalprocAttr, m0, m1, m2, m3, hw1, c1, c2, c3, c4]
        refine fin (t := false) ?_ ?_ ?_
        · simp only [go_sem, Rcb, Rbk, sevalprocAttr]
        · simp only [go_sem, Rcb, Rbk, sevalprocAttr]
        · exact (decide_eq_false (by omega)).symm
    · simp +contextual only [go_sem, sevalprocAttr, m0, m1, m2, m3, hw1, c1, c2, c3]
      refine fin (t := true) ?_ ?_ ?_
      · simp only [go_sem, Rcb, Rbk, sevalprocAttr]
      · simp only [go_sem, Rcb, Rbk, sevalprocAttr]
      · simp [queryMany, c3]
  rintro e ds h ⟨rfl, e0, e58, rfl⟩
  cases hm : queryMany x with
  | true =>
    rw [hm] at e58
    rw [if_pos hm] at hS
    simp +contextual only [go_sem, Rcb, Rbk, sevalprocAttr, e58]
    exact end_none ExtT.rfl' (by rw [hS])
  | false =>
  rw [hm] at e58
  rw [if_neg (by rw [hm]; exact Bool.false_ne_true)] at hS
  have hops : x.ops.length + 1 = x.parts.length := by
    have := of_decide_eq_false hm
    omega
  by_cases h50 : 50 < x.limit
  · rw [if_pos h50] at hS
    simp +contextual only [go_sem, Rcb, Rbk, sevalprocAttr, e0, e58, m3, h50]
    exact end_none ExtT.rfl' (by rw [hS])
  rw [if_neg h50] at hS
  simp +contextual only [go_sem, sevalprocAttr, e0, e58]
  rw [rCond_bool, if_neg Bool.false_ne_true]
  simp +contextual only [go_sem, sevalprocAttr, e0, m3, h50]
  rw [rCond_bool, if_neg Bool.false_ne_true]
  simp +contextual only [go_sem, sevalprocAttr, e0, m0]
  refine run_cut (fun e ds h => ds = [] ∧ e 0 = .pointer (some ⟨b, o, none⟩) ∧ S = queryW1 x ∧ ∃ M', Ext M M' ∧ h = ⟨T, M', [], []⟩) (fun S' hS' => ?_) ?_
  · simp +contextual only [go_sem, Rcb, Rbk, sevalprocAttr, e0]
    refine loop_range x.parts.length 69 [(0, .pointer (some ⟨b, o, none⟩)), (68, .int .i64 (x.parts.length : Int))]
      (fun i e h => ∃ M', Ext M M' ∧ h = ⟨T, M', [], []⟩ ∧ S = orE (partsW x.ops i (x.parts.drop i)) (queryW1 x))
      0 (by omega) (by simp only [live, e0, go_sem, Rcb, Rbk, sevalprocAttr]) (by simp only [go_sem, Rcb, Rbk, sevalprocAttr]) ⟨M, Ext.rfl', rfl, hS⟩ ?_
    clear hS e0 e58
    rintro i e h hi hlv ht ⟨M1, hM1, rfl, hS⟩
    simp only [live] at hlv
    have n0 := mcell_ext hM1 m0
    have n1 := mcell_ext hM1 m1
    by_cases hlt : i < x.parts.length
    · obtain ⟨b', o', cs', rfl, hat, hrs⟩ := hpget i x.parts[i] (List.getElem?_eq_getElem hlt)
      have hdrop : x.parts.drop i = x.parts[i] :: x.parts.drop (i + 1) := List.drop_eq_getElem_cons hlt
      rw [hdrop, partsW] at hS
      have key : ¬ (0 < i ∧ (x.ops.getD (i - 1) 0 < 1 ∨ 4 < x.ops.getD (i - 1) 0)) → S = orE (orE (selW x.parts[i]) (partsW x.ops (i + 1) (x.parts.drop (i + 1)))) (queryW1 x) := fun h => by rw [hS, if_neg h]
      by_cases hz : i = 0
      · have hz' : ¬ (0 : Int) < (i : Int) := by omega
        replace hS := key (fun h => by omega)
        clear key
        simp +contextual only [go_sem, Rcb, Rbk, sevalprocAttr, hlv, ht, hlt, hz', n0]
        refine rCall_pure (ct_wsel (hg.ext hM1) (RSe_ext hM1 _ _ hrs) (hat.ext hM1) T) ?_ (fun _ _ _ _ h => h.elim)
        rintro v M2 hM2 _ rfl
        by_cases hE : selW x.parts[i] = 0
        · rw [hE, orE0] at hS
          simp +contextual only [go_sem, Rcb, Rbk, sevalprocAttr, hlv, ht, hE]
          refine lp_range hlt ?_ ?_ ⟨M2, hM1.trans hM2, rfl, hS⟩
          · simp only [live, hlv, go_sem, Rcb, Rbk, sevalprocAttr]
          · simp only [ht, go_sem, Rcb, Rbk, sevalprocAttr, wrap_succ i (by omega)]
        · rw [orE_pos hE, orE_pos hE] at hS
          simp +contextual only [go_sem, Rcb, Rbk, sevalprocAttr, hlv, ht, hE]
          exact end_none ExtT.rfl' (by rw [hS])
      · have hz' : (0 : Int) < (i : Int) := by omega
        have hil : i - 1 < x.ops.length := by omega
        obtain ⟨bo, oo, co, rfl, hato, hro⟩ := hfget (i - 1) x.ops[i - 1] (List.getElem?_eq_getElem hil)
        unfold RI at hro; subst hro
        have hx := mcell_ext hM1 hato.1
        rw [Nat.mul_one] at hx
        have hgd : x.ops.getD (i - 1) 0 = x.ops[i - 1] := by simp [List.getD, List.getElem?_eq_getElem hil]
        have hwi : IntKind.i64.wrap ((i : Int) - 1) = ((i - 1 : Nat) : Int) := by rw [wrap64 (by omega) (by omega)]; omega
        rw [hgd] at hS key
        by_cases c1 : x.ops[i - 1] < 1
        · rw [if_pos ⟨by omega, .inl c1⟩, orE_pos (by decide)] at hS
          simp +contextual only [go_sem, Rcb, Rbk, sevalprocAttr, hlv, ht, hlt, hz', n0, n1, hwi, hil, hx, c1]
          exact end_none ExtT.rfl' (by rw [hS])
        · by_cases c2 : 4 < x.ops[i - 1]
          · rw [if_pos ⟨by omega, .inr c2⟩, orE_pos (by decide)] at hS
            simp +contextual only [go_sem, Rcb, Rbk, sevalprocAttr, hlv, ht, hlt, hz', n0, n1, hwi, hil, hx, c1, c2]
            exact end_none ExtT.rfl' (by rw [hS])
          · replace hS := key (fun h => by rcases h.2 with h | h; exact c1 h; exact c2 h)
            clear key
            simp +contextual only [go_sem, Rcb, Rbk, sevalprocAttr, hlv, ht, hlt, hz', n0, n1, hwi, hil, hx, c1, c2]
            refine rCall_pure (ct_wsel (hg.ext hM1) (RSe_ext hM1 _ _ hrs) (hat.ext hM1) T) ?_ (fun _ _ _ _ h => h.elim)
            rintro v M2 hM2 _ rfl
            by_cases hE : selW x.parts[i] = 0
            · rw [hE, orE0] at hS
              simp +contextual only [go_sem, Rcb, Rbk, sevalprocAttr, hlv, ht, hE]
              refine lp_range hlt ?_ ?_ ⟨M2, hM1.trans hM2, rfl, hS⟩
              · simp only [live, hlv, go_sem, Rcb, Rbk, sevalprocAttr]
              · simp only [ht, go_sem, Rcb, Rbk, sevalprocAttr, wrap_succ i (by omega)]
            · rw [orE_pos hE, orE_pos hE] at hS
              simp +contextual only [go_sem, Rcb, Rbk, sevalprocAttr, hlv, ht, hE]
              exact end_none ExtT.rfl' (by rw [hS])
    · have : i = x.parts.length := by omega
      subst this
      rw [List.drop_length, partsW, orE0] at hS
      simp +contextual only [go_sem, Rcb, Rbk, sevalprocAttr, hlv, ht, hlt]
      refine hS' _ _ _ ⟨rfl, ?_, hS, M1, hM1, rfl⟩
      simp only [hlv, go_sem, Rcb, Rbk, sevalprocAttr]
  clear hS e0 e58
  rintro e ds h ⟨rfl, e0, hS, M1, hM1, rfl⟩
  unfold queryW1 at hS
  simp +contextual only [go_sem, sevalprocAttr, e0, mcell_ext hM1 m2]
  refine run_cut (fun e ds h => ds = [] ∧ S = 0 ∧ ∃ N M' L, ExtT T N ∧ h = ⟨N, M', L, []⟩) (fun S' hS' => ?_) ?_
  · simp +contextual only [go_sem, Rcb, Rbk, sevalprocAttr, e0]
    refine loop_range x.order.length 112 [(0, .pointer (some ⟨b, o, none⟩)), (110, .slice ga x.order.length gc), (111, .int .i64 (x.order.length : Int))]
      (fun i e h => ∃ N M', ExtT T N ∧ Ext M M' ∧ h = ⟨N, M', [], []⟩ ∧ S = (if x.limit < 0 then 0 else exprsW (x.order.drop i)))
      0 (by omega) (by simp only [live, e0, go_sem, Rcb, Rbk, sevalprocAttr]) (by simp only [go_sem, Rcb, Rbk, sevalprocAttr]) ⟨T, M1, ExtT.rfl', hM1, rfl, hS⟩ ?_
    clear hS e0 hM1
    rintro i e h hi hlv ht ⟨N, M1, hN, hM1, rfl, hS⟩
    simp only [live] at hlv
    by_cases hlt : i < x.order.length
    · obtain ⟨b', o', cs', rfl, hat, hrs⟩ := hgget i x.order[i] (List.getElem?_eq_getElem hlt)
      obtain ⟨sg, rfl, og, g0, g1, g2, g3, g4, g5, g6⟩ := RX_atf hrs hat
      have hdrop : x.order.drop i = x.order[i] :: x.order.drop (i + 1) := List.drop_eq_getElem_cons hlt
      by_cases hlim : x.limit < 0
      · rw [if_pos hlim] at hS
        simp +contextual only [go_sem, Rcb, Rbk, sevalprocAttr, hlv, ht, hlt, mcell_ext hM1 m3, mcell_ext hM1 g0, mcell_ext hM1 g1, mcell_ext hM1 g2, mcell_ext hM1 g3, mcell_ext hM1 g4, mcell_ext hM1 g5, mcell_ext hM1 g6, og, hlim]
        intro b9 N9 hb9 hN9 hTb9
        exact hS' _ _ _ ⟨rfl, hS, N9, M1, _, hN.trans hN9, rfl⟩
      rw [if_neg hlim, hdrop, exprsW] at hS
      simp +contextual only [go_sem, Rcb, Rbk, sevalprocAttr, hlv, ht, hlt, mcell_ext hM1 m3, mcell_ext hM1 g0, mcell_ext hM1 g1, mcell_ext hM1 g2, mcell_ext hM1 g3, mcell_ext hM1 g4, mcell_ext hM1 g5, mcell_ext hM1 g6, og, hlim]
      intro b9 N9 hb9 hN9 hTb9
      refine rCall_pure (ct_Expr (hg.ext hM1) (RX_ext hM1 _ _ hrs) N9) ?_ (fun _ _ _ _ h => h.elim)
      rintro v M2 hM2 _ rfl
      by_cases hE : exprW x.order[i] = 0
      · rw [hE, orE0] at hS
        simp +contextual only [go_sem, Rcb, Rbk, sevalprocAttr, hlv, ht, hE]
        rw [Run_lp]
        refine Close_drop (Close_id ⟨x.order.length - (i + 1), by omega, rfl, i + 1, by omega, rfl, ?_, ?_, N9, M2, hN.trans hN9, hM1.trans hM2, rfl, by rw [if_neg hlim]; exact hS⟩)
        · simp only [live, hlv, go_sem, Rcb, Rbk, sevalprocAttr]
        · simp only [ht, go_sem, Rcb, Rbk, sevalprocAttr, wrap_succ i (by omega)]
      · rw [orE_pos hE] at hS
        simp +contextual only [go_sem, Rcb, Rbk, sevalprocAttr, hlv, ht, hE]
        exact end_none (hN.trans hN9) (by rw [hS])
    · have : i = x.order.length := by omega
      subst this
      rw [List.drop_length, exprsW, ite_self] at hS
      simp +contextual only [go_sem, Rcb, Rbk, sevalprocAttr, hlv, ht, hlt]
      exact hS' _ _ _ ⟨rfl, hS, N, M1, [], hN, rfl⟩
  rintro e ds h ⟨rfl, hS, N, M2, L, hN, rfl⟩
  simp +contextual only [go_sem, Rcb, Rbk, sevalprocAttr]
  exact end_none hN (by rw [hS])
end Go.Proofs.YtoainkbcfnlkcaaGreatDoor

namespace Go.Proofs.YtoainkbcfnlkcaaGreatDoor
open Go Vc
set_option linter.unusedSimpArgs false
set_option linter.unusedVariables false
set_option maxRecDepth 10000

theorem RStm_at {M : Mem} {b o : Nat} {x : Stm} {cs : List Value} (h : RStm M x cs) (ha : At M b o cs) : ∃ c r, RS M RCo 2 x.cols c ∧ RS M (RVs M) 1 x.rows r ∧
    mcell M ⟨b, o, none⟩ = some (.int .i64 x.k) ∧ mcell M ⟨b, o + 1, none⟩ = some (st x.name) ∧ mcell M ⟨b, o + 2, none⟩ = some c ∧ (∃ q, RQ M x.q q ∧ At M b (o + 3) q) ∧
    mcell M ⟨b, o + 7, none⟩ = some r ∧ mcell M ⟨b, o + 8, none⟩ = some (.bool x.hasW) ∧ ∃ w, RX M x.wh w ∧ At M b (o + 9) w := by
  obtain ⟨c, q, r, w, h1, h2, h3, h4, rfl⟩ := h
  rw [At_app, At_app, At_app, RQ_len h2] at ha
  obtain ⟨⟨a0, a1, a2, _⟩, aq, ⟨a7, a8, _⟩, aw⟩ := ha
  exact ⟨c, r, h1, h3, a0, a1, a2, ⟨q, h2, aq⟩, a7, a8, w, h4, aw⟩
def colsW : List Co → Int | [] => 0 | c :: l => orE (namesW [c.name]) (if c.ty < 2 ∨ 4 < c.ty then 1 else colsW l)
def valsW : List V → Int | [] => 0 | v :: l => orE (wrongV v) (valsW l)
def rowsW : List (List V) → Int | [] => 0 | r :: l => if (r.length : Int) < 1 ∨ 8 < (r.length : Int) then 5 else orE (valsW r) (rowsW l)
def stmtW (s : Stm) : Int :=
  if s.k < 1 ∨ 5 < s.k then 1 else if s.k = 5 then queryW s.q else orE (namesW [s.name]) (
    if s.k = 2 then queryW s.q
    else if s.k = 1 then (if (s.cols.length : Int) < 1 ∨ 8 < (s.cols.length : Int) then 5 else colsW s.cols)
    else if s.k = 3 then (if (s.rows.length : Int) < 1 ∨ 400 < (s.rows.length : Int) then 5 else rowsW s.rows)
    else if s.k = 4 then (if s.hasW = true then exprW s.wh else 0) else 0)
theorem ct_wstmt {M : Mem} {b o : Nat} {x : Stm} {cs : List Value} (hg : Glob M) (hx : RStm M x cs) (ha : At M b o cs) : Ct Tryz.prog 52 [.pointer (some ⟨b, o, none⟩)] M [] [] (fun r _ _ _ => r = .int .i64 (stmtW x)) noPan := by
  intro T
  obtain ⟨cv, rv, hc, hr, m0, m1, m2, ⟨qc, hq, haq⟩, m7, m8, wc, hw, haw⟩ := RStm_at hx ha
  obtain ⟨hcb, ca, cc, rfl, hcl, _, hcget⟩ := RS_elim (by decide) (fun _ _ h => by unfold RCo at h; subst h; rfl) hc
  obtain ⟨hrb, ra, rc, rfl, hrl, _, hrget⟩ := RS_elim (by decide) (fun _ _ h => by obtain ⟨_, _, rfl⟩ := h; rfl) hr
  obtain ⟨sw, rfl, ow, w0, w1, w2, w3, w4, w5, w6⟩ := RX_atf hw haw
  obtain ⟨S, hS⟩ : ∃ S, S = stmtW x := ⟨_, rfl⟩
  rw [← hS]
  unfold stmtW at hS
  refine ct_run mx bod52 Tryz.func52 rfl (by rw [nt52]; exact Nat.le_of_ble_eq_true rfl) (dr := dr52) (by kernel_rfl) rs52 ?_
  intro hno _
  by_cases k0 : x.k < 1 ∨ 5 < x.k
  · rw [if_pos k0] at hS
    simp +contextual only [go_sem, sevalprocAttr, m0]
    rw [rCond_bool]
    by_cases k1 : x.k < 1
    · simp +contextual only [go_sem, Rcb, Rbk, sevalprocAttr, k1]
      exact end_none ExtT.rfl' (by rw [hS])
    · have k2 : 5 < x.k := by omega
      simp +contextual only [go_sem, Rcb, Rbk, sevalprocAttr, k1, k2]
      exact end_none ExtT.rfl' (by rw [hS])
  rw [if_neg k0] at hS
  have k1 : ¬ x.k < 1 := fun h => k0 (.inl h)
  have k2 : ¬ 5 < x.k := fun h => k0 (.inr h)
  by_cases k5 : x.k = 5
  · rw [if_pos k5] at hS
    simp +contextual only [go_sem, Rcb, Rbk, sevalprocAttr, m0, k1, k2, k5]
    refine rCall_pure (ct_wquery hg hq haq T) ?_ (fun _ _ _ _ h => h.elim)
    rintro v M2 hM2 _ rfl
    simp +contextual only [go_sem, Rcb, Rbk, sevalprocAttr]
    exact end_none ExtT.rfl' (by rw [hS])
  rw [if_neg k5] at hS
  simp +contextual only [go_sem, Rcb, Rbk, sevalprocAttr, m0, m1, k1, k2, k5]
  intro b1 hb1
  refine rCall_frz bod86 fun M1 hM1 hb1' hno1 => ?_
  have hl : RS M1 RSt 1 [x.name] (.slice (some ⟨b1, 0, none⟩) 1 1) := RS_lit (fun _ _ => RSt_len) hb1' (RL_strs [x.name]) rfl (by decide)
  refine rCall_pure (ct_names (hg.ext hM1) hl T) ?_ (fun _ _ _ _ h => h.elim)
  rintro v M2 hM2 _ rfl
  have h12 := hM1.trans hM2
  by_cases hE : namesW [x.name] = 0
  · rw [hE, orE0] at hS
    have n0 := mcell_ext h12 m0
    by_cases c2 : x.k = 2
    · rw [if_pos c2] at hS
      simp +contextual only [go_sem, Rcb, Rbk, sevalprocAttr, hE, n0, c2]
      refine rCall_pure (ct_wquery (hg.ext h12) (RQ_ext h12 _ _ hq) (haq.ext h12) T) ?_ (fun _ _ _ _ h => h.elim)
      rintro v M3 hM3 _ rfl
      simp +contextual only [go_sem, Rcb, Rbk, sevalprocAttr]
      exact end_none ExtT.rfl' (by rw [hS])
    rw [if_neg c2] at hS
    by_cases c1 : x.k = 1
    · rw [if_pos c1] at hS
      have n2 := mcell_ext h12 m2
      by_cases cl : (x.cols.length : Int) < 1 ∨ 8 < (x.cols.length : Int)
      · rw [if_pos cl] at hS
        by_cases cl1 : (x.cols.length : Int) < 1
        · simp +contextual only [go_sem, Rcb, Rbk, sevalprocAttr, hE, n0, c1, n2, cl1]
          exact end_none ExtT.rfl' (by rw [hS])
        · have cl2 : 8 < (x.cols.length : Int) := by omega
          simp +contextual only [go_sem, Rcb, Rbk, sevalprocAttr, hE, n0, c1, n2, cl1, cl2]
          exact end_none ExtT.rfl' (by rw [hS])
      rw [if_neg cl] at hS
      have cl1 : ¬ (x.cols.length : Int) < 1 := fun h => cl (.inl h)
      have cl2 : ¬ 8 < (x.cols.length : Int) := fun h => cl (.inr h)
      simp +contextual only [go_sem, Rcb, Rbk, sevalprocAttr, hE, n0, c1, n2, cl1, cl2]
      refine loop_range x.cols.length 73 [(71, .slice ca x.cols.length cc), (72, .int .i64 (x.cols.length : Int))]
        (fun i e h => ∃ N M', ExtT T N ∧ Ext M M' ∧ h = ⟨N, M', [], []⟩ ∧ S = colsW (x.cols.drop i))
        0 (by omega) (by simp only [live, go_sem, Rcb, Rbk, sevalprocAttr]) (by simp only [go_sem, Rcb, Rbk, sevalprocAttr]) ⟨T, M2, ExtT.rfl', h12, rfl, hS⟩ ?_
      clear hS
      rintro i e h hi hlv ht ⟨N, M3, hN, hM3, rfl, hS⟩
      simp only [live] at hlv
      by_cases hlt : i < x.cols.length
      · obtain ⟨b', o', cs', rfl, hat, hrs⟩ := hcget i x.cols[i] (List.getElem?_eq_getElem hlt)
        unfold RCo at hrs; subst hrs
        have hdrop : x.cols.drop i = x.cols[i] :: x.cols.drop (i + 1) := List.drop_eq_getElem_cons hlt
        have q0 := mcell_ext hM3 hat.1
        have q1 := mcell_ext hM3 hat.2.1
        rw [hdrop, colsW] at hS
        simp +contextual only [go_sem, Rcb, Rbk, sevalprocAttr, hlv, ht, hlt, q0, q1]
        intro b5 N5 hb5 hN5 hTb5 b7 hb7 hap7
        refine rCall_frz bod86 fun M4 hM4 hb7' hno4 => ?_
        have hl : RS M4 RSt 1 [x.cols[i].name] (.slice (some ⟨b7, 0, none⟩) 1 1) := RS_lit (fun _ _ => RSt_len) hb7' (RL_strs [x.cols[i].name]) rfl (by decide)
        refine rCall_pure (ct_names (hg.ext (hM3.trans hM4)) hl N5) ?_ (fun _ _ _ _ h => h.elim)
        rintro v M5 hM5 hno5 rfl
        simp only [noneL, and_true] at hno5
        by_cases hE2 : namesW [x.cols[i].name] = 0
        · rw [hE2, orE0] at hS
          by_cases t1 : x.cols[i].ty < 2
          · rw [if_pos (.inl t1)] at hS
            simp +contextual only [go_sem, Rcb, Rbk, sevalprocAttr, hlv, ht, hE2, hno5, t1]
            exact end_none (hN.trans hN5) (by rw [hS])
          · by_cases t2 : 4 < x.cols[i].ty
            · rw [if_pos (.inr t2)] at hS
              simp +contextual only [go_sem, Rcb, Rbk, sevalprocAttr, hlv, ht, hE2, hno5, t1, t2]
              exact end_none (hN.trans hN5) (by rw [hS])
            · rw [if_neg (by omega)] at hS
              simp +contextual only [go_sem, Rcb, Rbk, sevalprocAttr, hlv, ht, hE2, hno5, t1, t2]
              rw [Run_lp]
              refine Close_drop (Close_id ⟨x.cols.length - (i + 1), by omega, rfl, i + 1, by omega, rfl, ?_, ?_, N5, M5, hN.trans hN5, (hM3.trans hM4).trans hM5, rfl, hS⟩)
              · simp only [live, hlv, go_sem, Rcb, Rbk, sevalprocAttr]
              · simp only [ht, go_sem, Rcb, Rbk, sevalprocAttr, wrap_succ i (by omega)]
        · rw [orE_pos hE2] at hS
          simp +contextual only [go_sem, Rcb, Rbk, sevalprocAttr, hlv, ht, hE2, hno5]
          exact end_none (hN.trans hN5) (by rw [hS])
      · have : i = x.cols.length := by omega
        subst this
        rw [List.drop_length, colsW] at hS
        simp +contextual only [go_sem, Rcb, Rbk, sevalprocAttr, hlv, ht, hlt]
        exact end_none hN (by rw [hS])
    rw [if_neg c1] at hS
    by_cases c3 : x.k = 3
    · rw [if_pos c3] at hS
      have n7 := mcell_ext h12 m7
      by_cases cl : (x.rows.length : Int) < 1 ∨ 400 < (x.rows.length : Int)
      · rw [if_pos cl] at hS
        by_cases cl1 : (x.rows.length : Int) < 1
        · simp +contextual only [go_sem, Rcb, Rbk, sevalprocAttr, hE, n0, c3, n7, cl1]
          exact end_none ExtT.rfl' (by rw [hS])
        · have cl2 : 400 < (x.rows.length : Int) := by omega
          simp +contextual only [go_sem, Rcb, Rbk, sevalprocAttr, hE, n0, c3, n7, cl1, cl2]
          exact end_none ExtT.rfl' (by rw [hS])
      rw [if_neg cl] at hS
      have cl1 : ¬ (x.rows.length : Int) < 1 := fun h => cl (.inl h)
      have cl2 : ¬ 400 < (x.rows.length : Int) := fun h => cl (.inr h)
      simp +contextual only [go_sem, Rcb, Rbk, sevalprocAttr, hE, n0, c3, n7, cl1, cl2]
      refine loop_range x.rows.length 114 [(112, .slice ra x.rows.length rc), (113, .int .i64 (x.rows.length : Int))]
        (fun i e h => ∃ N M', ExtT T N ∧ Ext M M' ∧ h = ⟨N, M', [], []⟩ ∧ S = rowsW (x.rows.drop i))
        0 (by omega) (by simp only [live, go_sem, Rcb, Rbk, sevalprocAttr]) (by simp only [go_sem, Rcb, Rbk, sevalprocAttr]) ⟨T, M2, ExtT.rfl', h12, rfl, hS⟩ ?_
      clear hS
      rintro i e h hi hlv ht ⟨N, M3, hN, hM3, rfl, hS⟩
      simp only [live] at hlv
      by_cases hlt : i < x.rows.length
      · obtain ⟨b', o', cs', rfl, hat, sv, hsv, rfl⟩ := hrget i x.rows[i] (List.getElem?_eq_getElem hlt)
        have hdrop : x.rows.drop i = x.rows[i] :: x.rows.drop (i + 1) := List.drop_eq_getElem_cons hlt
        have q0 := mcell_ext hM3 hat.1
        rw [Nat.mul_one] at q0
        rw [hdrop, rowsW] at hS
        obtain ⟨hvb, va, vc, rfl, hvl, _, hvget⟩ := RS_elim (by decide) (fun _ _ h => RV_len h) hsv
        by_cases rl : (x.rows[i].length : Int) < 1 ∨ 8 < (x.rows[i].length : Int)
        · rw [if_pos rl] at hS
          by_cases rl1 : (x.rows[i].length : Int) < 1
          · simp +contextual only [go_sem, Rcb, Rbk, sevalprocAttr, hlv, ht, hlt, q0, rl1]
            exact end_none hN (by rw [hS])
          · have rl2 : 8 < (x.rows[i].length : Int) := by omega
            simp +contextual only [go_sem, Rcb, Rbk, sevalprocAttr, hlv, ht, hlt, q0, rl1, rl2]
            exact end_none hN (by rw [hS])
        rw [if_neg rl] at hS
        have rl1 : ¬ (x.rows[i].length : Int) < 1 := fun h => rl (.inl h)
        have rl2 : ¬ 8 < (x.rows[i].length : Int) := fun h => rl (.inr h)
        simp +contextual only [go_sem, Rcb, Rbk, sevalprocAttr, hlv, ht, hlt, q0, rl1, rl2]
        refine loop_range x.rows[i].length 128 [(112, .slice (some ⟨b', o', none⟩) x.rows.length rc), (113, .int .i64 (x.rows.length : Int)), (114, .int .i64 (i : Int)), (126, .slice va x.rows[i].length vc), (127, .int .i64 (x.rows[i].length : Int))]
          (fun j e h => ∃ N M', ExtT T N ∧ Ext M M' ∧ h = ⟨N, M', [], []⟩ ∧ S = orE (valsW (x.rows[i].drop j)) (rowsW (x.rows.drop (i + 1))))
          0 (by omega) (by simp only [live, hlv, ht, go_sem, Rcb, Rbk, sevalprocAttr]) (by simp only [go_sem, Rcb, Rbk, sevalprocAttr]) ⟨N, M3, hN, hM3, rfl, hS⟩ ?_
        clear hS hlv ht e hN hM3 q0
        rintro j e h hj hlv htj ⟨N, M4, hN, hM4, rfl, hS⟩
        simp only [live] at hlv
        by_cases hjt : j < x.rows[i].length
        · obtain ⟨bv, ov, cv', rfl, hatv, hrv⟩ := hvget j x.rows[i][j] (List.getElem?_eq_getElem hjt)
          unfold RV V.cs at hrv; subst hrv
          have hdropj : x.rows[i].drop j = x.rows[i][j] :: x.rows[i].drop (j + 1) := List.drop_eq_getElem_cons hjt
          have q0 := mcell_ext hM4 hatv.1
          have q1 := mcell_ext hM4 hatv.2.1
          have q2 := mcell_ext hM4 hatv.2.2.1
          rw [hdropj, valsW] at hS
          simp +contextual only [go_sem, Rcb, Rbk, sevalprocAttr, hlv, htj, hjt, q0, q1, q2]
          intro b10 N10 hb10 hN10 hTb10
          refine rCall_pure (ct_vals_Wrong x.rows[i][j] M4 N10) ?_ (fun _ _ _ _ h => h.elim)
          rintro v M5 hM5 hno5 rfl
          by_cases hE2 : wrongV x.rows[i][j] = 0
          · rw [hE2, orE0] at hS
            simp +contextual only [go_sem, Rcb, Rbk, sevalprocAttr, hlv, htj, hE2]
            rw [Run_lp]
            refine Close_drop (Close_id ⟨x.rows[i].length - (j + 1), by omega, rfl, j + 1, by omega, rfl, ?_, ?_, N10, M5, hN.trans hN10, hM4.trans hM5, rfl, hS⟩)
            · simp only [live, hlv, go_sem, Rcb, Rbk, sevalprocAttr]
            · simp only [htj, go_sem, Rcb, Rbk, sevalprocAttr, wrap_succ j (by omega)]
          · rw [orE_pos hE2, orE_pos hE2] at hS
            simp +contextual only [go_sem, Rcb, Rbk, sevalprocAttr, hlv, htj, hE2]
            exact end_none (hN.trans hN10) (by rw [hS])
        · have : j = x.rows[i].length := by omega
          subst this
          rw [List.drop_length, valsW, orE0] at hS
          simp +contextual only [go_sem, Rcb, Rbk, sevalprocAttr, hlv, htj, hjt]
          refine lp_range hlt ?_ ?_ ⟨N, M4, hN, hM4, rfl, hS⟩
          · simp only [live, hlv, go_sem, Rcb, Rbk, sevalprocAttr]
          · simp only [hlv, go_sem, Rcb, Rbk, sevalprocAttr, wrap_succ i (by omega)]
      · have : i = x.rows.length := by omega
        subst this
        rw [List.drop_length, rowsW] at hS
        simp +contextual only [go_sem, Rcb, Rbk, sevalprocAttr, hlv, ht, hlt]
        exact end_none hN (by rw [hS])
    rw [if_neg c3] at hS
    by_cases c4 : x.k = 4
    · rw [if_pos c4] at hS
      cases hW : x.hasW with
      | true =>
        rw [if_pos hW] at hS
        rw [hW] at m8
        simp +contextual only [go_sem, Rcb, Rbk, sevalprocAttr, hE, n0, c2, c1, c3, c4, mcell_ext h12 m8, mcell_ext h12 w0, mcell_ext h12 w1, mcell_ext h12 w2, mcell_ext h12 w3, mcell_ext h12 w4, mcell_ext h12 w5, mcell_ext h12 w6]
        refine rCall_pure (ct_Expr (hg.ext h12) (RX_ext h12 _ _ hw) T) ?_ (fun _ _ _ _ h => h.elim)
        rintro v M3 hM3 _ rfl
        simp +contextual only [go_sem, Rcb, Rbk, sevalprocAttr]
        exact end_none ExtT.rfl' (by rw [hS])
      | false =>
        rw [if_neg (by rw [hW]; exact Bool.false_ne_true)] at hS
        rw [hW] at m8
        simp +contextual only [go_sem, Rcb, Rbk, sevalprocAttr, hE, n0, c2, c1, c3, c4, mcell_ext h12 m8]
        exact end_none ExtT.rfl' (by rw [hS])
    · rw [if_neg c4] at hS
      simp +contextual only [go_sem, Rcb, Rbk, sevalprocAttr, hE, n0, c2, c1, c3, c4]
      exact end_none ExtT.rfl' (by rw [hS])
  · rw [orE_pos hE] at hS
    simp +contextual only [go_sem, Rcb, Rbk, sevalprocAttr, hE]
    exact end_none ExtT.rfl' (by rw [hS])
def wrongL : Nat → List Stm → Int × Nat | _, [] => (0, 0) | i, s :: l => if stmtW s ≠ 0 then (stmtW s, i) else wrongL (i + 1) l
def wrongS (l : List Stm) : Int × Nat := if 60 < (l.length : Int) then (5, 0) else wrongL 0 l
theorem ct_Wrong {M : Mem} {l : List Stm} {sv : Value} (hg : Glob M) (hs : RS M (RStm M) 16 l sv) : Ct Tryz.prog 19 [sv] M [] [] (fun r _ _ _ => r = flt (wrongS l).1 ((wrongS l).2 : Int)) noPan := by
  intro T
  obtain ⟨hb, a, c, rfl, hle, _, hget⟩ := RS_elim (by decide) (fun _ _ => RStm_len) hs
  obtain ⟨S, hS⟩ : ∃ S, S = wrongS l := ⟨_, rfl⟩
  rw [← hS]
  unfold wrongS at hS
  refine ct_run mx bod19 Tryz.func19 rfl (by rw [nt19]; exact Nat.le_of_ble_eq_true rfl) (dr := dr19) (by kernel_rfl) rs19 ?_
  intro hno _
  simp +contextual only [go_sem, Rcb, Rbk, sevalprocAttr]
  intro b2 T2 hb2 hT2 hTb2
  by_cases h60 : 60 < (l.length : Int)
  · rw [if_pos h60] at hS
    simp +contextual only [go_sem, Rcb, Rbk, sevalprocAttr, h60, hb2]
    exact end_none hT2 (by rw [hS]; rfl)
  rw [if_neg h60] at hS
  simp +contextual only [go_sem, Rcb, Rbk, sevalprocAttr, h60, hb2]
  refine loop_range l.length 11 [(0, .slice a l.length c), (2, .pointer (some ⟨b2, 0, none⟩)), (10, .int .i64 l.length)] (fun i e h => ∃ M', Ext M M' ∧ M' b2 = none ∧ h = ⟨T2, M', [(b2, [.int .i64 0, .int .i64 0])], []⟩ ∧ S = wrongL i (l.drop i)) 0 (by omega) (by simp only [live, go_sem, Rcb, Rbk, sevalprocAttr]) (by simp only [go_sem, Rcb, Rbk, sevalprocAttr]) ⟨M, Ext.rfl', hb2, rfl, hS⟩ ?_
  clear hS
  rintro i e h hi hlv ht ⟨M1, hM1, n2, rfl, hS⟩
  simp only [live] at hlv
  by_cases hlt : i < l.length
  · obtain ⟨b, o, cs, rfl, hat, hrs⟩ := hget i l[i] (List.getElem?_eq_getElem hlt)
    have hdrop : l.drop i = l[i] :: l.drop (i + 1) := List.drop_eq_getElem_cons hlt
    rw [hdrop, wrongL] at hS
    simp +contextual only [go_sem, Rcb, Rbk, sevalprocAttr, hlv, ht, hlt]
    refine rCall_pure (ct_wstmt (hg.ext hM1) (RStm_ext hM1 _ _ hrs) (hat.ext hM1) T2) ?_ (fun _ _ _ _ h => h.elim)
    rintro v M2 hM2 hno2 rfl
    simp only [noneL, and_true] at hno2
    by_cases hE : stmtW l[i] = 0
    · rw [if_neg (fun h => h hE)] at hS
      simp +contextual only [go_sem, Rcb, Rbk, sevalprocAttr, hlv, ht, hE]
      refine lp_range hlt ?_ ?_ ⟨M2, hM1.trans hM2, hno2, rfl, hS⟩
      · simp only [live, hlv, go_sem, Rcb, Rbk, sevalprocAttr]
      · simp only [ht, go_sem, Rcb, Rbk, sevalprocAttr, wrap_succ i (by omega)]
    · rw [if_pos hE] at hS
      simp +contextual only [go_sem, Rcb, Rbk, sevalprocAttr, hlv, ht, hE, hno2]
      exact end_none hT2 (by rw [hS]; rfl)
  · have : i = l.length := by omega
    subst this
    rw [List.drop_length, wrongL] at hS
    simp +contextual only [go_sem, Rcb, Rbk, sevalprocAttr, hlv, ht, hlt, n2]
    exact end_none hT2 (by rw [hS]; rfl)
end Go.Proofs.YtoainkbcfnlkcaaGreatDoor


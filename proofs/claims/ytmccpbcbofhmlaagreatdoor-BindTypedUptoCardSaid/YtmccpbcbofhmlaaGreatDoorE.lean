import Derived.Test.YtmccpbcbofhmlaaGreatDoorD
import Derived.Test.YtmccpbcbofhmlaaGreatDoorC
import Derived.Shelf.Strings.Builder1
import Derived.Shelf.Strings.Builder2
import Derived.Shelf.Small.Strs
import Derived.Shelf.Strconv.Itoa0
import Derived.Shelf.Strconv.Itoa1
import Derived.Shelf.LaysM
import Derived.Shelf.Strconv.Itoa2
import Derived.Shelf.Strconv.Itoa3
import Derived.Shelf.Strconv.Itoa4
import Derived.Shelf.Strconv.ParseIntEmpty
import Derived.Shelf.Strconv.Clone
import Derived.Shelf.Strconv.SyntaxError
import Derived.Shelf.LaysC
import Derived.Shelf.Strconv.ToError
import Derived.Shelf.Strconv.Lower
import Derived.Shelf.Strconv.ParseUint10
import Derived.Shelf.Strconv.ParseUint10Empty
import Derived.Shelf.Strconv.ParseUint10Any
import Derived.Shelf.Strconv.ParseInt10
import Derived.Shelf.Strconv.RangeError
import Derived.Shelf.Strconv.ToErrorRange
import Derived.Shelf.Strconv.ParseUintEmpty
import Derived.Shelf.Strconv.ParseUint10b64
import Derived.Shelf.Strconv.ParseUint10b32
import Derived.Shelf.Strconv.ParseUint10b16
import Derived.Shelf.Strconv.ParseUint10b8
import Derived.Shelf.Strconv.ParseUint10At
import Derived.Shelf.Strconv.ParseInt10At64
import Derived.Shelf.Strconv.ParseInt10At32
import Derived.Shelf.Strconv.ParseInt10At16
import Derived.Shelf.Strconv.ParseInt10At8
import Derived.Shelf.Strconv.ParseInt10All
import Derived.Shelf.Strconv.ParseIntPublic10
import Derived.Shelf.Strings.Search1
import Derived.Shelf.Strings.Search2
import Derived.Shelf.Strings.Search3
import Derived.Shelf.Strings.Count
import Derived.Shelf.Strings.Shaped
import Derived.Shelf.Strings.Prefix
import Derived.Shelf.Strings.Split
import Derived.Shelf.Strings.Fields
import Derived.Shelf.Strings.Replace
import Derived.Shelf.Unicode.Latin
import Derived.Shelf.Unicode.DecodeSlow
import Derived.Shelf.Unicode.Is16White
import Derived.Shelf.Unicode.IsSpaceAny
import Derived.Shelf.Unicode.Is16Any
import Derived.Shelf.Unicode.Is32Any
import Derived.Shelf.Unicode.ExclAny
import Derived.Test.YtmccpbcbofhmlaaGreatDoorProg
import Derived.Lib.ItoaLen
import Derived.Test.YtmccpbcbofhmlaaGreatDoorB
set_option linter.all false
namespace Go.Proofs.YtmccpbcbofhmlaaGreatDoor
open Go Vc
set_option maxRecDepth 10000
theorem Sub_ext {T0 T : Tm} {M M' : Mem} {L : LL} {R : RR} (h : Ext M M') : Sub ⟨T0, M, [], []⟩ ⟨T, M', L, R⟩ := by
  intro a v hv
  simp only [Sh.cell] at hv ⊢
  cases hm : mcell M a with
  | some u =>
    rw [hm] at hv
    injection hv with hv; subst hv
    rw [mcell_ext h hm]
  | none =>
    rw [hm] at hv
    simp [lcell] at hv
theorem RIt_at {M : Mem} {b o : Nat} {x : It} {cs : List Value} (h : RIt M x cs) (ha : At M b o cs) : mcell M ⟨b, o + 7, none⟩ = some (st x.as) ∧ ∃ c, RX M x.x c ∧ At M b o c := by
  obtain ⟨c, hx, rfl⟩ := h
  rw [At_app, RX_len hx] at ha
  exact ⟨ha.2.1, c, hx, ha.1⟩
theorem ct_wsel1 {M : Mem} {p q b o i : Nat} {items : List It} {iv : Value} (hg : Glob M) (hp : M p = some [.pointer (some ⟨b, o, none⟩)]) (hq : M q = some [.int .i64 (i : Int)]) (hn : mcell M ⟨b, o + 2, none⟩ = some iv) (hi : RS M (RIt M) 8 items iv) (hlt : i < items.length) :
    Ct Tryz.prog 229 [.pointer (some ⟨p, 0, none⟩), .pointer (some ⟨q, 0, none⟩)] M [] [] (fun r _ _ _ => r = .int .i64 (exprW items[i].x)) noPan := by
  intro T
  obtain ⟨hb, a, c, rfl, hle, _, hget⟩ := RS_elim (by decide) (fun _ _ => RIt_len) hi
  obtain ⟨b', o', cs, rfl, hat, hrs⟩ := hget i items[i] (List.getElem?_eq_getElem hlt)
  obtain ⟨m7, c', hx, hac⟩ := RIt_at hrs hat
  obtain ⟨s, rfl, ho, m0, m1, m2, m3, m4, m5, m6⟩ := RX_atf hx hac
  refine ct_run mx bod229 Tryz.func229 rfl (by rw [nt229]; exact Nat.le_of_ble_eq_true rfl) (dr := dr229) (by kernel_rfl) rs229 ?_
  intro hno _
  simp +contextual only [go_sem, Rcb, Rbk, sevalprocAttr]
  refine draw_all ?_
  simp +contextual only [go_sem, Rcb, Rbk, sevalprocAttr, mcell_some hp, mcell_some hq, hn, hlt, m0, m1, m2, m3, m4, m5, m6]
  refine rCall_pure (ct_Expr hg hx T) ?_ (fun _ _ _ _ h => h.elim)
  rintro v M3 hM3 _ rfl
  simp +contextual only [go_sem, Rcb, Rbk, sevalprocAttr]
  exact ⟨Sub_ext hM3, end_none ExtT.rfl' rfl⟩
theorem ct_wsel2 {M : Mem} {p q b o i : Nat} {items : List It} {iv : Value} (hg : Glob M) (hp : M p = some [.pointer (some ⟨b, o, none⟩)]) (hq : M q = some [.int .i64 (i : Int)]) (hn : mcell M ⟨b, o + 2, none⟩ = some iv) (hi : RS M (RIt M) 8 items iv) (hlt : i < items.length) :
    Ct Tryz.prog 230 [.pointer (some ⟨p, 0, none⟩), .pointer (some ⟨q, 0, none⟩)] M [] [] (fun r _ _ _ => r = .int .i64 (givenW items[i].as)) noPan := by
  intro T
  obtain ⟨hb, a, c, rfl, hle, _, hget⟩ := RS_elim (by decide) (fun _ _ => RIt_len) hi
  obtain ⟨b', o', cs, rfl, hat, hrs⟩ := hget i items[i] (List.getElem?_eq_getElem hlt)
  obtain ⟨m7, c', hx, hac⟩ := RIt_at hrs hat
  refine ct_run mx bod230 Tryz.func230 rfl (by rw [nt230]; exact Nat.le_of_ble_eq_true rfl) (dr := dr230) (by kernel_rfl) rs230 ?_
  intro hno _
  simp +contextual only [go_sem, Rcb, Rbk, sevalprocAttr]
  refine draw_all ?_
  simp +contextual only [go_sem, Rcb, Rbk, sevalprocAttr, mcell_some hp, mcell_some hq, hn, hlt, m7]
  refine rCall_pure (ct_given items[i].as hg T) ?_ (fun _ _ _ _ h => h.elim)
  rintro v M3 hM3 _ rfl
  simp +contextual only [go_sem, Rcb, Rbk, sevalprocAttr]
  exact ⟨Sub_ext hM3, end_none ExtT.rfl' rfl⟩
theorem RSe_at {M : Mem} {b o : Nat} {x : Se} {cs : List Value} (h : RSe M x cs) (ha : At M b o cs) : ∃ i f g, RS M (RIt M) 8 x.items i ∧ RS M (RSo M) 10 x.src f ∧ RS M (RX M) 7 x.group g ∧
    mcell M ⟨b, o + 1, none⟩ = some (.bool x.star) ∧ mcell M ⟨b, o + 2, none⟩ = some i ∧ mcell M ⟨b, o + 3, none⟩ = some f ∧ mcell M ⟨b, o + 4, none⟩ = some (.bool x.hasW) ∧ mcell M ⟨b, o + 5, none⟩ = some (.bool x.hasH) ∧
    (∃ c, RX M x.wh c ∧ At M b (o + 6) c) ∧ (∃ c, RX M x.hv c ∧ At M b (o + 13) c) ∧ mcell M ⟨b, o + 20, none⟩ = some g := by
  obtain ⟨i, f, w, hh, g, h1, h2, h3, h4, h5, rfl⟩ := h
  rw [At_app, At_app, At_app, RX_len h3, RX_len h4] at ha
  obtain ⟨⟨_, a1, a2, a3, a4, a5, _⟩, aw, ah, ag, _⟩ := ha
  exact ⟨i, f, g, h1, h2, h5, a1, a2, a3, a4, a5, ⟨w, h3, aw⟩, ⟨hh, h4, ah⟩, ag⟩
def itemsW : List It → Int | [] => 0 | x :: l => orE (firstW [exprW x.x, givenW x.as]) (itemsW l)
def sourcesW : Nat → List So → Int | _, [] => 0 | i, x :: l => orE (sourceW i x) (sourcesW (i + 1) l)
def exprsW : List X → Int | [] => 0 | x :: l => orE (exprW x) (exprsW l)
def selMany (x : Se) : Bool := decide (((x.src.length : Int) < 1 ∨ 4 < (x.src.length : Int)) ∨ 8 < (x.group.length : Int)) || !x.star && (decide ((x.items.length : Int) < 1) || decide (8 < (x.items.length : Int)))
def selW4 (x : Se) : Int := if x.hasH = true then exprW x.hv else 0
def selW3 (x : Se) : Int := orE (exprsW x.group) (selW4 x)
def selW2 (x : Se) : Int := orE (if x.hasW = true then exprW x.wh else 0) (selW3 x)
def selW1 (x : Se) : Int := orE (sourcesW 0 x.src) (selW2 x)
def selW (x : Se) : Int := if selMany x = true then 5 else orE (if x.star = true then 0 else itemsW x.items) (selW1 x)
theorem orE_pos {a b : Int} (h : a ≠ 0) : orE a b = a := if_pos h
theorem orE0 (b : Int) : orE 0 b = b := if_neg (fun h' => h' rfl)
theorem orE_zero {a b : Int} (h : a = 0) : orE a b = b := if_neg (fun h' => h' h)
theorem ct_wsel {M : Mem} {b o : Nat} {x : Se} {cs : List Value} (hg : Glob M) (hx : RSe M x cs) (ha : At M b o cs) : Ct Tryz.prog 175 [.pointer (some ⟨b, o, none⟩)] M [] [] (fun r _ _ _ => r = .int .i64 (selW x)) noPan := by
  intro T
  obtain ⟨iv, fv, gv, hi, hf, hgr, m1, m2, m3, m4, m5, ⟨wc, hw, haw⟩, ⟨vc, hv, hav⟩, m20⟩ := RSe_at hx ha
  have hi0 := hi
  obtain ⟨hib, ia, ic, rfl, hil, _, higet⟩ := RS_elim (by decide) (fun _ _ => RIt_len) hi
  obtain ⟨hfb, fa, fc, rfl, hfl, _, hfget⟩ := RS_elim (by decide) (fun _ _ => RSo_len) hf
  obtain ⟨hgb, ga, gc, rfl, hgl, _, hgget⟩ := RS_elim (by decide) (fun _ _ => RX_len) hgr
  obtain ⟨sw, rfl, ow, w0, w1, w2, w3, w4, w5, w6⟩ := RX_atf hw haw
  obtain ⟨sv, rfl, ov, v0, v1, v2, v3, v4, v5, v6⟩ := RX_atf hv hav
  obtain ⟨S, hS⟩ : ∃ S, S = selW x := ⟨_, rfl⟩
  rw [← hS]
  unfold selW at hS
  refine ct_run mx bod175 Tryz.func175 rfl (by rw [nt175]; exact Nat.le_of_ble_eq_true rfl) (dr := dr175) (by kernel_rfl) rs175 ?_
  intro hno _
  simp +contextual only [go_sem, sevalprocAttr, m1, m2, m3, m4, m5, m20]
  intro b1 T1 hb1 hT1 hTb1
  show rCond _ _ (.bool (selMany x)) _ _ _ _ _ _ _
  cases hmy : selMany x with
  | true =>
    rw [if_pos hmy] at hS
    simp +contextual only [go_sem, Rcb, Rbk, sevalprocAttr]
    exact end_none hT1 (by rw [hS])
  | false =>
  rw [if_neg (by rw [hmy]; exact Bool.false_ne_true)] at hS
  rw [rCond_bool, if_neg Bool.false_ne_true]
  simp +contextual only [go_sem, sevalprocAttr, hb1, m1, m2, m3, m4, m5, m20]
  refine run_cut (fun e ds h => ds = [] ∧ e 1 = .pointer (some ⟨b1, 0, none⟩) ∧ S = selW1 x ∧ ∃ N M' L, ExtT T N ∧ Ext M M' ∧ M' b1 = some [.pointer (some ⟨b, o, none⟩)] ∧ h = ⟨N, M', L, []⟩) (fun S' hS' => ?_) ?_
  · simp +contextual only [go_sem, Rcb, Rbk, sevalprocAttr]
    refine loop_rangeC x.items.length 61 [(1, .pointer (some ⟨b1, 0, none⟩)), (60, .int .i64 (x.items.length : Int))]
      (fun i e h => ∃ N M', ExtT T N ∧ Ext M M' ∧ M' b1 = some [.pointer (some ⟨b, o, none⟩)] ∧ h = ⟨N, M', [], []⟩ ∧ S = orE (if x.star = true then 0 else itemsW (x.items.drop i)) (selW1 x))
      0 (by omega) (by simp only [live, go_sem, Rcb, Rbk, sevalprocAttr]) (by simp only [go_sem, Rcb, Rbk, sevalprocAttr]) (Close_freeze fun he hb hno => Close_id ⟨T1, _, hT1, he, hb, rfl, hS⟩) ?_
    clear hS
    rintro i e h hi hlv ht ⟨N, M1, hN, hM1, hp1, rfl, hS⟩
    simp only [live] at hlv
    have n1 := mcell_ext hM1 m1
    by_cases hlt : i < x.items.length
    · cases hst : x.star with
      | true =>
        rw [if_pos hst, orE_zero rfl] at hS
        simp +contextual only [go_sem, Rcb, Rbk, sevalprocAttr, hlv, ht, hlt, mcell_some hp1, n1, hst]
        intro b3 N3 hb3 hN3 hTb3
        refine hS' _ _ _ ⟨rfl, ?_, hS, N3, M1, _, hN.trans hN3, hM1, hp1, rfl⟩
        simp only [hlv, go_sem, Rcb, Rbk, sevalprocAttr]
      | false =>
        have hdrop : x.items.drop i = x.items[i] :: x.items.drop (i + 1) := List.drop_eq_getElem_cons hlt
        rw [if_neg (by rw [hst]; exact Bool.false_ne_true), hdrop, itemsW] at hS
        simp +contextual only [go_sem, Rcb, Rbk, sevalprocAttr, hlv, ht, hlt, mcell_some hp1, n1, hst]
        intro b3 N3 hb3 hN3 hTb3 b70 hb70 hap70
        refine rCall_frzAll bod228 fun M2 hM2 hL2 => ?_
        obtain ⟨hf2, hq2, -⟩ := hL2
        have h12 := hM1.trans hM2
        have hg2 := hg.ext h12
        have hp2 := hM2 _ _ hp1
        have hi2 := RS_ext h12 (RIt_ext h12) hi0
        have hfs : RS M2 RFn 1 [(229, [.pointer (some ⟨b1, 0, none⟩), .pointer (some ⟨b3, 0, none⟩)], exprW x.items[i].x), (230, [.pointer (some ⟨b1, 0, none⟩), .pointer (some ⟨b3, 0, none⟩)], givenW x.items[i].as)] (.slice (some ⟨b70, 0, none⟩) 2 2) :=
          RS_lit (fun _ _ h => by unfold RFn at h; subst h; rfl) hf2 ⟨_, _, rfl, rfl, _, _, rfl, rfl, rfl⟩ rfl (by decide)
        refine rCall_pure (ct_first (es := [exprW x.items[i].x, givenW x.items[i].as]) rfl hfs (fun f hf M' T hM' => ?_) N3) ?_ (fun _ _ _ _ h => h.elim)
        · simp only [List.mem_cons, List.not_mem_nil, or_false] at hf
          rcases hf with rfl | rfl
          · exact ct_wsel1 (hg2.ext hM') (hM' _ _ hp2) (hM' _ _ hq2) (mcell_ext (h12.trans hM') m2) (RS_ext hM' (RIt_ext hM') hi2) hlt T
          · exact ct_wsel2 (hg2.ext hM') (hM' _ _ hp2) (hM' _ _ hq2) (mcell_ext (h12.trans hM') m2) (RS_ext hM' (RIt_ext hM') hi2) hlt T
        rintro v M3 hM3 _ rfl
        generalize firstW [exprW x.items[i].x, givenW x.items[i].as] = E at hS ⊢
        by_cases hE : E = 0
        · rw [hE, orE0] at hS
          simp +contextual only [go_sem, Rcb, Rbk, sevalprocAttr, hlv, ht, hE]
          refine lp_range hlt ?_ ?_ ⟨N3, M3, hN.trans hN3, h12.trans hM3, hM3 _ _ hp2, rfl, ?_⟩
          · simp only [live, hlv, go_sem, Rcb, Rbk, sevalprocAttr]
          · simp only [ht, go_sem, Rcb, Rbk, sevalprocAttr, wrap_succ i (by omega)]
          · exact hS
        · rw [orE_pos hE, orE_pos hE] at hS
          simp +contextual only [go_sem, Rcb, Rbk, sevalprocAttr, hlv, ht, hE]
          exact end_none (hN.trans hN3) (by rw [hS])
    · have : i = x.items.length := by omega
      subst this
      rw [List.drop_length] at hS
      have hS2 : S = selW1 x := by rw [hS]; cases x.star <;> rfl
      simp +contextual only [go_sem, Rcb, Rbk, sevalprocAttr, hlv, ht, hlt]
      refine hS' _ _ _ ⟨rfl, ?_, hS2, N, M1, [], hN, hM1, hp1, rfl⟩
      simp only [hlv, go_sem, Rcb, Rbk, sevalprocAttr]
  clear hS
  rintro e ds h ⟨rfl, e1, hS, N, M1, L1, hN, hM1, hp1, rfl⟩
  simp +contextual only [go_sem, sevalprocAttr, e1, mcell_some hp1, mcell_ext hM1 m3]
  refine run_cut (fun e ds h => ds = [] ∧ e 1 = .pointer (some ⟨b1, 0, none⟩) ∧ S = selW2 x ∧ ∃ N M', ExtT T N ∧ Ext M M' ∧ M' b1 = some [.pointer (some ⟨b, o, none⟩)] ∧ h = ⟨N, M', [], []⟩) (fun S' hS' => ?_) ?_
  · simp +contextual only [go_sem, Rcb, Rbk, sevalprocAttr, e1]
    refine loop_rangeC x.src.length 81 [(1, .pointer (some ⟨b1, 0, none⟩)), (80, .int .i64 (x.src.length : Int))]
      (fun i e h => ∃ M', Ext M M' ∧ M' b1 = some [.pointer (some ⟨b, o, none⟩)] ∧ h = ⟨N, M', [], []⟩ ∧ S = orE (sourcesW i (x.src.drop i)) (selW2 x))
      0 (by omega) (by simp only [live, e1, go_sem, Rcb, Rbk, sevalprocAttr]) (by simp only [go_sem, Rcb, Rbk, sevalprocAttr]) (Close_dropAll (Close_id ⟨M1, hM1, hp1, rfl, hS⟩)) ?_
    clear hS e1 hp1 hM1
    rintro i e h hi hlv ht ⟨M1, hM1, hp1, rfl, hS⟩
    simp only [live] at hlv
    by_cases hlt : i < x.src.length
    · obtain ⟨b', o', cs', rfl, hat, hrs⟩ := hfget i x.src[i] (List.getElem?_eq_getElem hlt)
      have hdrop : x.src.drop i = x.src[i] :: x.src.drop (i + 1) := List.drop_eq_getElem_cons hlt
      rw [hdrop, sourcesW] at hS
      simp +contextual only [go_sem, Rcb, Rbk, sevalprocAttr, hlv, ht, hlt, mcell_some hp1, mcell_ext hM1 m3]
      refine rCall_pure (ct_wsource i (hg.ext hM1) (RSo_ext hM1 _ _ hrs) (hat.ext hM1) N) ?_ (fun _ _ _ _ h => h.elim)
      rintro v M2 hM2 _ rfl
      by_cases hE : sourceW i x.src[i] = 0
      · rw [hE, orE0] at hS
        simp +contextual only [go_sem, Rcb, Rbk, sevalprocAttr, hlv, ht, hE]
        refine lp_range hlt ?_ ?_ ⟨M2, hM1.trans hM2, hM2 _ _ hp1, rfl, hS⟩
        · simp only [live, hlv, go_sem, Rcb, Rbk, sevalprocAttr]
        · simp only [ht, go_sem, Rcb, Rbk, sevalprocAttr, wrap_succ i (by omega)]
      · rw [orE_pos hE, orE_pos hE] at hS
        simp +contextual only [go_sem, Rcb, Rbk, sevalprocAttr, hlv, ht, hE]
        exact end_none hN (by rw [hS])
    · have : i = x.src.length := by omega
      subst this
      rw [List.drop_length, sourcesW, orE0] at hS
      simp +contextual only [go_sem, Rcb, Rbk, sevalprocAttr, hlv, ht, hlt]
      refine hS' _ _ _ ⟨rfl, ?_, hS, N, M1, hN, hM1, hp1, rfl⟩
      simp only [hlv, go_sem, Rcb, Rbk, sevalprocAttr]
  clear hS e1 hp1 hM1 hN
  rintro e ds h ⟨rfl, e1, hS, N, M1, hN, hM1, hp1, rfl⟩
  unfold selW2 at hS
  simp +contextual only [go_sem, sevalprocAttr, e1, mcell_some hp1, mcell_ext hM1 m4]
  refine cond_cut (fun e ds h => ds = [] ∧ e 1 = .pointer (some ⟨b1, 0, none⟩) ∧ S = selW3 x ∧ ∃ M', Ext M M' ∧ M' b1 = some [.pointer (some ⟨b, o, none⟩)] ∧ h = ⟨N, M', [], []⟩) (fun S' hS' => ?_) ?_
  · cases hW : x.hasW with
    | false =>
      rw [if_neg (by rw [hW]; exact Bool.false_ne_true), orE0] at hS
      simp +contextual only [go_sem, Rcb, Rbk, sevalprocAttr]
      refine hS' _ _ _ ⟨rfl, ?_, hS, M1, hM1, hp1, rfl⟩
      simp only [e1, go_sem, Rcb, Rbk, sevalprocAttr]
    | true =>
      rw [if_pos hW] at hS
      simp +contextual only [go_sem, Rcb, Rbk, sevalprocAttr, e1, mcell_some hp1, mcell_ext hM1 w0, mcell_ext hM1 w1, mcell_ext hM1 w2, mcell_ext hM1 w3, mcell_ext hM1 w4, mcell_ext hM1 w5, mcell_ext hM1 w6]
      refine rCall_pure (ct_Expr (hg.ext hM1) (RX_ext hM1 _ _ hw) N) ?_ (fun _ _ _ _ h => h.elim)
      rintro v M2 hM2 _ rfl
      by_cases hE : exprW x.wh = 0
      · rw [hE, orE0] at hS
        simp +contextual only [go_sem, Rcb, Rbk, sevalprocAttr, e1, hE]
        refine hS' _ _ _ ⟨rfl, ?_, hS, M2, hM1.trans hM2, hM2 _ _ hp1, rfl⟩
        simp only [e1, go_sem, Rcb, Rbk, sevalprocAttr]
      · rw [orE_pos hE] at hS
        simp +contextual only [go_sem, Rcb, Rbk, sevalprocAttr, e1, hE]
        exact end_none hN (by rw [hS])
  clear hS e1 hp1 hM1
  rintro e ds h ⟨rfl, e1, hS, M1, hM1, hp1, rfl⟩
  unfold selW3 at hS
  simp +contextual only [go_sem, sevalprocAttr, e1, mcell_some hp1, mcell_ext hM1 m20]
  refine run_cut (fun e ds h => ds = [] ∧ e 1 = .pointer (some ⟨b1, 0, none⟩) ∧ S = selW4 x ∧ ∃ N M', ExtT T N ∧ Ext M M' ∧ M' b1 = some [.pointer (some ⟨b, o, none⟩)] ∧ h = ⟨N, M', [], []⟩) (fun S' hS' => ?_) ?_
  · simp +contextual only [go_sem, Rcb, Rbk, sevalprocAttr, e1]
    refine loop_range x.group.length 113 [(1, .pointer (some ⟨b1, 0, none⟩)), (111, .slice ga x.group.length gc), (112, .int .i64 (x.group.length : Int))]
      (fun i e h => ∃ N M', ExtT T N ∧ Ext M M' ∧ M' b1 = some [.pointer (some ⟨b, o, none⟩)] ∧ h = ⟨N, M', [], []⟩ ∧ S = orE (exprsW (x.group.drop i)) (selW4 x))
      0 (by omega) (by simp only [live, e1, go_sem, Rcb, Rbk, sevalprocAttr]) (by simp only [go_sem, Rcb, Rbk, sevalprocAttr]) ⟨N, M1, hN, hM1, hp1, rfl, hS⟩ ?_
    clear hS e1 hp1 hM1 hN
    rintro i e h hi hlv ht ⟨N, M1, hN, hM1, hp1, rfl, hS⟩
    simp only [live] at hlv
    by_cases hlt : i < x.group.length
    · obtain ⟨b', o', cs', rfl, hat, hrs⟩ := hgget i x.group[i] (List.getElem?_eq_getElem hlt)
      obtain ⟨sg, rfl, og, g0, g1, g2, g3, g4, g5, g6⟩ := RX_atf hrs hat
      have hdrop : x.group.drop i = x.group[i] :: x.group.drop (i + 1) := List.drop_eq_getElem_cons hlt
      rw [hdrop, exprsW] at hS
      simp +contextual only [go_sem, Rcb, Rbk, sevalprocAttr, hlv, ht, hlt, mcell_ext hM1 g0, mcell_ext hM1 g1, mcell_ext hM1 g2, mcell_ext hM1 g3, mcell_ext hM1 g4, mcell_ext hM1 g5, mcell_ext hM1 g6, og]
      intro b9 N9 hb9 hN9 hTb9
      refine rCall_pure (ct_Expr (hg.ext hM1) (RX_ext hM1 _ _ hrs) N9) ?_ (fun _ _ _ _ h => h.elim)
      rintro v M2 hM2 _ rfl
      by_cases hE : exprW x.group[i] = 0
      · rw [hE, orE0] at hS
        simp +contextual only [go_sem, Rcb, Rbk, sevalprocAttr, hlv, ht, hE]
        rw [Run_lp]
        refine Close_drop (Close_id ⟨x.group.length - (i + 1), by omega, rfl, i + 1, by omega, rfl, ?_, ?_, N9, M2, hN.trans hN9, hM1.trans hM2, hM2 _ _ hp1, rfl, hS⟩)
        · simp only [live, hlv, go_sem, Rcb, Rbk, sevalprocAttr]
        · simp only [ht, go_sem, Rcb, Rbk, sevalprocAttr, wrap_succ i (by omega)]
      · rw [orE_pos hE, orE_pos hE] at hS
        simp +contextual only [go_sem, Rcb, Rbk, sevalprocAttr, hlv, ht, hE]
        exact end_none (hN.trans hN9) (by rw [hS])
    · have : i = x.group.length := by omega
      subst this
      rw [List.drop_length, exprsW, orE0] at hS
      simp +contextual only [go_sem, Rcb, Rbk, sevalprocAttr, hlv, ht, hlt]
      refine hS' _ _ _ ⟨rfl, ?_, hS, N, M1, hN, hM1, hp1, rfl⟩
      simp only [hlv, go_sem, Rcb, Rbk, sevalprocAttr]
  clear hS e1 hp1 hM1 hN
  rintro e ds h ⟨rfl, e1, hS, N, M1, hN, hM1, hp1, rfl⟩
  unfold selW4 at hS
  cases hH : x.hasH with
  | false =>
    rw [if_neg (by rw [hH]; exact Bool.false_ne_true)] at hS
    rw [hH] at m5
    simp +contextual only [go_sem, Rcb, Rbk, sevalprocAttr, e1, mcell_some hp1, mcell_ext hM1 m5]
    exact end_none hN (by rw [hS])
  | true =>
    rw [if_pos hH] at hS
    rw [hH] at m5
    simp +contextual only [go_sem, Rcb, Rbk, sevalprocAttr, e1, mcell_some hp1, mcell_ext hM1 m5, mcell_ext hM1 v0, mcell_ext hM1 v1, mcell_ext hM1 v2, mcell_ext hM1 v3, mcell_ext hM1 v4, mcell_ext hM1 v5, mcell_ext hM1 v6]
    refine rCall_pure (ct_Expr (hg.ext hM1) (RX_ext hM1 _ _ hv) N) ?_ (fun _ _ _ _ h => h.elim)
    rintro v M2 hM2 _ rfl
    simp +contextual only [go_sem, Rcb, Rbk, sevalprocAttr]
    exact end_none hN (by rw [hS])
theorem RQ_at {M : Mem} {b o : Nat} {x : Q} {cs : List Value} (h : RQ M x cs) (ha : At M b o cs) : ∃ p f g, RS M (RSe M) 21 x.parts p ∧ RS M RI 1 x.ops f ∧ RS M (RX M) 7 x.order g ∧
    mcell M ⟨b, o, none⟩ = some p ∧ mcell M ⟨b, o + 1, none⟩ = some f ∧ mcell M ⟨b, o + 2, none⟩ = some g ∧ mcell M ⟨b, o + 3, none⟩ = some (.int .i64 x.limit) := by
  obtain ⟨p, f, g, h1, h2, h3, rfl⟩ := h
  exact ⟨p, f, g, h1, h2, h3, ha.1, ha.2.1, ha.2.2.1, ha.2.2.2.1⟩
def partsW (ops : List Int) : Nat → List Se → Int
  | _, [] => 0
  | i, s :: l => if 0 < i ∧ (ops.getD (i - 1) 0 < 1 ∨ 4 < ops.getD (i - 1) 0) then 1 else orE (selW s) (partsW ops (i + 1) l)
def queryW1 (q : Q) : Int := if q.limit < 0 then 0 else exprsW q.order
def queryMany (q : Q) : Bool := decide ((((q.parts.length : Int) < 1 ∨ 4 < (q.parts.length : Int)) ∨ (q.ops.length : Int) ≠ (q.parts.length : Int) - 1) ∨ (0 ≤ q.limit ∧ ((q.order.length : Int) < 1 ∨ 8 < (q.order.length : Int))))
def queryW (q : Q) : Int := if queryMany q = true then 5 else if 50 < q.limit then 3 else orE (partsW q.ops 0 q.parts) (queryW1 q)
theorem ct_wquery {M : Mem} {b o : Nat} {x : Q} {cs : List Value} (hg : Glob M) (hx : RQ M x cs) (ha : At M b o cs) : Ct Tryz.prog 125 [.pointer (some ⟨b, o, none⟩)] M [] [] (fun r _ _ _ => r = .int .i64 (queryW x)) noPan := by
  intro T
  obtain ⟨pv, fv, gv, hp, hf, hgr, m0, m1, m2, m3⟩ := RQ_at hx ha
  obtain ⟨hpb, pa, pc, rfl, hpl, _, hpget⟩ := RS_elim (by decide) (fun _ _ => RSe_len) hp
  obtain ⟨hfb, fa, fc, rfl, hfl, _, hfget⟩ := RS_elim (by decide) (fun _ _ => RI_len) hf
  obtain ⟨hgb, ga, gc, rfl, hgl, _, hgget⟩ := RS_elim (by decide) (fun _ _ => RX_len) hgr
  have hw1 : IntKind.i64.wrap ((x.parts.length : Int) - 1) = (x.parts.length : Int) - 1 := wrap64 (by omega) (by omega)
  obtain ⟨S, hS⟩ : ∃ S, S = queryW x := ⟨_, rfl⟩
  rw [← hS]
  unfold queryW at hS
  refine ct_run mx bod125 Tryz.func125 rfl (by rw [nt125]; exact Nat.le_of_ble_eq_true rfl) (dr := dr125) (by kernel_rfl) rs125 ?_
  intro hno _
  simp +contextual only [go_sem, sevalprocAttr]
  refine draw_cut (fun e ds h => ds = [] ∧ e 0 = .pointer (some ⟨b, o, none⟩) ∧ e 58 = .bool (queryMany x) ∧ h = ⟨T, M, [], []⟩) (fun S' hS' => ?_) ?_
  · have fin : ∀ {e : Env} {t : Bool}, e 0 = .pointer (some ⟨b, o, none⟩) → e 58 = .bool t → t = queryMany x → Run Tryz.prog (fi Tryz.prog T dr125 [ResultVar.tmp 2] (keys []) 0 (fun r x x_1 x_2 => r = Value.int IntKind.i64 S) noPan) S' e [] ⟨T, M, [], []⟩ ⟨⟩ := by
      intro e t h0 h1 h2
      exact hS' _ _ _ ⟨rfl, h0, by rw [h1, h2], rfl⟩
    refine draw_all ?_
    by_cases c1 : (x.parts.length : Int) < 1
    · simp +contextual only [go_sem, sevalprocAttr, m0, m1, m2, m3, hw1, c1]
      refine fin (t := true) ?_ ?_ ?_
      · simp only [go_sem, Rcb, Rbk, sevalprocAttr]
      · simp only [go_sem, Rcb, Rbk, sevalprocAttr]
      · simp [queryMany, c1]
    by_cases c2 : 4 < (x.parts.length : Int)
    · simp +contextual only [go_sem, sevalprocAttr, m0, m1, m2, m3, hw1, c1, c2]
      refine fin (t := true) ?_ ?_ ?_
      · simp only [go_sem, Rcb, Rbk, sevalprocAttr]
      · simp only [go_sem, Rcb, Rbk, sevalprocAttr]
      · simp [queryMany, c2]
    by_cases c3 : (x.ops.length : Int) = (x.parts.length : Int) - 1
    · by_cases c4 : 0 ≤ x.limit
      · by_cases c5 : (x.order.length : Int) < 1
        · simp +contextual only [go_sem, sevalprocAttr, m0, m1, m2, m3, hw1, c1, c2, c3, c4, c5]
          refine fin (t := true) ?_ ?_ ?_
          · simp only [go_sem, Rcb, Rbk, sevalprocAttr]
          · simp only [go_sem, Rcb, Rbk, sevalprocAttr]
          · simp [queryMany, c4, c5]
        · by_cases c6 : 8 < (x.order.length : Int)
          · simp +contextual only [go_sem, sevalprocAttr, m0, m1, m2, m3, hw1, c1, c2, c3, c4, c5, c6]
            refine fin (t := true) ?_ ?_ ?_
            · simp only [go_sem, Rcb, Rbk, sevalprocAttr]
            · simp only [go_sem, Rcb, Rbk, sevalprocAttr]
            · simp [queryMany, c4, c6]
          · simp +contextual only [go_sem, sevalprocAttr, m0, m1, m2, m3, hw1, c1, c2, c3, c4, c5, c6]
            refine fin (t := false) ?_ ?_ ?_
            · simp only [go_sem, Rcb, Rbk, sevalprocAttr]
            · simp only [go_sem, Rcb, Rbk, sevalprocAttr]
            · exact (decide_eq_false (by omega)).symm
      · simp +contextual only [go_sem, sevalprocAttr, m0, m1, m2, m3, hw1, c1, c2, c3, c4]
        refine fin (t := false) ?_ ?_ ?_
        · simp only [go_sem, Rcb, Rbk, sevalprocAttr]
        · simp only [go_sem, Rcb, Rbk, sevalprocAttr]
        · exact (decide_eq_false (by omega)).symm
    · simp +contextual only [go_sem, sevalprocAttr, m0, m1, m2, m3, hw1, c1, c2, c3]
      refine fin (t := true) ?_ ?_ ?_
      · simp only [go_sem, Rcb, Rbk, sevalprocAttr]
      · simp only [go_sem, Rcb, Rbk, sevalprocAttr]
      · simp [queryMany, c3]
  rintro e ds h ⟨rfl, e0, e58, rfl⟩
  cases hm : queryMany x with
  | true =>
    rw [hm] at e58
    rw [if_pos hm] at hS
    simp +contextual only [go_sem, Rcb, Rbk, sevalprocAttr, e58]
    exact end_none ExtT.rfl' (by rw [hS])
  | false =>
  rw [hm] at e58
  rw [if_neg (by rw [hm]; exact Bool.false_ne_true)] at hS
  have hops : x.ops.length + 1 = x.parts.length := by
    have := of_decide_eq_false hm
    omega
  by_cases h50 : 50 < x.limit
  · rw [if_pos h50] at hS
    simp +contextual only [go_sem, Rcb, Rbk, sevalprocAttr, e0, e58, m3, h50]
    exact end_none ExtT.rfl' (by rw [hS])
  rw [if_neg h50] at hS
  simp +contextual only [go_sem, sevalprocAttr, e0, e58]
  rw [rCond_bool, if_neg Bool.false_ne_true]
  simp +contextual only [go_sem, sevalprocAttr, e0, m3, h50]
  rw [rCond_bool, if_neg Bool.false_ne_true]
  simp +contextual only [go_sem, sevalprocAttr, e0, m0]
  refine run_cut (fun e ds h => ds = [] ∧ e 0 = .pointer (some ⟨b, o, none⟩) ∧ S = queryW1 x ∧ ∃ M', Ext M M' ∧ h = ⟨T, M', [], []⟩) (fun S' hS' => ?_) ?_
  · simp +contextual only [go_sem, Rcb, Rbk, sevalprocAttr, e0]
    refine loop_range x.parts.length 69 [(0, .pointer (some ⟨b, o, none⟩)), (68, .int .i64 (x.parts.length : Int))]
      (fun i e h => ∃ M', Ext M M' ∧ h = ⟨T, M', [], []⟩ ∧ S = orE (partsW x.ops i (x.parts.drop i)) (queryW1 x))
      0 (by omega) (by simp only [live, e0, go_sem, Rcb, Rbk, sevalprocAttr]) (by simp only [go_sem, Rcb, Rbk, sevalprocAttr]) ⟨M, Ext.rfl', rfl, hS⟩ ?_
    clear hS e0 e58
    rintro i e h hi hlv ht ⟨M1, hM1, rfl, hS⟩
    simp only [live] at hlv
    have n0 := mcell_ext hM1 m0
    have n1 := mcell_ext hM1 m1
    by_cases hlt : i < x.parts.length
    · obtain ⟨b', o', cs', rfl, hat, hrs⟩ := hpget i x.parts[i] (List.getElem?_eq_getElem hlt)
      have hdrop : x.parts.drop i = x.parts[i] :: x.parts.drop (i + 1) := List.drop_eq_getElem_cons hlt
      rw [hdrop, partsW] at hS
      have key : ¬ (0 < i ∧ (x.ops.getD (i - 1) 0 < 1 ∨ 4 < x.ops.getD (i - 1) 0)) → S = orE (orE (selW x.parts[i]) (partsW x.ops (i + 1) (x.parts.drop (i + 1)))) (queryW1 x) := fun h => by rw [hS, if_neg h]
      by_cases hz : i = 0
      · have hz' : ¬ (0 : Int) < (i : Int) := by omega
        replace hS := key (fun h => by omega)
        clear key
        simp +contextual only [go_sem, Rcb, Rbk, sevalprocAttr, hlv, ht, hlt, hz', n0]
        refine rCall_pure (ct_wsel (hg.ext hM1) (RSe_ext hM1 _ _ hrs) (hat.ext hM1) T) ?_ (fun _ _ _ _ h => h.elim)
        rintro v M2 hM2 _ rfl
        by_cases hE : selW x.parts[i] = 0
        · rw [hE, orE0] at hS
          simp +contextual only [go_sem, Rcb, Rbk, sevalprocAttr, hlv, ht, hE]
          refine lp_range hlt ?_ ?_ ⟨M2, hM1.trans hM2, rfl, hS⟩
          · simp only [live, hlv, go_sem, Rcb, Rbk, sevalprocAttr]
          · simp only [ht, go_sem, Rcb, Rbk, sevalprocAttr, wrap_succ i (by omega)]
        · rw [orE_pos hE, orE_pos hE] at hS
          simp +contextual only [go_sem, Rcb, Rbk, sevalprocAttr, hlv, ht, hE]
          exact end_none ExtT.rfl' (by rw [hS])
      · have hz' : (0 : Int) < (i : Int) := by omega
        have hil : i - 1 < x.ops.length := by omega
        obtain ⟨bo, oo, co, rfl, hato, hro⟩ := hfget (i - 1) x.ops[i - 1] (List.getElem?_eq_getElem hil)
        unfold RI at hro; subst hro
        have hx := mcell_ext hM1 hato.1
        rw [Nat.mul_one] at hx
        have hgd : x.ops.getD (i - 1) 0 = x.ops[i - 1] := by simp [List.getD, List.getElem?_eq_getElem hil]
        have hwi : IntKind.i64.wrap ((i : Int) - 1) = ((i - 1 : Nat) : Int) := by rw [wrap64 (by omega) (by omega)]; omega
        rw [hgd] at hS key
        by_cases c1 : x.ops[i - 1] < 1
        · rw [if_pos ⟨by omega, .inl c1⟩, orE_pos (by decide)] at hS
          simp +contextual only [go_sem, Rcb, Rbk, sevalprocAttr, hlv, ht, hlt, hz', n0, n1, hwi, hil, hx, c1]
          exact end_none ExtT.rfl' (by rw [hS])
        · by_cases c2 : 4 < x.ops[i - 1]
          · rw [if_pos ⟨by omega, .inr c2⟩, orE_pos (by decide)] at hS
            simp +contextual only [go_sem, Rcb, Rbk, sevalprocAttr, hlv, ht, hlt, hz', n0, n1, hwi, hil, hx, c1, c2]
            exact end_none ExtT.rfl' (by rw [hS])
          · replace hS := key (fun h => by rcases h.2 with h | h; exact c1 h; exact c2 h)
            clear key
            simp +contextual only [go_sem, Rcb, Rbk, sevalprocAttr, hlv, ht, hlt, hz', n0, n1, hwi, hil, hx, c1, c2]
            refine rCall_pure (ct_wsel (hg.ext hM1) (RSe_ext hM1 _ _ hrs) (hat.ext hM1) T) ?_ (fun _ _ _ _ h => h.elim)
            rintro v M2 hM2 _ rfl
            by_cases hE : selW x.parts[i] = 0
            · rw [hE, orE0] at hS
              simp +contextual only [go_sem, Rcb, Rbk, sevalprocAttr, hlv, ht, hE]
              refine lp_range hlt ?_ ?_ ⟨M2, hM1.trans hM2, rfl, hS⟩
              · simp only [live, hlv, go_sem, Rcb, Rbk, sevalprocAttr]
              · simp only [ht, go_sem, Rcb, Rbk, sevalprocAttr, wrap_succ i (by omega)]
            · rw [orE_pos hE, orE_pos hE] at hS
              simp +contextual only [go_sem, Rcb, Rbk, sevalprocAttr, hlv, ht, hE]
              exact end_none ExtT.rfl' (by rw [hS])
    · have : i = x.parts.length := by omega
      subst this
      rw [List.drop_length, partsW, orE0] at hS
      simp +contextual only [go_sem, Rcb, Rbk, sevalprocAttr, hlv, ht, hlt]
      refine hS' _ _ _ ⟨rfl, ?_, hS, M1, hM1, rfl⟩
      simp only [hlv, go_sem, Rcb, Rbk, sevalprocAttr]
  clear hS e0 e58
  rintro e ds h ⟨rfl, e0, hS, M1, hM1, rfl⟩
  unfold queryW1 at hS
  simp +contextual only [go_sem, sevalprocAttr, e0, mcell_ext hM1 m2]
  refine run_cut (fun e ds h => ds = [] ∧ S = 0 ∧ ∃ N M' L, ExtT T N ∧ h = ⟨N, M', L, []⟩) (fun S' hS' => ?_) ?_
  · simp +contextual only [go_sem, Rcb, Rbk, sevalprocAttr, e0]
    refine loop_range x.order.length 112 [(0, .pointer (some ⟨b, o, none⟩)), (110, .slice ga x.order.length gc), (111, .int .i64 (x.order.length : Int))]
      (fun i e h => ∃ N M', ExtT T N ∧ Ext M M' ∧ h = ⟨N, M', [], []⟩ ∧ S = (if x.limit < 0 then 0 else exprsW (x.order.drop i)))
      0 (by omega) (by simp only [live, e0, go_sem, Rcb, Rbk, sevalprocAttr]) (by simp only [go_sem, Rcb, Rbk, sevalprocAttr]) ⟨T, M1, ExtT.rfl', hM1, rfl, hS⟩ ?_
    clear hS e0 hM1
    rintro i e h hi hlv ht ⟨N, M1, hN, hM1, rfl, hS⟩
    simp only [live] at hlv
    by_cases hlt : i < x.order.length
    · obtain ⟨b', o', cs', rfl, hat, hrs⟩ := hgget i x.order[i] (List.getElem?_eq_getElem hlt)
      obtain ⟨sg, rfl, og, g0, g1, g2, g3, g4, g5, g6⟩ := RX_atf hrs hat
      have hdrop : x.order.drop i = x.order[i] :: x.order.drop (i + 1) := List.drop_eq_getElem_cons hlt
      by_cases hlim : x.limit < 0
      · rw [if_pos hlim] at hS
        simp +contextual only [go_sem, Rcb, Rbk, sevalprocAttr, hlv, ht, hlt, mcell_ext hM1 m3, mcell_ext hM1 g0, mcell_ext hM1 g1, mcell_ext hM1 g2, mcell_ext hM1 g3, mcell_ext hM1 g4, mcell_ext hM1 g5, mcell_ext hM1 g6, og, hlim]
        intro b9 N9 hb9 hN9 hTb9
        exact hS' _ _ _ ⟨rfl, hS, N9, M1, _, hN.trans hN9, rfl⟩
      rw [if_neg hlim, hdrop, exprsW] at hS
      simp +contextual only [go_sem, Rcb, Rbk, sevalprocAttr, hlv, ht, hlt, mcell_ext hM1 m3, mcell_ext hM1 g0, mcell_ext hM1 g1, mcell_ext hM1 g2, mcell_ext hM1 g3, mcell_ext hM1 g4, mcell_ext hM1 g5, mcell_ext hM1 g6, og, hlim]
      intro b9 N9 hb9 hN9 hTb9
      refine rCall_pure (ct_Expr (hg.ext hM1) (RX_ext hM1 _ _ hrs) N9) ?_ (fun _ _ _ _ h => h.elim)
      rintro v M2 hM2 _ rfl
      by_cases hE : exprW x.order[i] = 0
      · rw [hE, orE0] at hS
        simp +contextual only [go_sem, Rcb, Rbk, sevalprocAttr, hlv, ht, hE]
        rw [Run_lp]
        refine Close_drop (Close_id ⟨x.order.length - (i + 1), by omega, rfl, i + 1, by omega, rfl, ?_, ?_, N9, M2, hN.trans hN9, hM1.trans hM2, rfl, by rw [if_neg hlim]; exact hS⟩)
        · simp only [live, hlv, go_sem, Rcb, Rbk, sevalprocAttr]
        · simp only [ht, go_sem, Rcb, Rbk, sevalprocAttr, wrap_succ i (by omega)]
      · rw [orE_pos hE] at hS
        simp +contextual only [go_sem, Rcb, Rbk, sevalprocAttr, hlv, ht, hE]
        exact end_none (hN.trans hN9) (by rw [hS])
    · have : i = x.order.length := by omega
      subst this
      rw [List.drop_length, exprsW, ite_self] at hS
      simp +contextual only [go_sem, Rcb, Rbk, sevalprocAttr, hlv, ht, hlt]
      exact hS' _ _ _ ⟨rfl, hS, N, M1, [], hN, rfl⟩
  rintro e ds h ⟨rfl, hS, N, M2, L, hN, rfl⟩
  simp +contextual only [go_sem, Rcb, Rbk, sevalprocAttr]
  exact end_none hN (by rw [hS])
theorem sigVal : sigT Tryz.prog 29 = some [1, 1, 2] := by kernel_rfl
theorem At21 {M : Mem} {b o : Nat} {v0 v1 v2 v3 v4 v5 v6 v7 v8 v9 v10 v11 v12 v13 v14 v15 v16 v17 v18 v19 v20 : Value} (h : At M b o [v0, v1, v2, v3, v4, v5, v6, v7, v8, v9, v10, v11, v12, v13, v14, v15, v16, v17, v18, v19, v20]) : mcell M ⟨b, o, none⟩ = some v0 ∧ mcell M ⟨b, o + 1, none⟩ = some v1 ∧ mcell M ⟨b, o + 2, none⟩ = some v2 ∧ mcell M ⟨b, o + 3, none⟩ = some v3 ∧ mcell M ⟨b, o + 4, none⟩ = some v4 ∧ mcell M ⟨b, o + 5, none⟩ = some v5 ∧ mcell M ⟨b, o + 6, none⟩ = some v6 ∧ mcell M ⟨b, o + 7, none⟩ = some v7 ∧ mcell M ⟨b, o + 8, none⟩ = some v8 ∧ mcell M ⟨b, o + 9, none⟩ = some v9 ∧ mcell M ⟨b, o + 10, none⟩ = some v10 ∧ mcell M ⟨b, o + 11, none⟩ = some v11 ∧ mcell M ⟨b, o + 12, none⟩ = some v12 ∧ mcell M ⟨b, o + 13, none⟩ = some v13 ∧ mcell M ⟨b, o + 14, none⟩ = some v14 ∧ mcell M ⟨b, o + 15, none⟩ = some v15 ∧ mcell M ⟨b, o + 16, none⟩ = some v16 ∧ mcell M ⟨b, o + 17, none⟩ = some v17 ∧ mcell M ⟨b, o + 18, none⟩ = some v18 ∧ mcell M ⟨b, o + 19, none⟩ = some v19 ∧ mcell M ⟨b, o + 20, none⟩ = some v20 :=
  ⟨h.1, h.2.1, h.2.2.1, h.2.2.2.1, h.2.2.2.2.1, h.2.2.2.2.2.1, h.2.2.2.2.2.2.1, h.2.2.2.2.2.2.2.1, h.2.2.2.2.2.2.2.2.1, h.2.2.2.2.2.2.2.2.2.1, h.2.2.2.2.2.2.2.2.2.2.1, h.2.2.2.2.2.2.2.2.2.2.2.1, h.2.2.2.2.2.2.2.2.2.2.2.2.1, h.2.2.2.2.2.2.2.2.2.2.2.2.2.1, h.2.2.2.2.2.2.2.2.2.2.2.2.2.2.1, h.2.2.2.2.2.2.2.2.2.2.2.2.2.2.2.1, h.2.2.2.2.2.2.2.2.2.2.2.2.2.2.2.2.1, h.2.2.2.2.2.2.2.2.2.2.2.2.2.2.2.2.2.1, h.2.2.2.2.2.2.2.2.2.2.2.2.2.2.2.2.2.2.1, h.2.2.2.2.2.2.2.2.2.2.2.2.2.2.2.2.2.2.2.1, h.2.2.2.2.2.2.2.2.2.2.2.2.2.2.2.2.2.2.2.2.1⟩
theorem At10 {M : Mem} {b o : Nat} {v0 v1 v2 v3 v4 v5 v6 v7 v8 v9 : Value} (h : At M b o [v0, v1, v2, v3, v4, v5, v6, v7, v8, v9]) : mcell M ⟨b, o, none⟩ = some v0 ∧ mcell M ⟨b, o + 1, none⟩ = some v1 ∧ mcell M ⟨b, o + 2, none⟩ = some v2 ∧ mcell M ⟨b, o + 3, none⟩ = some v3 ∧ mcell M ⟨b, o + 4, none⟩ = some v4 ∧ mcell M ⟨b, o + 5, none⟩ = some v5 ∧ mcell M ⟨b, o + 6, none⟩ = some v6 ∧ mcell M ⟨b, o + 7, none⟩ = some v7 ∧ mcell M ⟨b, o + 8, none⟩ = some v8 ∧ mcell M ⟨b, o + 9, none⟩ = some v9 :=
  ⟨h.1, h.2.1, h.2.2.1, h.2.2.2.1, h.2.2.2.2.1, h.2.2.2.2.2.1, h.2.2.2.2.2.2.1, h.2.2.2.2.2.2.2.1, h.2.2.2.2.2.2.2.2.1, h.2.2.2.2.2.2.2.2.2.1⟩
theorem At8 {M : Mem} {b o : Nat} {v0 v1 v2 v3 v4 v5 v6 v7 : Value} (h : At M b o [v0, v1, v2, v3, v4, v5, v6, v7]) : mcell M ⟨b, o, none⟩ = some v0 ∧ mcell M ⟨b, o + 1, none⟩ = some v1 ∧ mcell M ⟨b, o + 2, none⟩ = some v2 ∧ mcell M ⟨b, o + 3, none⟩ = some v3 ∧ mcell M ⟨b, o + 4, none⟩ = some v4 ∧ mcell M ⟨b, o + 5, none⟩ = some v5 ∧ mcell M ⟨b, o + 6, none⟩ = some v6 ∧ mcell M ⟨b, o + 7, none⟩ = some v7 :=
  ⟨h.1, h.2.1, h.2.2.1, h.2.2.2.1, h.2.2.2.2.1, h.2.2.2.2.2.1, h.2.2.2.2.2.2.1, h.2.2.2.2.2.2.2.1⟩
theorem RSe_form {M : Mem} {s : Se} {cs : List Value} (h : RSe M s cs) : ∃ ai aj af ag aw ah ap aq, cs = [.bool s.distinct, .bool s.star, .slice ai s.items.length aj, .slice af s.src.length ag, .bool s.hasW, .bool s.hasH, .int .i64 s.wh.k, .int .i64 s.wh.v.k, .int .i64 s.wh.v.n, st s.wh.v.t, st s.wh.tab, st s.wh.name, aw, .int .i64 s.hv.k, .int .i64 s.hv.v.k, .int .i64 s.hv.v.n, st s.hv.v.t, st s.hv.tab, st s.hv.name, ah, .slice ap s.group.length aq] ∧ RS M (RIt M) 8 s.items (.slice ai s.items.length aj) ∧ RS M (RSo M) 10 s.src (.slice af s.src.length ag) ∧
    RX M s.wh [.int .i64 s.wh.k, .int .i64 s.wh.v.k, .int .i64 s.wh.v.n, st s.wh.v.t, st s.wh.tab, st s.wh.name, aw] ∧ RX M s.hv [.int .i64 s.hv.k, .int .i64 s.hv.v.k, .int .i64 s.hv.v.n, st s.hv.v.t, st s.hv.tab, st s.hv.name, ah] ∧ RS M (RX M) 7 s.group (.slice ap s.group.length aq) ∧ aw.oneCell' = true ∧ ah.oneCell' = true := by
  obtain ⟨i, f, w, hh, g, h1, h2, h3, h4, h5, rfl⟩ := h
  obtain ⟨_, ai, aj, rfl, _⟩ := RS_elim (by decide) (fun _ _ => RIt_len) h1
  obtain ⟨_, af, ag, rfl, _⟩ := RS_elim (by decide) (fun _ _ => RSo_len) h2
  obtain ⟨_, ap, aq, rfl, _⟩ := RS_elim (by decide) (fun _ _ => RX_len) h5
  obtain ⟨aw, rfl, k1, _⟩ := RX_form h3
  obtain ⟨ah, rfl, k2, _⟩ := RX_form h4
  exact ⟨ai, aj, af, ag, aw, ah, ap, aq, rfl, h1, h2, h3, h4, h5, k1, k2⟩
theorem RSo_formC {M : Mem} {s : So} {cs : List Value} (h : RSo M s cs) : ∃ aw, cs = [.int .i64 s.k, st s.name, st s.as, .int .i64 s.on.k, .int .i64 s.on.v.k, .int .i64 s.on.v.n, st s.on.v.t, st s.on.tab, st s.on.name, aw] ∧ RX M s.on [.int .i64 s.on.k, .int .i64 s.on.v.k, .int .i64 s.on.v.n, st s.on.v.t, st s.on.tab, st s.on.name, aw] ∧ aw.oneCell' = true := by
  obtain ⟨c, h1, rfl⟩ := h
  obtain ⟨aw, rfl, k1, _⟩ := RX_form h1
  exact ⟨aw, rfl, h1, k1⟩
theorem RIt_form {M : Mem} {s : It} {cs : List Value} (h : RIt M s cs) : ∃ aw, cs = [.int .i64 s.x.k, .int .i64 s.x.v.k, .int .i64 s.x.v.n, st s.x.v.t, st s.x.tab, st s.x.name, aw, st s.as] ∧ RX M s.x [.int .i64 s.x.k, .int .i64 s.x.v.k, .int .i64 s.x.v.n, st s.x.v.t, st s.x.tab, st s.x.name, aw] ∧ aw.oneCell' = true := by
  obtain ⟨c, h1, rfl⟩ := h
  obtain ⟨aw, rfl, k1, _⟩ := RX_form h1
  exact ⟨aw, rfl, h1, k1⟩
theorem RS_get {α : Type} {M : Mem} {r : α → List Value → Prop} {sz : Nat} {l : List α} {a n c} (hpos : 0 < sz) (hsz : ∀ x cs, r x cs → cs.length = sz) (hs : RS M r sz l (.slice a n c)) {i : Nat} {x : α} (h : l[i]? = some x) : ∃ b o cs, a = some ⟨b, o, none⟩ ∧ At M b (o + i * sz) cs ∧ r x cs := by
  obtain ⟨_, a', c', he, _, _, hg⟩ := RS_elim hpos hsz hs
  injection he with h1 h2 h3
  rw [h1]; exact hg i x h
theorem At16 {M : Mem} {b o : Nat} {v0 v1 v2 v3 v4 v5 v6 v7 v8 v9 v10 v11 v12 v13 v14 v15 : Value} (h : At M b o [v0, v1, v2, v3, v4, v5, v6, v7, v8, v9, v10, v11, v12, v13, v14, v15]) : mcell M ⟨b, o, none⟩ = some v0 ∧ mcell M ⟨b, o + 1, none⟩ = some v1 ∧ mcell M ⟨b, o + 2, none⟩ = some v2 ∧ mcell M ⟨b, o + 3, none⟩ = some v3 ∧ mcell M ⟨b, o + 4, none⟩ = some v4 ∧ mcell M ⟨b, o + 5, none⟩ = some v5 ∧ mcell M ⟨b, o + 6, none⟩ = some v6 ∧ mcell M ⟨b, o + 7, none⟩ = some v7 ∧ mcell M ⟨b, o + 8, none⟩ = some v8 ∧ mcell M ⟨b, o + 9, none⟩ = some v9 ∧ mcell M ⟨b, o + 10, none⟩ = some v10 ∧ mcell M ⟨b, o + 11, none⟩ = some v11 ∧ mcell M ⟨b, o + 12, none⟩ = some v12 ∧ mcell M ⟨b, o + 13, none⟩ = some v13 ∧ mcell M ⟨b, o + 14, none⟩ = some v14 ∧ mcell M ⟨b, o + 15, none⟩ = some v15 :=
  ⟨h.1, h.2.1, h.2.2.1, h.2.2.2.1, h.2.2.2.2.1, h.2.2.2.2.2.1, h.2.2.2.2.2.2.1, h.2.2.2.2.2.2.2.1, h.2.2.2.2.2.2.2.2.1, h.2.2.2.2.2.2.2.2.2.1, h.2.2.2.2.2.2.2.2.2.2.1, h.2.2.2.2.2.2.2.2.2.2.2.1, h.2.2.2.2.2.2.2.2.2.2.2.2.1, h.2.2.2.2.2.2.2.2.2.2.2.2.2.1, h.2.2.2.2.2.2.2.2.2.2.2.2.2.2.1, h.2.2.2.2.2.2.2.2.2.2.2.2.2.2.2.1⟩
theorem At2 {M : Mem} {b o : Nat} {v0 v1 : Value} (h : At M b o [v0, v1]) : mcell M ⟨b, o, none⟩ = some v0 ∧ mcell M ⟨b, o + 1, none⟩ = some v1 :=
  ⟨h.1, h.2.1⟩
theorem At1 {M : Mem} {b o : Nat} {v0 : Value} (h : At M b o [v0]) : mcell M ⟨b, o, none⟩ = some v0 := h.1
theorem RCo_len {c : Co} {cs} (h : RCo c cs) : cs.length = 2 := by unfold RCo at h; subst h; rfl
theorem RVs_len {M : Mem} {l : List V} {cs} (h : RVs M l cs) : cs.length = 1 := by obtain ⟨s, _, rfl⟩ := h; rfl
theorem RStm_form {M : Mem} {s : Stm} {cs : List Value} (h : RStm M s cs) : ∃ ac ad ap aq ao an ar ae au av aw, cs = [.int .i64 s.k, st s.name, .slice ac s.cols.length ad, .slice ap s.q.parts.length aq, .slice ao s.q.ops.length an, .slice ar s.q.order.length ae, .int .i64 s.q.limit, .slice au s.rows.length av, .bool s.hasW, .int .i64 s.wh.k, .int .i64 s.wh.v.k, .int .i64 s.wh.v.n, st s.wh.v.t, st s.wh.tab, st s.wh.name, aw] ∧ RS M RCo 2 s.cols (.slice ac s.cols.length ad) ∧ RQ M s.q [.slice ap s.q.parts.length aq, .slice ao s.q.ops.length an, .slice ar s.q.order.length ae, .int .i64 s.q.limit] ∧
    RS M (RVs M) 1 s.rows (.slice au s.rows.length av) ∧ RX M s.wh [.int .i64 s.wh.k, .int .i64 s.wh.v.k, .int .i64 s.wh.v.n, st s.wh.v.t, st s.wh.tab, st s.wh.name, aw] ∧ aw.oneCell' = true := by
  obtain ⟨c, qq, r, w, h1, h2, h3, h4, rfl⟩ := h
  obtain ⟨_, ac, ad, rfl, _⟩ := RS_elim (by decide) (fun _ _ => RCo_len) h1
  obtain ⟨_, au, av, rfl, _⟩ := RS_elim (by decide) (fun _ _ => RVs_len) h3
  obtain ⟨aw, rfl, k1, _⟩ := RX_form h4
  obtain ⟨p, o, rr, g1, g2, g3, rfl⟩ := h2
  obtain ⟨_, ap, aq, rfl, _⟩ := RS_elim (by decide) (fun _ _ => RSe_len) g1
  obtain ⟨_, ao, an, rfl, _⟩ := RS_elim (by decide) (fun _ _ => RI_len) g2
  obtain ⟨_, ar, ae, rfl, _⟩ := RS_elim (by decide) (fun _ _ => RX_len) g3
  exact ⟨ac, ad, ap, aq, ao, an, ar, ae, au, av, aw, rfl, h1, ⟨_, _, _, g1, g2, g3, rfl⟩, h3, h4, k1⟩
theorem cells_At {N : Tm} {M : Mem} {L : LL} {R : RR} {b : Nat} : ∀ (xs : List Value) (o i : Nat), At M b (o + i) xs → Sh.cells ⟨N, M, L, R⟩ ⟨b, o, none⟩ i xs.length = some xs
  | [], o, i, h => rfl
  | x :: xs, o, i, h => by
    rw [List.length_cons, cells_succ, cells_At xs o (i + 1) h.2]
    have : Sh.cell ⟨N, M, L, R⟩ ⟨b, o + i, none⟩ = some x := by simp only [Sh.cell, h.1]
    rw [this]; rfl
theorem RL_oneC {α : Type} {r : α → List Value → Prop} (hr : ∀ x cs, r x cs → ∀ u ∈ cs, u.oneCell' = true) : ∀ {l xs}, RL r l xs → ∀ u ∈ xs, u.oneCell' = true
  | [], xs, h, u, hu => by have : xs = [] := h; subst this; cases hu
  | x :: l, xs, h, u, hu => by
    obtain ⟨cs, rest, rfl, h1, h2⟩ := h
    rcases List.mem_append.1 hu with hu | hu
    · exact hr x cs h1 u hu
    · exact RL_oneC hr h2 u hu
theorem srcs_RS {P : Program} {tx e' : TypeId} {α : Type} {r : α → List Value → Prop} {sz : Nat} {M : Mem} {l : List α} {v : Value} (hu : P.underlying tx = some (.slice e')) (hsz : ∀ x cs, r x cs → cs.length = sz) (hr : ∀ x cs, r x cs → ∀ u ∈ cs, u.oneCell' = true) (hs : RS M r sz l v) :
    ∃ xs, xs.length = l.length * sz ∧ RL r l xs ∧ ∀ N L R, Srcs P tx sz ⟨N, M, L, R⟩ v xs := by
  obtain ⟨_, xs, h, hl⟩ := hs
  refine ⟨xs, RL_len hsz hl, hl, fun N L R => ?_⟩
  rcases h with ⟨a, c, rfl, rfl, hac⟩ | ⟨b, o, n, c, rfl, hle, hn, ha⟩
  · cases a with
    | none => rw [hac rfl]; exact .nil 0 e' hu
    | some a => exact .slice a 0 c [] e' hu (by rw [Nat.zero_mul]; rfl) (fun u hu => by cases hu)
  · refine .slice _ n c xs e' hu ?_ (RL_oneC hr hl)
    rw [← hn]
    exact cells_At xs o 0 ha
theorem RL_append {α : Type} {r : α → List Value → Prop} : ∀ {l m : List α} {xs ys : List Value}, RL r l xs → RL r m ys → RL r (l ++ m) (xs ++ ys)
  | [], m, xs, ys, h, h' => by have : xs = [] := h; subst this; exact h'
  | x :: l, m, xs, ys, h, h' => by
    obtain ⟨cs, rest, rfl, h1, h2⟩ := h
    exact ⟨cs, rest ++ ys, by rw [List.append_assoc], h1, RL_append h2 h'⟩
def Acc {α : Type} (el : TypeId) (sz : Nat) (r : α → List Value → Prop) (R0 R : RR) (fv : Value) (acc : List α) : Prop :=
  (acc = [] ∧ fv = .slice none 0 0 ∧ R = R0) ∨ ∃ a c xs, fv = .slice a acc.length c ∧ RL r acc xs ∧ R = (fv, el, sz, xs) :: R0
section
variable {α : Type} {el : TypeId} {sz : Nat} {r : α → List Value → Prop} {R0 R : RR} {fv : Value} {acc : List α}
theorem Acc_nil : Acc el sz r R0 R0 (.slice none 0 0) [] := .inl ⟨rfl, rfl, rfl⟩
theorem Acc_form (h : Acc el sz r R0 R fv acc) : ∃ a c, fv = .slice a acc.length c := by
  rcases h with ⟨rfl, rfl, _⟩ | ⟨a, c, xs, rfl, _⟩
  · exact ⟨_, _, rfl⟩
  · exact ⟨_, _, rfl⟩
theorem Acc_one (h : Acc el sz r R0 R fv acc) : fv.oneCell' = true ∧ fv.cells.toList = [fv] := by
  obtain ⟨a, c, rfl⟩ := Acc_form h
  exact ⟨rfl, rfl⟩
theorem Acc_mono {r' : α → List Value → Prop} (hr : ∀ x cs, r x cs → r' x cs) (h : Acc el sz r R0 R fv acc) : Acc el sz r' R0 R fv acc := by
  rcases h with ⟨h1, h2, h3⟩ | ⟨a, c, xs, h1, h2, h3⟩
  · exact .inl ⟨h1, h2, h3⟩
  · exact .inr ⟨a, c, xs, h1, RL_mono hr h2, h3⟩
theorem app_acc {P : Program} {F : Fi} {s : List Vc.Item} {e : Env} {ds : List Deferred} {dd : Option Nat} {T : Tm} {M : Mem} {L : LL} {t : TypeId} {z : List Value} {b : Nat} {x : α} {cs : List Value} (hu : P.underlying t = some (.slice el)) (hrow : rowT P t = some (el, sz, z)) (hok : okT P t = true)
    (h : Acc el sz r R0 R fv acc) (hx : r x cs) (hlen : ∀ x cs, r x cs → cs.length = sz) (hone : ∀ u ∈ cs, u.oneCell' = true) (hb : M b = none) (hl : acc.length * sz + sz ≤ 4294967296) (hpos : 0 < sz)
    (k : ∀ fv' R', Acc el sz r R0 R' fv' (acc ++ [x]) → Run P F s (updo e dd fv') ds ⟨T, M, (b, cs) :: L, R'⟩ ⟨⟩) : rApp P F t t fv (.slice (some ⟨b, 0, none⟩) 1 1) dd s e ds ⟨T, M, (b, cs) :: L, R⟩ ⟨⟩ := by
  have hcl := hlen x cs hx
  rcases h with ⟨rfl, rfl, rfl⟩ | ⟨a, c, xs, rfl, h3, rfl⟩
  · refine app_nil hrow hok (.slice _ 1 _ _ _ hu (cells_own [] hb trivial (by rw [hcl, Nat.one_mul])) hone) (by rw [hcl]; simp at hl; omega) ?_
    intro ra rm rc hrm
    have : rm = 1 := by
      rw [hcl] at hrm
      exact Nat.eq_of_mul_eq_mul_right hpos (by omega)
    subst this
    exact k _ _ (.inr ⟨_, _, _, rfl, RL_one hx, rfl⟩)
  · have hxl := RL_len hlen h3
    refine app_row hrow hok (.slice _ 1 _ _ _ hu (cells_own [] hb trivial (by rw [hcl, Nat.one_mul])) hone) (by rw [hcl, hxl]; omega) ?_
    intro ra rm rc hrm
    have : rm = (acc ++ [x]).length := by
      rw [hcl, hxl] at hrm
      rw [List.length_append]
      refine Nat.eq_of_mul_eq_mul_right hpos ?_
      rw [Nat.add_mul]
      simpa using hrm
    subst this
    exact k _ _ (.inr ⟨_, _, _, rfl, RL_append h3 (RL_one hx), rfl⟩)
theorem Close_acc {N : Tm} {M : Mem} {L : LL} {k : Sh → Prop} (h : Acc el sz r R0 R fv acc) (hb : acc.length ≤ 140737488355328) (hpos : 0 < sz) (hno : noneL M L) (hk : ∀ M', Ext M M' → noneL M' L → RS M' r sz acc fv → Close ⟨N, M', L, R0⟩ k) : Close ⟨N, M, L, R⟩ k := by
  rcases h with ⟨rfl, rfl, rfl⟩ | ⟨a, c, xs, rfl, h3, rfl⟩
  · exact hk M Ext.rfl' hno RS_nil
  · exact Close_row (fun M' hM hno' hsl => hk M' hM hno' ⟨hb, xs, hsl, h3⟩) hpos
end
def kc (k : Int) : Int := if k = 1 then 119 else if k = 2 then 110 else if k = 3 then 116 else 115
def wL (b : Nat) (lv : Value) (en op be ba : Int) : LL := [(b, [lv, .int .i64 en, .int .i64 op, .int .i64 be, .int .i64 ba])]
def Rl {α : Type} (r : Rs α) (be ba : Int) (a : α) (t : List Tk) (be' ba' : Int) : Prop :=
  if be = 0 then (match r with
    | .ok a0 t0 => a = a0 ∧ t = t0 ∧ be' = 0 ∧ ba' = ba
    | .err e x => e ≠ 0 ∧ be' = e ∧ ba' = x
    | .out => True)
  else be' = be ∧ ba' = ba
def Up {α : Type} (cur : Rs α) (be1 ba1 : Int) (res : Rs α) (be ba : Int) : Prop := ∀ a t be' ba', Rl cur be1 ba1 a t be' ba' → Rl res be ba a t be' ba'
theorem Up.rfl' {α : Type} {r : Rs α} {be ba : Int} : Up r be ba r be ba := fun _ _ _ _ h => h
theorem Up.congr {α : Type} {c c' res : Rs α} {be1 ba1 be ba : Int} (h : Up c be1 ba1 res be ba) (hc : be1 = 0 → c = c') : Up c' be1 ba1 res be ba := by
  intro a t be' ba' h1
  refine h a t be' ba' ?_
  unfold Rl at h1 ⊢
  split at h1
  · rename_i h0
    rw [if_pos h0, hc h0]; exact h1
  · rename_i h0
    rw [if_neg h0]; exact h1
theorem Up.bind {α β : Type} {g : Rs α} {F : α → List Tk → Rs β} {res : Rs β} {be1 ba1 be ba : Int} (h : Up (g.bind F) be1 ba1 res be ba) {a : α} {t : List Tk} {be2 ba2 : Int} (hg : Rl g be1 ba1 a t be2 ba2) : Up (F a t) be2 ba2 res be ba := by
  intro x t' be' ba' h1
  refine h x t' be' ba' ?_
  unfold Rl at hg h1 ⊢
  by_cases h0 : be1 = 0
  · rw [if_pos h0] at hg ⊢
    cases g with
    | ok a0 t0 =>
      obtain ⟨rfl, rfl, h2, rfl⟩ := hg
      rw [if_pos h2] at h1
      exact h1
    | err e x =>
      obtain ⟨h2, rfl, rfl⟩ := hg
      rw [if_neg h2] at h1
      obtain ⟨rfl, rfl⟩ := h1
      exact ⟨h2, rfl, rfl⟩
    | out => trivial
  · rw [if_neg h0] at hg ⊢
    obtain ⟨rfl, rfl⟩ := hg
    rw [if_neg h0] at h1
    exact h1
theorem Up.ok {α : Type} {res : Rs α} {a : α} {t : List Tk} {be1 ba1 be ba : Int} (h : Up (.ok a t) be1 ba1 res be ba) : Rl res be ba a t be1 ba1 := by
  refine h a t be1 ba1 ?_
  unfold Rl
  split
  · rename_i h0; exact ⟨rfl, rfl, h0, rfl⟩
  · exact ⟨rfl, rfl⟩
theorem Up.bad {α : Type} {c res : Rs α} {a : α} {t : List Tk} {be1 ba1 be ba : Int} (h : Up c be1 ba1 res be ba) (h0 : be1 ≠ 0) : Rl res be ba a t be1 ba1 := by
  refine h a t be1 ba1 ?_
  unfold Rl
  rw [if_neg h0]; exact ⟨rfl, rfl⟩
def stopM (e a : Int) (be ba : Int) : Int × Int := if be = 0 then (e, a) else (be, ba)
theorem Up.err {α : Type} {c res : Rs α} {e x : Int} {a : α} {t : List Tk} {be1 ba1 be ba : Int} (h : Up c be1 ba1 res be ba) (hc : be1 = 0 → c = .err e x) (he : e ≠ 0) : Rl res be ba a t (stopM e x be1 ba1).1 (stopM e x be1 ba1).2 := by
  refine (h.congr hc) a t _ _ ?_
  unfold Rl stopM
  by_cases h0 : be1 = 0
  · rw [if_pos h0, if_pos h0]; exact ⟨he, rfl, rfl⟩
  · rw [if_neg h0, if_neg h0]; exact ⟨rfl, rfl⟩
theorem lcell_wL (b lv en op be ba k o) : lcell (wL b lv en op be ba) ⟨k, o, none⟩ = if k = b then some ([lv, .int .i64 en, .int .i64 op, .int .i64 be, .int .i64 ba][o]?) else none := (rfl)
theorem lput_wL0 (b lv en op be ba v) : lput (wL b lv en op be ba) b 0 [v] = some (wL b v en op be ba) := by simp [lput, wL, setL]
theorem lput_wL2 (b lv en op be ba n) : lput (wL b lv en op be ba) b 2 [.int .i64 n] = some (wL b lv en n be ba) := by simp [lput, wL, setL]
theorem lput_wL3 (b lv en op be ba e a) : lput (wL b lv en op be ba) b 3 [.int .i64 e, .int .i64 a] = some (wL b lv en op e a) := by simp [lput, wL, setL]
theorem noneL_wL (M b lv en op be ba) : noneL M (wL b lv en op be ba) = (M b = none) := by simp [noneL, wL]
theorem apart1_wL (k b lv en op be ba) : apart1 k (wL b lv en op be ba) = (k ≠ b ∧ b ≠ k) := by simp [apart1, wL]
attribute [go_sem] lcell_wL lput_wL0 lput_wL2 lput_wL3 noneL_wL apart1_wL
theorem ct_Reserved {M : Mem} (s : Bs) (T : Tm) : CtT Tryz.prog 55 [st s] T M [] [] (fun r _ _ _ => r = .bool (wordsL.contains s)) noPan := by
  refine ct_run mx bod55 Tryz.func55 rfl (by rw [nt55]; exact Nat.le_of_ble_eq_true rfl) (dr := dr55) (by kernel_rfl) rs55 ?_
  intro hno _
  simp +contextual only [go_sem, Rcb, Rbk, sevalprocAttr]
  intro b5 hb5
  refine loop_rangeC 46 7 [(0, st s), (5, .slice (some ⟨b5, 0, none⟩) 46 46), (6, .int .i64 46)] (fun i e h => (∃ M', h = ⟨T, M', [], []⟩ ∧ M' b5 = some (wordsL.map st)) ∧ wordsL.contains s = (wordsL.drop i).contains s)
    0 (by omega) (by simp only [live, go_sem, Rcb, Rbk, sevalprocAttr]) (by simp only [go_sem, Rcb, Rbk, sevalprocAttr]) (Close_freeze fun he hb hno => Close_id ⟨⟨_, rfl, hb⟩, rfl⟩) ?_
  rintro i e h hi hlv ht ⟨⟨M2, rfl, hw⟩, hres⟩
  simp only [live, st] at hlv
  by_cases hlt : i < 46
  · have hlt' : i < wordsL.length := hlt
    have hdrop : wordsL.drop i = wordsL[i] :: wordsL.drop (i + 1) := List.drop_eq_getElem_cons hlt'
    rw [hdrop, List.contains_cons] at hres
    have hx : mcell M2 ⟨b5, i, none⟩ = some (.string (bs wordsL[i])) := by
      rw [mcell_some hw, List.getElem?_map, List.getElem?_eq_getElem hlt']
      rfl
    have hi3 : (i : Int) < 46 := by omega
    simp +contextual only [go_sem, Rcb, Rbk, sevalprocAttr, hlv, ht, hlt, hi3, hx]
    by_cases he : wordsL[i] = s
    · simp +contextual only [go_sem, Rcb, Rbk, sevalprocAttr, he]
      refine end_none ExtT.rfl' ?_
      rw [hres, he]; simp
    · simp +contextual only [go_sem, Rcb, Rbk, sevalprocAttr, he, hlv, ht]
      refine lp_range hlt ?_ ?_ ⟨⟨M2, rfl, hw⟩, ?_⟩
      · simp only [live, hlv, go_sem, Rcb, Rbk, sevalprocAttr]
      · simp only [ht, go_sem, Rcb, Rbk, sevalprocAttr, wrap_succ i (by omega)]
      · rw [hres]
        have : (s == wordsL[i]) = false := by simpa using Ne.symm he
        rw [this, Bool.false_or]
  · have : i = 46 := by omega
    subst this
    have h33 : ¬ ((46 : Nat) : Int) < 46 := by omega
    simp +contextual only [go_sem, Rcb, Rbk, sevalprocAttr, hlv, ht, h33]
    refine end_none ExtT.rfl' ?_
    rw [hres]; rfl
theorem okFrom_allR : ∀ (s : Bs) (i : Nat), okFrom i s = true → ∀ c ∈ s, (letterB c.toNat || digitB c.toNat) = true
  | [], _, _, _, hc => by cases hc
  | a :: s, i, h, c, hc => by
    simp only [okFrom, chOk, Bool.and_eq_true, Bool.or_eq_true] at h
    rcases List.mem_cons.1 hc with rfl | hc
    · simp only [Bool.or_eq_true]
      rcases h.1 with h | h
      · exact .inl h
      · exact .inr h.2
    · exact okFrom_allR s (i + 1) h.2 c hc
theorem okFrom_ofR : ∀ (s : Bs) (i : Nat), i ≠ 0 → (∀ c ∈ s, (letterB c.toNat || digitB c.toNat) = true) → okFrom i s = true
  | [], _, _, _ => rfl
  | a :: s, i, hi, h => by
    have ha := h a (List.mem_cons_self ..)
    simp only [Bool.or_eq_true] at ha
    simp only [okFrom, chOk, Bool.and_eq_true, Bool.or_eq_true, decide_eq_true_eq]
    refine ⟨?_, okFrom_ofR s (i + 1) (by omega) fun c hc => h c (List.mem_cons_of_mem _ hc)⟩
    rcases ha with ha | ha
    · exact .inl ha
    · exact .inr ⟨hi, ha⟩
theorem decode_bs {s : Bs} {i : Nat} (h : i < s.length) (ha : s[i].toNat < 128) : Utf8.decode (bs s) i = (s[i].toNat, 1) := by
  have h1 : i < (bs s).size := by rw [bs_size]; exact h
  have h2 : (bs s)[i]'h1 = s[i] := rfl
  exact decode_ascii (bs s) i h1 (by rw [h2]; exact ha)
theorem word_ascii {c : UInt8} (h : (letterB c.toNat || digitB c.toNat) = true) : c.toNat < 128 := by
  simp only [letterB, digitB, Bool.or_eq_true, Bool.and_eq_true, decide_eq_true_eq] at h
  omega
theorem ct_NamedR {M : Mem} (s : Bs) (T : Tm) : CtT Tryz.prog 22 [st s] T M [] [] (fun r _ _ _ => r = .bool (namedB s)) noPan := by
  refine ct_run mx bod22 Tryz.func22 rfl (by rw [nt22]; exact Nat.le_of_ble_eq_true rfl) (dr := dr22) (by kernel_rfl) rs22 ?_
  intro hno _
  by_cases h0 : s = []
  · subst h0
    simp +contextual only [go_sem, Rcb, Rbk, sevalprocAttr]
    exact end_none ExtT.rfl' rfl
  have hpos : 0 < s.length := List.length_pos_iff.2 h0
  have hbs : bs s = bs [] ↔ False := by rw [bs_inj]; simp [h0]
  by_cases h12 : 12 < s.length
  · have h12' : (12 : Int) < ((s.length : Nat) : Int) := by omega
    simp +contextual only [go_sem, Rcb, Rbk, sevalprocAttr, h0, h12']
    refine end_none ExtT.rfl' ?_
    have : ¬ (1 ≤ s.length ∧ s.length ≤ 12) := by omega
    simp [namedB, this]
  have h12' : ¬ (12 : Int) < ((s.length : Nat) : Int) := by omega
  have hx0 := byteAt_bs hpos
  have hp' : (0 : Int) < ((s.length : Nat) : Int) := by omega
  simp +contextual only [go_sem, Rcb, Rbk, sevalprocAttr, h0, h12', hx0, hp', hpos]
  refine rCall_pure (ct_ref_letter _ _ T) ?_ (fun _ _ _ _ h => h.elim)
  rintro v M1 hM1 hno1 rfl
  obtain ⟨c0, s0, rfl⟩ : ∃ c l, s = c :: l := by cases s with | nil => exact (h0 rfl).elim | cons c l => exact ⟨c, l, rfl⟩
  simp only [List.getElem_cons_zero]
  by_cases hl0 : letterB c0.toNat = true
  rotate_left
  · simp +contextual only [go_sem, Rcb, Rbk, sevalprocAttr, hl0]
    refine end_none ExtT.rfl' ?_
    simp [namedB, okFrom, chOk, hl0]
  generalize hs : c0 :: s0 = s at *
  simp +contextual only [go_sem, Rcb, Rbk, sevalprocAttr, hl0]
  intro g
  refine loop_rule (fun m e ds h => ds = [] ∧ (e 0 = st s ∧ e 18 = .pointer (some ⟨g, 0, none⟩)) ∧ ∃ i M1, i ≤ s.length ∧ m = s.length - i ∧ h = ⟨T, M1, [], [(.pointer (some ⟨g, 0, none⟩), 9, 0, [st s, .int .i64 ((i : Nat) : Int)])]⟩ ∧ ∀ j (hj : j < s.length), j < i → (letterB s[j].toNat || digitB s[j].toNat) = true) ⟨s.length, rfl, ⟨(by simp only [go_sem, Rcb, Rbk, sevalprocAttr]), (by simp only [go_sem, Rcb, Rbk, sevalprocAttr])⟩, 0, M1, by omega, rfl, rfl, fun j _ h => by omega⟩ ?_
  rintro m e ds h ⟨rfl, ⟨e0, e18⟩, i, M1', hi, rfl, rfl, hall⟩
  simp only [st] at e0
  by_cases hlt : i < s.length
  · have hx := byteAt_bs hlt
    have hlt' : ((i : Nat) : Int) < ((s.length : Nat) : Int) := by omega
    simp +contextual only [go_sem, Rcb, Rbk, sevalprocAttr, e0, e18, hlt, hx, hlt']
    refine rCall_pure (ct_ref_letter _ _ T) ?_ (fun _ _ _ _ h => h.elim)
    rintro v M2 hM2 hno2 rfl
    have back : ∀ (hw : (letterB s[i].toNat || digitB s[i].toNat) = true) (e' : Env), e' 0 = st s → e' 18 = .pointer (some ⟨g, 0, none⟩) → ∀ M3, ∃ m', m' < s.length - i ∧ ([] : List Deferred) = [] ∧ (e' 0 = st s ∧ e' 18 = .pointer (some ⟨g, 0, none⟩)) ∧ ∃ k M4, k ≤ s.length ∧ m' = s.length - k ∧ (⟨T, M3, [], [(.pointer (some ⟨g, 0, none⟩), 9, 0, [st s, .int .i64 ((i + (Utf8.decode (bs s) i).2 : Nat) : Int)])]⟩ : Sh) = ⟨T, M4, [], [(.pointer (some ⟨g, 0, none⟩), 9, 0, [st s, .int .i64 ((k : Nat) : Int)])]⟩ ∧ ∀ j (hj : j < s.length), j < k → (letterB s[j].toNat || digitB s[j].toNat) = true := by
      intro hw e' q0 q18 M3
      refine ⟨s.length - (i + 1), by omega, rfl, ⟨q0, q18⟩, i + 1, M3, hlt, rfl, by rw [decode_bs hlt (word_ascii hw)], fun j hj hji => ?_⟩
      by_cases h : j = i
      · subst h; exact hw
      · exact hall j hj (by omega)
    by_cases hl : letterB s[i].toNat = true
    · simp +contextual only [go_sem, Rcb, Rbk, sevalprocAttr, e0, e18, hl, hx]
      refine lp_close (Close_id (back (by rw [hl]; rfl) _ ?_ ?_ M2))
      · simp only [e0, go_sem, Rcb, Rbk, sevalprocAttr]
      · simp only [e18, go_sem, Rcb, Rbk, sevalprocAttr]
    · simp +contextual only [go_sem, Rcb, Rbk, sevalprocAttr, e0, e18, hl, hlt, hx, hlt']
      refine rCall_pure (ct_ref_digit _ _ T) ?_ (fun _ _ _ _ h => h.elim)
      rintro v M3 hM3 hno3 rfl
      by_cases hd : digitB s[i].toNat = true
      · simp +contextual only [go_sem, Rcb, Rbk, sevalprocAttr, e0, e18, hl, hx, hd]
        refine lp_close (Close_id (back (by rw [hd]; simp) _ ?_ ?_ M3))
        · simp only [e0, go_sem, Rcb, Rbk, sevalprocAttr]
        · simp only [e18, go_sem, Rcb, Rbk, sevalprocAttr]
      · simp +contextual only [go_sem, Rcb, Rbk, sevalprocAttr, e0, e18, hl, hx, hd]
        refine end_none ExtT.rfl' ?_
        have hok : okFrom 0 s = false := by
          cases ho : okFrom 0 s with
          | false => rfl
          | true =>
            have := okFrom_allR s 0 ho s[i] (List.getElem_mem _)
            simp only [Bool.not_eq_true] at hl hd
            rw [hl, hd] at this
            cases this
        simp [namedB, hok]
  · have : i = s.length := by omega
    subst this
    simp +contextual only [go_sem, Rcb, Rbk, sevalprocAttr, e0, e18, hlt]
    refine rCall_pure (ct_Reserved s T) ?_ (fun _ _ _ _ h => h.elim)
    rintro v M2 hM2 hno2 rfl
    simp +contextual only [go_sem, Rcb, Rbk, sevalprocAttr]
    refine end_none ExtT.rfl' ?_
    have hok : okFrom 0 s = true := by
      subst hs
      simp only [okFrom, chOk, hl0, Bool.true_or, Bool.true_and]
      refine okFrom_ofR s0 1 (by omega) fun c hc => ?_
      obtain ⟨j, hj, rfl⟩ := List.getElem_of_mem hc
      have := hall (j + 1) (by simpa using hj) (by simpa using hj)
      simpa using this
    have h112 : (1 ≤ s.length ∧ s.length ≤ 12) := by omega
    simp [namedB, hok, h112]
set_option maxHeartbeats 2000000
theorem ct_Kids (k : Int) (M : Mem) : Ct Tryz.prog 59 [.int .i64 k] M [] [] (fun r _ _ _ => r = .int .i64 (kidsN k)) noPan := by
  intro T
  refine ct_run mx bod59 Tryz.func59 rfl (by rw [nt59]; exact Nat.le_of_ble_eq_true rfl) (dr := dr59) (by kernel_rfl) rs59 ?_
  intro hno _
  by_cases h1 : k < 1
  · simp +contextual only [go_sem, Rcb, Rbk, sevalprocAttr, h1]
    refine end_none ExtT.rfl' (int_eq ?_)
    simp only [kidsN]; grind
  by_cases h2 : 23 < k
  · simp +contextual only [go_sem, Rcb, Rbk, sevalprocAttr, h1, h2]
    refine end_none ExtT.rfl' (int_eq ?_)
    simp only [kidsN]; grind
  have h : k = 1 ∨ k = 2 ∨ k = 3 ∨ k = 4 ∨ k = 5 ∨ k = 6 ∨ k = 7 ∨ k = 8 ∨ k = 9 ∨ k = 10 ∨ k = 11 ∨ k = 12 ∨ k = 13 ∨ k = 14 ∨ k = 15 ∨ k = 16 ∨ k = 17 ∨ k = 18 ∨ k = 19 ∨ k = 20 ∨ k = 21 ∨ k = 22 ∨ k = 23 := by omega
  clear h1 h2
  rcases h with rfl | rfl | rfl | rfl | rfl | rfl | rfl | rfl | rfl | rfl | rfl | rfl | rfl | rfl | rfl | rfl | rfl | rfl | rfl | rfl | rfl | rfl | rfl
  all_goals
    simp +contextual only [go_sem, Rcb, Rbk, sevalprocAttr]
    intro b hb
    exact end_none ExtT.rfl' (int_eq (by decide))
theorem ct_form : ∀ (sz : Nat) (x : X), SizeOf.sizeOf x ≤ sz → ∀ (M : Mem) (T : Tm) (hb deep n : Nat) (cs : List Value), RX M x cs → n ≤ 200 → deep ≤ 21 →
    CtT Tryz.prog 26 [.agg ⟨cs⟩, .int .i64 (deep : Int), .pointer (some ⟨hb, 0, none⟩)] T M [(hb, [.int .i64 (n : Int)])] [] (fun r M' L' R' => r = .int .i64 (shapeX deep n x).1 ∧ L' = [(hb, [.int .i64 ((shapeX deep n x).2 : Int)])] ∧ R' = []) noPan := by
  intro sz
  induction sz with
  | zero => intro x hx; cases x; simp at hx
  | succ sz ih =>
    intro x hsz M T hb deep n cs hx hn hdeep
    obtain ⟨s, rfl, h1, hs⟩ := RX_form hx
    obtain ⟨hbk, a, c, rfl, hle, _, hget⟩ := RS_elim (by decide) (fun _ _ => RX_len) hs
    refine ct_run mx bod26 Tryz.func26 rfl (by rw [nt26]; exact Nat.le_of_ble_eq_true rfl) (dr := dr26) (by kernel_rfl) rs26 ?_
    intro hno _
    simp only [noneL, and_true] at hno
    have hwn := wrap_succ n (by omega)
    have hwd := wrap_succ deep (by omega)
    cases x with | mk k v tab name kids =>
    simp only [X.k, X.v, X.tab, X.name, X.kids] at hget hle hs hbk ⊢
    obtain ⟨S, hS⟩ : ∃ S, S = shapeX deep n (.mk k v tab name kids) := ⟨_, rfl⟩
    rw [← hS]
    rw [shapeX] at hS
    simp +contextual only [go_sem, Rcb, Rbk, sevalprocAttr, hno, hwn]
    intro b T1 hb1 hap1 hT1 hTb1
    by_cases hmuch : 200 < n + 1 ∨ 20 < deep
    · rw [if_pos hmuch] at hS
      rw [if_pos (by omega)]
      exact Close_drop (end_id hT1 rfl rfl ⟨by rw [hS], by rw [hS], rfl⟩)
    rw [if_neg hmuch] at hS
    rw [if_neg (by omega)]
    refine rCall_pure (ct_Kids k M T1) ?_ (fun _ _ _ _ h => h.elim)
    rintro r M1 hM1 hno1 rfl
    simp only [noneL, and_true] at hno1
    by_cases hk0 : kidsN k < 0
    · rw [if_pos hk0] at hS
      simp +contextual only [go_sem, Rcb, Rbk, sevalprocAttr, hk0]
      exact Close_drop (end_id hT1 rfl rfl ⟨by rw [hS], by rw [hS], rfl⟩)
    rw [if_neg hk0] at hS
    by_cases hkl : kidsN k = (kids.length : Int)
    rotate_left
    · rw [if_pos (fun h => hkl h.symm)] at hS
      simp +contextual only [go_sem, Rcb, Rbk, sevalprocAttr, hk0, hkl, hno1, hap1]
      exact Close_drop (end_id hT1 rfl rfl ⟨by rw [hS], by rw [hS], rfl⟩)
    rw [if_neg (fun h => h hkl.symm)] at hS
    by_cases h1 : k = 1
    · subst h1
      rw [if_pos rfl] at hS
      simp +contextual only [go_sem, Rcb, Rbk, sevalprocAttr, hk0, hkl, hno1, hap1]
      refine rCall_pure (ct_ref1_Wrong v M1 T1) ?_ (fun _ _ _ _ h => h.elim)
      rintro r M2 hM2 hno2 rfl
      simp +contextual only [go_sem, Rcb, Rbk, sevalprocAttr]
      exact Close_drop (end_id hT1 rfl rfl ⟨by rw [hS], by rw [hS], rfl⟩)
    rw [if_neg h1] at hS
    simp +contextual only [go_sem, sevalprocAttr, hk0]
    simp only [rCond_bool, Bool.false_eq_true, if_false, Run_skip, Run_seq]
    simp +contextual only [go_sem, sevalprocAttr, hkl, hno1, hap1]
    simp only [rCond_bool, Bool.false_eq_true, if_false, Run_skip, Run_seq]
    simp +contextual only [go_sem, sevalprocAttr, h1, hno1, hap1]
    simp only [rCond_bool, Bool.false_eq_true, if_false, Run_skip, Run_seq]
    refine run_cut (fun e ds h => ds = [] ∧ (e 1 = .int .i64 (deep : Int) ∧ e 2 = .pointer (some ⟨hb, 0, none⟩) ∧ e 3 = .pointer (some ⟨b, 0, none⟩)) ∧ ∃ M' B, Ext M1 M' ∧ M' b = none ∧ M' hb = none ∧ e 61 = .bool B ∧ S = (if B = true then (7, n + 1) else shapeL (deep + 1) (n + 1) kids) ∧ h = ⟨T1, M', [(b, [.int .i64 k, .int .i64 v.k, .int .i64 v.n, st v.t, st tab, st name, .slice a kids.length c]), (hb, [.int .i64 ((n + 1 : Nat) : Int)])], []⟩) (fun S' hS' => ?_) ?_
    · by_cases h2 : k = 2
      · subst h2
        simp +contextual only [go_sem, Rcb, Rbk, sevalprocAttr, hno1, hap1]
        refine rCall_pure (ct_NamedR name T1) ?_ (fun _ _ _ _ h => h.elim)
        rintro r M2 hM2 hno2 rfl
        simp only [noneL, and_true] at hno2
        by_cases hn1 : namedB name = true
        · by_cases htb : tab = []
          · rw [if_neg (by rintro ⟨_, h | ⟨h, _⟩⟩; rw [hn1] at h; cases h; exact h htb)] at hS
            subst htb
            simp +contextual only [go_sem, Rcb, Rbk, sevalprocAttr, hn1, hno2, hap1]
            exact hS' _ _ _ ⟨rfl, ⟨by simp only [go_sem, Rcb, Rbk, sevalprocAttr], by simp only [go_sem, Rcb, Rbk, sevalprocAttr], by simp only [go_sem, Rcb, Rbk, sevalprocAttr]⟩, M2, false, hM2, hno2.1, hno2.2, by simp only [go_sem, Rcb, Rbk, sevalprocAttr], hS, rfl⟩
          · have htb' : ¬ tab.length = 0 := fun h => htb (List.length_eq_zero_iff.1 h)
            have htb2 : 0 < tab.length := by omega
            have htb3 : (0 : Int) < (tab.length : Int) := by omega
            simp +contextual only [go_sem, Rcb, Rbk, sevalprocAttr, hn1, hno2, hap1, htb, htb2, htb3]
            refine rCall_pure (ct_NamedR tab T1) ?_ (fun _ _ _ _ h => h.elim)
            rintro r M3 hM3 hno3 rfl
            simp only [noneL, and_true] at hno3
            by_cases hn2 : namedB tab = true
            · rw [if_neg (by rintro ⟨_, h | ⟨_, h⟩⟩; rw [hn1] at h; cases h; rw [hn2] at h; cases h)] at hS
              simp +contextual only [go_sem, Rcb, Rbk, sevalprocAttr, hn1, hn2, htb]
              exact hS' _ _ _ ⟨rfl, ⟨by simp only [go_sem, Rcb, Rbk, sevalprocAttr], by simp only [go_sem, Rcb, Rbk, sevalprocAttr], by simp only [go_sem, Rcb, Rbk, sevalprocAttr]⟩, M3, false, hM2.trans hM3, hno3.1, hno3.2, by simp only [go_sem, Rcb, Rbk, sevalprocAttr], hS, rfl⟩
            · rw [if_pos ⟨rfl, .inr ⟨htb, by simpa using hn2⟩⟩] at hS
              simp +contextual only [go_sem, Rcb, Rbk, sevalprocAttr, hn1, hn2, htb]
              exact hS' _ _ _ ⟨rfl, ⟨by simp only [go_sem, Rcb, Rbk, sevalprocAttr], by simp only [go_sem, Rcb, Rbk, sevalprocAttr], by simp only [go_sem, Rcb, Rbk, sevalprocAttr]⟩, M3, true, hM2.trans hM3, hno3.1, hno3.2, by simp only [go_sem, Rcb, Rbk, sevalprocAttr], hS, rfl⟩
        · rw [if_pos ⟨rfl, .inl (by simpa using hn1)⟩] at hS
          simp +contextual only [go_sem, Rcb, Rbk, sevalprocAttr, hn1]
          exact hS' _ _ _ ⟨rfl, ⟨by simp only [go_sem, Rcb, Rbk, sevalprocAttr], by simp only [go_sem, Rcb, Rbk, sevalprocAttr], by simp only [go_sem, Rcb, Rbk, sevalprocAttr]⟩, M2, true, hM2, hno2.1, hno2.2, by simp only [go_sem, Rcb, Rbk, sevalprocAttr], hS, rfl⟩
      · rw [if_neg (fun h => h2 h.1)] at hS
        simp +contextual only [go_sem, Rcb, Rbk, sevalprocAttr, h2, hno1, hap1]
        exact hS' _ _ _ ⟨rfl, ⟨by simp only [go_sem, Rcb, Rbk, sevalprocAttr], by simp only [go_sem, Rcb, Rbk, sevalprocAttr], by simp only [go_sem, Rcb, Rbk, sevalprocAttr]⟩, M1, false, Ext.rfl', hno1.1, hno1.2, by simp only [go_sem, Rcb, Rbk, sevalprocAttr], hS, rfl⟩
    clear hS
    rintro e ds h ⟨rfl, ⟨e1, e2, e3⟩, M2, B, hM2, n2, n2', e61, hS, rfl⟩
    cases B with
    | true =>
      rw [if_pos rfl] at hS
      simp +contextual only [go_sem, Rcb, Rbk, sevalprocAttr, e61]
      exact Close_drop (end_id hT1 rfl rfl ⟨by rw [hS], by rw [hS], rfl⟩)
    | false =>
    rw [if_neg (by decide)] at hS
    simp +contextual only [go_sem, Rcb, Rbk, sevalprocAttr, e61, e1, e2, e3, n2, n2', hap1]
    refine loop_range kids.length 65 [(1, .int .i64 (deep : Int)), (2, .pointer (some ⟨hb, 0, none⟩)), (63, .slice a kids.length c), (64, .int .i64 (kids.length : Int))] (fun i e h => ∃ (N : Tm) (M' : Mem) (n' : Nat), ExtT T1 N ∧ Ext M1 M' ∧ M' b = none ∧ M' hb = none ∧ n' ≤ 200 ∧ h = ⟨N, M', [(b, [.int .i64 k, .int .i64 v.k, .int .i64 v.n, st v.t, st tab, st name, .slice a kids.length c]), (hb, [.int .i64 (n' : Int)])], []⟩ ∧ S = shapeL (deep + 1) n' (kids.drop i))
      0 (by omega) (by simp only [live, e1, e2, e3, go_sem, Rcb, Rbk, sevalprocAttr]) (by simp only [go_sem, Rcb, Rbk, sevalprocAttr]) ⟨T1, M2, n + 1, ExtT.rfl', hM2, n2, n2', by omega, rfl, hS⟩ ?_
    clear hS e1 e2 e3 e61
    rintro i e h hi hlv ht ⟨N, M3, n', hN, hM3, n3, n3', hn', rfl, hS⟩
    simp only [live] at hlv
    by_cases hlt : i < kids.length
    · obtain ⟨b', o', cs', rfl, hat, hrx⟩ := hget i kids[i] (List.getElem?_eq_getElem hlt)
      have h13 := hM1.trans hM3
      obtain ⟨sg, rfl, og, g0, g1, g2, g3, g4, g5, g6⟩ := RX_atf hrx hat
      have hdrop : kids.drop i = kids[i] :: kids.drop (i + 1) := List.drop_eq_getElem_cons hlt
      rw [hdrop, shapeL] at hS
      have hsz2 : SizeOf.sizeOf kids[i] ≤ sz := by
        have h1 := List.sizeOf_lt_of_mem (List.getElem_mem hlt)
        simp only [X.mk.sizeOf_spec] at hsz
        omega
      have hle2 := shapeX_le (deep + 1) n' kids[i] hn'
      simp +contextual only [go_sem, Rcb, Rbk, sevalprocAttr, hlv, ht, hlt, hwd, mcell_ext h13 g0, mcell_ext h13 g1, mcell_ext h13 g2, mcell_ext h13 g3, mcell_ext h13 g4, mcell_ext h13 g5, mcell_ext h13 g6, og]
      intro b9 N9 hb9 hap9 hN9 hTb9
      refine rCall_one [(b9, _), (b, _)] (ih kids[i] hsz2 M3 N9 hb (deep + 1) n' _ (RX_ext h13 _ _ hrx) hn' (by omega)) ?_ (fun _ _ _ _ _ _ h => h.elim)
      rintro r M4 L' hM4 hk4 hno4 ⟨rfl, rfl, -⟩
      simp only [List.cons_append, List.nil_append, noneL, and_true] at hno4
      by_cases hr : (shapeX (deep + 1) n' kids[i]).1 = 0
      · rw [if_neg (fun h => h hr)] at hS
        simp +contextual only [go_sem, Rcb, Rbk, sevalprocAttr, hlv, ht, hlt, hr]
        rw [Run_lp]
        refine Close_drop (Close_id ⟨kids.length - (i + 1), by omega, rfl, i + 1, by omega, rfl, ?_, ?_, N9, M4, _, hN.trans hN9, hM3.trans hM4, hno4.2.1, hno4.2.2, hle2.2 hr, rfl, hS⟩)
        · simp only [live, hlv, go_sem, Rcb, Rbk, sevalprocAttr]
        · simp only [ht, go_sem, Rcb, Rbk, sevalprocAttr, wrap_succ i (by omega)]
      · rw [if_pos hr] at hS
        simp +contextual only [go_sem, Rcb, Rbk, sevalprocAttr, hlv, ht, hlt, hr]
        exact Close_drop (Close_drop (end_id ((hT1.trans hN).trans hN9) rfl rfl ⟨by rw [hS], by rw [hS], rfl⟩))
    · have : i = kids.length := by omega
      subst this
      rw [List.drop_length, shapeL] at hS
      simp +contextual only [go_sem, Rcb, Rbk, sevalprocAttr, hlv, ht, hlt]
      exact Close_drop (end_id (hT1.trans hN) rfl rfl ⟨by rw [hS], by rw [hS], rfl⟩)
theorem ct_Form {M : Mem} {x : X} {cs : List Value} (hx : RX M x cs) : Ct Tryz.prog 8 [.agg ⟨cs⟩] M [] [] (fun r _ _ _ => r = .int .i64 (exprW x)) noPan := by
  intro T
  obtain ⟨s, rfl, h1, _⟩ := RX_form hx
  refine ct_run mx bod8 Tryz.func8 rfl (by rw [nt8]; exact Nat.le_of_ble_eq_true rfl) (dr := dr8) (by kernel_rfl) rs8 ?_
  intro hno _
  simp +contextual only [go_sem, Rcb, Rbk, sevalprocAttr, h1]
  intro b1 T1 hb1 hT1 hTb1 b3 T3 hb3 hap3 hT3 hTb3
  refine rCall_frz2 bod26 fun M1 hM1 hb1' hno1 => ?_
  refine rCall_one [] (ct_form _ x (Nat.le_refl _) M1 T3 b3 1 0 _ (RX_ext hM1 _ _ hx) (by omega) (by omega)) ?_ (fun _ _ _ _ _ _ h => h.elim)
  rintro r M2 L' hM2 hk2 hno2 ⟨rfl, rfl, -⟩
  simp +contextual only [go_sem, Rcb, Rbk, sevalprocAttr]
  exact end_none (hT1.trans hT3) rfl
theorem ct_called {M : Mem} (s : Bs) (must : Bool) : Ct Tryz.prog 58 [st s, .bool must] M [] [] (fun r _ _ _ => r = .int .i64 (if must = true then namesW [s] else givenW s)) noPan := by
  intro T
  have hnw : namesW [s] = if namedB s = true then 0 else 7 := by simp [namesW]
  refine ct_run mx bod58 Tryz.func58 rfl (by rw [nt58]; exact Nat.le_of_ble_eq_true rfl) (dr := dr58) (by kernel_rfl) rs58 ?_
  intro hno _
  cases must with
  | true =>
    simp +contextual only [go_sem, Rcb, Rbk, sevalprocAttr]
    refine rCall_pure (ct_NamedR s T) ?_ (fun _ _ _ _ h => h.elim)
    rintro v M1 hM1 hno1 rfl
    by_cases hn : namedB s = true
    · simp +contextual only [go_sem, Rcb, Rbk, sevalprocAttr, hn]
      exact end_none ExtT.rfl' (int_eq (by rw [hnw, if_pos hn]))
    · simp +contextual only [go_sem, Rcb, Rbk, sevalprocAttr, hn]
      exact end_none ExtT.rfl' (int_eq (by rw [hnw, if_neg hn]))
  | false =>
    by_cases hs : s = []
    · simp +contextual only [go_sem, Rcb, Rbk, sevalprocAttr, hs]
      exact end_none ExtT.rfl' (int_eq (by simp [givenW]))
    · simp +contextual only [go_sem, Rcb, Rbk, sevalprocAttr, hs]
      refine rCall_pure (ct_NamedR s T) ?_ (fun _ _ _ _ h => h.elim)
      rintro v M1 hM1 hno1 rfl
      by_cases hn : namedB s = true
      · simp +contextual only [go_sem, Rcb, Rbk, sevalprocAttr, hn]
        exact end_none ExtT.rfl' (int_eq (by simp only [givenW]; rw [if_neg hs, hnw, if_pos hn]))
      · simp +contextual only [go_sem, Rcb, Rbk, sevalprocAttr, hn]
        exact end_none ExtT.rfl' (int_eq (by simp only [givenW]; rw [if_neg hs, hnw, if_neg hn]))
set_option maxHeartbeats 4000000
theorem rCond_to {P : Program} {F : Fi} {a b : Code} {s : List Vc.Item} {e : Env} {ds : List Deferred} {h : Sh} {t t' : Bool} (ht : t = t') (k : rCond P F (.bool t') a b s e ds h ⟨⟩) : rCond P F (.bool t) a b s e ds h ⟨⟩ := by subst ht; exact k
theorem app_accs {α : Type} {el : TypeId} {sz : Nat} {r : α → List Value → Prop} {R0 R : RR} {fv : Value} {acc l : List α} {P : Program} {F : Fi} {s : List Vc.Item} {e : Env} {ds : List Deferred} {dd : Option Nat} {T : Tm} {M : Mem} {L : LL} {t : TypeId} {z ys : List Value} {y : Value} (hrow : rowT P t = some (el, sz, z)) (hok : okT P t = true)
    (h : Acc el sz r R0 R fv acc) (hys : RL r l ys) (hs : ∀ R, Srcs P t sz ⟨T, M, L, R⟩ y ys) (hlen : ∀ x cs, r x cs → cs.length = sz) (hl : acc.length * sz + l.length * sz ≤ 4294967296) (hpos : 0 < sz)
    (k : ∀ fv' R', Acc el sz r R0 R' fv' (acc ++ l) → Run P F s (updo e dd fv') ds ⟨T, M, L, R'⟩ ⟨⟩) : rApp P F t t fv y dd s e ds ⟨T, M, L, R⟩ ⟨⟩ := by
  have hyl := RL_len hlen hys
  rcases h with ⟨rfl, rfl, rfl⟩ | ⟨a, c, xs, rfl, h3, rfl⟩
  · refine app_nil hrow hok (hs _) (by rw [hyl]; simp at hl; omega) ?_
    intro ra rm rc hrm
    have : rm = ([] ++ l).length := by
      rw [hyl] at hrm
      exact Nat.eq_of_mul_eq_mul_right hpos (by simpa using hrm)
    subst this
    exact k _ _ (.inr ⟨_, _, _, rfl, by simpa using hys, rfl⟩)
  · have hxl := RL_len hlen h3
    refine app_row hrow hok (hs _) (by rw [hyl, hxl]; omega) ?_
    intro ra rm rc hrm
    have : rm = (acc ++ l).length := by
      rw [hyl, hxl] at hrm
      rw [List.length_append]
      refine Nat.eq_of_mul_eq_mul_right hpos ?_
      rw [Nat.add_mul]
      simpa using hrm
    subst this
    exact k _ _ (.inr ⟨_, _, _, rfl, RL_append h3 hys, rfl⟩)
theorem lcell_app {b : Nat} {cs : List Value} {L2 : LL} : ∀ {L1 : LL}, apart1 b L1 → ∀ o, lcell (L1 ++ (b, cs) :: L2) ⟨b, o, none⟩ = some cs[o]?
  | [], _, o => by simp [lcell]
  | (k, x) :: L1, h, o => by
    have ih := lcell_app (cs := cs) (L2 := L2) h.2 o
    have hne : ¬ b = k := h.1.1
    simp only [List.cons_append, lcell, hne, if_false]
    exact ih
theorem exprsW_app : ∀ (a b : List X), exprsW (a ++ b) = orE (exprsW a) (exprsW b)
  | [], b => by rw [List.nil_append, exprsW, orE0]
  | x :: a, b => by
    rw [List.cons_append, exprsW, exprsW_app a b, exprsW]
    by_cases h : exprW x = 0
    · rw [h, orE0, orE0]
    · rw [orE_pos h, orE_pos h, orE_pos h]
def selL (x : Se) : List X := ((if x.hasW = true then [x.wh] else []) ++ x.group) ++ (if x.hasH = true then [x.hv] else [])
theorem exprsW_one (x : X) : exprsW [x] = exprW x := by
  rw [exprsW, exprsW]
  by_cases h : exprW x = 0
  · rw [h]; rfl
  · rw [orE_pos h]
theorem selW2_eq (x : Se) : selW2 x = exprsW (selL x) := by
  unfold selW2 selW3 selW4 selL
  rw [exprsW_app, exprsW_app]
  have h1 : exprsW (if x.hasW = true then [x.wh] else []) = if x.hasW = true then exprW x.wh else 0 := by split; exact exprsW_one _; rfl
  have h2 : exprsW (if x.hasH = true then [x.hv] else []) = if x.hasH = true then exprW x.hv else 0 := by split; exact exprsW_one _; rfl
  rw [h1, h2]
  generalize (if x.hasW = true then exprW x.wh else 0) = A
  by_cases h : A = 0
  · rw [h, orE0, orE0]
  · rw [orE_pos h, orE_pos h, orE_pos h]
abbrev seV (x : Se) (ai : Option Addr) (aj : Nat) (af : Option Addr) (ag : Nat) (aw ah : Value) (ap : Option Addr) (aq : Nat) : List Value := [.bool x.distinct, .bool x.star, .slice ai x.items.length aj, .slice af x.src.length ag, .bool x.hasW, .bool x.hasH, .int .i64 x.wh.k, .int .i64 x.wh.v.k, .int .i64 x.wh.v.n, st x.wh.v.t, st x.wh.tab, st x.wh.name, aw, .int .i64 x.hv.k, .int .i64 x.hv.v.k, .int .i64 x.hv.v.n, st x.hv.v.t, st x.hv.tab, st x.hv.name, ah, .slice ap x.group.length aq]
theorem ct_Selected {M : Mem} {x : Se} {cs : List Value} (hx : RSe M x cs) : Ct Tryz.prog 25 [.agg ⟨cs⟩] M [] [] (fun r _ _ _ => r = .int .i64 (selW x)) noPan := by
  intro T
  obtain ⟨ai, aj, af, ag, aw, ah, ap, aq, rfl, hi, hf, hw, hv, hgr, ow, ov⟩ := RSe_form hx
  obtain ⟨S, hS⟩ : ∃ S, S = selW x := ⟨_, rfl⟩
  rw [← hS]
  unfold selW at hS
  have hib := hi.1
  have hfb := hf.1
  refine ct_run mx bod25 Tryz.func25 rfl (by rw [nt25]; exact Nat.le_of_ble_eq_true rfl) (dr := dr25) (by kernel_rfl) rs25 ?_
  intro hno _
  simp +contextual only [go_sem, sevalprocAttr, ow, ov]
  intro b1 T1 hb1 hT1 hTb1
  refine rCond_to (t' := selMany x) ?_ ?_
  · rw [Bool.eq_iff_iff]; unfold selMany; cases x.star <;> simp [-List.length_eq_zero_iff] <;> omega
  cases hmy : selMany x with
  | true =>
    rw [if_pos hmy] at hS
    simp +contextual only [go_sem, Rcb, Rbk, sevalprocAttr]
    exact end_none hT1 (by rw [hS])
  | false =>
  rw [if_neg (by rw [hmy]; exact Bool.false_ne_true)] at hS
  have hlens : x.group.length ≤ 8 := by
    unfold selMany at hmy
    cases hst : x.star <;> simp [hst] at hmy <;> omega
  rw [rCond_bool, if_neg Bool.false_ne_true]
  simp +contextual only [go_sem, sevalprocAttr, hb1]
  refine cond_cut (fun e ds h => ds = [] ∧ e 1 = .pointer (some ⟨b1, 0, none⟩) ∧ S = selW1 x ∧ ∃ N M', ExtT T N ∧ Ext M M' ∧ M' b1 = none ∧ h = ⟨N, M', [(b1, seV x ai aj af ag aw ah ap aq)], []⟩) (fun S' hS' => ?_) ?_
  · cases hst : x.star with
    | true =>
      rw [if_pos hst, orE0] at hS
      simp +contextual only [go_sem, Rcb, Rbk, sevalprocAttr]
      exact hS' _ _ _ ⟨rfl, by simp only [go_sem, Rcb, Rbk, sevalprocAttr], hS, T1, M, hT1, Ext.rfl', hb1, by simp only [seV, hst, st]⟩
    | false =>
      rw [if_neg (by rw [hst]; exact Bool.false_ne_true)] at hS
      simp +contextual only [go_sem, Rcb, Rbk, sevalprocAttr, hb1]
      refine loop_range x.items.length 55 [(1, .pointer (some ⟨b1, 0, none⟩)), (53, .slice ai x.items.length aj), (54, .int .i64 (x.items.length : Int))]
        (fun i e h => ∃ N M', ExtT T N ∧ Ext M M' ∧ M' b1 = none ∧ h = ⟨N, M', [(b1, seV x ai aj af ag aw ah ap aq)], []⟩ ∧ S = orE (itemsW (x.items.drop i)) (selW1 x))
        0 (by have := hi.1; omega) (by simp only [live, go_sem, Rcb, Rbk, sevalprocAttr]) (by simp only [go_sem, Rcb, Rbk, sevalprocAttr]) ⟨T1, M, hT1, Ext.rfl', hb1, by simp only [seV, hst, st], hS⟩ ?_
      clear hS
      rintro i e h hi' hlv ht ⟨N, M1, hN, hM1, n1, rfl, hS⟩
      simp only [live] at hlv
      by_cases hlt : i < x.items.length
      · obtain ⟨b', o', cs', rfl, hat, hrs⟩ := RS_get (by decide) (fun _ _ => RIt_len) hi (List.getElem?_eq_getElem hlt)
        obtain ⟨aw', rfl, hrx, ow'⟩ := RIt_form hrs
        have hdrop : x.items.drop i = x.items[i] :: x.items.drop (i + 1) := List.drop_eq_getElem_cons hlt
        rw [hdrop, itemsW] at hS
        have g := hat.ext hM1
        have g0 := g.1
        have g1 := g.2.1
        have g2 := g.2.2.1
        have g3 := g.2.2.2.1
        have g4 := g.2.2.2.2.1
        have g5 := g.2.2.2.2.2.1
        have g6 := g.2.2.2.2.2.2.1
        have g7 := g.2.2.2.2.2.2.2.1
        simp +contextual only [go_sem, Rcb, Rbk, sevalprocAttr, hlv, ht, hlt, g0, g1, g2, g3, g4, g5, g6, g7, ow']
        intro b4 N4 hb4 hap4 hN4 hTb4
        refine rCall_pure (ct_Form (RX_ext hM1 _ _ hrx) N4) ?_ (fun _ _ _ _ h => h.elim)
        rintro v M2 hM2 hno2 rfl
        simp only [noneL, and_true] at hno2
        by_cases hE : exprW x.items[i].x = 0
        · simp +contextual only [go_sem, Rcb, Rbk, sevalprocAttr, hlv, ht, hE, hno2, hap4]
          refine rCall_pure (ct_called x.items[i].as false N4) ?_ (fun _ _ _ _ h => h.elim)
          rintro v M3 hM3 hno3 rfl
          simp only [noneL, and_true] at hno3
          rw [if_neg Bool.false_ne_true]
          by_cases hE2 : givenW x.items[i].as = 0
          · simp +contextual only [go_sem, Rcb, Rbk, sevalprocAttr, hlv, ht, hE2]
            rw [Run_lp]
            refine Close_drop (Close_id ⟨x.items.length - (i + 1), by omega, rfl, i + 1, by omega, rfl, ?_, ?_, N4, M3, hN.trans hN4, (hM1.trans hM2).trans hM3, hno3.2, rfl, ?_⟩)
            · simp only [live, hlv, go_sem, Rcb, Rbk, sevalprocAttr]
            · simp only [ht, go_sem, Rcb, Rbk, sevalprocAttr, wrap_succ i (by omega)]
            · rw [hS]; simp only [firstW]; rw [hE, hE2, orE0, orE0, orE0]
          · simp +contextual only [go_sem, Rcb, Rbk, sevalprocAttr, hlv, ht, hE2]
            exact end_none (hN.trans hN4) (by rw [hS]; simp only [firstW]; rw [hE, orE0, orE_pos hE2, orE_pos hE2, orE_pos hE2])
        · simp +contextual only [go_sem, Rcb, Rbk, sevalprocAttr, hlv, ht, hE]
          exact end_none (hN.trans hN4) (by rw [hS]; simp only [firstW]; rw [orE_pos hE, orE_pos hE, orE_pos hE])
      · have : i = x.items.length := by omega
        subst this
        rw [List.drop_length, itemsW, orE0] at hS
        simp +contextual only [go_sem, Rcb, Rbk, sevalprocAttr, hlv, ht, hlt]
        exact hS' _ _ _ ⟨rfl, by simp only [hlv, go_sem, Rcb, Rbk, sevalprocAttr], hS, N, M1, hN, hM1, n1, rfl⟩
  clear hS
  rintro e ds h ⟨rfl, e1, hS, N, M1, hN, hM1, n1, rfl⟩
  simp +contextual only [go_sem, sevalprocAttr, e1, n1]
  refine run_cut (fun e ds h => ds = [] ∧ e 1 = .pointer (some ⟨b1, 0, none⟩) ∧ S = selW2 x ∧ ∃ N M', ExtT T N ∧ Ext M M' ∧ M' b1 = none ∧ h = ⟨N, M', [(b1, seV x ai aj af ag aw ah ap aq)], []⟩) (fun S' hS' => ?_) ?_
  · simp +contextual only [go_sem, Rcb, Rbk, sevalprocAttr, e1]
    refine loop_range x.src.length 75 [(1, .pointer (some ⟨b1, 0, none⟩)), (73, .slice af x.src.length ag), (74, .int .i64 (x.src.length : Int))]
      (fun i e h => ∃ N M', ExtT T N ∧ Ext M M' ∧ M' b1 = none ∧ h = ⟨N, M', [(b1, seV x ai aj af ag aw ah ap aq)], []⟩ ∧ S = orE (sourcesW i (x.src.drop i)) (selW2 x))
      0 (by omega) (by simp only [live, e1, go_sem, Rcb, Rbk, sevalprocAttr]) (by simp only [go_sem, Rcb, Rbk, sevalprocAttr]) ⟨N, M1, hN, hM1, n1, rfl, hS⟩ ?_
    clear hS e1 hM1 hN n1
    rintro i e h hi' hlv ht ⟨N, M1, hN, hM1, n1, rfl, hS⟩
    simp only [live] at hlv
    by_cases hlt : i < x.src.length
    · obtain ⟨b', o', cs', rfl, hat, hrs⟩ := RS_get (by decide) (fun _ _ => RSo_len) hf (List.getElem?_eq_getElem hlt)
      obtain ⟨aw', rfl, hrx, ow'⟩ := RSo_formC hrs
      have hdrop : x.src.drop i = x.src[i] :: x.src.drop (i + 1) := List.drop_eq_getElem_cons hlt
      rw [hdrop, sourcesW] at hS
      have g := hat.ext hM1
      have g0 := g.1
      have g1 := g.2.1
      have g2 := g.2.2.1
      have g3 := g.2.2.2.1
      have g4 := g.2.2.2.2.1
      have g5 := g.2.2.2.2.2.1
      have g6 := g.2.2.2.2.2.2.1
      have g7 := g.2.2.2.2.2.2.2.1
      have g8 := g.2.2.2.2.2.2.2.2.1
      have g9 := g.2.2.2.2.2.2.2.2.2.1
      generalize x.src[i] = f at hrx hS g0 g1 g2 g3 g4 g5 g6 g7 g8 hrs
      obtain ⟨W, hW⟩ : ∃ W, W = sourceW i f := ⟨_, rfl⟩
      rw [← hW] at hS
      unfold sourceW at hW
      simp +contextual only [go_sem, sevalprocAttr, hlv, ht, hlt]
      simp only [rCond_bool, if_true, Run_skip, Run_seq, Run_block]
      simp +contextual only [go_sem, sevalprocAttr, hlv, ht, hlt, g0, g1, g2, g3, g4, g5, g6, g7, g8, g9, ow']
      intro b8 N8 hb8 hap8 hN8 hTb8
      refine rCond_to (t' := decide ((¬ (decide (f.k = 1) == decide ((i : Int) = 0)) = true ∨ f.k < 1) ∨ 5 < f.k)) ?_ ?_
      · rw [Bool.eq_iff_iff]; simp; omega
      by_cases hbad : (¬ (decide (f.k = 1) == decide ((i : Int) = 0)) = true ∨ f.k < 1) ∨ 5 < f.k
      · rw [if_pos hbad] at hW
        rw [hW, orE_pos (a := (1 : Int)) (by decide), orE_pos (by decide)] at hS
        rw [decide_eq_true hbad]
        simp +contextual only [go_sem, Rcb, Rbk, sevalprocAttr]
        exact end_none (hN.trans hN8) (by rw [hS])
      rw [if_neg hbad] at hW
      rw [decide_eq_false hbad]
      simp +contextual only [go_sem, Rcb, Rbk, sevalprocAttr, hb8, n1, hap8]
      refine rCall_pure (ct_called f.name true N8) ?_ (fun _ _ _ _ h => h.elim)
      rintro v M2 hM2 hno2 rfl
      simp only [noneL, and_true] at hno2
      rw [if_pos rfl]
      by_cases hE : namesW [f.name] = 0
      rotate_left
      · have hf1 : firstW [namesW [f.name], givenW f.as] = namesW [f.name] := by simp only [firstW]; rw [orE_pos hE]
        have hW1 : W = namesW [f.name] := by rw [hW, if_pos (.inl (by rw [hf1]; exact hE)), hf1]
        rw [hW1, orE_pos hE, orE_pos hE] at hS
        simp +contextual only [go_sem, Rcb, Rbk, sevalprocAttr, hE]
        exact end_none (hN.trans hN8) (by rw [hS])
      simp +contextual only [go_sem, Rcb, Rbk, sevalprocAttr, hE, hno2, hap8]
      refine rCall_pure (ct_called f.as false N8) ?_ (fun _ _ _ _ h => h.elim)
      rintro v M3 hM3 hno3 rfl
      simp only [noneL, and_true] at hno3
      rw [if_neg Bool.false_ne_true]
      by_cases hE2 : givenW f.as = 0
      rotate_left
      · have hf1 : firstW [namesW [f.name], givenW f.as] = givenW f.as := by simp only [firstW]; rw [hE, orE0, orE_pos hE2]
        have hW1 : W = givenW f.as := by rw [hW, if_pos (.inl (by rw [hf1]; exact hE2)), hf1]
        rw [hW1, orE_pos hE2, orE_pos hE2] at hS
        simp +contextual only [go_sem, Rcb, Rbk, sevalprocAttr, hE2]
        exact end_none (hN.trans hN8) (by rw [hS])
      have hfw : firstW [namesW [f.name], givenW f.as] = 0 := by simp only [firstW]; rw [hE, hE2, orE0, orE0]
      have h13 := (hM1.trans hM2).trans hM3
      by_cases hi0 : i = 0
      · rw [if_pos (.inr hi0), hfw] at hW
        rw [hW, orE0] at hS
        have hi0' : ¬ (0 : Int) < (i : Int) := by omega
        simp +contextual only [go_sem, Rcb, Rbk, sevalprocAttr, hlv, ht, hE2, hi0']
        rw [Run_lp]
        refine Close_drop (Close_id ⟨x.src.length - (i + 1), by omega, rfl, i + 1, by omega, rfl, ?_, ?_, N8, M3, hN.trans hN8, h13, hno3.2, rfl, hS⟩)
        · simp only [live, hlv, go_sem, Rcb, Rbk, sevalprocAttr]
        · simp only [ht, go_sem, Rcb, Rbk, sevalprocAttr, wrap_succ i (by omega)]
      · rw [if_neg (by rintro (h | h); exact h hfw; exact hi0 h)] at hW
        have hi0' : (0 : Int) < (i : Int) := by omega
        simp +contextual only [go_sem, Rcb, Rbk, sevalprocAttr, hlv, ht, hE2, hi0', hno3, hap8]
        refine rCall_pure (ct_Form (RX_ext h13 _ _ hrx) N8) ?_ (fun _ _ _ _ h => h.elim)
        rintro v M4 hM4 hno4 rfl
        simp only [noneL, and_true] at hno4
        rw [hW] at hS
        by_cases hE3 : exprW f.on = 0
        · rw [hE3, orE0] at hS
          simp +contextual only [go_sem, Rcb, Rbk, sevalprocAttr, hlv, ht, hE3]
          rw [Run_lp]
          refine Close_drop (Close_id ⟨x.src.length - (i + 1), by omega, rfl, i + 1, by omega, rfl, ?_, ?_, N8, M4, hN.trans hN8, h13.trans hM4, hno4.2, rfl, hS⟩)
          · simp only [live, hlv, go_sem, Rcb, Rbk, sevalprocAttr]
          · simp only [ht, go_sem, Rcb, Rbk, sevalprocAttr, wrap_succ i (by omega)]
        · rw [orE_pos hE3, orE_pos hE3] at hS
          simp +contextual only [go_sem, Rcb, Rbk, sevalprocAttr, hE3]
          exact end_none (hN.trans hN8) (by rw [hS])
    · have : i = x.src.length := by omega
      subst this
      rw [List.drop_length, sourcesW, orE0] at hS
      simp +contextual only [go_sem, Rcb, Rbk, sevalprocAttr, hlv, ht, hlt]
      exact hS' _ _ _ ⟨rfl, by simp only [hlv, go_sem, Rcb, Rbk, sevalprocAttr], hS, N, M1, hN, hM1, n1, rfl⟩
  clear hS e1 hM1 hN n1
  rintro e ds h ⟨rfl, e1, hS, N, M1, hN, hM1, n1, rfl⟩
  rw [selW2_eq] at hS
  simp +contextual only [go_sem, sevalprocAttr, e1, n1]
  refine cond_cut (fun e ds h => ds = [] ∧ e 1 = .pointer (some ⟨b1, 0, none⟩) ∧ ∃ fv R Lx, e 12 = fv ∧ Acc 31 7 (RX M1) [] R fv (if x.hasW = true then [x.wh] else []) ∧ apart1 b1 Lx ∧ noneL M1 (Lx ++ [(b1, seV x ai aj af ag aw ah ap aq)]) ∧ h = ⟨N, M1, Lx ++ [(b1, seV x ai aj af ag aw ah ap aq)], R⟩) (fun S' hS' => ?_) ?_
  · cases hW : x.hasW with
    | true =>
      simp +contextual only [go_sem, Rcb, Rbk, sevalprocAttr, e1, n1]
      intro b hb hap
      refine app_acc (z := _) Tryz.underlying25 row25 okt25 (r := RX M1) (Acc_nil (R0 := [])) (RX_ext hM1 _ _ hw) (fun _ _ => RX_len) (RX_oneC hw) hb (by simp) (by decide) ?_
      intro fv' R' hacc'
      simp +contextual only [go_sem, Rcb, Rbk, sevalprocAttr]
      exact hS' _ _ _ ⟨rfl, by simp only [e1, go_sem, Rcb, Rbk, sevalprocAttr], fv', R', [(b, [.int .i64 x.wh.k, .int .i64 x.wh.v.k, .int .i64 x.wh.v.n, st x.wh.v.t, st x.wh.tab, st x.wh.name, aw])], by simp only [go_sem, Rcb, Rbk, sevalprocAttr], by rw [if_pos hW]; simpa using hacc', ⟨⟨hap.2, hap.1⟩, trivial⟩, ⟨hb, n1, trivial⟩, by simp only [seV, hW, st, List.cons_append, List.nil_append]⟩
    | false =>
      simp +contextual only [go_sem, Rcb, Rbk, sevalprocAttr]
      exact hS' _ _ _ ⟨rfl, by simp only [e1, go_sem, Rcb, Rbk, sevalprocAttr], .slice none 0 0, [], [], by simp only [go_sem, Rcb, Rbk, sevalprocAttr], by rw [if_neg (by rw [hW]; decide)]; exact Acc_nil, trivial, ⟨n1, trivial⟩, by simp only [seV, hW, st, List.nil_append]⟩
  clear e1
  rintro e ds h ⟨rfl, e1, fv, R, Lx, e12, hacc, hapx, hnox, rfl⟩
  have hlc := fun o => lcell_app (b := b1) (cs := seV x ai aj af ag aw ah ap aq) (L2 := []) hapx o
  obtain ⟨ys, hyl, hys, hsr⟩ := srcs_RS (P := Tryz.prog) Tryz.underlying25 (fun _ _ => RX_len) (fun _ _ h => RX_oneC h) (RS_ext hM1 (RX_ext hM1) hgr)
  simp +contextual only [go_sem, sevalprocAttr, e1, e12, n1, hlc]
  refine app_accs (z := _) row25 okt25 hacc hys (hsr _ _) (fun _ _ => RX_len) (by split <;> simp <;> omega) (by decide) ?_
  intro fv2 R2 hacc2
  clear hacc e12
  simp +contextual only [go_sem, sevalprocAttr, e1, n1, hlc]
  refine cond_cut (fun e ds h => ds = [] ∧ ∃ fv R Lx, e 12 = fv ∧ Acc 31 7 (RX M1) [] R fv (selL x) ∧ noneL M1 (Lx ++ [(b1, seV x ai aj af ag aw ah ap aq)]) ∧ h = ⟨N, M1, Lx ++ [(b1, seV x ai aj af ag aw ah ap aq)], R⟩) (fun S' hS' => ?_) ?_
  · cases hH : x.hasH with
    | true =>
      simp +contextual only [go_sem, Rcb, Rbk, sevalprocAttr, e1, n1, hlc]
      intro b hb hap
      refine app_acc (z := _) Tryz.underlying25 row25 okt25 hacc2 (RX_ext hM1 _ _ hv) (fun _ _ => RX_len) (RX_oneC hv) hb (by rw [List.length_append]; split <;> simp <;> omega) (by decide) ?_
      intro fv' R' hacc'
      simp +contextual only [go_sem, Rcb, Rbk, sevalprocAttr]
      refine hS' _ _ _ ⟨rfl, fv', R', (b, _) :: Lx, by simp only [go_sem, Rcb, Rbk, sevalprocAttr], ?_, ⟨hb, hnox⟩, rfl⟩
      simp only [selL, hH, if_true]; exact hacc'
    | false =>
      simp +contextual only [go_sem, Rcb, Rbk, sevalprocAttr]
      refine hS' _ _ _ ⟨rfl, fv2, R2, Lx, by simp only [go_sem, Rcb, Rbk, sevalprocAttr], ?_, hnox, rfl⟩
      simp only [selL, hH, if_false, Bool.false_eq_true, List.append_nil]; exact hacc2
  clear hacc2 e1 hlc hapx hnox
  rintro e ds h ⟨rfl, fv, R, Lx, e12, hacc, hnox, rfl⟩
  obtain ⟨fa, fc, rfl⟩ := Acc_form hacc
  have hll : (selL x).length ≤ 10 := by
    unfold selL
    rw [List.length_append, List.length_append]
    split <;> split <;> simp <;> omega
  simp +contextual only [go_sem, Rcb, Rbk, sevalprocAttr, e12]
  refine loop_rangeC (selL x).length 142 [(140, .slice fa (selL x).length fc), (141, .int .i64 ((selL x).length : Int))]
    (fun i e h => ∃ N M', ExtT T N ∧ RS M' (RX M') 7 (selL x) (.slice fa (selL x).length fc) ∧ h = ⟨N, M', [], []⟩ ∧ S = exprsW ((selL x).drop i))
    0 (by omega) (by simp only [live, e12, go_sem, Rcb, Rbk, sevalprocAttr]) (by simp only [go_sem, Rcb, Rbk, sevalprocAttr]) (Close_acc hacc (by omega) (by decide) hnox fun M' hM' hno' hrs => Close_dropAll (Close_id ⟨N, M', hN, RS_ext Ext.rfl' (RX_ext hM') hrs, rfl, hS⟩)) ?_
  clear hS e12 hacc hnox hN hM1 n1
  rintro i e h hi' hlv ht ⟨N, M2, hN, hrs, rfl, hS⟩
  simp only [live] at hlv
  by_cases hlt : i < (selL x).length
  · obtain ⟨b', o', cs', rfl, hat, hrx⟩ := RS_get (by decide) (fun _ _ => RX_len) hrs (List.getElem?_eq_getElem hlt)
    obtain ⟨sg, rfl, og, g0, g1, g2, g3, g4, g5, g6⟩ := RX_atf hrx hat
    have hdrop : (selL x).drop i = (selL x)[i] :: (selL x).drop (i + 1) := List.drop_eq_getElem_cons hlt
    rw [hdrop, exprsW] at hS
    simp +contextual only [go_sem, Rcb, Rbk, sevalprocAttr, hlv, ht, hlt, g0, g1, g2, g3, g4, g5, g6, og]
    intro b9 N9 hb9 hN9 hTb9
    refine rCall_pure (ct_Form hrx N9) ?_ (fun _ _ _ _ h => h.elim)
    rintro v M3 hM3 _ rfl
    by_cases hE : exprW (selL x)[i] = 0
    · rw [hE, orE0] at hS
      simp +contextual only [go_sem, Rcb, Rbk, sevalprocAttr, hlv, ht, hE]
      rw [Run_lp]
      refine Close_drop (Close_id ⟨(selL x).length - (i + 1), by omega, rfl, i + 1, by omega, rfl, ?_, ?_, N9, M3, hN.trans hN9, RS_ext hM3 (RX_ext hM3) hrs, rfl, hS⟩)
      · simp only [live, hlv, go_sem, Rcb, Rbk, sevalprocAttr]
      · simp only [ht, go_sem, Rcb, Rbk, sevalprocAttr, wrap_succ i (by omega)]
    · rw [orE_pos hE] at hS
      simp +contextual only [go_sem, Rcb, Rbk, sevalprocAttr, hlv, ht, hE]
      exact end_none (hN.trans hN9) (by rw [hS])
  · have : i = (selL x).length := by omega
    subst this
    rw [List.drop_length, exprsW] at hS
    simp +contextual only [go_sem, Rcb, Rbk, sevalprocAttr, hlv, ht, hlt]
    exact end_none hN (by rw [hS])
set_option maxHeartbeats 4000000
theorem ct_Asked {M : Mem} {x : Q} {cs : List Value} (hx : RQ M x cs) : Ct Tryz.prog 7 [.agg ⟨cs⟩] M [] [] (fun r _ _ _ => r = .int .i64 (queryW x)) noPan := by
  intro T
  obtain ⟨pv, fv, gv, hp, hf, hgr, rfl⟩ := hx
  obtain ⟨hpb, pa, pc, rfl, hpl, _, _⟩ := RS_elim (by decide) (fun _ _ => RSe_len) hp
  obtain ⟨hfb, fa, fc, rfl, hfl, _, hfget⟩ := RS_elim (by decide) (fun _ _ => RI_len) hf
  obtain ⟨hgb, ga, gc, rfl, hgl, _, hgget⟩ := RS_elim (by decide) (fun _ _ => RX_len) hgr
  have hw1 : IntKind.i64.wrap ((x.ops.length : Int) + 1) = ((x.ops.length + 1 : Nat) : Int) := by rw [wrap64 (by omega) (by omega)]; omega
  obtain ⟨S, hS⟩ : ∃ S, S = queryW x := ⟨_, rfl⟩
  rw [← hS]
  unfold queryW at hS
  refine ct_run mx bod7 Tryz.func7 rfl (by rw [nt7]; exact Nat.le_of_ble_eq_true rfl) (dr := dr7) (by kernel_rfl) rs7 ?_
  intro hno _
  simp +contextual only [go_sem, sevalprocAttr, hw1]
  intro b1 T1 hb1 hT1 hTb1
  refine rCond_to (t' := queryMany x) ?_ ?_
  · rw [Bool.eq_iff_iff]; unfold queryMany; simp [-List.length_eq_zero_iff]; omega
  cases hmy : queryMany x with
  | true =>
    rw [if_pos hmy] at hS
    simp +contextual only [go_sem, Rcb, Rbk, sevalprocAttr]
    exact end_none hT1 (by rw [hS])
  | false =>
  rw [if_neg (by rw [hmy]; exact Bool.false_ne_true)] at hS
  have hops : x.ops.length + 1 = x.parts.length := by
    have := of_decide_eq_false hmy
    omega
  rw [rCond_bool, if_neg Bool.false_ne_true]
  by_cases h50 : 50 < x.limit
  · rw [if_pos h50] at hS
    simp +contextual only [go_sem, Rcb, Rbk, sevalprocAttr, h50, hb1]
    exact end_none hT1 (by rw [hS])
  rw [if_neg h50] at hS
  simp +contextual only [go_sem, sevalprocAttr, hb1, h50]
  simp only [rCond_bool, Bool.false_eq_true, if_false, Run_skip, Run_seq]
  simp +contextual only [go_sem, sevalprocAttr, hb1]
  refine run_cut (fun e ds h => ds = [] ∧ e 1 = .pointer (some ⟨b1, 0, none⟩) ∧ S = queryW1 x ∧ ∃ N M', ExtT T N ∧ Ext M M' ∧ M' b1 = none ∧ h = ⟨N, M', [(b1, [.slice pa x.parts.length pc, .slice fa x.ops.length fc, .slice ga x.order.length gc, .int .i64 x.limit])], []⟩) (fun S' hS' => ?_) ?_
  · simp +contextual only [go_sem, Rcb, Rbk, sevalprocAttr]
    refine loop_range x.parts.length 52 [(1, .pointer (some ⟨b1, 0, none⟩)), (50, .slice pa x.parts.length pc), (51, .int .i64 (x.parts.length : Int))]
      (fun i e h => ∃ N M', ExtT T N ∧ Ext M M' ∧ M' b1 = none ∧ h = ⟨N, M', [(b1, [.slice pa x.parts.length pc, .slice fa x.ops.length fc, .slice ga x.order.length gc, .int .i64 x.limit])], []⟩ ∧ S = orE (partsW x.ops i (x.parts.drop i)) (queryW1 x))
      0 (by omega) (by simp only [live, go_sem, Rcb, Rbk, sevalprocAttr]) (by simp only [go_sem, Rcb, Rbk, sevalprocAttr]) ⟨T1, M, hT1, Ext.rfl', hb1, rfl, hS⟩ ?_
    clear hS
    rintro i e h hi' hlv ht ⟨N, M1, hN, hM1, n1, rfl, hS⟩
    simp only [live] at hlv
    by_cases hlt : i < x.parts.length
    · obtain ⟨b', o', cs', rfl, hat, hrs⟩ := RS_get (by decide) (fun _ _ => RSe_len) hp (List.getElem?_eq_getElem hlt)
      have hrs' := hrs
      obtain ⟨ai, aj, af, ag, aw, ah, ap, aq, rfl, -, -, -, -, -, ow, ov⟩ := RSe_form hrs'
      have hdrop : x.parts.drop i = x.parts[i] :: x.parts.drop (i + 1) := List.drop_eq_getElem_cons hlt
      rw [hdrop, partsW] at hS
      have g := hat.ext hM1
      have g0 := g.1
      have g1 := g.2.1
      have g2 := g.2.2.1
      have g3 := g.2.2.2.1
      have g4 := g.2.2.2.2.1
      have g5 := g.2.2.2.2.2.1
      have g6 := g.2.2.2.2.2.2.1
      have g7 := g.2.2.2.2.2.2.2.1
      have g8 := g.2.2.2.2.2.2.2.2.1
      have g9 := g.2.2.2.2.2.2.2.2.2.1
      have g10 := g.2.2.2.2.2.2.2.2.2.2.1
      have g11 := g.2.2.2.2.2.2.2.2.2.2.2.1
      have g12 := g.2.2.2.2.2.2.2.2.2.2.2.2.1
      have g13 := g.2.2.2.2.2.2.2.2.2.2.2.2.2.1
      have g14 := g.2.2.2.2.2.2.2.2.2.2.2.2.2.2.1
      have g15 := g.2.2.2.2.2.2.2.2.2.2.2.2.2.2.2.1
      have g16 := g.2.2.2.2.2.2.2.2.2.2.2.2.2.2.2.2.1
      have g17 := g.2.2.2.2.2.2.2.2.2.2.2.2.2.2.2.2.2.1
      have g18 := g.2.2.2.2.2.2.2.2.2.2.2.2.2.2.2.2.2.2.1
      have g19 := g.2.2.2.2.2.2.2.2.2.2.2.2.2.2.2.2.2.2.2.1
      have g20 := g.2.2.2.2.2.2.2.2.2.2.2.2.2.2.2.2.2.2.2.2.1
      clear g hat
      generalize x.parts[i] = f at *
      have key : ¬ (0 < i ∧ (x.ops.getD (i - 1) 0 < 1 ∨ 4 < x.ops.getD (i - 1) 0)) → S = orE (orE (selW f) (partsW x.ops (i + 1) (x.parts.drop (i + 1)))) (queryW1 x) := fun h => by rw [hS, if_neg h]
      by_cases hz : i = 0
      · have hz' : ¬ (0 : Int) < (i : Int) := by omega
        replace hS := key (fun h => by omega)
        clear key
        simp +contextual only [go_sem, Rcb, Rbk, sevalprocAttr, hlv, ht, hlt, hz', g0, g1, g2, g3, g4, g5, g6, g7, g8, g9, g10, g11, g12, g13, g14, g15, g16, g17, g18, g19, g20, ow, ov]
        intro b4 N4 hb4 hap4 hN4 hTb4
        refine rCall_pure (ct_Selected (RSe_ext hM1 _ _ hrs) N4) ?_ (fun _ _ _ _ h => h.elim)
        rintro v M2 hM2 hno2 rfl
        simp only [noneL, and_true] at hno2
        by_cases hE : selW f = 0
        · rw [hE, orE0] at hS
          simp +contextual only [go_sem, Rcb, Rbk, sevalprocAttr, hlv, ht, hE]
          rw [Run_lp]
          refine Close_drop (Close_id ⟨x.parts.length - (i + 1), by omega, rfl, i + 1, by omega, rfl, ?_, ?_, N4, M2, hN.trans hN4, hM1.trans hM2, hno2.2, rfl, hS⟩)
          · simp only [live, hlv, go_sem, Rcb, Rbk, sevalprocAttr]
          · simp only [ht, go_sem, Rcb, Rbk, sevalprocAttr, wrap_succ i (by omega)]
        · rw [orE_pos hE, orE_pos hE] at hS
          simp +contextual only [go_sem, Rcb, Rbk, sevalprocAttr, hlv, ht, hE]
          exact end_none (hN.trans hN4) (by rw [hS])
      · have hz' : (0 : Int) < (i : Int) := by omega
        have hil : i - 1 < x.ops.length := by omega
        obtain ⟨bo, oo, co, rfl, hato, hro⟩ := hfget (i - 1) x.ops[i - 1] (List.getElem?_eq_getElem hil)
        unfold RI at hro; subst hro
        have hx := mcell_ext hM1 hato.1
        rw [Nat.mul_one] at hx
        have hgd : x.ops.getD (i - 1) 0 = x.ops[i - 1] := by simp [List.getD, List.getElem?_eq_getElem hil]
        have hwi : IntKind.i64.wrap ((i : Int) - 1) = ((i - 1 : Nat) : Int) := by rw [wrap64 (by omega) (by omega)]; omega
        rw [hgd] at hS key
        by_cases c1 : x.ops[i - 1] < 1
        · rw [if_pos ⟨by omega, .inl c1⟩, orE_pos (by decide)] at hS
          simp +contextual only [go_sem, Rcb, Rbk, sevalprocAttr, hlv, ht, hlt, hz', n1, g0, g1, g2, g3, g4, g5, g6, g7, g8, g9, g10, g11, g12, g13, g14, g15, g16, g17, g18, g19, g20, ow, ov]
          intro b4 N4 hb4 hap4 hN4 hTb4
          simp +contextual only [go_sem, Rcb, Rbk, sevalprocAttr, hlv, hb4, n1, hap4, hwi, hil, hx, c1]
          exact end_none (hN.trans hN4) (by rw [hS])
        · by_cases c2 : 4 < x.ops[i - 1]
          · rw [if_pos ⟨by omega, .inr c2⟩, orE_pos (by decide)] at hS
            simp +contextual only [go_sem, Rcb, Rbk, sevalprocAttr, hlv, ht, hlt, hz', n1, g0, g1, g2, g3, g4, g5, g6, g7, g8, g9, g10, g11, g12, g13, g14, g15, g16, g17, g18, g19, g20, ow, ov]
            intro b4 N4 hb4 hap4 hN4 hTb4
            simp +contextual only [go_sem, Rcb, Rbk, sevalprocAttr, hlv, hb4, n1, hap4, hwi, hil, hx, c1, c2]
            exact end_none (hN.trans hN4) (by rw [hS])
          · replace hS := key (fun h => by rcases h.2 with h | h; exact c1 h; exact c2 h)
            clear key
            simp +contextual only [go_sem, Rcb, Rbk, sevalprocAttr, hlv, ht, hlt, hz', n1, g0, g1, g2, g3, g4, g5, g6, g7, g8, g9, g10, g11, g12, g13, g14, g15, g16, g17, g18, g19, g20, ow, ov]
            intro b4 N4 hb4 hap4 hN4 hTb4
            simp +contextual only [go_sem, Rcb, Rbk, sevalprocAttr, hlv, hb4, n1, hap4, hwi, hil, hx, c1, c2]
            refine rCall_pure (ct_Selected (RSe_ext hM1 _ _ hrs) N4) ?_ (fun _ _ _ _ h => h.elim)
            rintro v M2 hM2 hno2 rfl
            simp only [noneL, and_true] at hno2
            by_cases hE : selW f = 0
            · rw [hE, orE0] at hS
              simp +contextual only [go_sem, Rcb, Rbk, sevalprocAttr, hlv, ht, hE]
              rw [Run_lp]
              refine Close_drop (Close_id ⟨x.parts.length - (i + 1), by omega, rfl, i + 1, by omega, rfl, ?_, ?_, N4, M2, hN.trans hN4, hM1.trans hM2, hno2.2, rfl, hS⟩)
              · simp only [live, hlv, go_sem, Rcb, Rbk, sevalprocAttr]
              · simp only [ht, go_sem, Rcb, Rbk, sevalprocAttr, wrap_succ i (by omega)]
            · rw [orE_pos hE, orE_pos hE] at hS
              simp +contextual only [go_sem, Rcb, Rbk, sevalprocAttr, hlv, ht, hE]
              exact end_none (hN.trans hN4) (by rw [hS])
    · have : i = x.parts.length := by omega
      subst this
      rw [List.drop_length, partsW, orE0] at hS
      simp +contextual only [go_sem, Rcb, Rbk, sevalprocAttr, hlv, ht, hlt]
      exact hS' _ _ _ ⟨rfl, by simp only [hlv, go_sem, Rcb, Rbk, sevalprocAttr], hS, N, M1, hN, hM1, n1, rfl⟩
  clear hS
  rintro e ds h ⟨rfl, e1, hS, N, M1, hN, hM1, n1, rfl⟩
  unfold queryW1 at hS
  by_cases hlim : x.limit < 0
  · rw [if_pos hlim] at hS
    have hlim' : ¬ 0 ≤ x.limit := by omega
    simp +contextual only [go_sem, Rcb, Rbk, sevalprocAttr, e1, n1, hlim']
    exact end_none hN (by rw [hS])
  rw [if_neg hlim] at hS
  have hlim' : 0 ≤ x.limit := by omega
  simp +contextual only [go_sem, Rcb, Rbk, sevalprocAttr, e1, n1, hlim']
  refine loop_range x.order.length 89 [(87, .slice ga x.order.length gc), (88, .int .i64 (x.order.length : Int))]
    (fun i e h => ∃ N M', ExtT T N ∧ Ext M M' ∧ M' b1 = none ∧ h = ⟨N, M', [(b1, [.slice pa x.parts.length pc, .slice fa x.ops.length fc, .slice ga x.order.length gc, .int .i64 x.limit])], []⟩ ∧ S = exprsW (x.order.drop i))
    0 (by omega) (by simp only [live, e1, go_sem, Rcb, Rbk, sevalprocAttr]) (by simp only [go_sem, Rcb, Rbk, sevalprocAttr]) ⟨N, M1, hN, hM1, n1, rfl, hS⟩ ?_
  clear hS e1 hM1 hN n1
  rintro i e h hi hlv ht ⟨N, M1, hN, hM1, n1, rfl, hS⟩
  simp only [live] at hlv
  by_cases hlt : i < x.order.length
  · obtain ⟨b', o', cs', rfl, hat, hrs⟩ := hgget i x.order[i] (List.getElem?_eq_getElem hlt)
    obtain ⟨sg, rfl, og, g0, g1, g2, g3, g4, g5, g6⟩ := RX_atf hrs hat
    have hdrop : x.order.drop i = x.order[i] :: x.order.drop (i + 1) := List.drop_eq_getElem_cons hlt
    rw [hdrop, exprsW] at hS
    simp +contextual only [go_sem, Rcb, Rbk, sevalprocAttr, hlv, ht, hlt, mcell_ext hM1 g0, mcell_ext hM1 g1, mcell_ext hM1 g2, mcell_ext hM1 g3, mcell_ext hM1 g4, mcell_ext hM1 g5, mcell_ext hM1 g6, og]
    intro b9 N9 hb9 hap9 hN9 hTb9
    refine rCall_pure (ct_Form (RX_ext hM1 _ _ hrs) N9) ?_ (fun _ _ _ _ h => h.elim)
    rintro v M2 hM2 hno2 rfl
    simp only [noneL, and_true] at hno2
    by_cases hE : exprW x.order[i] = 0
    · rw [hE, orE0] at hS
      simp +contextual only [go_sem, Rcb, Rbk, sevalprocAttr, hlv, ht, hE]
      rw [Run_lp]
      refine Close_drop (Close_id ⟨x.order.length - (i + 1), by omega, rfl, i + 1, by omega, rfl, ?_, ?_, N9, M2, hN.trans hN9, hM1.trans hM2, hno2.2, rfl, hS⟩)
      · simp only [live, hlv, go_sem, Rcb, Rbk, sevalprocAttr]
      · simp only [ht, go_sem, Rcb, Rbk, sevalprocAttr, wrap_succ i (by omega)]
    · rw [orE_pos hE] at hS
      simp +contextual only [go_sem, Rcb, Rbk, sevalprocAttr, hlv, ht, hE]
      exact end_none (hN.trans hN9) (by rw [hS])
  · have : i = x.order.length := by omega
    subst this
    rw [List.drop_length, exprsW] at hS
    simp +contextual only [go_sem, Rcb, Rbk, sevalprocAttr, hlv, ht, hlt]
    exact end_none hN (by rw [hS])
inductive Ex where
  | mk (k : Int) (v : V) (c : Int) (kids : List Ex)
namespace Ex
def k : Ex → Int | mk k _ _ _ => k
def v : Ex → V | mk _ v _ _ => v
def c : Ex → Int | mk _ _ c _ => c
def kids : Ex → List Ex | mk _ _ _ l => l
end Ex
mutual
def REx (M : Mem) : Ex → List Value → Prop
  | .mk k v c kids, cs => ∃ s xs, cs = [.int .i64 k, .int .i64 v.k, .int .i64 v.n, st v.t, .int .i64 c, s] ∧ kids.length ≤ 140737488355328 ∧ Sl M s 6 xs ∧ RExs M kids xs
def RExs (M : Mem) : List Ex → List Value → Prop
  | [], xs => xs = []
  | x :: l, xs => ∃ cs rest, xs = cs ++ rest ∧ REx M x cs ∧ RExs M l rest
end
theorem RExs_RL {M : Mem} : ∀ {l xs}, RExs M l xs ↔ RL (REx M) l xs
  | [], _ => by simp [RExs, RL]
  | x :: l, xs => by simp only [RExs, RL, RExs_RL (l := l)]
theorem REx_iff {M : Mem} {x : Ex} {cs} : REx M x cs ↔ ∃ s, cs = [.int .i64 x.k, .int .i64 x.v.k, .int .i64 x.v.n, st x.v.t, .int .i64 x.c, s] ∧ RS M (REx M) 6 x.kids s := by
  obtain ⟨k, v, c, kids⟩ := x
  simp only [REx, RS, Ex.k, Ex.v, Ex.c, Ex.kids, RExs_RL]
  constructor
  · rintro ⟨s, xs, h1, h0, h2, h3⟩; exact ⟨s, h1, h0, xs, h2, h3⟩
  · rintro ⟨s, h1, h0, xs, h2, h3⟩; exact ⟨s, xs, h1, h0, h2, h3⟩
theorem REx_len {M : Mem} {x : Ex} {cs} (h : REx M x cs) : cs.length = 6 := by
  obtain ⟨s, rfl, _⟩ := REx_iff.1 h; rfl
mutual
theorem REx_ext {M M' : Mem} (he : Ext M M') : ∀ (x : Ex) (cs : List Value), REx M x cs → REx M' x cs
  | .mk _ _ _ kids, _, h => by
    obtain ⟨s, xs, h1, h0, h2, h3⟩ := h
    exact ⟨s, xs, h1, h0, h2.ext he, RExs_ext he kids xs h3⟩
theorem RExs_ext {M M' : Mem} (he : Ext M M') : ∀ (l : List Ex) (xs : List Value), RExs M l xs → RExs M' l xs
  | [], _, h => h
  | x :: l, _, h => by
    obtain ⟨cs, rest, h1, h2, h3⟩ := h
    exact ⟨cs, rest, h1, REx_ext he x cs h2, RExs_ext he l rest h3⟩
end
theorem REx_form {M : Mem} {x : Ex} {cs : List Value} (h : REx M x cs) : ∃ s, cs = [.int .i64 x.k, .int .i64 x.v.k, .int .i64 x.v.n, st x.v.t, .int .i64 x.c, s] ∧ s.oneCell' = true ∧ RS M (REx M) 6 x.kids s := by
  obtain ⟨s, rfl, hs⟩ := REx_iff.1 h
  exact ⟨s, rfl, (RS_one hs).1, hs⟩
theorem REx_oneC {M : Mem} {x : Ex} {cs : List Value} (h : REx M x cs) : ∀ u ∈ cs, u.oneCell' = true := by
  obtain ⟨s, rfl, h1, _⟩ := REx_form h
  intro u hu
  simp only [List.mem_cons, List.not_mem_nil, or_false] at hu
  rcases hu with rfl | rfl | rfl | rfl | rfl | rfl <;> first | rfl | exact h1
structure Ag where
  k : Int
  x : Ex
def RAg (M : Mem) (a : Ag) (cs : List Value) : Prop := ∃ c, REx M a.x c ∧ cs = .int .i64 a.k :: c
theorem RAg_len {M : Mem} {a : Ag} {cs} (h : RAg M a cs) : cs.length = 7 := by
  obtain ⟨c, h1, rfl⟩ := h; simp [REx_len h1]
theorem RAg_ext {M M' : Mem} (he : Ext M M') (a : Ag) (cs) (h : RAg M a cs) : RAg M' a cs := by
  obtain ⟨c, h1, h2⟩ := h; exact ⟨c, REx_ext he _ _ h1, h2⟩
inductive Pl where
  | mk (k n : Int) (x : Ex) (xs : List Ex) (ags : List Ag) (kids : List Pl)
namespace Pl
def k : Pl → Int | mk k _ _ _ _ _ => k
def n : Pl → Int | mk _ n _ _ _ _ => n
def x : Pl → Ex | mk _ _ x _ _ _ => x
def xs : Pl → List Ex | mk _ _ _ l _ _ => l
def ags : Pl → List Ag | mk _ _ _ _ l _ => l
def kids : Pl → List Pl | mk _ _ _ _ _ l => l
end Pl
mutual
def RPl (M : Mem) : Pl → List Value → Prop
  | .mk k n x xs ags kids, cs => ∃ xc xv av s ys, cs = [.int .i64 k, .int .i64 n] ++ (xc ++ [xv, av, s]) ∧ REx M x xc ∧ RS M (REx M) 6 xs xv ∧ RS M (RAg M) 7 ags av ∧ kids.length ≤ 140737488355328 ∧ Sl M s 11 ys ∧ RPls M kids ys
def RPls (M : Mem) : List Pl → List Value → Prop
  | [], xs => xs = []
  | x :: l, xs => ∃ cs rest, xs = cs ++ rest ∧ RPl M x cs ∧ RPls M l rest
end
theorem RPls_RL {M : Mem} : ∀ {l xs}, RPls M l xs ↔ RL (RPl M) l xs
  | [], _ => by simp [RPls, RL]
  | x :: l, xs => by simp only [RPls, RL, RPls_RL (l := l)]
theorem RPl_iff {M : Mem} {p : Pl} {cs} : RPl M p cs ↔ ∃ xc xv av s, cs = [.int .i64 p.k, .int .i64 p.n] ++ (xc ++ [xv, av, s]) ∧ REx M p.x xc ∧ RS M (REx M) 6 p.xs xv ∧ RS M (RAg M) 7 p.ags av ∧ RS M (RPl M) 11 p.kids s := by
  obtain ⟨k, n, x, xs, ags, kids⟩ := p
  constructor
  · intro h
    obtain ⟨xc, xv, av, s, ys, h1, h2, h3, h4, h5, h6, h7⟩ := h
    exact ⟨xc, xv, av, s, h1, h2, h3, h4, h5, ys, h6, RPls_RL.1 h7⟩
  · rintro ⟨xc, xv, av, s, h1, h2, h3, h4, h5, ys, h6, h7⟩
    exact ⟨xc, xv, av, s, ys, h1, h2, h3, h4, h5, h6, RPls_RL.2 h7⟩
theorem RPl_len {M : Mem} {p : Pl} {cs} (h : RPl M p cs) : cs.length = 11 := by
  obtain ⟨xc, xv, av, s, rfl, h1, _⟩ := RPl_iff.1 h; simp [REx_len h1]
mutual
theorem RPl_ext {M M' : Mem} (he : Ext M M') : ∀ (p : Pl) (cs : List Value), RPl M p cs → RPl M' p cs
  | .mk _ _ _ _ _ kids, _, h => by
    obtain ⟨xc, xv, av, s, ys, h1, h2, h3, h4, h5, h6, h7⟩ := h
    exact ⟨xc, xv, av, s, ys, h1, REx_ext he _ _ h2, RS_ext he (REx_ext he) h3, RS_ext he (RAg_ext he) h4, h5, h6.ext he, RPls_ext he kids ys h7⟩
theorem RPls_ext {M M' : Mem} (he : Ext M M') : ∀ (l : List Pl) (xs : List Value), RPls M l xs → RPls M' l xs
  | [], _, h => h
  | x :: l, _, h => by
    obtain ⟨cs, rest, h1, h2, h3⟩ := h
    exact ⟨cs, rest, h1, RPl_ext he x cs h2, RPls_ext he l rest h3⟩
end
structure Rel where
  name : Bs
  cols : List Co
  view : Bool
  plan : Pl
def RRel (M : Mem) (r : Rel) (cs : List Value) : Prop := ∃ c p, RS M RCo 2 r.cols c ∧ RPl M r.plan p ∧ cs = [st r.name, c, .bool r.view] ++ p
theorem RRel_len {M : Mem} {r : Rel} {cs} (h : RRel M r cs) : cs.length = 14 := by
  obtain ⟨c, p, _, h2, rfl⟩ := h; simp [RPl_len h2]
theorem RRel_ext {M M' : Mem} (he : Ext M M') (r : Rel) (cs) (h : RRel M r cs) : RRel M' r cs := by
  obtain ⟨c, p, h1, h2, h3⟩ := h; exact ⟨c, p, RS_ext he (fun _ _ h => h) h1, RPl_ext he _ _ h2, h3⟩
def zeroV : V := ⟨0, 0, []⟩
def zeroE : Ex := .mk 0 zeroV 0 []
def valB (v : V) : V := if v.k = 1 then ⟨1, 0, []⟩ else if v.k = 4 then ⟨4, 0, v.t⟩ else ⟨v.k, v.n, []⟩
def sameV (a b : V) : Bool := decide (a.k = b.k) && (decide (a.n = b.n) && decide (a.t = b.t))
mutual
def alikeX : X → X → Bool
  | .mk k v tab name kids, .mk k' v' tab' name' kids' => decide (k = k') && (if k = 1 then sameV (valB v) (valB v') else if k = 2 then decide (tab = tab') && decide (name = name') else alikeL kids kids')
def alikeL : List X → List X → Bool
  | [], [] => true
  | x :: l, y :: m => alikeX x y && alikeL l m
  | _, _ => false
end
def placeG (tab name : Bs) : Nat → Option Nat → List (Bs × Bs) → Option (Option Nat)
  | _, k, [] => some k
  | i, k, c :: l => if c.2 = name ∧ (tab = [] ∨ c.1 = tab) then (match k with | none => placeG tab name (i + 1) (some i) l | some _ => none) else placeG tab name (i + 1) k l
def placeM (l : List (Bs × Bs)) (tab name : Bs) : Except Int Nat := match placeG tab name 0 none l with
  | some (some i) => .ok i
  | _ => .error 7
def colE (i : Nat) : Ex := .mk 2 zeroV i []
mutual
def exprB (names : List (Bs × Bs)) : X → Except Int Ex
  | .mk k v tab name kids => if 19 ≤ k then .error 8 else if k = 2 then (match placeM names tab name with | .ok i => .ok (colE i) | .error e => .error e) else if k = 1 then .ok (.mk 1 v 0 [])
    else match exprsB names kids with | .ok l => .ok (.mk k zeroV 0 l) | .error e => .error e
def exprsB (names : List (Bs × Bs)) : List X → Except Int (List Ex)
  | [] => .ok []
  | x :: l => match exprB names x with
    | .error e => .error e
    | .ok y => match exprsB names l with | .ok m => .ok (y :: m) | .error e => .error e
end
def argB (names : List (Bs × Bs)) (kids : List X) : Except Int Ex := match kids with
  | [] => .ok zeroE
  | x :: _ => exprB names x
mutual
def exprG (names : List (Bs × Bs)) (keys : List X) : X → List Ag → Except Int (Ex × List Ag)
  | .mk k v tab name kids, ags => match keys.findIdx? (fun y => alikeX (.mk k v tab name kids) y) with
    | some i => .ok (colE i, ags)
    | none => if 19 ≤ k then (match argB names kids with | .ok a => .ok (colE (keys.length + ags.length), ags ++ [⟨k - 18, a⟩]) | .error e => .error e)
      else if k = 2 then .error 8 else if k = 1 then .ok (.mk 1 v 0 [], ags)
      else match exprsG names keys kids ags with | .ok l => .ok (.mk k zeroV 0 l.1, l.2) | .error e => .error e
def exprsG (names : List (Bs × Bs)) (keys : List X) : List X → List Ag → Except Int (List Ex × List Ag)
  | [], ags => .ok ([], ags)
  | x :: l, ags => match exprG names keys x ags with
    | .error e => .error e
    | .ok y => match exprsG names keys l y.2 with | .ok m => .ok (y.1 :: m.1, m.2) | .error e => .error e
end
mutual
def hasX : X → Bool
  | .mk k _ _ _ kids => decide (19 ≤ k) || hasL kids
def hasL : List X → Bool
  | [] => false
  | x :: l => hasX x || hasL l
end
def tablesM (rels : List Rel) : List (List Int) := (rels.filter fun r => !r.view).map fun r => r.cols.map (·.ty)
def plan1 (k : Int) (p : Pl) : Pl := .mk k 0 zeroE [] [] [p]
def plan2 (k : Int) (p q : Pl) : Pl := .mk k 0 zeroE [] [] [p, q]
def tableP (n : Nat) : Pl := .mk 1 n zeroE [] [] []
def findG (name : Bs) : Nat → List Rel → Option (Pl × List Co)
  | _, [] => none
  | n, r :: l => if r.name = name then some (if r.view = true then r.plan else tableP n, r.cols) else findG name (if r.view = true then n else n + 1) l
def findM (rels : List Rel) (name : Bs) : Except Int (Pl × List Co) := match findG name 0 rels with | some x => .ok x | none => .error 7
def asOf (s : So) : Bs := if s.as = [] then s.name else s.as
def joinK (k : Int) : Int := if k = 2 then 4 else if k = 3 then 5 else if k = 4 then 6 else if k = 5 then 7 else 0
def fromG (rels : List Rel) : List So → Nat → Pl → List (Bs × Bs) → List Bs → Except Int (Pl × List (Bs × Bs))
  | [], _, p, names, _ => .ok (p, names)
  | s :: l, i, p, names, had => match findM rels s.name with
    | .error e => .error e
    | .ok q => if had.contains (asOf s) = true then .error 7 else
      if i = 0 then fromG rels l 1 q.1 (names ++ q.2.map fun c => (asOf s, c.name)) (had ++ [asOf s])
      else match exprB (names ++ q.2.map fun c => (asOf s, c.name)) s.on with
        | .error e => .error e
        | .ok x => fromG rels l (i + 1) (.mk (joinK s.k) 0 x [] [] [p, q.1]) (if s.k = 2 ∨ s.k = 5 then names ++ q.2.map fun c => (asOf s, c.name) else names) (had ++ [asOf s])
def zeroP : Pl := .mk 0 0 zeroE [] [] []
def fromM (rels : List Rel) (l : List So) : Except Int (Pl × List (Bs × Bs)) := fromG rels l 0 zeroP [] []
def calledM (x : It) (i : Nat) : Bs := if x.as ≠ [] then x.as else if x.x.k = 2 then x.x.name else 99 :: Lib.decDigits (i + 1)
def calledL : Nat → List It → List Bs
  | _, [] => []
  | i, x :: l => calledM x i :: calledL (i + 1) l
def filterP (x : Ex) (p : Pl) : Pl := .mk 2 0 x [] [] [p]
def groupedS (s : Se) : Bool := (decide (0 < s.group.length) || s.hasH) || (!s.star && s.items.any fun i => hasX i.x)
def optBB (names : List (Bs × Bs)) (h : Bool) (x : X) : Except Int Ex := if h = true then exprB names x else .ok zeroE
def optGB (names : List (Bs × Bs)) (keys : List X) (h : Bool) (x : X) (ags : List Ag) : Except Int (Ex × List Ag) := if h = true then exprG names keys x ags else .ok (zeroE, ags)
def groupM (s : Se) (p : Pl) (names : List (Bs × Bs)) : Except Int Pl := if s.star = true then .error 8 else
  match exprsB names s.group with
  | .error e => .error e
  | .ok keys => match exprsG names s.group (s.items.map (·.x)) [] with
    | .error e => .error e
    | .ok it => match optGB names s.group s.hasH s.hv it.2 with
      | .error e => .error e
      | .ok h => let g : Pl := .mk 12 0 zeroE keys h.2 [p]
        .ok (.mk 3 0 zeroE it.1 [] [if s.hasH = true then filterP h.1 g else g])
def mapM' (s : Se) (p : Pl) (names : List (Bs × Bs)) : Except Int Pl := if s.star = true then .ok p else
  match exprsB names (s.items.map (·.x)) with
  | .error e => .error e
  | .ok l => .ok (.mk 3 0 zeroE l [] [p])
def selB (rels : List Rel) (s : Se) : Except Int (Pl × List Bs) := match fromM rels s.src with
  | .error e => .error e
  | .ok f => match optBB f.2 s.hasW s.wh with
    | .error e => .error e
    | .ok w => let p := if s.hasW = true then filterP w f.1 else f.1
      match (if groupedS s = true then groupM s p f.2 else mapM' s p f.2) with
      | .error e => .error e
      | .ok q => .ok (if s.distinct = true then plan1 11 q else q, if s.star = true then f.2.map (·.2) else calledL 0 s.items)
def setB (op : Int) (a b : Pl) : Pl := if op = 1 then plan2 8 a b else if op = 2 then plan1 11 (plan2 8 a b) else if op = 4 then plan1 10 (plan2 9 (plan1 11 a) (plan1 11 b)) else plan1 10 (plan2 9 a b)
def partsB (rels : List Rel) (ops : List Int) : Nat → Pl → List Bs → List Se → Except Int (Pl × List Bs)
  | _, p, names, [] => .ok (p, names)
  | i, p, names, s :: l => match selB rels s with
    | .error e => .error e
    | .ok r => if i = 0 then partsB rels ops 1 r.1 r.2 l else partsB rels ops (i + 1) (setB (ops.getD (i - 1) 0) p r.1) names l
def topB (q : Q) (r : Pl × List Bs) : Except Int Pl := if 0 ≤ q.limit then (match exprsB (r.2.map fun n => ([], n)) q.order with
    | .error e => .error e
    | .ok xs => .ok (.mk 13 q.limit zeroE xs [] [r.1])) else .ok r.1
def queryB (rels : List Rel) (q : Q) : Except Int (Pl × List Bs) := match partsB rels q.ops 0 zeroP [] q.parts with
  | .error e => .error e
  | .ok r => match topB q r with
    | .error e => .error e
    | .ok p => .ok (p, r.2)
def kidsE (k : Int) : Int := if k = 1 ∨ k = 2 then 0 else if k = 3 ∨ k = 16 then 1 else if (4 ≤ k ∧ k ≤ 15) ∨ k = 18 then 2 else if k = 17 then 3 else -1
def oneT (a b : Int) : Option Int := if a = b ∨ b = 1 then some a else if a = 1 then some b else none
def fitT (a want : Int) : Bool := (oneT a want).isSome
def kindT' (k : Int) (t : List Int) : Except Int Int :=
  if k ≤ 5 then (if t.all (fitT · 2) = true then .ok 2 else .error 9)
  else if k ≤ 11 then (if (oneT (t.getD 0 0) (t.getD 1 0)).isSome = true then .ok 2 else .error 9)
  else if k ≤ 14 then (if t.all (fitT · 3) = true then .ok 3 else .error 9)
  else if k = 15 then (if t.all (fitT · 4) = true then .ok 4 else .error 9)
  else if k = 17 then (match oneT (t.getD 1 0) (t.getD 2 0) with | some o => if fitT (t.getD 0 0) 2 = true then .ok o else .error 9 | none => .error 9)
  else (match oneT (t.getD 0 0) (t.getD 1 0) with | some o => .ok o | none => .error 9)
mutual
def typE (cols : List Int) (deep n : Nat) : Ex → Except Int Int × Nat
  | .mk k v c kids => if 200 < n + 1 ∨ 20 < deep then (.error 4, n + 1) else if kidsE k < 0 then (.error 1, n + 1) else if (kids.length : Int) ≠ kidsE k then (.error 5, n + 1)
    else match typL cols (deep + 1) (n + 1) kids with
      | (.error e, m) => (.error e, m)
      | (.ok t, m) => (if k = 1 then (if wrongV v = 0 then .ok v.k else .error (wrongV v)) else if k = 2 then (if 0 ≤ c ∧ c < cols.length then .ok (cols.getD c.toNat 0) else .error 7) else if k = 16 then .ok 2 else kindT' k t, m)
def typL (cols : List Int) (deep n : Nat) : List Ex → Except Int (List Int) × Nat
  | [] => (.ok [], n)
  | x :: l => match typE cols deep n x with
    | (.error e, m) => (.error e, m)
    | (.ok t, m) => match typL cols deep m l with
      | (.error e, m') => (.error e, m')
      | (.ok ts, m') => (.ok (t :: ts), m')
end
def typeX (cols : List Int) (x : Ex) : Except Int Int := if 16 < cols.length then .error 5 else if cols.all (fun t => decide (1 ≤ t ∧ t ≤ 4)) = true then (typE cols 1 0 x).1 else .error 1
def typesE (cols : List Int) : List Ex → Except Int (List Int)
  | [] => .ok []
  | x :: l => match typeX cols x with
    | .error e => .error e
    | .ok t => match typesE cols l with | .ok ts => .ok (t :: ts) | .error e => .error e
def typesX (cols : List Int) (xs : List Ex) : Except Int (List Int) := if 8 < xs.length then .error 5 else typesE cols xs
def aggT (cols : List Int) (a : Ag) : Except Int Int := if a.k < 1 ∨ 5 < a.k then .error 1 else if a.k = 1 then .ok 3 else match typeX cols a.x with
  | .error e => .error e
  | .ok u => if a.k = 3 ∧ u ≠ 3 ∧ u ≠ 1 then .error 9 else .ok (if 4 ≤ a.k then u else 3)
def aggsT (cols : List Int) : List Ag → Except Int (List Int)
  | [] => .ok []
  | a :: l => match aggT cols a with
    | .error e => .error e
    | .ok t => match aggsT cols l with | .ok ts => .ok (t :: ts) | .error e => .error e
def condT (cols : List Int) (x : Ex) : Except Int Unit := match typeX cols x with
  | .error e => .error e
  | .ok t => if t = 2 ∨ t = 1 then .ok () else .error 9
def kidsPl (k : Int) : Int := if k = 1 then 0 else if 4 ≤ k ∧ k ≤ 9 then 2 else if 1 < k ∧ k ≤ 13 then 1 else -1
def sideT : List Int → List Int → Except Int (List Int)
  | t :: a, u :: b => match oneT t u with
    | none => .error 9
    | some o => match sideT a b with | .ok l => .ok (o :: l) | .error e => .error e
  | _, _ => .ok []
def togetherT (a b : List Int) : Except Int (List Int) := if a.length ≠ b.length then .error 8 else sideT a b
def nodeT (tables : List (List Int)) (k n : Int) (x : Ex) (xs : List Ex) (ags : List Ag) (c : List (List Int)) : Except Int (List Int) :=
  let a := c.getD 0 []
  let b := c.getD 1 []
  if k = 1 then (if 0 ≤ n ∧ n < tables.length then .ok (tables.getD n.toNat []) else .error 7)
  else if k = 2 then (match condT a x with | .ok _ => .ok a | .error e => .error e)
  else if k = 3 then typesX a xs
  else if k = 8 ∨ k = 9 then togetherT a b
  else if k = 10 ∨ k = 11 then .ok a
  else if k = 12 then (if 8 < xs.length + ags.length then .error 5 else match typesX a xs with
    | .error e => .error e
    | .ok ks => match aggsT a ags with | .ok g => .ok (ks ++ g) | .error e => .error e)
  else if k = 13 then (match typesX a xs with
    | .error e => .error e
    | .ok _ => if n < 0 ∨ 50 < n then .error 3 else .ok a)
  else if 8 < (a ++ b).length then .error 5
  else match condT (a ++ b) x with
    | .error e => .error e
    | .ok _ => .ok (if k = 5 ∨ k = 6 then a else a ++ b)
mutual
def colsPl (tables : List (List Int)) (deep m : Nat) : Pl → Except Int (List Int) × Nat
  | .mk k n x xs ags kids => if 60 < m + 1 ∨ 15 < deep then (.error 4, m + 1) else if kidsPl k < 0 then (.error 1, m + 1) else if (kids.length : Int) ≠ kidsPl k then (.error 5, m + 1)
    else match colsL tables (deep + 1) (m + 1) kids with
      | (.error e, m') => (.error e, m')
      | (.ok c, m') => (nodeT tables k n x xs ags c, m')
def colsL (tables : List (List Int)) (deep m : Nat) : List Pl → Except Int (List (List Int)) × Nat
  | [] => (.ok [], m)
  | p :: l => match colsPl tables deep m p with
    | (.error e, m') => (.error e, m')
    | (.ok c, m') => match colsL tables deep m' l with
      | (.error e, m'') => (.error e, m'')
      | (.ok cs, m'') => (.ok (c :: cs), m'')
end
def tabW : List (List Int) → Int
  | [] => 0
  | t :: l => if 8 < t.length then 5 else if t.all (fun k => decide (1 ≤ k ∧ k ≤ 4)) = true then tabW l else 1
def colsT (tables : List (List Int)) (p : Pl) : Except Int (List Int) := if 8 < tables.length then .error 5 else if tabW tables ≠ 0 then .error (tabW tables) else (colsPl tables 1 0 p).1
def zipC : List Bs → List Int → List Co
  | n :: l, t :: m => ⟨n, t⟩ :: zipC l m
  | _, _ => []
def boundM (rels : List Rel) (q : Q) : Except Int (Pl × List Co) := match queryB rels q with
  | .error e => .error e
  | .ok r => match colsT (tablesM rels) r.1 with
    | .error e => .error e
    | .ok t => .ok (r.1, zipC r.2 t)
def oopB (e : Int) : List PanicEntry := [{ v := .iface 89 (.agg #[.int .i64 e]), recovered := false }]
theorem ct_bfail (e : Int) (M : Mem) (T : Tm) : CtT Tryz.prog 66 [.int .i64 e] T M [] [] (fun _ _ _ _ => False) (fun ch _ _ _ => ch = oopB e) := by
  refine ct_run mx bod66 Tryz.func66 rfl (by rw [nt66]; exact Nat.le_of_ble_eq_true rfl) (dr := dr66) (by kernel_rfl) rs66 ?_
  intro _ _
  simp +contextual only [go_sem, Rcb, Rbk, sevalprocAttr]
  exact end_none ExtT.rfl' rfl
def RCl (c : Bs × Bs) (cs : List Value) : Prop := cs = [st c.1, st c.2]
theorem RCl_len {c : Bs × Bs} {cs} (h : RCl c cs) : cs.length = 2 := by rw [h]; rfl
def postX {α : Type} (enc : α → Value → Mem → Prop) (res : Except Int α) : PostP := fun v M' _ _ => ∃ a, res = .ok a ∧ enc a v M'
def panX {α : Type} (res : Except Int α) : PanP := fun ch _ _ _ => ∃ e, res = .error e ∧ ch = oopB e
theorem pan_x {α : Type} {T N : Tm} {M : Mem} {L : LL} {R : RR} {dr ts e post} {res : Except Int α} {c : Int} (hT : ExtT T N) (h : res = .error c) : (fi Tryz.prog T dr ts (keys []) 0 post (panX res)).pan (oopB c) e [] ⟨N, M, L, R⟩ := by
  rw [fi_pan, panF_eq]
  exact end_none hT ⟨c, h, rfl⟩
theorem fail_x {α : Type} {T N : Tm} {M : Mem} {L : LL} {R : RR} {dr ts e post d s} {res : Except Int α} {c : Int} (hT : ExtT T N) (h : res = .error c) : rCall Tryz.prog (fi Tryz.prog T dr ts (keys []) 0 post (panX res)) 66 [.int .i64 c] d s e [] ⟨N, M, L, R⟩ ⟨⟩ := by
  refine rCall_pure (ct_bfail c M N) (fun _ _ _ _ h => h.elim) ?_
  rintro ch M1 hM1 hno1 rfl
  exact pan_x hT h
theorem placeG_cons (tab name : Bs) (i : Nat) (k : Option Nat) (c : Bs × Bs) (l : List (Bs × Bs)) : placeG tab name i k (c :: l) = if c.2 = name ∧ (tab = [] ∨ c.1 = tab) then (match k with | none => placeG tab name (i + 1) (some i) l | some _ => none) else placeG tab name (i + 1) k l := by
  cases k <;> rfl
def optI : Option Nat → Int | none => -1 | some i => (i : Int)
theorem ct_find {M : Mem} {names : List (Bs × Bs)} {lv kv av rv : Value} {sb b o : Nat} {x : X} {cs : List Value} (hl : RS M RCl 2 names lv) (hsb : M sb = some [lv, kv, av, rv]) (ha : At M b o cs) (hx : RX M x cs) (T : Tm) :
    CtT Tryz.prog 80 [.pointer (some ⟨sb, 0, none⟩), .pointer (some ⟨b, o, none⟩)] T M [] [] (postX (fun (i : Nat) v _ => v = .int .i64 (i : Int)) (placeM names x.tab x.name)) (panX (placeM names x.tab x.name)) := by
  obtain ⟨s, hs, m0, m1, m2, m3, m4, m5, m6⟩ := RX_at hx ha
  obtain ⟨hbk, la, c, rfl, hle, _, hget⟩ := RS_elim (by decide) (fun _ _ => RCl_len) hl
  have hbad : placeG x.tab x.name 0 none names = none → placeM names x.tab x.name = .error 7 := fun h => by unfold placeM; rw [h]
  have hbad' : placeG x.tab x.name 0 none names = some none → placeM names x.tab x.name = .error 7 := fun h => by unfold placeM; rw [h]
  refine ct_run mx bod80 Tryz.func80 rfl (by rw [nt80]; exact Nat.le_of_ble_eq_true rfl) (dr := dr80) (by kernel_rfl) rs80 ?_
  intro hno _
  simp +contextual only [go_sem, Rcb, Rbk, sevalprocAttr, mcell_some hsb]
  refine loop_range names.length 13 [(0, .pointer (some ⟨sb, 0, none⟩)), (1, .pointer (some ⟨b, o, none⟩)), (11, .slice la names.length c), (12, .int .i64 (names.length : Int))] (fun i e h => ∃ T' k, ExtT T T' ∧ h = ⟨T', M, [], []⟩ ∧ e 5 = .int .i64 (optI k) ∧ placeG x.tab x.name i k (names.drop i) = placeG x.tab x.name 0 none names) 0 (by omega) (by simp only [live, go_sem, Rcb, Rbk, sevalprocAttr]) (by simp only [go_sem, Rcb, Rbk, sevalprocAttr]) ⟨T, none, ExtT.rfl', rfl, by simp only [go_sem, Rcb, Rbk, sevalprocAttr, optI], rfl⟩ ?_
  rintro i e h hi hlv ht ⟨T1, k, hT1, rfl, e5, hres⟩
  simp only [live] at hlv
  by_cases hlt : i < names.length
  · obtain ⟨b', o', cs', rfl, hat, hrx⟩ := hget i names[i] (List.getElem?_eq_getElem hlt)
    unfold RCl at hrx; subst hrx
    obtain ⟨y0, y1⟩ := At2 hat
    have hdrop : names.drop i = names[i] :: names.drop (i + 1) := List.drop_eq_getElem_cons hlt
    rw [hdrop, placeG_cons] at hres
    simp +contextual only [go_sem, Rcb, Rbk, sevalprocAttr, hlv, ht, hlt, y0, y1]
    intro b7 T7 hb7 hT7 hTb7
    refine draw_all ?_
    have hT := hT1.trans hT7
    by_cases hit : names[i].2 = x.name ∧ (x.tab = [] ∨ names[i].1 = x.tab)
    · rw [if_pos hit] at hres
      have hcs : (names[i].2 = x.name ∧ x.tab = [] ∧ True) ∨ (names[i].2 = x.name ∧ ¬ x.tab = [] ∧ names[i].1 = x.tab) := by
        by_cases h2 : x.tab = []
        · exact .inl ⟨hit.1, h2, trivial⟩
        · exact .inr ⟨hit.1, h2, hit.2.resolve_left h2⟩
      rcases hcs with ⟨h1, h2, h3⟩ | ⟨h1, h2, h3⟩
      all_goals
        cases k with
        | none =>
          simp only at hres
          simp +contextual only [go_sem, Rcb, Rbk, sevalprocAttr, hlv, ht, hlt, m4, m5, hb7, e5, optI, h1, h2, h3]
          refine lp_close (Close_drop (Close_id ⟨names.length - (i + 1), by omega, rfl, i + 1, by omega, ?_, ?_, ?_, T7, some i, hT, rfl, ?_, hres⟩))
          · rfl
          · simp only [live, hlv, go_sem, Rcb, Rbk, sevalprocAttr]
          · simp only [ht, go_sem, Rcb, Rbk, sevalprocAttr, wrap_succ i (by omega)]
          · simp only [go_sem, Rcb, Rbk, sevalprocAttr, optI]
        | some j =>
          simp only at hres
          simp +contextual only [go_sem, Rcb, Rbk, sevalprocAttr, hlv, ht, hlt, m4, m5, hb7, e5, optI, h1, h2, h3]
          exact fail_x hT (hbad hres.symm)
    · rw [if_neg hit] at hres
      have hcs : (¬ names[i].2 = x.name ∧ True ∧ True) ∨ (names[i].2 = x.name ∧ ¬ x.tab = [] ∧ ¬ names[i].1 = x.tab) := by
        by_cases h1 : names[i].2 = x.name
        · exact .inr ⟨h1, fun h2 => hit ⟨h1, .inl h2⟩, fun h3 => hit ⟨h1, .inr h3⟩⟩
        · exact .inl ⟨h1, trivial, trivial⟩
      rcases hcs with ⟨h1, h2, h3⟩ | ⟨h1, h2, h3⟩
      all_goals
        simp +contextual only [go_sem, Rcb, Rbk, sevalprocAttr, hlv, ht, hlt, m4, m5, hb7, h1, h2, h3]
        refine lp_close (Close_drop (Close_id ⟨names.length - (i + 1), by omega, rfl, i + 1, by omega, ?_, ?_, ?_, T7, k, hT, rfl, ?_, hres⟩))
        · rfl
        · simp only [live, hlv, go_sem, Rcb, Rbk, sevalprocAttr]
        · simp only [ht, go_sem, Rcb, Rbk, sevalprocAttr, wrap_succ i (by omega)]
        · simp only [e5, go_sem, Rcb, Rbk, sevalprocAttr]
  · have : i = names.length := by omega
    subst this
    rw [List.drop_length] at hres
    cases k with
    | none =>
      simp +contextual only [go_sem, Rcb, Rbk, sevalprocAttr, hlv, ht, hlt, e5, optI]
      exact fail_x hT1 (hbad' hres.symm)
    | some j =>
      have hj : ¬ (j : Int) < 0 := by omega
      simp +contextual only [go_sem, Rcb, Rbk, sevalprocAttr, hlv, ht, hlt, e5, optI, hj]
      refine end_none hT1 ⟨j, ?_, rfl⟩
      unfold placeM
      rw [← hres]; rfl
theorem eqVal2 (k n : Int) (t : Bs) (k' n' : Int) (t' : Bs) : vBinP Tryz.prog .eql 29 (.agg ⟨[.int .i64 k, .int .i64 n, .string (bs t)]⟩) (.agg ⟨[.int .i64 k', .int .i64 n', .string (bs t')]⟩) = some (.bool (sameV ⟨k, n, t⟩ ⟨k', n', t'⟩)) := by
  show (match sigT Tryz.prog 29 with | some ks => (eqK ks _ _).map Value.bool | none => none) = _
  rw [sigVal]; simp only [eqK, eqV, sameV, st, bs_inj, Option.map]
  cases decide (k = k') <;> cases decide (n = n') <;> cases decide (t = t') <;> simp
theorem ct_vNull {M : Mem} (T : Tm) : CtT Tryz.prog 173 [] T M [] [] (fun r _ _ _ => r = .agg ⟨[.int .i64 1, .int .i64 0, st []]⟩) noPan := by
  refine ct_run mx bod173 Tryz.func173 rfl (by rw [nt173]; exact Nat.le_of_ble_eq_true rfl) (dr := dr173) (by kernel_rfl) rs173 ?_
  intro _ _
  simp +contextual only [go_sem, Rcb, Rbk, sevalprocAttr]
  intro b1 T1 hb1 hT1 hTb1
  exact end_none hT1 rfl
theorem ct_vBare {M : Mem} (v : V) (T : Tm) : CtT Tryz.prog 119 [.agg ⟨[.int .i64 v.k, .int .i64 v.n, st v.t]⟩] T M [] [] (fun r _ _ _ => r = .agg ⟨[.int .i64 (valB v).k, .int .i64 (valB v).n, st (valB v).t]⟩) noPan := by
  obtain ⟨k, n, t⟩ := v
  unfold valB
  refine ct_run mx bod119 Tryz.func119 rfl (by rw [nt119]; exact Nat.le_of_ble_eq_true rfl) (dr := dr119) (by kernel_rfl) rs119 ?_
  intro hno _
  by_cases h1 : k = 1
  · subst h1
    simp +contextual only [go_sem, Rcb, Rbk, sevalprocAttr]
    intro b1 T1 hb1 hT1 hTb1 b2 T2 hb2 hap2 hT2 hTb2
    refine rCall_pure (ct_vNull T2) ?_ (fun _ _ _ _ h => h.elim)
    rintro v M1 hM1 hno1 rfl
    simp only [noneL, and_true] at hno1
    simp +contextual only [go_sem, Rcb, Rbk, sevalprocAttr, hno1]
    exact end_none (hT1.trans hT2) rfl
  by_cases h4 : k = 4
  · subst h4
    simp +contextual only [go_sem, Rcb, Rbk, sevalprocAttr]
    intro b1 T1 hb1 hT1 hTb1 b2 T2 hb2 hap2 hT2 hTb2
    exact end_none (hT1.trans hT2) rfl
  simp +contextual only [go_sem, Rcb, Rbk, sevalprocAttr, h1, h4]
  intro b1 T1 hb1 hT1 hTb1 b2 T2 hb2 hap2 hT2 hTb2
  exact end_none (hT1.trans hT2) rfl
theorem At7 {M : Mem} {b o : Nat} {v0 v1 v2 v3 v4 v5 v6 : Value} (h : At M b o [v0, v1, v2, v3, v4, v5, v6]) : mcell M ⟨b, o, none⟩ = some v0 ∧ mcell M ⟨b, o + 1, none⟩ = some v1 ∧ mcell M ⟨b, o + 2, none⟩ = some v2 ∧ mcell M ⟨b, o + 3, none⟩ = some v3 ∧ mcell M ⟨b, o + 4, none⟩ = some v4 ∧ mcell M ⟨b, o + 5, none⟩ = some v5 ∧ mcell M ⟨b, o + 6, none⟩ = some v6 :=
  ⟨h.1, h.2.1, h.2.2.1, h.2.2.2.1, h.2.2.2.2.1, h.2.2.2.2.2.1, h.2.2.2.2.2.2.1⟩
theorem alikeL_len : ∀ {l m : List X}, ¬ l.length = m.length → alikeL l m = false
  | [], [], h => (h rfl).elim
  | [], _ :: _, _ => rfl
  | _ :: _, [], _ => rfl
  | x :: l, y :: m, h => by
    rw [alikeL, alikeL_len (l := l) (m := m) (fun h1 => h (by simp [h1])), Bool.and_false]
def SmB (x : X) : Prop := ∀ (M : Mem) (T : Tm) (b o b' o' : Nat) (y : X) (cs cs' : List Value), At M b o cs → RX M x cs → At M b' o' cs' → RX M y cs' →
  CtT Tryz.prog 78 [.pointer (some ⟨b, o, none⟩), .pointer (some ⟨b', o', none⟩)] T M [] [] (fun r _ _ _ => r = .bool (alikeX x y)) noPan
theorem ct_same1 {x y : X} (h : SmB x) {M : Mem} {cs cs' : List Value} (hx : RX M x cs) (hy : RX M y cs') (T : Tm) : CtT Tryz.prog 121 [.agg ⟨cs⟩, .agg ⟨cs'⟩] T M [] [] (fun r _ _ _ => r = .bool (alikeX x y)) noPan := by
  have hl := RX_len hx
  have hl' := RX_len hy
  refine ct_run mx bod121 Tryz.func121 rfl (by rw [nt121]; exact Nat.le_of_ble_eq_true rfl) (dr := dr121) (by kernel_rfl) rs121 ?_
  intro hno _
  simp +contextual only [go_sem, Rcb, Rbk, sevalprocAttr, hl, hl']
  intro b2 T2 hb2 hT2 hTb2 b3 T3 hb3 hap3 hT3 hTb3
  refine rCall_frzAll bod78 fun M1 hM1 hL1 => ?_
  obtain ⟨hb3', hb2', _⟩ := hL1
  refine rCall_pure (h M1 T3 b2 0 b3 0 y _ _ (At_of hb2' _ 0 (by simp)) (RX_ext hM1 _ _ hx) (At_of hb3' _ 0 (by simp)) (RX_ext hM1 _ _ hy)) ?_ (fun _ _ _ _ h => h.elim)
  rintro v M2 hM2 _ rfl
  simp +contextual only [go_sem, Rcb, Rbk, sevalprocAttr]
  exact end_none (hT2.trans hT3) rfl
theorem ct_equalX {l m : List X} (h : ∀ x ∈ l, SmB x) {M : Mem} {v1 v2 : Value} (h1 : RS M (RX M) 7 l v1) (h2 : RS M (RX M) 7 m v2) (T : Tm) :
    CtT Tryz.prog 120 [v1, v2, .func (.func 121) #[] #[]] T M [] [] (fun r _ _ _ => r = .bool (alikeL l m)) noPan := by
  obtain ⟨hbk1, a1, c1, rfl, hle1, _, hg1⟩ := RS_elim (by decide) (fun _ _ => RX_len) h1
  obtain ⟨hbk2, a2, c2, rfl, hle2, _, hg2⟩ := RS_elim (by decide) (fun _ _ => RX_len) h2
  refine ct_run mx bod120 Tryz.func120 rfl (by rw [nt120]; exact Nat.le_of_ble_eq_true rfl) (dr := dr120) (by kernel_rfl) rs120 ?_
  intro hno _
  by_cases hlen : l.length = m.length
  · simp +contextual only [go_sem, Rcb, Rbk, sevalprocAttr, hlen]
    refine loop_range m.length 17 [(1, .slice a2 m.length c2), (2, .func (.func 121) #[] #[]), (15, .slice a1 m.length c1), (16, .int .i64 (m.length : Int))] (fun i e h => ∃ T' M', ExtT T T' ∧ Ext M M' ∧ h = ⟨T', M', [], []⟩ ∧ alikeL (l.drop i) (m.drop i) = alikeL l m) 0 (by omega) (by simp only [live, hlen, go_sem, Rcb, Rbk, sevalprocAttr]) (by simp only [go_sem, Rcb, Rbk, sevalprocAttr]) ⟨T, M, ExtT.rfl', Ext.rfl', rfl, rfl⟩ ?_
    rintro i e h hi hlv ht ⟨T1, M1, hT1, hM1, rfl, hres⟩
    simp only [live] at hlv
    by_cases hlt : i < m.length
    · have hlt' : i < l.length := by omega
      obtain ⟨p1, o1, cs1, rfl, hat1, hx1⟩ := hg1 i l[i] (List.getElem?_eq_getElem hlt')
      obtain ⟨p2, o2, cs2, rfl, hat2, hx2⟩ := hg2 i m[i] (List.getElem?_eq_getElem hlt)
      have hdl : l.drop i = l[i] :: l.drop (i + 1) := List.drop_eq_getElem_cons hlt'
      have hdm : m.drop i = m[i] :: m.drop (i + 1) := List.drop_eq_getElem_cons hlt
      rw [hdl, hdm, alikeL] at hres
      obtain ⟨s1, hf1, hs1, _⟩ := RX_form hx1
      obtain ⟨s2, hf2, hs2, _⟩ := RX_form hx2
      subst hf1 hf2
      obtain ⟨y0, y1, y2, y3, y4, y5, y6⟩ := At7 (hat1.ext hM1)
      obtain ⟨z0, z1, z2, z3, z4, z5, z6⟩ := At7 (hat2.ext hM1)
      simp +contextual only [go_sem, Rcb, Rbk, sevalprocAttr, hlv, ht, hlt, y0, y1, y2, y3, y4, y5, y6, z0, z1, z2, z3, z4, z5, z6, hs1, hs2]
      intro b8 T8 hb8 hT8 hTb8 b9 T9 hb9 hap9 hT9 hTb9
      refine rCall_pure (ct_same1 (h l[i] (List.getElem_mem hlt')) (RX_ext hM1 _ _ hx1) (RX_ext hM1 _ _ hx2) T9) ?_ (fun _ _ _ _ h => h.elim)
      rintro v M2 hM2 _ rfl
      have hT := (hT1.trans hT8).trans hT9
      cases hb : alikeX l[i] m[i] with
      | true =>
        rw [hb, Bool.true_and] at hres
        simp +contextual only [go_sem, Rcb, Rbk, sevalprocAttr, hlv, ht, hlt]
        refine lp_close (Close_dropAll (Close_id ⟨m.length - (i + 1), by omega, rfl, i + 1, by omega, rfl, ?_, ?_, T9, M2, hT, hM1.trans hM2, rfl, hres⟩))
        · simp only [live, hlv, go_sem, Rcb, Rbk, sevalprocAttr]
        · simp only [ht, go_sem, Rcb, Rbk, sevalprocAttr, wrap_succ i (by omega)]
      | false =>
        rw [hb, Bool.false_and] at hres
        simp +contextual only [go_sem, Rcb, Rbk, sevalprocAttr, hlv, ht, hlt]
        exact end_none hT (by rw [← hres])
    · have : i = m.length := by omega
      subst this
      have hl0 : l.drop m.length = [] := by rw [← hlen]; exact List.drop_length
      rw [List.drop_length, hl0] at hres
      simp +contextual only [go_sem, Rcb, Rbk, sevalprocAttr, hlv, ht, hlt]
      exact end_none hT1 (by rw [← hres]; rfl)
  · have hne : ¬ (l.length : Int) = m.length := by omega
    have : alikeL l m = false := alikeL_len hlen
    simp +contextual only [go_sem, Rcb, Rbk, sevalprocAttr, hne]
    exact end_none ExtT.rfl' (by rw [this])
theorem ct_same_b : ∀ (sz : Nat) (x : X), SizeOf.sizeOf x ≤ sz → SmB x := by
  intro sz
  induction sz with
  | zero => intro x hx; cases x; simp at hx
  | succ sz ih =>
    intro x hsz M T b o b' o' y cs cs' ha hx ha' hy
    obtain ⟨s, hs, m0, m1, m2, m3, m4, m5, m6⟩ := RX_at hx ha
    obtain ⟨s', hs', n0, n1, n2, n3, n4, n5, n6⟩ := RX_at hy ha'
    cases x with | mk k v tab name kids =>
    cases y with | mk k' v' tab' name' kids' =>
    simp only [X.k, X.v, X.tab, X.name, X.kids] at m0 m1 m2 m3 m4 m5 m6 hs n0 n1 n2 n3 n4 n5 n6 hs'
    rw [alikeX]
    refine ct_run mx bod78 Tryz.func78 rfl (by rw [nt78]; exact Nat.le_of_ble_eq_true rfl) (dr := dr78) (by kernel_rfl) rs78 ?_
    intro hno _
    by_cases hk : k = k'
    · subst hk
      by_cases h1 : k = 1
      · subst h1
        simp +contextual only [go_sem, Rcb, Rbk, sevalprocAttr, m0, n0]
        refine draw_all ?_
        simp +contextual only [go_sem, Rcb, Rbk, sevalprocAttr, m0, n0]
        refine draw_all ?_
        simp +contextual only [go_sem, Rcb, Rbk, sevalprocAttr, m1, m2, m3, n1, n2, n3]
        refine rCall_pure (ct_vBare v T) ?_ (fun _ _ _ _ h => h.elim)
        rintro r M1 hM1 _ rfl
        replace n1 := mcell_ext hM1 n1
        replace n2 := mcell_ext hM1 n2
        replace n3 := mcell_ext hM1 n3
        simp +contextual only [go_sem, Rcb, Rbk, sevalprocAttr, n1, n2, n3]
        refine ⟨Sub_ext hM1, ?_⟩
        refine rCall_pure (ct_vBare v' T) ?_ (fun _ _ _ _ h => h.elim)
        rintro r M2 hM2 _ rfl
        simp +contextual only [go_sem, Rcb, Rbk, sevalprocAttr, eqVal2]
        refine ⟨Sub_ext (hM1.trans hM2), ?_⟩
        exact end_none ExtT.rfl' rfl
      · by_cases h2 : k = 2
        · subst h2
          simp +contextual only [go_sem, Rcb, Rbk, sevalprocAttr, m0, n0]
          refine draw_all ?_
          simp +contextual only [go_sem, Rcb, Rbk, sevalprocAttr, m0, n0]
          refine draw_all ?_
          simp +contextual only [go_sem, Rcb, Rbk, sevalprocAttr, m4, m5, n4, n5]
          by_cases ht : tab = tab'
          · rw [if_pos ht]
            refine end_none ExtT.rfl' ?_
            subst ht
            simp
          · rw [if_neg ht]
            refine end_none ExtT.rfl' ?_
            simp [ht]
        · simp +contextual only [go_sem, Rcb, Rbk, sevalprocAttr, m0, n0]
          refine draw_all ?_
          simp +contextual only [go_sem, Rcb, Rbk, sevalprocAttr, m0, n0, h1, h2]
          refine draw_all ?_
          simp +contextual only [go_sem, Rcb, Rbk, sevalprocAttr, m6, n6]
          refine rCall_pure (ct_equalX (fun x hx => ih x ?_) hs hs' T) ?_ (fun _ _ _ _ h => h.elim)
          · have h1 := List.sizeOf_lt_of_mem hx
            simp only [X.mk.sizeOf_spec] at hsz
            omega
          rintro r M1 hM1 _ rfl
          simp +contextual only [go_sem, Rcb, Rbk, sevalprocAttr]
          exact end_none ExtT.rfl' (by simp [h1, h2])
    · simp +contextual only [go_sem, Rcb, Rbk, sevalprocAttr, m0, n0]
      refine draw_all ?_
      simp +contextual only [go_sem, Rcb, Rbk, sevalprocAttr, m0, n0, hk]
      exact end_none ExtT.rfl' rfl
mutual
def okX : X → Prop
  | .mk k v tab name kids => (kids.length : Int) = kidsN k ∧ (k = 1 → 1 ≤ v.k ∧ v.k ≤ 4) ∧ okXs kids
def okXs : List X → Prop
  | [] => True
  | x :: l => okX x ∧ okXs l
end
theorem okXs_mem : ∀ {l : List X}, okXs l → ∀ x ∈ l, okX x
  | _ :: _, h, _, hy => by
    rcases List.mem_cons.1 hy with rfl | hy
    · exact h.1
    · exact okXs_mem h.2 _ hy
theorem kidsN_le (k : Int) : kidsN k ≤ 3 := by unfold kidsN; repeat' split <;> omega
theorem ptNe {a : Option Addr} : vBinP Tryz.prog .neq 98 (.pointer a) (.pointer none) = some (.bool (!a.isNone)) := by
  show (if isPtrT Tryz.prog 98 = true then some (Value.bool (!a.isNone)) else none) = _
  rw [if_pos (by kernel_rfl)]
theorem ptEq {a : Option Addr} : vBinP Tryz.prog .eql 98 (.pointer a) (.pointer none) = some (.bool a.isNone) := by
  show (if isPtrT Tryz.prog 98 = true then some (Value.bool a.isNone) else none) = _
  rw [if_pos (by kernel_rfl)]
theorem lcell_none : ∀ {L : LL} {M : Mem} {a : Addr} {o : Option Value}, noneL M L → lcell L a = some o → M a.block = none
  | (b, cs) :: L, M, a, o, hn, h => by
    by_cases hb : a.block = b
    · rw [hb]; exact hn.1
    · rw [lcell, if_neg hb] at h
      exact lcell_none hn.2 h
theorem Sub_ML {T0 T : Tm} {M M' : Mem} {L : LL} {R0 R : RR} (h : Ext M M') (hn : noneL M' L) : Sub ⟨T0, M, L, R0⟩ ⟨T, M', L, R⟩ := by
  intro a v hv
  simp only [Sh.cell] at hv ⊢
  cases hm : mcell M a with
  | some u =>
    rw [hm] at hv
    rw [mcell_ext h hm]; exact hv
  | none =>
    rw [hm] at hv
    cases hl : lcell L a with
    | none => rw [hl] at hv; simp at hv
    | some o =>
      have hb := lcell_none hn hl
      have : mcell M' a = none := by
        obtain ⟨k, f, sp⟩ := a
        unfold mcell
        cases sp with
        | none => simp only at hb ⊢; rw [hb]; rfl
        | some q => simp
      rw [this]
      rw [hl] at hv
      exact hv
theorem Sub_ML1 {T0 T : Tm} {M M' : Mem} {L : LL} {R0 R : RR} {b : Nat} {cs : List Value} (h : Ext M M') (hn : noneL M' L) (hb : apart1 b L) : Sub ⟨T0, M, L, R0⟩ ⟨T, M', (b, cs) :: L, R⟩ := by
  intro a v hv
  have h1 := Sub_ML (T := T) (R := R) h hn a v hv
  simp only [Sh.cell] at h1 hv ⊢
  cases hm : mcell M' a with
  | some u => rw [hm] at h1; exact h1
  | none =>
    rw [hm] at h1
    cases hl : lcell L a with
    | none => rw [hl] at h1; simp at h1
    | some o =>
      have hne : a.block ≠ b := fun hab => by
        have : ∀ {L : LL}, apart1 b L → lcell L a = none := by
          intro L
          induction L with
          | nil => intro _; rfl
          | cons p l ih =>
            obtain ⟨k, ds⟩ := p
            intro hap
            rw [lcell, if_neg (by rw [hab]; exact hap.1.1)]
            exact ih hap.2
        rw [this hb] at hl; cases hl
      rw [lcell, if_neg hne]
      exact h1
def encE (y : Ex) (v : Value) (M : Mem) : Prop := ∃ cs, v = .agg ⟨cs⟩ ∧ REx M y cs
theorem zeroE_R (M : Mem) : REx M zeroE [.int .i64 0, .int .i64 0, .int .i64 0, st [], .int .i64 0, .slice none 0 0] := REx_iff.2 ⟨_, rfl, RS_nil⟩
theorem colE_R (M : Mem) (i : Nat) : REx M (colE i) [.int .i64 2, .int .i64 0, .int .i64 0, st [], .int .i64 (i : Int), .slice none 0 0] := REx_iff.2 ⟨_, rfl, RS_nil⟩
theorem litE_R (M : Mem) (v : V) : REx M (.mk 1 v 0 []) [.int .i64 1, .int .i64 v.k, .int .i64 v.n, st v.t, .int .i64 0, .slice none 0 0] := REx_iff.2 ⟨_, rfl, RS_nil⟩
def preE {α : Type} (acc : List α) : Except Int (List α) → Except Int (List α)
  | .ok l => .ok (acc ++ l)
  | .error e => .error e
theorem preE_nil {α : Type} (r : Except Int (List α)) : preE [] r = r := by cases r <;> rfl
def consE {α : Type} (a : α) : Except Int (List α) → Except Int (List α)
  | .ok l => .ok (a :: l)
  | .error e => .error e
theorem preE_cons {α : Type} (acc : List α) (a : α) (r : Except Int (List α)) : preE (acc ++ [a]) r = preE acc (consE a r) := by
  cases r with
  | ok l => simp [preE, consE]
  | error e => rfl
theorem exprsB_ok {names : List (Bs × Bs)} {x : X} {l : List X} {y : Ex} (h : exprB names x = .ok y) : exprsB names (x :: l) = consE y (exprsB names l) := by
  rw [exprsB, h]
  cases exprsB names l <;> rfl
theorem exprsB_err {names : List (Bs × Bs)} {x : X} {l : List X} {e : Int} (h : exprB names x = .error e) : exprsB names (x :: l) = .error e := by
  rw [exprsB, h]
def ExB (names : List (Bs × Bs)) (x : X) : Prop := ∀ (M : Mem) (T : Tm) (sb : Nat) (lv kv av : Value) (b o : Nat) (cs : List Value), RS M RCl 2 names lv → M sb = some [lv, kv, av, .pointer none] → At M b o cs → RX M x cs →
  CtT Tryz.prog 37 [.pointer (some ⟨sb, 0, none⟩), .pointer (some ⟨b, o, none⟩)] T M [] [] (postX encE (exprB names x)) (panX (exprB names x))
theorem ct_allB {names : List (Bs × Bs)} {l : List X} (h : ∀ x ∈ l, ExB names x) (hlen : l.length ≤ 1048576) {M : Mem} {sb : Nat} {lv kv av sv : Value} (hl : RS M RCl 2 names lv) (hsb : M sb = some [lv, kv, av, .pointer none]) (hs : RS M (RX M) 7 l sv) (T : Tm) :
    CtT Tryz.prog 31 [.pointer (some ⟨sb, 0, none⟩), sv] T M [] [] (postX (fun l v M => RS M (REx M) 6 l v) (exprsB names l)) (panX (exprsB names l)) := by
  obtain ⟨hbk, a, c, rfl, hle, _, hg⟩ := RS_elim (by decide) (fun _ _ => RX_len) hs
  refine ct_run mx bod31 Tryz.func31 rfl (by rw [nt31]; exact Nat.le_of_ble_eq_true rfl) (dr := dr31) (by kernel_rfl) rs31 ?_
  intro hno _
  simp +contextual only [go_sem, Rcb, Rbk, sevalprocAttr]
  refine loop_range l.length 9 [(0, .pointer (some ⟨sb, 0, none⟩)), (1, .slice a l.length c), (7, .slice a l.length c), (8, .int .i64 (l.length : Int))] (fun i e h => ∃ M' fv R acc, Ext M M' ∧ h = ⟨T, M', [], R⟩ ∧ e 5 = fv ∧ acc.length = i ∧ Acc 38 6 (REx M') [] R fv acc ∧ preE acc (exprsB names (l.drop i)) = exprsB names l) 0 (by omega) (by simp only [live, go_sem, Rcb, Rbk, sevalprocAttr]) (by simp only [go_sem, Rcb, Rbk, sevalprocAttr]) ⟨M, _, _, [], Ext.rfl', rfl, by simp only [go_sem, Rcb, Rbk, sevalprocAttr], rfl, Acc_nil, preE_nil _⟩ ?_
  rintro i e h hi hlv ht ⟨M1, fv, R, acc, hM1, rfl, e5, hacl, hacc, hres⟩
  simp only [live] at hlv
  by_cases hlt : i < l.length
  · obtain ⟨b', o', cs', rfl, hat, hrx⟩ := hg i l[i] (List.getElem?_eq_getElem hlt)
    have hdrop : l.drop i = l[i] :: l.drop (i + 1) := List.drop_eq_getElem_cons hlt
    rw [hdrop] at hres
    simp +contextual only [go_sem, Rcb, Rbk, sevalprocAttr, hlv, ht, hlt]
    refine rCall_pure (h l[i] (List.getElem_mem hlt) M1 T sb lv kv av b' _ cs' (RS_ext hM1 (fun _ _ h => h) hl) (hM1 _ _ hsb) (hat.ext hM1) (RX_ext hM1 _ _ hrx)) ?_ ?_
    · rintro v M2 hM2 hno2 ⟨y, hy, cs, rfl, hye⟩
      rw [exprsB_ok hy, ← preE_cons] at hres
      have hcl := REx_len hye
      simp +contextual only [go_sem, Rcb, Rbk, sevalprocAttr, hlv, ht, hlt, e5, hcl]
      intro b6 hb6
      refine app_acc (Tryz.underlying36) row36 okt36 (Acc_mono (REx_ext hM2) hacc) hye (fun _ _ => REx_len) (REx_oneC hye) hb6 (by omega) (by decide) ?_
      intro fv' R' hacc'
      simp +contextual only [go_sem, Rcb, Rbk, sevalprocAttr, hlv, ht, hlt]
      refine lp_close (Close_drop (Close_id ⟨l.length - (i + 1), by omega, rfl, i + 1, by omega, rfl, ?_, ?_, M2, fv', R', acc ++ [y], hM1.trans hM2, rfl, ?_, ?_, hacc', hres⟩))
      · simp only [live, hlv, go_sem, Rcb, Rbk, sevalprocAttr]
      · simp only [ht, go_sem, Rcb, Rbk, sevalprocAttr, wrap_succ i (by omega)]
      · simp only [go_sem, Rcb, Rbk, sevalprocAttr]
      · rw [List.length_append, hacl]; rfl
    · rintro ch M2 hM2 hno2 ⟨er, he, rfl⟩
      rw [exprsB_err he] at hres
      exact pan_x ExtT.rfl' hres.symm
  · have : i = l.length := by omega
    subst this
    rw [List.drop_length, exprsB] at hres
    simp +contextual only [go_sem, Rcb, Rbk, sevalprocAttr, hlv, ht, hlt, e5]
    refine Close_acc hacc (by omega) (by decide) hno fun M2 hM2 hno2 hrs => end_none ExtT.rfl' ⟨acc, ?_, ?_⟩
    · rw [← hres]; simp [preE]
    · exact RS_ext Ext.rfl' (REx_ext hM2) hrs
theorem ct_aggNil {M : Mem} {sb : Nat} {lv kv av xv : Value} (hsb : M sb = some [lv, kv, av, .pointer none]) (T : Tm) :
    CtT Tryz.prog 79 [.pointer (some ⟨sb, 0, none⟩), xv] T M [] [] (fun _ _ _ _ => False) (panX (.error 8 : Except Int Ex)) := by
  refine ct_run mx bod79 Tryz.func79 rfl (by rw [nt79]; exact Nat.le_of_ble_eq_true rfl) (dr := dr79) (by kernel_rfl) rs79 ?_
  intro hno _
  simp +contextual only [go_sem, Rcb, Rbk, sevalprocAttr, mcell_some hsb, ptEq]
  intro b4 T4 hb4 hT4 hTb4
  exact fail_x hT4 rfl
theorem exB (names : List (Bs × Bs)) : ∀ (sz : Nat) (x : X), SizeOf.sizeOf x ≤ sz → okX x → ExB names x := by
  intro sz
  induction sz with
  | zero => intro x hx; cases x; simp at hx
  | succ sz ih =>
    intro x hsz hok M T sb lv kv av b o cs hl hsb ha hx
    obtain ⟨s, hs, m0, m1, m2, m3, m4, m5, m6⟩ := RX_at hx ha
    cases x with | mk k v tab name kids =>
    have hx' := hx
    simp only [X.k, X.v, X.tab, X.name, X.kids] at m0 m1 m2 m3 m4 m5 m6 hs
    obtain ⟨hkl, _, hoks⟩ := hok
    have hk3 := kidsN_le k
    obtain ⟨E, hE⟩ : ∃ E, E = exprB names (.mk k v tab name kids) := ⟨_, rfl⟩
    rw [← hE]
    rw [exprB] at hE
    refine ct_run mx bod37 Tryz.func37 rfl (by rw [nt37]; exact Nat.le_of_ble_eq_true rfl) (dr := dr37) (by kernel_rfl) rs37 ?_
    intro hno _
    simp +contextual only [go_sem, Rcb, Rbk, sevalprocAttr, mcell_some hsb, m0, ptNe]
    intro b3 T3 hb3 hT3 hTb3 b4 T4 hb4 hap4 hT4 hTb4
    have hT := hT3.trans hT4
    by_cases h19 : 19 ≤ k
    · rw [if_pos h19] at hE
      simp +contextual only [go_sem, Rcb, Rbk, sevalprocAttr, h19, hb3, hb4, hap4]
      refine rCall_pure (ct_aggNil hsb T4) (fun _ _ _ _ h => h.elim) ?_
      rintro ch M1 hM1 hno1 ⟨er, he, rfl⟩
      injection he with he
      subst he
      exact pan_x hT hE
    rw [if_neg h19] at hE
    by_cases h2 : k = 2
    · subst h2
      rw [if_pos rfl] at hE
      simp +contextual only [go_sem, Rcb, Rbk, sevalprocAttr, hb3, hb4, hap4]
      refine rCall_pure (ct_find hl hsb ha hx T4) ?_ ?_
      · rintro r M1 hM1 hno1 ⟨i, hi, rfl⟩
        simp only [X.tab, X.name] at hi
        rw [hi] at hE
        simp only [noneL, and_true] at hno1
        simp +contextual only [go_sem, Rcb, Rbk, sevalprocAttr, hno1, hap4]
        exact end_none hT ⟨_, hE, _, rfl, colE_R _ _⟩
      · rintro ch M1 hM1 hno1 ⟨er, he, rfl⟩
        simp only [X.tab, X.name] at he
        rw [he] at hE
        exact pan_x hT hE
    rw [if_neg h2] at hE
    by_cases h1 : k = 1
    · subst h1
      rw [if_pos rfl] at hE
      simp +contextual only [go_sem, Rcb, Rbk, sevalprocAttr, hb3, hb4, hap4, m1, m2, m3]
      exact end_none hT ⟨_, hE, _, rfl, litE_R _ v⟩
    rw [if_neg h1] at hE
    simp +contextual only [go_sem, Rcb, Rbk, sevalprocAttr, h19, h1, h2, hb3, hb4, hap4]
    refine draw_all ?_
    simp +contextual only [go_sem, Rcb, Rbk, sevalprocAttr, hb3, hb4, hap4, m0, m6]
    refine rCall_pure (ct_allB (fun x hx => ih x (by
      have h1 := List.sizeOf_lt_of_mem hx
      simp only [X.mk.sizeOf_spec] at hsz
      omega) (okXs_mem hoks x hx)) (by omega) hl hsb hs T4) ?_ ?_
    · rintro r M1 hM1 hno1 ⟨l, hl, hrs⟩
      rw [hl] at hE
      simp only [noneL, and_true] at hno1
      obtain ⟨r1, r2⟩ := RS_one hrs
      have r2m := r2
      simp only [Value.cells] at r2m
      simp +contextual only [go_sem, Rcb, Rbk, sevalprocAttr, hno1, hap4, r1, r2, r2m]
      refine ⟨Sub_ML hM1 ⟨hno1.1, hno1.2, trivial⟩, ?_⟩
      exact end_none hT ⟨_, hE, _, rfl, REx_iff.2 ⟨_, rfl, hrs⟩⟩
    · rintro ch M1 hM1 hno1 ⟨er, he, rfl⟩
      rw [he] at hE
      exact pan_x hT hE
theorem rCall_frzM {F : Fi} {f : FuncId} {args : List Value} {dd : Option Nat} {s : List Vc.Item} {e : Env} {ds : List Deferred} {N : Tm} {M : Mem} (L1 : LL) {b : Nat} {cs : List Value} {L2 : LL} {R : RR} (hb : bodied Tryz.prog f = true)
    (h : ∀ M', Ext M M' → M' b = some cs → noneL M' (L1 ++ L2) → rCall Tryz.prog F f args dd s e ds ⟨N, M', L1 ++ L2, R⟩ ⟨⟩) : rCall Tryz.prog F f args dd s e ds ⟨N, M, L1 ++ (b, cs) :: L2, R⟩ ⟨⟩ :=
  rCall_close (k := fun h' => ∃ M', Ext M M' ∧ M' b = some cs ∧ noneL M' (L1 ++ L2) ∧ h' = ⟨N, M', L1 ++ L2, R⟩) (Close_perm List.perm_middle (Close_freeze fun he h1 h2 => Close_id ⟨_, he, h1, h2, rfl⟩))
    (by rintro h' ⟨M', he, h1, h2, rfl⟩; exact h M' he h1 h2) hb
theorem ct_IndexX {p : X → Bool} {l : List X} {gf : FuncId} {fa fc : List Value} {M : Mem} {lv : Value} (hs : RS M (RX M) 7 l lv) (hbod : bodied Tryz.prog gf = true)
    (hf : ∀ x ∈ l, ∀ (M' : Mem) (T : Tm) (cs : List Value), Ext M M' → RX M' x cs → CtT Tryz.prog gf (fa ++ (.agg ⟨cs⟩ :: fc)) T M' [] [] (fun r _ _ _ => r = .bool (p x)) noPan) (T : Tm) :
    CtT Tryz.prog 76 [lv, .func (.func gf) ⟨fa⟩ ⟨fc⟩] T M [] [] (fun r _ _ _ => r = .int .i64 (optI (l.findIdx? p))) noPan := by
  obtain ⟨hbk, a, c, rfl, hle, _, hg⟩ := RS_elim (by decide) (fun _ _ => RX_len) hs
  refine ct_run mx bod76 Tryz.func76 rfl (by rw [nt76]; exact Nat.le_of_ble_eq_true rfl) (dr := dr76) (by kernel_rfl) rs76 ?_
  intro hno _
  simp +contextual only [go_sem, Rcb, Rbk, sevalprocAttr]
  refine loop_range l.length 8 [(0, .slice a l.length c), (1, .func (.func gf) ⟨fa⟩ ⟨fc⟩), (7, .int .i64 (l.length : Int))] (fun i e h => ∃ M', Ext M M' ∧ h = ⟨T, M', [], []⟩ ∧ l.findIdx? p = ((l.drop i).findIdx? p).map (· + i)) 0 (by omega) (by simp only [live, go_sem, Rcb, Rbk, sevalprocAttr]) (by simp only [go_sem, Rcb, Rbk, sevalprocAttr]) ⟨M, Ext.rfl', rfl, by simp⟩ ?_
  rintro i e h hi hlv ht ⟨M1, hM1, rfl, hres⟩
  simp only [live] at hlv
  by_cases hlt : i < l.length
  · obtain ⟨p1, o1, cs1, rfl, hat1, hx1⟩ := hg i l[i] (List.getElem?_eq_getElem hlt)
    have hdl : l.drop i = l[i] :: l.drop (i + 1) := List.drop_eq_getElem_cons hlt
    rw [hdl, List.findIdx?_cons] at hres
    obtain ⟨s1, hf1, hs1, _⟩ := RX_form hx1
    subst hf1
    obtain ⟨y0, y1, y2, y3, y4, y5, y6⟩ := At7 (hat1.ext hM1)
    simp +contextual only [go_sem, Rcb, Rbk, sevalprocAttr, hlv, ht, hlt, y0, y1, y2, y3, y4, y5, y6, hs1]
    refine rCall_pure (hf l[i] (List.getElem_mem hlt) M1 T _ hM1 (RX_ext hM1 _ _ hx1)) ?_ (fun _ _ _ _ h => h.elim)
    rintro v M2 hM2 _ rfl
    cases hb : p l[i] with
    | true =>
      rw [hb] at hres
      simp +contextual only [go_sem, Rcb, Rbk, sevalprocAttr, hlv, ht, hlt]
      exact end_none ExtT.rfl' (by rw [hres]; simp [optI])
    | false =>
      rw [hb] at hres
      simp +contextual only [go_sem, Rcb, Rbk, sevalprocAttr, hlv, ht, hlt]
      refine lp_range hlt ?_ ?_ ⟨M2, hM1.trans hM2, rfl, ?_⟩
      · simp only [live, hlv, go_sem, Rcb, Rbk, sevalprocAttr]
      · simp only [ht, go_sem, Rcb, Rbk, sevalprocAttr, wrap_succ i (by omega)]
      · rw [hres]
        cases (l.drop (i + 1)).findIdx? p <;> simp; omega
  · have : i = l.length := by omega
    subst this
    rw [List.drop_length] at hres
    simp +contextual only [go_sem, Rcb, Rbk, sevalprocAttr, hlv, ht, hlt]
    exact end_none ExtT.rfl' (by rw [hres]; rfl)
theorem optI_any {α : Type} (p : α → Bool) : ∀ (l : List α), decide ((0 : Int) ≤ optI (l.findIdx? p)) = l.any p := by
  intro l
  cases h : l.findIdx? p with
  | none =>
    have : ∀ x ∈ l, p x = false := by
      rw [List.findIdx?_eq_none_iff] at h
      simpa using h
    rw [List.any_eq_false.2 (by simpa using this)]
    rfl
  | some i =>
    have hi := List.findIdx?_eq_some_iff_getElem.1 h
    obtain ⟨hlt, hp, _⟩ := hi
    rw [List.any_eq_true.2 ⟨l[i], List.getElem_mem hlt, hp⟩]
    simp [optI]
theorem ct_ContainsX {p : X → Bool} {l : List X} {gf : FuncId} {fa fc : List Value} {M : Mem} {lv : Value} (hs : RS M (RX M) 7 l lv) (hbod : bodied Tryz.prog gf = true)
    (hf : ∀ x ∈ l, ∀ (M' : Mem) (T : Tm) (cs : List Value), Ext M M' → RX M' x cs → CtT Tryz.prog gf (fa ++ (.agg ⟨cs⟩ :: fc)) T M' [] [] (fun r _ _ _ => r = .bool (p x)) noPan) (T : Tm) :
    CtT Tryz.prog 109 [lv, .func (.func gf) ⟨fa⟩ ⟨fc⟩] T M [] [] (fun r _ _ _ => r = .bool (l.any p)) noPan := by
  refine ct_run mx bod109 Tryz.func109 rfl (by rw [nt109]; exact Nat.le_of_ble_eq_true rfl) (dr := dr109) (by kernel_rfl) rs109 ?_
  intro hno _
  simp +contextual only [go_sem, Rcb, Rbk, sevalprocAttr]
  refine rCall_pure (ct_IndexX hs hbod hf T) ?_ (fun _ _ _ _ h => h.elim)
  rintro v M1 hM1 _ rfl
  simp +contextual only [go_sem, Rcb, Rbk, sevalprocAttr]
  exact end_none ExtT.rfl' (by rw [optI_any])
def SpX (x : X) : Prop := ∀ (M : Mem) (T : Tm) (b o : Nat) (cs : List Value), At M b o cs → RX M x cs → CtT Tryz.prog 65 [.pointer (some ⟨b, o, none⟩)] T M [] [] (fun r _ _ _ => r = .bool (hasX x)) noPan
theorem ct_speaks1 {x : X} (h : SpX x) {M : Mem} {cs : List Value} (hx : RX M x cs) (T : Tm) : CtT Tryz.prog 110 [.agg ⟨cs⟩] T M [] [] (fun r _ _ _ => r = .bool (hasX x)) noPan := by
  have hl := RX_len hx
  refine ct_run mx bod110 Tryz.func110 rfl (by rw [nt110]; exact Nat.le_of_ble_eq_true rfl) (dr := dr110) (by kernel_rfl) rs110 ?_
  intro hno _
  simp +contextual only [go_sem, Rcb, Rbk, sevalprocAttr, hl]
  intro b2 T2 hb2 hT2 hTb2
  refine rCall_frz bod65 fun M1 hM1 hb2' hno1 => ?_
  refine rCall_pure (h M1 T2 b2 0 _ (At_of hb2' _ 0 (by simp)) (RX_ext hM1 _ _ hx)) ?_ (fun _ _ _ _ h => h.elim)
  rintro v M2 hM2 _ rfl
  simp +contextual only [go_sem, Rcb, Rbk, sevalprocAttr]
  exact end_none hT2 rfl
theorem hasL_any : ∀ (l : List X), hasL l = l.any hasX
  | [] => rfl
  | x :: l => by rw [hasL, List.any_cons, hasL_any l]
theorem spX : ∀ (sz : Nat) (x : X), SizeOf.sizeOf x ≤ sz → SpX x := by
  intro sz
  induction sz with
  | zero => intro x hx; cases x; simp at hx
  | succ sz ih =>
    intro x hsz M T b o cs ha hx
    obtain ⟨s, hs, m0, m1, m2, m3, m4, m5, m6⟩ := RX_at hx ha
    cases x with | mk k v tab name kids =>
    simp only [X.k, X.v, X.tab, X.name, X.kids] at m0 m1 m2 m3 m4 m5 m6 hs
    refine ct_run mx bod65 Tryz.func65 rfl (by rw [nt65]; exact Nat.le_of_ble_eq_true rfl) (dr := dr65) (by kernel_rfl) rs65 ?_
    intro hno _
    by_cases h19 : 19 ≤ k
    · simp +contextual only [go_sem, Rcb, Rbk, sevalprocAttr, m0, m6, h19]
      exact end_none ExtT.rfl' (by rw [hasX]; simp [h19])
    · simp +contextual only [go_sem, Rcb, Rbk, sevalprocAttr, m0, m6, h19]
      refine rCall_pure (ct_ContainsX (p := hasX) (fa := []) (fc := []) hs bod110 (fun x hx M' T' cs hM' hc => ct_speaks1 (ih x ?_) hc T') T) ?_ (fun _ _ _ _ h => h.elim)
      · have h1 := List.sizeOf_lt_of_mem hx
        simp only [X.mk.sizeOf_spec] at hsz
        omega
      rintro r M1 hM1 _ rfl
      simp +contextual only [go_sem, Rcb, Rbk, sevalprocAttr]
      exact end_none ExtT.rfl' (by rw [hasX, hasL_any]; simp [h19])
def AgS (M : Mem) (ab : Nat) (L : LL) (R : RR) (ags : List Ag) : Prop := ∃ a c xs, L = [(ab, [.slice a ags.length c])] ∧ R = [(.slice a ags.length c, 119, 7, xs)] ∧ RL (RAg M) ags xs
theorem AgS_ext {M M' : Mem} (he : Ext M M') {ab L R ags} (h : AgS M ab L R ags) : AgS M' ab L R ags := by
  obtain ⟨a, c, xs, h1, h2, h3⟩ := h
  exact ⟨a, c, xs, h1, h2, RL_mono (RAg_ext he) h3⟩
def postG {α : Type} (ab : Nat) (enc : α → Value → Mem → Prop) (res : Except Int (α × List Ag)) : PostP := fun v M' L' R' => ∃ a ags, res = .ok (a, ags) ∧ enc a v M' ∧ AgS M' ab L' R' ags
theorem pan_g {α : Type} {T N : Tm} {M : Mem} {L1 L : LL} {R1 R : RR} {dr ts e post} {ks : List Nat} {n : Nat} {res : Except Int α} {c : Int} (hT : ExtT T N) (hk : keys L = ks) (hn : R.length = n) (h : res = .error c) : (fi Tryz.prog T dr ts ks n post (panX res)).pan (oopB c) e [] ⟨N, M, L1 ++ L, R1 ++ R⟩ := by
  rw [fi_pan, panF_eq]
  refine Close_dropL L1 ?_
  induction R1 with
  | nil => exact end_id hT hk hn ⟨c, h, rfl⟩
  | cons r R1 ih => exact Close_dropR ih
theorem fail_g {α : Type} {T N : Tm} {M : Mem} {L1 L : LL} {R1 R : RR} {dr ts e post d s} {ks : List Nat} {n : Nat} {res : Except Int α} {c : Int} (hT : ExtT T N) (hk : keys L = ks) (hn : R.length = n) (h : res = .error c) :
    rCall Tryz.prog (fi Tryz.prog T dr ts ks n post (panX res)) 66 [.int .i64 c] d s e [] ⟨N, M, L1 ++ L, R1 ++ R⟩ ⟨⟩ := by
  refine rCall_pure (ct_bfail c M N) (fun _ _ _ _ h => h.elim) ?_
  rintro ch M1 hM1 hno1 rfl
  exact pan_g hT hk hn h
structure Gs (M : Mem) (sb ab rb : Nat) (names : List (Bs × Bs)) (keys : List X) (lv kv cv kw aw : Value) : Prop where
  s : M sb = some [cv, kv, .pointer (some ⟨ab, 0, none⟩), .pointer (some ⟨rb, 0, none⟩)]
  r : M rb = some [lv, kw, aw, .pointer none]
  n : RS M RCl 2 names lv
  k : RS M (RX M) 7 keys kv
theorem Gs.ext {M M' : Mem} (he : Ext M M') {sb ab rb names keys lv kv cv kw aw} (h : Gs M sb ab rb names keys lv kv cv kw aw) : Gs M' sb ab rb names keys lv kv cv kw aw :=
  ⟨he _ _ h.s, he _ _ h.r, RS_ext he (fun _ _ h => h) h.n, RS_ext he (RX_ext he) h.k⟩
def aggG (names : List (Bs × Bs)) (nk : Nat) (k : Int) (kids : List X) (ags : List Ag) : Except Int (Ex × List Ag) := match argB names kids with
  | .ok a => .ok (colE (nk + ags.length), ags ++ [⟨k - 18, a⟩])
  | .error e => .error e
theorem aggG_err {names nk k kids ags e} (h : argB names kids = .error e) : aggG names nk k kids ags = .error e := by unfold aggG; rw [h]
theorem aggG_ok {names nk k kids ags a} (h : argB names kids = .ok a) : aggG names nk k kids ags = .ok (colE (nk + ags.length), ags ++ [⟨k - 18, a⟩]) := by unfold aggG; rw [h]
theorem RAg_one {M : Mem} {k : Int} {y : Ex} {cs : List Value} (h : REx M y cs) : RAg M ⟨k, y⟩ (.int .i64 k :: cs) := ⟨cs, h, rfl⟩
theorem ct_agg {M : Mem} {sb ab rb : Nat} {names : List (Bs × Bs)} {keys' : List X} {lv kv cv kw aw : Value} {k : Int} {v : V} {tab name : Bs} {kids : List X} {b o : Nat} {cs : List Value} {ags : List Ag} {L : LL} {R : RR} (hG : Gs M sb ab rb names keys' lv kv cv kw aw)
    (ha : At M b o cs) (hx : RX M (.mk k v tab name kids) cs) (hok : okX (.mk k v tab name kids)) (hk : 19 ≤ k) (hA : AgS M ab L R ags) (hlen : ags.length ≤ 1048576) (hkl : keys'.length ≤ 1048576) (T : Tm) :
    CtT Tryz.prog 79 [.pointer (some ⟨sb, 0, none⟩), .pointer (some ⟨b, o, none⟩)] T M L R (postG ab encE (aggG names keys'.length k kids ags)) (panX (aggG names keys'.length k kids ags)) := by
  obtain ⟨s, hs, m0, m1, m2, m3, m4, m5, m6⟩ := RX_at hx ha
  simp only [X.k, X.v, X.tab, X.name, X.kids] at m0 m1 m2 m3 m4 m5 m6 hs
  obtain ⟨hkl1, _, hoks⟩ := hok
  have hk23 : k ≤ 23 := by
    unfold kidsN at hkl1
    repeat' split at hkl1
    all_goals omega
  obtain ⟨hbk, sa, sc, rfl, hle, _, hg⟩ := RS_elim (by decide) (fun _ _ => RX_len) hs
  obtain ⟨aa, ac, xs, rfl, rfl, hxs⟩ := hA
  have hxl := RL_len (fun _ _ => RAg_len) hxs
  refine ct_run mx bod79 Tryz.func79 rfl (by rw [nt79]; exact Nat.le_of_ble_eq_true rfl) (dr := dr79) (by kernel_rfl) rs79 ?_
  intro hno _
  simp only [noneL, and_true] at hno
  have w1 : IntKind.i64.wrap (k - 19) = k - 19 := wrap64 (by omega) (by omega)
  have w2 : IntKind.i64.wrap (k - 19 + 1) = k - 18 := by rw [wrap64 (by omega) (by omega)]; omega
  simp +contextual only [go_sem, sevalprocAttr, mcell_some hG.s, ptEq, m0, m6, w1, w2]
  intro b4 T4 hb4 hap4 hT4 hTb4
  rw [rCond_bool, if_neg (by decide), Run_skip]
  simp +contextual only [go_sem, sevalprocAttr, mcell_some hG.s, ptEq, m0, m6, w1, w2]
  intro b5 T5 hb5 hap5 hT5 hTb5
  have hT := hT4.trans hT5
  refine cond_cut (fun e ds h => ds = [] ∧ e 0 = .pointer (some ⟨sb, 0, none⟩) ∧ e 4 = .pointer (some ⟨b4, 0, none⟩) ∧ e 5 = .pointer (some ⟨b5, 0, none⟩) ∧ ∃ M' y c0 c1 c2 c3 c4 c5, Ext M M' ∧ argB names kids = .ok y ∧ REx M' y [c0, c1, c2, c3, c4, c5] ∧ (∀ u ∈ [c0, c1, c2, c3, c4, c5], u.oneCell' = true) ∧ M' b5 = none ∧ M' b4 = none ∧ M' ab = none ∧
    h = ⟨T5, M', [(b5, [.int .i64 (k - 18), c0, c1, c2, c3, c4, c5]), (b4, [.int .i64 0, .int .i64 0, .int .i64 0, st [], .int .i64 0, .slice none 0 0]), (ab, [.slice aa ags.length ac])], [(.slice aa ags.length ac, 119, 7, xs)]⟩) (fun S' hS' => ?_) ?_
  · cases kids with
    | nil =>
      have hz : ¬ ((0 : Int) < (([] : List X).length : Int)) := by decide
      simp +contextual only [go_sem, Rcb, Rbk, sevalprocAttr, hz]
      refine hS' _ _ _ ⟨rfl, ?_, ?_, ?_, M, zeroE, _, _, _, _, _, _, Ext.rfl', rfl, zeroE_R M, ?_, hb5, hb4, hno, rfl⟩
      · simp only [go_sem, Rcb, Rbk, sevalprocAttr]
      · simp only [go_sem, Rcb, Rbk, sevalprocAttr]
      · simp only [go_sem, Rcb, Rbk, sevalprocAttr]
      · exact REx_oneC (zeroE_R M)
    | cons x0 kr =>
      have hz : (0 : Int) < ((x0 :: kr : List X).length : Int) := by simp only [List.length_cons]; omega
      have hz2 : (1 : Int) ≤ ((x0 :: kr : List X).length : Int) := by simp only [List.length_cons]; omega
      obtain ⟨b', o', cs', rfl, hat, hrx⟩ := hg 0 x0 rfl
      rw [Nat.zero_mul, Nat.add_zero] at hat
      simp +contextual only [go_sem, Rcb, Rbk, sevalprocAttr, hz]
      refine draw_all ?_
      simp +contextual only [go_sem, Rcb, Rbk, sevalprocAttr, mcell_some hG.s, m6, hz, hb4, hb5, hap4, hap5]
      refine rCall_pure (exB names _ x0 (Nat.le_refl _) hoks.1 M T5 rb lv kw aw b' o' cs' hG.n hG.r hat hrx) ?_ ?_
      · rintro r M1 hM1 hno1 ⟨y, hy, cs1, rfl, hye⟩
        obtain ⟨s1, rfl, hs1, _⟩ := REx_form hye
        simp only [List.cons_append, List.nil_append, noneL, noneL_wL] at hno1
        simp +contextual only [go_sem, Rcb, Rbk, sevalprocAttr, hno1, hap4, hap5, hs1]
        refine ⟨Sub_ML hM1 ⟨hno1.1, hno1.2.1, hno1.2.2.1, trivial⟩, ?_⟩
        refine hS' _ _ _ ⟨rfl, ?_, ?_, ?_, M1, y, _, _, _, _, _, _, hM1, ?_, hye, REx_oneC hye, hno1.1, hno1.2.1, hno1.2.2.1, rfl⟩
        · simp only [go_sem, Rcb, Rbk, sevalprocAttr]
        · simp only [go_sem, Rcb, Rbk, sevalprocAttr]
        · simp only [go_sem, Rcb, Rbk, sevalprocAttr]
        · simp only [argB]; exact hy
      · rintro ch M1 hM1 hno1 ⟨er, he, rfl⟩
        refine pan_g (L1 := [(b5, _), (b4, _)]) (R1 := []) hT rfl rfl ?_
        exact aggG_err (by simp only [argB]; exact he)
  · rintro e ds h ⟨rfl, e0, e4, e5, M1, y, c0, c1, c2, c3, c4, c5, hM1, hy, hye, hone, n5, n4, na, rfl⟩
    have hG1 := hG.ext hM1
    have hxs1 := RL_mono (fun x cs h => RAg_ext hM1 x cs h) hxs
    simp +contextual only [go_sem, Rcb, Rbk, sevalprocAttr, e0, e4, e5]
    refine draw_all ?_
    simp +contextual only [go_sem, Rcb, Rbk, sevalprocAttr, e0, e4, e5, mcell_some hG1.s, n5, n4, na, hap4, hap5]
    intro b6 hb6 hap6
    refine ⟨Sub_ML1 Ext.rfl' ⟨n5, n4, na, trivial⟩ ⟨hap6.1, hap6.2.1, hap6.2.2, trivial⟩, ?_⟩
    have hag := RAg_one (k := k - 18) hye
    have hxl1 := RL_len (fun _ _ => RAg_len) hxs1
    refine app_row row39 okt39 (.slice _ 1 _ _ _ Tryz.underlying39 (cells_own [] hb6 trivial rfl) (by
      intro u hu
      rcases List.mem_cons.1 hu with rfl | hu
      · rfl
      · exact hone u hu)) (by rw [hxl1]; simp only [List.length_cons, List.length_nil]; omega) ?_
    intro ra rm rc hrm
    have hrm1 : rm = (ags ++ [⟨k - 18, y⟩] : List Ag).length := by
      rw [hxl1] at hrm
      simp only [List.length_append, List.length_cons, List.length_nil] at hrm ⊢
      omega
    subst hrm1
    obtain ⟨_, ka, kc, rfl, _⟩ := RS_elim (by decide) (fun _ _ => RX_len) hG1.k
    have w3 : IntKind.i64.wrap ((keys'.length : Int) + ((ags ++ [⟨k - 18, y⟩] : List Ag).length : Int)) = ((keys'.length + ags.length + 1 : Nat) : Int) := by
      rw [wrap64 (by simp only [List.length_append, List.length_cons, List.length_nil]; omega) (by simp only [List.length_append, List.length_cons, List.length_nil]; omega)]
      simp only [List.length_append, List.length_cons, List.length_nil]; omega
    have w4 : IntKind.i64.wrap (((keys'.length + ags.length + 1 : Nat) : Int) - 1) = ((keys'.length + ags.length : Nat) : Int) := by
      rw [wrap64 (by omega) (by omega)]; omega
    simp +contextual only [go_sem, Rcb, Rbk, sevalprocAttr, e0, e4, e5, mcell_some hG1.s, n5, n4, na, hap4, hap5, hb6, hap6]
    refine ⟨Sub_ML1 Ext.rfl' ⟨n5, n4, na, trivial⟩ ⟨hap6.1, hap6.2.1, hap6.2.2, trivial⟩, ?_⟩
    refine draw_all ?_
    simp +contextual only [go_sem, Rcb, Rbk, sevalprocAttr, e0, e4, e5, mcell_some hG1.s, n5, n4, na, hap4, hap5, hb6, hap6, w3, w4]
    refine Close_drop (Close_drop (Close_drop (end_id hT rfl rfl ⟨_, _, aggG_ok hy, ⟨_, rfl, colE_R _ _⟩, ra, rc, _, rfl, rfl, RL_append hxs1 (RL_one hag)⟩)))
theorem rCall_lent {F : Fi} {f : FuncId} {args : List Value} {dd : Option Nat} {s : List Vc.Item} {e : Env} {ds : List Deferred} {N : Tm} {M : Mem} (L1 : LL) {Lp : LL} (R1 : RR) {Rp : RR} {post : PostP} {pan : PanP}
    (hc : CtT Tryz.prog f args N M Lp Rp post pan)
    (hn : ∀ v M' L' R', Ext M M' → keys L' = keys Lp → R'.length = Rp.length → noneL M' (L1 ++ L') → post v M' L' R' → Run Tryz.prog F s (updo e dd v) ds ⟨N, M', L1 ++ L', R1 ++ R'⟩ ⟨⟩)
    (hp : ∀ ch M' L' R', Ext M M' → keys L' = keys Lp → R'.length = Rp.length → pan ch M' L' R' → F.pan ch e ds ⟨N, M', L1 ++ L', R1 ++ R'⟩) : rCall Tryz.prog F f args dd s e ds ⟨N, M, L1 ++ Lp, R1 ++ Rp⟩ ⟨⟩ := by
  have key : ∀ (L2 : LL) (R2 : RR), L2 = L1 ++ Lp ++ [] → R2 = R1 ++ Rp ++ [] → rCall Tryz.prog F f args dd s e ds ⟨N, M, L2, R2⟩ ⟨⟩ := by
    rintro _ _ rfl rfl
    refine rCall_of L1 Lp [] R1 Rp [] hc (fun v M' L' R' hM hk hR hno hq => ?_) (fun ch M' L' R' hM hk hR hno hq => ?_)
    · have k2 : ∀ (L2 : LL) (R2 : RR), L2 = L1 ++ L' → R2 = R1 ++ R' → Run Tryz.prog F s (updo e dd v) ds ⟨N, M', L2, R2⟩ ⟨⟩ := by
        rintro _ _ rfl rfl
        exact hn v M' L' R' hM hk hR (by simpa using hno) hq
      exact k2 _ _ (by simp) (by simp)
    · have := hp ch M' L' R' hM hk hR hq
      simpa using this
  exact key _ _ (by simp) (by simp)
theorem rCall_acc {α : Type} {F : Fi} {f : FuncId} {args : List Value} {dd : Option Nat} {s : List Vc.Item} {e : Env} {ds : List Deferred} {N : Tm} {M : Mem} {el : TypeId} {sz : Nat} {r : α → List Value → Prop} {R0 R : RR} {fv : Value} {acc : List α} {post : PostP} {pan : PanP} (L1 : LL) {Lp : LL}
    (hc : CtT Tryz.prog f args N M Lp R0 post pan) (h : Acc el sz r R0 R fv acc)
    (hn : ∀ v M' L' R0' R', Ext M M' → keys L' = keys Lp → R0'.length = R0.length → noneL M' (L1 ++ L') → post v M' L' R0' → Acc el sz r R0' R' fv acc → Run Tryz.prog F s (updo e dd v) ds ⟨N, M', L1 ++ L', R'⟩ ⟨⟩)
    (hp : ∀ ch M' L' R1 R0', Ext M M' → keys L' = keys Lp → R0'.length = R0.length → pan ch M' L' R0' → F.pan ch e ds ⟨N, M', L1 ++ L', R1 ++ R0'⟩) : rCall Tryz.prog F f args dd s e ds ⟨N, M, L1 ++ Lp, R⟩ ⟨⟩ := by
  have key : ∀ (R1 : RR) (R2 : RR) (L2 : LL), L2 = L1 ++ Lp ++ [] → R2 = R1 ++ R0 ++ [] → (∀ R0', Acc el sz r R0' (R1 ++ R0') fv acc) → rCall Tryz.prog F f args dd s e ds ⟨N, M, L2, R2⟩ ⟨⟩ := by
    rintro R1 _ _ rfl rfl hacc
    refine rCall_of L1 Lp [] R1 R0 [] hc (fun v M' L' R' hM hk hR hno hq => ?_) (fun ch M' L' R' hM hk hR hno hq => ?_)
    · have k2 : ∀ (L2 : LL) (R2 : RR), L2 = L1 ++ L' → R2 = R1 ++ R' → Run Tryz.prog F s (updo e dd v) ds ⟨N, M', L2, R2⟩ ⟨⟩ := by
        rintro _ _ rfl rfl
        exact hn v M' L' R' _ hM hk hR (by simpa using hno) hq (hacc R')
      exact k2 _ _ (by simp) (by simp)
    · have := hp ch M' L' R1 R' hM hk hR hq
      simpa using this
  rcases h with ⟨rfl, rfl, rfl⟩ | ⟨a, c, xs, rfl, h3, rfl⟩
  · exact key [] _ _ (by simp) (by simp) fun R0' => .inl ⟨rfl, rfl, rfl⟩
  · exact key [(.slice a acc.length c, el, sz, xs)] _ _ (by simp) (by simp) fun R0' => .inr ⟨a, c, xs, rfl, h3, rfl⟩
mutual
def cntX : X → Nat
  | .mk _ _ _ _ kids => 1 + cntL kids
def cntL : List X → Nat
  | [] => 0
  | x :: l => cntX x + cntL l
end
mutual
theorem exprG_len {names : List (Bs × Bs)} {keys : List X} : ∀ (x : X) (ags : List Ag) (y : Ex) (ags' : List Ag), exprG names keys x ags = .ok (y, ags') → ags'.length ≤ ags.length + cntX x
  | .mk k v tab name kids, ags, y, ags', h => by
    rw [exprG] at h
    rw [cntX]
    split at h
    · injection h with h; injection h with h1 h2; subst h2; omega
    · split at h
      · split at h
        · injection h with h; injection h with h1 h2; subst h2; simp
        · cases h
      · split at h
        · cases h
        · split at h
          · injection h with h; injection h with h1 h2; subst h2; omega
          · split at h
            · rename_i l hl
              injection h with h; injection h with h1 h2; subst h2
              have := exprsG_len kids ags l.1 l.2 hl
              omega
            · cases h
theorem exprsG_len {names : List (Bs × Bs)} {keys : List X} : ∀ (l : List X) (ags : List Ag) (ys : List Ex) (ags' : List Ag), exprsG names keys l ags = .ok (ys, ags') → ags'.length ≤ ags.length + cntL l
  | [], ags, ys, ags', h => by
    rw [exprsG] at h
    injection h with h; injection h with h1 h2; subst h2; omega
  | x :: l, ags, ys, ags', h => by
    rw [exprsG] at h
    rw [cntL]
    split at h
    · cases h
    · rename_i y hy
      split at h
      · rename_i m hm
        injection h with h; injection h with h1 h2; subst h2
        have h1 := exprG_len x ags y.1 y.2 hy
        have h2 := exprsG_len l y.2 m.1 m.2 hm
        omega
      · cases h
end
def preG {α : Type} (acc : List α) : Except Int (List α × List Ag) → Except Int (List α × List Ag)
  | .ok (l, g) => .ok (acc ++ l, g)
  | .error e => .error e
def consG {α : Type} (a : α) : Except Int (List α × List Ag) → Except Int (List α × List Ag)
  | .ok (l, g) => .ok (a :: l, g)
  | .error e => .error e
theorem preG_nil {α : Type} (r : Except Int (List α × List Ag)) : preG [] r = r := by cases r <;> rfl
theorem preG_cons {α : Type} (acc : List α) (a : α) (r : Except Int (List α × List Ag)) : preG (acc ++ [a]) r = preG acc (consG a r) := by
  cases r with
  | ok l => simp [preG, consG]
  | error e => rfl
theorem exprsG_ok {names : List (Bs × Bs)} {keys : List X} {x : X} {l : List X} {ags ags' : List Ag} {y : Ex} (h : exprG names keys x ags = .ok (y, ags')) : exprsG names keys (x :: l) ags = consG y (exprsG names keys l ags') := by
  rw [exprsG, h]
  simp only
  cases exprsG names keys l ags' <;> rfl
theorem exprsG_err {names : List (Bs × Bs)} {keys : List X} {x : X} {l : List X} {ags : List Ag} {e : Int} (h : exprG names keys x ags = .error e) : exprsG names keys (x :: l) ags = .error e := by
  rw [exprsG, h]
def ExG (names : List (Bs × Bs)) (keys' : List X) (x : X) : Prop := ∀ (M : Mem) (T : Tm) (sb ab rb : Nat) (lv kv cv kw aw : Value) (b o : Nat) (cs : List Value) (ags : List Ag) (L : LL) (R : RR), Gs M sb ab rb names keys' lv kv cv kw aw → At M b o cs → RX M x cs → AgS M ab L R ags → ags.length + cntX x ≤ 1048576 →
  CtT Tryz.prog 37 [.pointer (some ⟨sb, 0, none⟩), .pointer (some ⟨b, o, none⟩)] T M L R (postG ab encE (exprG names keys' x ags)) (panX (exprG names keys' x ags))
theorem AgS_keys {M : Mem} {ab : Nat} {L : LL} {R : RR} {ags : List Ag} (h : AgS M ab L R ags) : keys L = [ab] ∧ R.length = 1 := by
  obtain ⟨a, c, xs, rfl, rfl, _⟩ := h
  exact ⟨rfl, rfl⟩
theorem ct_allG {names : List (Bs × Bs)} {keys' : List X} {l : List X} (h : ∀ x ∈ l, ExG names keys' x) (hlen : l.length ≤ 1048576) {M : Mem} {sb ab rb : Nat} {lv kv cv kw aw sv : Value} {ags : List Ag} {L : LL} {R : RR} (hG : Gs M sb ab rb names keys' lv kv cv kw aw) (hs : RS M (RX M) 7 l sv) (hA : AgS M ab L R ags) (hcnt : ags.length + cntL l ≤ 1048576) (T : Tm) :
    CtT Tryz.prog 31 [.pointer (some ⟨sb, 0, none⟩), sv] T M L R (postG ab (fun l v M => RS M (REx M) 6 l v) (exprsG names keys' l ags)) (panX (exprsG names keys' l ags)) := by
  obtain ⟨hbk, a, c, rfl, hle, _, hg⟩ := RS_elim (by decide) (fun _ _ => RX_len) hs
  obtain ⟨hk0, hr0⟩ := AgS_keys hA
  refine ct_run mx bod31 Tryz.func31 rfl (by rw [nt31]; exact Nat.le_of_ble_eq_true rfl) (dr := dr31) (by kernel_rfl) rs31 ?_
  intro hno _
  simp +contextual only [go_sem, Rcb, Rbk, sevalprocAttr]
  refine loop_range l.length 9 [(0, .pointer (some ⟨sb, 0, none⟩)), (1, .slice a l.length c), (7, .slice a l.length c), (8, .int .i64 (l.length : Int))] (fun i e h => ∃ M' L' R0 R' fv acc agi, Ext M M' ∧ h = ⟨T, M', L', R'⟩ ∧ noneL M' L' ∧ e 5 = fv ∧ acc.length = i ∧ AgS M' ab L' R0 agi ∧ Acc 38 6 (REx M') R0 R' fv acc ∧ agi.length + cntL (l.drop i) ≤ 1048576 ∧ preG acc (exprsG names keys' (l.drop i) agi) = exprsG names keys' l ags) 0 (by omega) (by simp only [live, go_sem, Rcb, Rbk, sevalprocAttr]) (by simp only [go_sem, Rcb, Rbk, sevalprocAttr]) ⟨M, L, R, R, _, [], ags, Ext.rfl', rfl, hno, by simp only [go_sem, Rcb, Rbk, sevalprocAttr], rfl, hA, Acc_nil, hcnt, preG_nil _⟩ ?_
  rintro i e h hi hlv ht ⟨M1, L1, R0, R1, fv, acc, agi, hM1, rfl, hno1, e5, hacl, hA1, hacc, hcnt1, hres⟩
  simp only [live] at hlv
  obtain ⟨hk1, hr1⟩ := AgS_keys hA1
  by_cases hlt : i < l.length
  · obtain ⟨b', o', cs', rfl, hat, hrx⟩ := hg i l[i] (List.getElem?_eq_getElem hlt)
    have hdrop : l.drop i = l[i] :: l.drop (i + 1) := List.drop_eq_getElem_cons hlt
    rw [hdrop] at hres hcnt1
    rw [cntL] at hcnt1
    simp +contextual only [go_sem, Rcb, Rbk, sevalprocAttr, hlv, ht, hlt]
    refine rCall_acc [] (h l[i] (List.getElem_mem hlt) M1 T sb ab rb lv kv cv kw aw b' _ cs' agi L1 R0 (hG.ext hM1) (hat.ext hM1) (RX_ext hM1 _ _ hrx) hA1 (by omega)) hacc ?_ ?_
    · rintro v M2 L2 R2 R3 hM2 hk2 hr2 hno2 ⟨y, ag2, hy, ⟨cs, rfl, hye⟩, hA2⟩ hacc2
      rw [exprsG_ok hy, ← preG_cons] at hres
      have hlen2 := exprG_len _ _ _ _ hy
      have hcl := REx_len hye
      simp only [List.nil_append] at hno2
      simp +contextual only [go_sem, Rcb, Rbk, sevalprocAttr, hlv, ht, hlt, e5, hcl]
      intro b6 hb6 hap6
      refine app_acc (Tryz.underlying36) row36 okt36 (Acc_mono (REx_ext hM2) hacc2) hye (fun _ _ => REx_len) (REx_oneC hye) hb6 (by omega) (by decide) ?_
      intro fv' R' hacc'
      simp +contextual only [go_sem, Rcb, Rbk, sevalprocAttr, hlv, ht, hlt]
      refine lp_close (Close_drop (Close_id ⟨l.length - (i + 1), by omega, rfl, i + 1, by omega, rfl, ?_, ?_, M2, L2, R2, R', fv', acc ++ [y], ag2, hM1.trans hM2, rfl, hno2, ?_, ?_, hA2, hacc', by omega, hres⟩))
      · simp only [live, hlv, go_sem, Rcb, Rbk, sevalprocAttr]
      · simp only [ht, go_sem, Rcb, Rbk, sevalprocAttr, wrap_succ i (by omega)]
      · simp only [go_sem, Rcb, Rbk, sevalprocAttr]
      · rw [List.length_append, hacl]; rfl
    · rintro ch M2 L2 R2 R3 hM2 hk2 hr2 ⟨er, he, rfl⟩
      rw [exprsG_err he] at hres
      exact pan_g (L1 := []) (R1 := R2) ExtT.rfl' ((hk2.trans hk1).trans hk0.symm) (by omega) hres.symm
  · have : i = l.length := by omega
    subst this
    rw [List.drop_length, exprsG] at hres
    simp +contextual only [go_sem, Rcb, Rbk, sevalprocAttr, hlv, ht, hlt, e5]
    refine Close_acc hacc (by omega) (by decide) hno1 fun M2 hM2 hno2 hrs => end_id ExtT.rfl' (hk1.trans hk0.symm) (by omega) ⟨acc, agi, ?_, ?_, AgS_ext hM2 hA1⟩
    · rw [← hres]; simp [preG]
    · exact RS_ext Ext.rfl' (REx_ext hM2) hrs
theorem ct_exprC1 {x y : X} {M : Mem} {b3 b o : Nat} {cs cs' : List Value} (h3 : M b3 = some [.pointer (some ⟨b, o, none⟩)]) (ha : At M b o cs) (hx : RX M x cs) (hy : RX M y cs') (T : Tm) :
    CtT Tryz.prog 77 [.agg ⟨cs'⟩, .pointer (some ⟨b3, 0, none⟩)] T M [] [] (fun r _ _ _ => r = .bool (alikeX x y)) noPan := by
  have hl := RX_len hy
  refine ct_run mx bod77 Tryz.func77 rfl (by rw [nt77]; exact Nat.le_of_ble_eq_true rfl) (dr := dr77) (by kernel_rfl) rs77 ?_
  intro hno _
  simp +contextual only [go_sem, Rcb, Rbk, sevalprocAttr, hl, mcell_some h3]
  intro b2 T2 hb2 hT2 hTb2
  refine rCall_frz bod78 fun M1 hM1 hb2' hno1 => ?_
  refine rCall_pure (ct_same_b _ x (Nat.le_refl _) M1 T2 b o b2 0 y _ _ (ha.ext hM1) (RX_ext hM1 _ _ hx) (At_of hb2' _ 0 (by simp)) (RX_ext hM1 _ _ hy)) ?_ (fun _ _ _ _ h => h.elim)
  rintro v M2 hM2 _ rfl
  simp +contextual only [go_sem, Rcb, Rbk, sevalprocAttr]
  exact end_none hT2 rfl
theorem exG (names : List (Bs × Bs)) (keys' : List X) (hkl : keys'.length ≤ 1048576) : ∀ (sz : Nat) (x : X), SizeOf.sizeOf x ≤ sz → okX x → ExG names keys' x := by
  intro sz
  induction sz with
  | zero => intro x hx; cases x; simp at hx
  | succ sz ih =>
    intro x hsz hok M T sb ab rb lv kv cv kw aw b o cs ags L R hG ha hx hA hcnt
    obtain ⟨s, hs, m0, m1, m2, m3, m4, m5, m6⟩ := RX_at hx ha
    obtain ⟨hk0, hr0⟩ := AgS_keys hA
    cases x with | mk k v tab name kids =>
    have hx' := hx
    simp only [X.k, X.v, X.tab, X.name, X.kids] at m0 m1 m2 m3 m4 m5 m6 hs
    obtain ⟨hkl1, hlit, hoks⟩ := hok
    have hk3 := kidsN_le k
    rw [cntX] at hcnt
    obtain ⟨E, hE⟩ : ∃ E, E = exprG names keys' (.mk k v tab name kids) ags := ⟨_, rfl⟩
    rw [← hE]
    rw [exprG] at hE
    refine ct_run mx bod37 Tryz.func37 rfl (by rw [nt37]; exact Nat.le_of_ble_eq_true rfl) (dr := dr37) (by kernel_rfl) rs37 ?_
    intro hno _
    simp +contextual only [go_sem, sevalprocAttr, mcell_some hG.s, m0, ptNe]
    intro b3 T3 hb3 hap3 hT3 hTb3 b4 T4 hb4 hap4 hT4 hTb4
    have hT := hT3.trans hT4
    rw [rCond_bool, if_pos (by rfl)]
    simp +contextual only [go_sem, sevalprocAttr, mcell_some hG.s, m0, ptNe]
    refine rCall_frzM [(b4, _)] bod76 fun M1 hM1 hb3' hno1 => ?_
    have hG1 := hG.ext hM1
    have ha1 := ha.ext hM1
    have hx1 := RX_ext hM1 _ _ hx
    refine rCall_pure (ct_IndexX (p := fun y => alikeX (.mk k v tab name kids) y) (fa := []) (fc := [.pointer (some ⟨b3, 0, none⟩)]) hG1.k bod77 (fun y _ M' T' cs hM' hc => ct_exprC1 (hM' _ _ hb3') (ha1.ext hM') (RX_ext hM' _ _ hx1) hc T') T4) ?_ (fun _ _ _ _ h => h.elim)
    rintro r M2 hM2 hno2 rfl
    have h12 := hM1.trans hM2
    replace hb3' := hM2 _ _ hb3'
    have hG2 := hG.ext h12
    have ha2 := ha.ext h12
    have hx2 := RX_ext h12 _ _ hx
    have hs2 := RS_ext h12 (RX_ext h12) hs
    have hA2 := AgS_ext h12 hA
    replace m0 := mcell_ext h12 m0
    replace m1 := mcell_ext h12 m1
    replace m2 := mcell_ext h12 m2
    replace m3 := mcell_ext h12 m3
    replace m6 := mcell_ext h12 m6
    simp only [List.cons_append, List.nil_append, noneL, noneL_wL] at hno2
    cases hf : keys'.findIdx? (fun y => alikeX (.mk k v tab name kids) y) with
    | some j =>
      rw [hf] at hE
      simp only at hE
      simp +contextual only [go_sem, Rcb, Rbk, sevalprocAttr, optI, hno2]
      exact Close_drop (end_id hT rfl rfl ⟨_, _, hE, ⟨_, rfl, colE_R _ _⟩, hA2⟩)
    | none =>
      rw [hf] at hE
      simp only at hE
      by_cases h19 : 19 ≤ k
      · rw [if_pos h19] at hE
        simp +contextual only [go_sem, Rcb, Rbk, sevalprocAttr, optI, hno2, mcell_some hb3', m0, h19]
        refine rCall_lent [(b4, _)] [] (ct_agg hG2 ha2 hx2 ⟨hkl1, hlit, hoks⟩ h19 hA2 (by omega) hkl T4) ?_ ?_
        · rintro r M3 L3 R3 hM3 hk3' hr3 hno3 ⟨y, ag3, hy, ⟨cs3, rfl, hye⟩, hA3⟩
          obtain ⟨s3, rfl, hs3, _⟩ := REx_form hye
          simp only [List.cons_append, List.nil_append, noneL, noneL_wL] at hno3
          simp +contextual only [go_sem, Rcb, Rbk, sevalprocAttr, hno3, hs3]
          refine Close_drop (end_id hT hk3' hr3 ⟨y, ag3, ?_, ⟨_, rfl, hye⟩, hA3⟩)
          rw [hE]; exact hy
        · rintro ch M3 L3 R3 hM3 hk3' hr3 ⟨er, he, rfl⟩
          exact pan_g (L1 := [(b4, _)]) (R1 := []) hT hk3' hr3 (hE.trans he)
      rw [if_neg h19] at hE
      by_cases h2 : k = 2
      · subst h2
        rw [if_pos rfl] at hE
        simp +contextual only [go_sem, Rcb, Rbk, sevalprocAttr, optI, hno2, mcell_some hb3', m0, h19, ptNe, mcell_some hG2.s]
        exact fail_g (L1 := [(b4, _)]) (R1 := []) hT rfl rfl hE
      rw [if_neg h2] at hE
      by_cases h1 : k = 1
      · subst h1
        rw [if_pos rfl] at hE
        simp +contextual only [go_sem, Rcb, Rbk, sevalprocAttr, optI, hno2, mcell_some hb3', m0, m1, m2, m3, h19]
        exact Close_drop (end_id hT rfl rfl ⟨_, _, hE, ⟨_, rfl, litE_R _ v⟩, hA2⟩)
      rw [if_neg h1] at hE
      simp +contextual only [go_sem, Rcb, Rbk, sevalprocAttr, optI, hno2, mcell_some hb3', m0, h19, h1, h2]
      refine draw_at ⟨T, M2, [], []⟩ (Sub_ext Ext.rfl') ?_
      simp +contextual only [go_sem, Rcb, Rbk, sevalprocAttr, optI, hno2, mcell_some hb3', m0, m6, h19, h1, h2]
      refine rCall_lent [(b4, _)] [] (ct_allG (fun x hx => ih x (by
        have h1 := List.sizeOf_lt_of_mem hx
        simp only [X.mk.sizeOf_spec] at hsz
        omega) (okXs_mem hoks x hx)) (by omega) hG2 hs2 hA2 (by omega) T4) ?_ ?_
      · rintro r M3 L3 R3 hM3 hk3' hr3 hno3 ⟨l, ag3, hl, hrs, hA3⟩
        rw [hl] at hE
        simp only at hE
        obtain ⟨r1, r2⟩ := RS_one hrs
        have r2m := r2
        simp only [Value.cells] at r2m
        simp only [List.cons_append, List.nil_append, noneL, noneL_wL] at hno3
        simp +contextual only [go_sem, Rcb, Rbk, sevalprocAttr, hno3, r1, r2, r2m]
        refine ⟨Sub_ext hM3, Close_drop (end_id hT hk3' hr3 ⟨.mk k zeroV 0 l, ag3, hE, ⟨_, rfl, REx_iff.2 ⟨r, rfl, hrs⟩⟩, hA3⟩)⟩
      · rintro ch M3 L3 R3 hM3 hk3' hr3 ⟨er, he, rfl⟩
        rw [he] at hE
        exact pan_g (L1 := [(b4, _)]) (R1 := []) hT hk3' hr3 hE
abbrev plV (p : Pl) (s1 xv av s : Value) : List Value := [.int .i64 p.k, .int .i64 p.n, .int .i64 p.x.k, .int .i64 p.x.v.k, .int .i64 p.x.v.n, st p.x.v.t, .int .i64 p.x.c, s1, xv, av, s]
theorem RPl_form {M : Mem} {p : Pl} {cs : List Value} (h : RPl M p cs) : ∃ s1 a1 n1 a2 n2 a3 n3, cs = plV p s1 (.slice a1 p.xs.length n1) (.slice a2 p.ags.length n2) (.slice a3 p.kids.length n3) ∧ s1.oneCell' = true ∧
    RS M (REx M) 6 p.x.kids s1 ∧ RS M (REx M) 6 p.xs (.slice a1 p.xs.length n1) ∧ RS M (RAg M) 7 p.ags (.slice a2 p.ags.length n2) ∧ RS M (RPl M) 11 p.kids (.slice a3 p.kids.length n3) := by
  obtain ⟨xc, xv, av, s, rfl, h1, h2, h3, h4⟩ := RPl_iff.1 h
  obtain ⟨s1, rfl, hs1, hk⟩ := REx_form h1
  obtain ⟨_, a1, n1, rfl, _⟩ := RS_elim (by decide) (fun _ _ => REx_len) h2
  obtain ⟨_, a2, n2, rfl, _⟩ := RS_elim (by decide) (fun _ _ => RAg_len) h3
  obtain ⟨_, a3, n3, rfl, _⟩ := RS_elim (by decide) (fun _ _ => RPl_len) h4
  exact ⟨s1, a1, n1, a2, n2, a3, n3, rfl, hs1, hk, h2, h3, h4⟩
theorem RPl_oneC {M : Mem} {p : Pl} {cs : List Value} (h : RPl M p cs) : ∀ u ∈ cs, u.oneCell' = true := by
  obtain ⟨s1, a1, n1, a2, n2, a3, n3, rfl, h1, _⟩ := RPl_form h
  intro u hu
  simp only [plV, List.mem_cons, List.not_mem_nil, or_false] at hu
  rcases hu with rfl | rfl | rfl | rfl | rfl | rfl | rfl | rfl | rfl | rfl | rfl <;> first | rfl | exact h1
theorem RRel_form {M : Mem} {r : Rel} {cs : List Value} (h : RRel M r cs) : ∃ ca cn s1 a1 n1 a2 n2 a3 n3, cs = [st r.name, .slice ca r.cols.length cn, .bool r.view, .int .i64 r.plan.k, .int .i64 r.plan.n, .int .i64 r.plan.x.k, .int .i64 r.plan.x.v.k, .int .i64 r.plan.x.v.n, st r.plan.x.v.t, .int .i64 r.plan.x.c, s1, .slice a1 r.plan.xs.length n1, .slice a2 r.plan.ags.length n2, .slice a3 r.plan.kids.length n3] ∧
    s1.oneCell' = true ∧ RS M RCo 2 r.cols (.slice ca r.cols.length cn) ∧ RPl M r.plan (plV r.plan s1 (.slice a1 r.plan.xs.length n1) (.slice a2 r.plan.ags.length n2) (.slice a3 r.plan.kids.length n3)) := by
  obtain ⟨c, p, h1, h2, rfl⟩ := h
  obtain ⟨_, ca, cn, rfl, _⟩ := RS_elim (by decide) (fun _ _ => RCo_len) h1
  obtain ⟨s1, a1, n1, a2, n2, a3, n3, rfl, hs1, _⟩ := RPl_form h2
  exact ⟨ca, cn, s1, a1, n1, a2, n2, a3, n3, rfl, hs1, h1, h2⟩
theorem At14 {M : Mem} {b o : Nat} {v0 v1 v2 v3 v4 v5 v6 v7 v8 v9 v10 v11 v12 v13 : Value} (h : At M b o [v0, v1, v2, v3, v4, v5, v6, v7, v8, v9, v10, v11, v12, v13]) : mcell M ⟨b, o, none⟩ = some v0 ∧ mcell M ⟨b, o + 1, none⟩ = some v1 ∧ mcell M ⟨b, o + 2, none⟩ = some v2 ∧ mcell M ⟨b, o + 3, none⟩ = some v3 ∧ mcell M ⟨b, o + 4, none⟩ = some v4 ∧ mcell M ⟨b, o + 5, none⟩ = some v5 ∧ mcell M ⟨b, o + 6, none⟩ = some v6 ∧ mcell M ⟨b, o + 7, none⟩ = some v7 ∧ mcell M ⟨b, o + 8, none⟩ = some v8 ∧ mcell M ⟨b, o + 9, none⟩ = some v9 ∧ mcell M ⟨b, o + 10, none⟩ = some v10 ∧ mcell M ⟨b, o + 11, none⟩ = some v11 ∧ mcell M ⟨b, o + 12, none⟩ = some v12 ∧ mcell M ⟨b, o + 13, none⟩ = some v13 := by
  obtain ⟨h0, h1, h2, h3, h4, h5, h6, h7, h8, h9, h10, h11, h12, h13, _⟩ := h
  exact ⟨h0, h1, h2, h3, h4, h5, h6, h7, h8, h9, h10, h11, h12, h13⟩
def encP (p : Pl) (v : Value) (M : Mem) : Prop := ∃ cs, v = .agg ⟨cs⟩ ∧ RPl M p cs
def encPC (r : Pl × List Co) (v : Value) (M : Mem) : Prop := ∃ cs cv, v = .tuple ⟨[.agg ⟨cs⟩, cv]⟩ ∧ RPl M r.1 cs ∧ RS M RCo 2 r.2 cv
theorem zeroP_R (M : Mem) : RPl M zeroP [.int .i64 0, .int .i64 0, .int .i64 0, .int .i64 0, .int .i64 0, st [], .int .i64 0, .slice none 0 0, .slice none 0 0, .slice none 0 0, .slice none 0 0] :=
  RPl_iff.2 ⟨_, _, _, _, rfl, zeroE_R M, RS_nil, RS_nil, RS_nil⟩
theorem tableP_R (M : Mem) (n : Nat) : RPl M (tableP n) [.int .i64 1, .int .i64 (n : Int), .int .i64 0, .int .i64 0, .int .i64 0, st [], .int .i64 0, .slice none 0 0, .slice none 0 0, .slice none 0 0, .slice none 0 0] :=
  RPl_iff.2 ⟨_, _, _, _, rfl, zeroE_R M, RS_nil, RS_nil, RS_nil⟩
theorem findG_cons (name : Bs) (n : Nat) (r : Rel) (l : List Rel) : findG name n (r :: l) = if r.name = name then some (if r.view = true then r.plan else tableP n, r.cols) else findG name (if r.view = true then n else n + 1) l := rfl
theorem ct_rel {M : Mem} {bb : Nat} {rels : List Rel} {rv : Value} (name : Bs) (hr : RS M (RRel M) 14 rels rv) (hbb : M bb = some [rv]) (T : Tm) :
    CtT Tryz.prog 105 [.pointer (some ⟨bb, 0, none⟩), st name] T M [] [] (postX encPC (findM rels name)) (panX (findM rels name)) := by
  obtain ⟨hbk, a, c, rfl, hle, _, hg⟩ := RS_elim (by decide) (fun _ _ => RRel_len) hr
  have hbad : findG name 0 rels = none → findM rels name = .error 7 := fun h => by unfold findM; rw [h]
  have hgood : ∀ {x}, findG name 0 rels = some x → findM rels name = .ok x := fun h => by unfold findM; rw [h]
  refine ct_run mx bod105 Tryz.func105 rfl (by rw [nt105]; exact Nat.le_of_ble_eq_true rfl) (dr := dr105) (by kernel_rfl) rs105 ?_
  intro hno _
  simp +contextual only [go_sem, Rcb, Rbk, sevalprocAttr, mcell_some hbb]
  intro b4 T4 hb4 hT4 hTb4
  refine loop_range rels.length 14 [(1, st name), (4, .pointer (some ⟨b4, 0, none⟩)), (12, .slice a rels.length c), (13, .int .i64 (rels.length : Int))] (fun i e h => ∃ T' n, ExtT T4 T' ∧ h = ⟨T', M, [(b4, [.int .i64 0, .int .i64 0, .int .i64 0, .int .i64 0, .int .i64 0, st [], .int .i64 0, .slice none 0 0, .slice none 0 0, .slice none 0 0, .slice none 0 0])], []⟩ ∧ e 6 = .int .i64 ((n : Nat) : Int) ∧ n ≤ i ∧ findG name n (rels.drop i) = findG name 0 rels) 0 (by omega) (by simp only [live, go_sem, Rcb, Rbk, sevalprocAttr]) (by simp only [go_sem, Rcb, Rbk, sevalprocAttr]) ⟨T4, 0, ExtT.rfl', rfl, by simp only [go_sem, Rcb, Rbk, sevalprocAttr], by omega, rfl⟩ ?_
  rintro i e h hi hlv ht ⟨T1, n, hT1, rfl, e6, hni, hres⟩
  simp only [live] at hlv
  by_cases hlt : i < rels.length
  · obtain ⟨b', o', cs', rfl, hat, hrx⟩ := hg i rels[i] (List.getElem?_eq_getElem hlt)
    obtain ⟨ca, cn, s1, a1, n1, a2, n2, a3, n3, rfl, hs1, hcols, hpl⟩ := RRel_form hrx
    obtain ⟨y0, y1, y2, y3, y4, y5, y6, y7, y8, y9, y10, y11, y12, y13⟩ := At14 hat
    have hdrop : rels.drop i = rels[i] :: rels.drop (i + 1) := List.drop_eq_getElem_cons hlt
    rw [hdrop, findG_cons] at hres
    have hT := hT4.trans hT1
    by_cases hn : rels[i].name = name
    · rw [if_pos hn] at hres
      cases hv : rels[i].view with
      | true =>
        rw [hv, if_pos rfl] at hres
        simp +contextual only [go_sem, Rcb, Rbk, sevalprocAttr, hlv, ht, hlt, y0, y1, y2, y3, y4, y5, y6, y7, y8, y9, y10, y11, y12, y13, hb4, hs1, hn, hv]
        intro b8 T8 hb8 hap8 hT8 hTb8
        refine draw_at ⟨T, fun _ => none, [(b8, _)], []⟩ (Sub_hd hb8) ?_
        simp +contextual only [go_sem, Rcb, Rbk, sevalprocAttr, hlv, ht, hlt, y0, y1, y2, y3, y4, y5, y6, y7, y8, y9, y10, y11, y12, y13, hb4, hs1, hn, hv, hb8, hap8]
        exact ⟨Sub_hd hb8, end_none (hT.trans hT8) ⟨_, hgood hres.symm, _, _, rfl, hpl, hcols⟩⟩
      | false =>
        rw [hv, if_neg (by decide)] at hres
        simp +contextual only [go_sem, Rcb, Rbk, sevalprocAttr, hlv, ht, hlt, y0, y1, y2, y3, y4, y5, y6, y7, y8, y9, y10, y11, y12, y13, hb4, hs1, hn, hv, e6]
        intro b8 T8 hb8 hap8 hT8 hTb8
        refine draw_at ⟨T, fun _ => none, [(b8, _)], []⟩ (Sub_hd hb8) ?_
        simp +contextual only [go_sem, Rcb, Rbk, sevalprocAttr, hlv, ht, hlt, y0, y1, y2, y3, y4, y5, y6, y7, y8, y9, y10, y11, y12, y13, hb4, hs1, hn, hv, hb8, hap8, e6]
        exact ⟨Sub_hd hb8, end_none (hT.trans hT8) ⟨_, hgood hres.symm, _, _, rfl, tableP_R M n, hcols⟩⟩
    · rw [if_neg hn] at hres
      cases hv : rels[i].view with
      | true =>
        rw [hv, if_pos rfl] at hres
        simp +contextual only [go_sem, Rcb, Rbk, sevalprocAttr, hlv, ht, hlt, y0, y1, y2, y3, y4, y5, y6, y7, y8, y9, y10, y11, y12, y13, hb4, hs1, hn, hv, e6]
        intro b8 T8 hb8 hap8 hT8 hTb8
        refine lp_close (Close_drop (Close_id ⟨rels.length - (i + 1), by omega, rfl, i + 1, by omega, rfl, ?_, ?_, T8, n, hT1.trans hT8, rfl, ?_, by omega, hres⟩))
        · simp only [live, hlv, go_sem, Rcb, Rbk, sevalprocAttr]
        · simp only [ht, go_sem, Rcb, Rbk, sevalprocAttr, wrap_succ i (by omega)]
        · simp only [e6, go_sem, Rcb, Rbk, sevalprocAttr]
      | false =>
        rw [hv, if_neg (by decide)] at hres
        simp +contextual only [go_sem, Rcb, Rbk, sevalprocAttr, hlv, ht, hlt, y0, y1, y2, y3, y4, y5, y6, y7, y8, y9, y10, y11, y12, y13, hb4, hs1, hn, hv, e6]
        intro b8 T8 hb8 hap8 hT8 hTb8
        refine lp_close (Close_drop (Close_id ⟨rels.length - (i + 1), by omega, rfl, i + 1, by omega, rfl, ?_, ?_, T8, n + 1, hT1.trans hT8, rfl, ?_, by omega, hres⟩))
        · simp only [live, hlv, go_sem, Rcb, Rbk, sevalprocAttr]
        · simp only [ht, go_sem, Rcb, Rbk, sevalprocAttr, wrap_succ i (by omega)]
        · simp only [e6, go_sem, Rcb, Rbk, sevalprocAttr, wrap_succ n (by omega)]
  · have : i = rels.length := by omega
    subst this
    rw [List.drop_length] at hres
    simp +contextual only [go_sem, Rcb, Rbk, sevalprocAttr, hlv, ht, hlt]
    exact fail_x (hT4.trans hT1) (hbad hres.symm)
theorem RPl_cells {M : Mem} {p : Pl} {cs : List Value} (h : RPl M p cs) : ∃ c0 c1 c2 c3 c4 c5 c6 c7 c8 c9 c10, cs = [c0, c1, c2, c3, c4, c5, c6, c7, c8, c9, c10] ∧ c0.oneCell' = true ∧ c1.oneCell' = true ∧ c2.oneCell' = true ∧ c3.oneCell' = true ∧ c4.oneCell' = true ∧ c5.oneCell' = true ∧ c6.oneCell' = true ∧ c7.oneCell' = true ∧ c8.oneCell' = true ∧ c9.oneCell' = true ∧ c10.oneCell' = true := by
  obtain ⟨s1, a1, n1, a2, n2, a3, n3, rfl, h1, _⟩ := RPl_form h
  exact ⟨_, _, _, _, _, _, _, _, _, _, _, rfl, rfl, rfl, rfl, rfl, rfl, rfl, rfl, h1, rfl, rfl, rfl⟩
theorem RPl_mk {M : Mem} {k n : Int} {x : Ex} {xs : List Ex} {ags : List Ag} {kids : List Pl} {s1 xv av s : Value} (hx : REx M x [.int .i64 x.k, .int .i64 x.v.k, .int .i64 x.v.n, st x.v.t, .int .i64 x.c, s1]) (h2 : RS M (REx M) 6 xs xv) (h3 : RS M (RAg M) 7 ags av) (h4 : RS M (RPl M) 11 kids s) :
    RPl M (.mk k n x xs ags kids) [.int .i64 k, .int .i64 n, .int .i64 x.k, .int .i64 x.v.k, .int .i64 x.v.n, st x.v.t, .int .i64 x.c, s1, xv, av, s] := RPl_iff.2 ⟨_, _, _, _, rfl, hx, h2, h3, h4⟩
theorem RPl_one {M : Mem} {b : Nat} {p : Pl} {cs : List Value} (hb : M b = some cs) (hp : RPl M p cs) : RS M (RPl M) 11 [p] (.slice (some ⟨b, 0, none⟩) 1 1) := RS_lit (fun _ _ => RPl_len) hb (RL_one hp) rfl (by decide)
theorem RPl_two {M : Mem} {b : Nat} {p q : Pl} {cs ds : List Value} (hb : M b = some (cs ++ ds)) (hp : RPl M p cs) (hq : RPl M q ds) : RS M (RPl M) 11 [p, q] (.slice (some ⟨b, 0, none⟩) 2 2) := RS_lit (fun _ _ => RPl_len) hb ⟨cs, ds, rfl, hp, RL_one hq⟩ rfl (by decide)
theorem ct_filter {M : Mem} {x : Ex} {p : Pl} {cs ds : List Value} (hx : REx M x cs) (hp : RPl M p ds) (T : Tm) : CtT Tryz.prog 62 [.agg ⟨cs⟩, .agg ⟨ds⟩] T M [] [] (fun r M' _ _ => encP (filterP x p) r M') noPan := by
  obtain ⟨s0, rfl, hs0, hk0⟩ := REx_form hx
  obtain ⟨s1, a1, n1, a2, n2, a3, n3, rfl, hs1, _⟩ := RPl_form hp
  refine ct_run mx bod62 Tryz.func62 rfl (by rw [nt62]; exact Nat.le_of_ble_eq_true rfl) (dr := dr62) (by kernel_rfl) rs62 ?_
  intro hno _
  simp +contextual only [go_sem, Rcb, Rbk, sevalprocAttr, hs0, hs1]
  intro b2 T2 hb2 hT2 hTb2 b3 T3 hb3 hap3 hT3 hTb3 b4 T4 hb4 hap4 hT4 hTb4 b5 hb5 hap5
  exact Close_freeze fun he h5 _ => end_none ((hT2.trans hT3).trans hT4) ⟨_, rfl, RPl_mk (REx_ext he _ _ hx) RS_nil RS_nil (RPl_one h5 (RPl_ext he _ _ hp))⟩
theorem ct_once {M : Mem} {p : Pl} {ds : List Value} (hp : RPl M p ds) (T : Tm) : CtT Tryz.prog 68 [.agg ⟨ds⟩] T M [] [] (fun r M' _ _ => encP (plan1 11 p) r M') noPan := by
  obtain ⟨s1, a1, n1, a2, n2, a3, n3, rfl, hs1, _⟩ := RPl_form hp
  refine ct_run mx bod68 Tryz.func68 rfl (by rw [nt68]; exact Nat.le_of_ble_eq_true rfl) (dr := dr68) (by kernel_rfl) rs68 ?_
  intro hno _
  simp +contextual only [go_sem, Rcb, Rbk, sevalprocAttr, hs1]
  intro b2 T2 hb2 hT2 hTb2 b3 T3 hb3 hap3 hT3 hTb3 b5 hb5 hap5
  exact Close_freeze fun he h5 _ => end_none (hT2.trans hT3) ⟨_, rfl, RPl_mk (zeroE_R _) RS_nil RS_nil (RPl_one h5 (RPl_ext he _ _ hp))⟩
theorem ct_bset {M : Mem} {op : Int} {p q : Pl} {cs ds : List Value} (hp : RPl M p cs) (hq : RPl M q ds) (T : Tm) : CtT Tryz.prog 30 [.int .i64 op, .agg ⟨cs⟩, .agg ⟨ds⟩] T M [] [] (fun r M' _ _ => encP (setB op p q) r M') noPan := by
  obtain ⟨c0, c1, c2, c3, c4, c5, c6, c7, c8, c9, c10, rfl, hc⟩ := RPl_cells hp
  obtain ⟨d0, d1, d2, d3, d4, d5, d6, d7, d8, d9, d10, rfl, hd⟩ := RPl_cells hq
  unfold setB
  refine ct_run mx bod30 Tryz.func30 rfl (by rw [nt30]; exact Nat.le_of_ble_eq_true rfl) (dr := dr30) (by kernel_rfl) rs30 ?_
  intro hno _
  by_cases h1 : op = 1
  · subst h1
    simp +contextual only [go_sem, Rcb, Rbk, sevalprocAttr, hc, hd]
    intro b2 T2 hb2 hT2 hTb2 b3 T3 hb3 hap3 hT3 hTb3 b4 T4 hb4 hap4 hT4 hTb4 b5 hb5 hap5
    exact Close_freeze fun he h5 _ => end_none ((hT2.trans hT3).trans hT4) ⟨_, rfl, RPl_mk (zeroE_R _) RS_nil RS_nil (RPl_two h5 (RPl_ext he _ _ hp) (RPl_ext he _ _ hq))⟩
  by_cases h2 : op = 2
  · subst h2
    simp +contextual only [go_sem, Rcb, Rbk, sevalprocAttr, hc, hd]
    intro b2 T2 hb2 hT2 hTb2 b3 T3 hb3 hap3 hT3 hTb3 b4 T4 hb4 hap4 hT4 hTb4 b5 hb5 hap5
    refine rCall_frz bod68 fun M1 he h5 hno1 => ?_
    refine rCall_pure (ct_once (RPl_mk (k := 8) (n := 0) (zeroE_R _) RS_nil RS_nil (RPl_two h5 (RPl_ext he _ _ hp) (RPl_ext he _ _ hq))) T4) ?_ (fun _ _ _ _ h => h.elim)
    rintro r M2 hM2 hno2 ⟨c2, rfl, h2⟩
    obtain ⟨e0, e1, e2, e3, e4, e5, e6, e7, e8, e9, e10, rfl, he⟩ := RPl_cells h2
    simp only [List.cons_append, List.nil_append, noneL, noneL_wL] at hno2
    simp +contextual only [go_sem, Rcb, Rbk, sevalprocAttr, hno2, he]
    exact end_none ((hT2.trans hT3).trans hT4) ⟨_, rfl, h2⟩
  by_cases h4 : op = 4
  · subst h4
    simp +contextual only [go_sem, Rcb, Rbk, sevalprocAttr, hc, hd]
    intro b2 T2 hb2 hT2 hTb2 b3 T3 hb3 hap3 hT3 hTb3 b4 T4 hb4 hap4 hT4 hTb4
    refine draw_all ?_
    simp +contextual only [go_sem, Rcb, Rbk, sevalprocAttr, hb2, hb3, hap3, hb4, hap4]
    refine rCall_pure (ct_once hp T4) ?_ (fun _ _ _ _ h => h.elim)
    rintro r M2 hM2 hno2 ⟨_, rfl, h2⟩
    obtain ⟨e0, e1, e2, e3, e4, e5, e6, e7, e8, e9, e10, rfl, he⟩ := RPl_cells h2
    simp only [List.cons_append, List.nil_append, noneL, noneL_wL] at hno2
    simp +contextual only [go_sem, Rcb, Rbk, sevalprocAttr, hno2, he, hap3, hap4]
    refine ⟨Sub_ML hM2 ⟨hno2.1, hno2.2.1, hno2.2.2.1, trivial⟩, ?_⟩
    refine rCall_pure (ct_once (RPl_ext hM2 _ _ hq) T4) ?_ (fun _ _ _ _ h => h.elim)
    rintro r M3 hM3 hno3 ⟨_, rfl, h3⟩
    obtain ⟨f0, f1, f2, f3, f4, f5, f6, f7, f8, f9, f10, rfl, hf⟩ := RPl_cells h3
    simp only [List.cons_append, List.nil_append, noneL, noneL_wL] at hno3
    simp +contextual only [go_sem, Rcb, Rbk, sevalprocAttr, hno3, he, hf, hap3, hap4]
    intro b5 hb5 hap5 b6 hb6 hap6
    refine Close_perm (List.Perm.swap _ _ _) (Close_freeze fun he1 h5 _ => Close_freeze fun he2 h6 _ => end_none ((hT2.trans hT3).trans hT4) ⟨_, rfl, RPl_mk (zeroE_R _) RS_nil RS_nil (RPl_one h6 (RPl_mk (zeroE_R _) RS_nil RS_nil ?_))⟩)
    exact RPl_two (cs := [e0, e1, e2, e3, e4, e5, e6, e7, e8, e9, e10]) (ds := [f0, f1, f2, f3, f4, f5, f6, f7, f8, f9, f10]) (he2 _ _ h5) (RPl_ext ((hM3.trans he1).trans he2) _ _ h2) (RPl_ext (he1.trans he2) _ _ h3)
  · simp +contextual only [go_sem, Rcb, Rbk, sevalprocAttr, hc, hd, h1, h2, h4]
    intro b2 T2 hb2 hT2 hTb2 b3 T3 hb3 hap3 hT3 hTb3 b4 T4 hb4 hap4 hT4 hTb4 b5 hb5 hap5 b6 hb6 hap6
    refine Close_perm (List.Perm.swap _ _ _) (Close_freeze fun he1 h5 _ => Close_freeze fun he2 h6 _ => end_none ((hT2.trans hT3).trans hT4) ⟨_, rfl, RPl_mk (zeroE_R _) RS_nil RS_nil (RPl_one h6 (RPl_mk (zeroE_R _) RS_nil RS_nil ?_))⟩)
    exact RPl_two (cs := [c0, c1, c2, c3, c4, c5, c6, c7, c8, c9, c10]) (ds := [d0, d1, d2, d3, d4, d5, d6, d7, d8, d9, d10]) (he2 _ _ h5) (RPl_ext (he1.trans he2) _ _ hp) (RPl_ext (he1.trans he2) _ _ hq)
end Go.Proofs.YtmccpbcbofhmlaaGreatDoor
namespace Go.Proofs
open Go.Shelf
def Tryz.lays171_ren : Go.Shelf.Ren := ⟨fun | 171 => 72 | 243 => 112 | 246 => 171 | 283 => 220 | 284 => 221 | 285 => 222 | 286 => 223 | 129 => 265 | 317 => 264 | 318 => 266 | 319 => 267 | 320 => 268 | 337 => 301 | 338 => 302 | n => n, fun | 3 => 3 | 9 => 9 | 2 => 2 | 4 => 4 | 171 => 311 | 0 => 0 | 53 => 312 | 37 => 134 | 5 => 5 | 173 => 315 | 212 => 359 | 51 => 360 | 20 => 20 | 213 => 361 | 46 => 363 | 232 => 410 | 233 => 411 | n => n, fun | 17 => 1 | 18 => 8 | 19 => 9 | n => n⟩
theorem Tryz.lays171 : Go.Proofs.Lays.n171 Tryz.prog Tryz.lays171_ren := {
  mixed := by kernel_rfl
  f129 := Tryz.func265.trans (congrArg some (by kernel_rfl))
  f171 := Tryz.func72.trans (congrArg some (by kernel_rfl))
  f243 := Tryz.func112.trans (congrArg some (by kernel_rfl))
  f246 := Tryz.func171.trans (congrArg some (by kernel_rfl))
  f283 := Tryz.func220.trans (congrArg some (by kernel_rfl))
  f284 := Tryz.func221.trans (congrArg some (by kernel_rfl))
  f285 := Tryz.func222.trans (congrArg some (by kernel_rfl))
  f286 := Tryz.func223.trans (congrArg some (by kernel_rfl))
  f317 := Tryz.func264.trans (congrArg some (by kernel_rfl))
  f318 := Tryz.func266.trans (congrArg some (by kernel_rfl))
  f319 := Tryz.func267.trans (congrArg some (by kernel_rfl))
  f320 := Tryz.func268.trans (congrArg some (by kernel_rfl))
  f337 := Tryz.func301.trans (congrArg some (by kernel_rfl))
  f338 := Tryz.func302.trans (congrArg some (by kernel_rfl))
  t0 := Tryz.underlying0
  a0 := Tryz.isAgg0
  z0 := Tryz.sizeOf0
  v0 := Tryz.zeroValue0
  t2 := Tryz.underlying2
  a2 := Tryz.isAgg2
  z2 := Tryz.sizeOf2
  v2 := Tryz.zeroValue2
  t3 := Tryz.underlying3
  a3 := Tryz.isAgg3
  z3 := Tryz.sizeOf3
  v3 := Tryz.zeroValue3
  t4 := Tryz.underlying4
  a4 := Tryz.isAgg4
  z4 := Tryz.sizeOf4
  v4 := Tryz.zeroValue4
  t5 := Tryz.underlying5
  a5 := Tryz.isAgg5
  z5 := Tryz.sizeOf5
  v5 := Tryz.zeroValue5
  t9 := Tryz.underlying9
  a9 := Tryz.isAgg9
  z9 := Tryz.sizeOf9
  v9 := Tryz.zeroValue9
  t20 := Tryz.underlying20
  a20 := Tryz.isAgg20
  z20 := Tryz.sizeOf20
  v20 := Tryz.zeroValue20
  t37 := Tryz.underlying134
  a37 := Tryz.isAgg134
  z37 := Tryz.sizeOf134
  v37 := Tryz.zeroValue134
  t46 := Tryz.underlying363
  a46 := Tryz.isAgg363
  z46 := Tryz.sizeOf363
  v46 := Tryz.zeroValue363
  t51 := Tryz.underlying360
  a51 := Tryz.isAgg360
  z51 := Tryz.sizeOf360
  v51 := Tryz.zeroValue360
  t53 := Tryz.underlying312
  a53 := Tryz.isAgg312
  z53 := Tryz.sizeOf312
  v53 := Tryz.zeroValue312
  t171 := Tryz.underlying311
  a171 := Tryz.isAgg311
  z171 := Tryz.sizeOf311
  v171 := Tryz.zeroValue311
  t173 := Tryz.underlying315
  a173 := Tryz.isAgg315
  z173 := Tryz.sizeOf315
  v173 := Tryz.zeroValue315
  t212 := Tryz.underlying359
  a212 := Tryz.isAgg359
  z212 := Tryz.sizeOf359
  v212 := Tryz.zeroValue359
  t213 := Tryz.underlying361
  a213 := Tryz.isAgg361
  z213 := Tryz.sizeOf361
  t232 := Tryz.underlying410
  a232 := Tryz.isAgg410
  z232 := Tryz.sizeOf410
  v232 := Tryz.zeroValue410
  t233 := Tryz.underlying411
  a233 := Tryz.isAgg411
  z233 := Tryz.sizeOf411
  v233 := Tryz.zeroValue411
  g17 := by kernel_rfl
  g18 := by kernel_rfl
  g19 := by kernel_rfl }
open Go.RowKit Go.Sort Go.Lib in
theorem Tryz.strconv_Itoa_small (i : Nat) (hi : i < 100) (w : World) :
    Calls Tryz.prog 72 #[.int .i64 i] w fun e w' => e = .returned (.string ⟨(Lib.decDigits i).toArray⟩) ∧ w' = w := Any.strconv_Itoa_small Tryz.lays171 i hi w
end Go.Proofs
namespace Go.Proofs.YtmccpbcbofhmlaaGreatDoor
open Go Vc
set_option maxRecDepth 10000
theorem bodItoaB : bodied Tryz.prog 72 = true := by kernel_rfl
theorem ct_ItoaB {M : Mem} (n : Nat) (hn : n < 100) (T : Tm) : CtT Tryz.prog 72 [.int .i64 (n : Int)] T M [] [] (fun r M' _ _ => r = st (Lib.decDigits n) ∧ M' = M) noPan := by
  refine ct_same bodItoaB (fun w hw => Calls.mono (Tryz.strconv_Itoa_small n hn w) ?_) T
  rintro e w' ⟨rfl, rfl⟩
  exact ⟨rfl, Keeps.rfl'⟩
theorem digits_le (i : Nat) (h : i < 50) : (Lib.decDigits (i + 1)).length ≤ 20 := by rw [Lib.decDigits_length]; exact Lib.nDigits_le20 _ (by omega)
theorem ct_bcalled {M : Mem} {x : It} {cs : List Value} (hx : RIt M x cs) (i : Nat) (hi : i < 50) (T : Tm) : CtT Tryz.prog 67 [.agg ⟨cs⟩, .int .i64 (i : Int)] T M [] [] (fun r _ _ _ => r = st (calledM x i)) noPan := by
  obtain ⟨aw, rfl, _, h1⟩ := RIt_form hx
  unfold calledM
  refine ct_run mx bod67 Tryz.func67 rfl (by rw [nt67]; exact Nat.le_of_ble_eq_true rfl) (dr := dr67) (by kernel_rfl) rs67 ?_
  intro hno _
  have w1 := wrap_succ i (by omega)
  by_cases ha : x.as = []
  · by_cases hk : x.x.k = 2
    · simp +contextual only [go_sem, Rcb, Rbk, sevalprocAttr, h1, ha, hk]
      intro b2 T2 hb2 hT2 hTb2
      exact end_none hT2 (by simp)
    · simp +contextual only [go_sem, Rcb, Rbk, sevalprocAttr, h1, ha, hk, w1]
      intro b2 T2 hb2 hT2 hTb2
      refine rCall_pure (ct_ItoaB (i + 1) (by omega) T2) ?_ (fun _ _ _ _ h => h.elim)
      rintro r M1 hM1 _ ⟨rfl, rfl⟩
      have hd : (Lib.decDigits (i + 1)).length ≤ 20 := digits_le i hi
      have hd2 : 1 + (Lib.decDigits (i + 1)).length ≤ 9223372036854775807 := by omega
      simp +contextual only [go_sem, Rcb, Rbk, sevalprocAttr, hd2, bs_append]
      exact end_none hT2 (by simp [ha, hk])
  · simp +contextual only [go_sem, Rcb, Rbk, sevalprocAttr, h1, ha]
    intro b2 T2 hb2 hT2 hTb2
    exact end_none hT2 (by simp [ha])
theorem RCl_oneC {c : Bs × Bs} {cs} (h : RCl c cs) : ∀ u ∈ cs, u.oneCell' = true := by
  rw [h]
  intro u hu
  simp only [List.mem_cons, List.not_mem_nil, or_false] at hu
  rcases hu with rfl | rfl <;> rfl
theorem ct_cloneC {M : Mem} {names : List (Bs × Bs)} {lv : Value} (hl : RS M RCl 2 names lv) (hnil : names = [] → lv = .slice none 0 0) (hlen : names.length ≤ 16777216) (T : Tm) :
    CtN Tryz.prog 107 [lv] T M [] [] 1 (fun v _ _ R' => ∃ a c xs, v = .slice a names.length c ∧ (names = [] → v = .slice none 0 0) ∧ RL RCl names xs ∧ R' = [(v, 104, 2, xs)]) noPan := by
  refine ct_runN mx bod107 Tryz.func107 rfl (by rw [nt107]; exact Nat.le_of_ble_eq_true rfl) (dr := dr107) (by kernel_rfl) rs107 ?_
  intro hno _
  by_cases h0 : names = []
  · subst h0
    rw [hnil rfl]
    simp +contextual only [go_sem, Rcb, Rbk, sevalprocAttr]
    exact Close_addNil (end_id ExtT.rfl' rfl rfl ⟨none, 0, [], rfl, by simp, rfl, rfl⟩)
  · obtain ⟨hbk, a, c, rfl, hle, hac, hget⟩ := RS_elim (by decide) (fun _ _ => RCl_len) hl
    obtain ⟨p, hp⟩ : ∃ p, a = some p := by
      cases names with
      | nil => exact (h0 rfl).elim
      | cons x l => obtain ⟨b, o, cs, h, _⟩ := hget 0 x rfl; exact ⟨_, h⟩
    subst hp
    obtain ⟨ys, hyl, hys, hsr⟩ := srcs_RS (P := Tryz.prog) Tryz.underlying99 (fun _ _ => RCl_len) (fun _ _ h => RCl_oneC h) hl
    have hpos : 0 < names.length := List.length_pos_iff.2 h0
    simp +contextual only [go_sem, Rcb, Rbk, sevalprocAttr]
    intro b hb
    refine app_read (n := 0) (xs := []) row99 okt99 (hsr _ _ _) rfl (by omega) (by simp only [List.length_nil]; omega) ?_
    intro ra rm rc hrm
    have hrm1 : rm = names.length := by simp only [List.length_nil] at hrm; omega
    subst hrm1
    simp +contextual only [go_sem, Rcb, Rbk, sevalprocAttr]
    exact Close_drop (end_id ExtT.rfl' rfl rfl ⟨ra, rc, ys, rfl, fun h => (h0 h).elim, hys, by simp⟩)
end Go.Proofs.YtmccpbcbofhmlaaGreatDoor
namespace Vc
open Go
theorem ctT_lend {P : Program} {f : FuncId} {args : List Value} {T : Tm} {M : Mem} {v : Value} {e : TypeId} {sz : Nat} {xs : List Value} {Q : Value → Prop} (hsz : 0 < sz) (hb : bodied P f = true)
    (hc : ∀ M', Ext M M' → Sl M' v sz xs → CtT P f args T M' [] [] (fun r _ _ _ => Q r) noPan) :
    CtT P f args T M [] [(v, e, sz, xs)] (fun r _ _ R' => Q r ∧ R' = [(v, e, sz, xs)]) noPan := by
  refine ⟨hb, fun w U hw => ?_⟩
  obtain ⟨bs, hU, hi⟩ := hw
  obtain ⟨hlen, hrow⟩ := hi.rows
  obtain ⟨o, rfl⟩ : ∃ o, bs = [o] := by
    cases bs with
    | nil => simp at hlen
    | cons o bs => cases bs with
      | nil => exact ⟨o, rfl⟩
      | cons _ _ => simp at hlen
  have hr := hrow 0 _ _ _ _ o rfl rfl
  obtain ⟨M1, bs1, hi1, he, hs⟩ := hi.freezeR hsz
  have hb1 : bs1 = [] := by simpa using hi1.rows.1.symm
  subst hb1
  have hen : Hp ⟨w, M1, keys [] ++ ([] : List (Option Nat)).filterMap id⟩ ⟨T, M1, [], []⟩ w [] := Hp.enter (L1 := []) (Lp := []) (L2 := []) (R1 := []) (Rp := []) (R2 := []) (b1 := []) (bp := []) (b2 := []) hi1 rfl rfl
  refine Calls.mono ((hc M1 he hs).2 w _ ⟨[], rfl, hen⟩) ?_
  intro en w' hq
  cases en with
  | returned r =>
    obtain ⟨M2, L2, R2, ⟨⟨bs2, h2⟩, hk, hR⟩, hq⟩ := hq
    have hnU : ∀ b, b ∈ U → M b = none := fun b hb => (hi.apart b (by rw [hU] at hb; simpa [keys] using hb)).1
    refine ⟨fun k => if k ∈ U then none else M2 k, [], [(v, e, sz, xs)], ⟨⟨[o], ?_⟩, rfl, rfl⟩, hq, rfl⟩
    exact
    { typ := fun b t hu => ⟨(h2.typ b t hu).1, fun hb => by simp at hb⟩
      holds := fun b c hbc => by
        have hbc' : (if b ∈ U then none else M2 b) = some c := hbc
        split at hbc'
        · cases hbc'
        · exact h2.holds b c hbc'
      blk := fun b cs hb => by cases hb
      rows := ⟨rfl, fun i v' e' sz' xs' o' h3 h4 => by
        cases i with
        | zero =>
          simp only [List.getElem?_cons_zero, Option.some.injEq, Prod.mk.injEq] at h3 h4
          obtain ⟨rfl, rfl, rfl, rfl⟩ := h3
          subst h4
          rcases hr with hr | ⟨g, n, cap, junk, hv, hg, hn, hc', hle, ho⟩ | ⟨h0, _⟩ | ⟨h0, _⟩
          · exact .inl hr
          · refine .inr (.inl ⟨g, n, cap, junk, hv, ?_, hn, hc', hle, ho⟩)
            rw [h2.old g (Array.getElem?_eq_some_iff.1 hg).1 (by simp [keys])]
            exact hg
          · omega
          · omega
        | succ i => simp at h3⟩
      nodup := hi.nodup
      apart := fun b hb => by
        have h5 := hi.apart b hb
        have hbU : b ∈ U := by rw [hU]; simpa [keys] using hb
        exact ⟨if_pos hbU, h5.2⟩
      os := h2.os
      tape := h2.tape
      output := h2.output
      size := h2.size
      old := fun b hb _ => h2.old b hb (by simp [keys])
      mem := fun b hb hn => by
        show (if b ∈ U then none else M2 b) = M b
        rw [if_neg hn]
        exact (h2.mem b hb (by simp [keys])).trans (hi1.mem b hb hn)
      le := fun b x hbx => by
        show (if b ∈ U then none else M2 b) = some x
        have hbx : M b = some x := hbx
        rw [if_neg (fun hn => by rw [hnU b hn] at hbx; cases hbx)]
        exact h2.le b x (he b x hbx) }
  | panicked ch =>
    obtain ⟨_, _, _, _, hq⟩ := hq
    exact hq.elim
  | outgrown => exact hq.elim
end Vc

import Derived.Test.YtoainkbcfnlkcaaGreatDoorC
import Derived.Shelf.Strings.Builder1
import Derived.Test.YtoainkbcfnlkcaaGreatDoorV2
set_option linter.all false
namespace Go.Proofs.YtoainkbcfnlkcaaGreatDoor
open Go Vc
set_option linter.unusedSimpArgs false
set_option linter.unusedVariables false
set_option maxRecDepth 10000

def setsB (en : Int) (ex : List Tk → Rs X) : Nat → Int → List Tk → Rs (List Int × List Se)
  | room, k, t => if 0 < k then (match room with
      | 0 => .err 5 (atM en t)
      | r + 1 => (selM en ex t).bind fun s t => (setM t).bind fun k' t => (setsB en ex r k' t).bind fun l t => .ok (k :: l.1, s :: l.2) t) else .ok ([], []) t
def limM (en : Int) (t : List Tk) : Rs Int := (intM en t).bind fun n t' => if n < 0 ∨ 50 < n then .err 3 (atM en t) else .ok n t'
def orderM (en : Int) (ex : List Tk → Rs X) (t : List Tk) : Rs (List X × Int) :=
  if seesM wOrder t = true then (needM en [wBy] t.tail).bind fun _ t => (someM en ex 8 t).bind fun l t => (needM en [wLimit] t).bind fun _ t => (limM en t).bind fun n t => .ok (l, n) t else .ok ([], -1) t
def queryK (en : Int) (ex : List Tk → Rs X) (parts : List Se) (ops : List Int) (t : List Tk) : Rs Q := (orderM en ex t).bind fun o t => .ok ⟨parts, ops, o.1, o.2⟩ t
def queryM (en : Int) (ex : List Tk → Rs X) (t : List Tk) : Rs Q := (selM en ex t).bind fun s t => (setM t).bind fun k t => (setsB en ex 3 k t).bind fun l t => queryK en ex (s :: l.2) l.1 t
def encQ (q : Q) (v : Value) (M : Mem) : Prop := ∃ cs, v = .agg ⟨cs⟩ ∧ RQ M q cs
theorem RSe_oneC {M : Mem} {x : Se} {cs : List Value} (h : RSe M x cs) : ∀ u ∈ cs, u.oneCell' = true := by
  obtain ⟨i, f, w, hh, g, h1, h2, h3, h4, h5, rfl⟩ := h
  intro u hu
  simp only [List.cons_append, List.nil_append, List.mem_cons, List.mem_append, List.not_mem_nil, or_false] at hu
  rcases hu with rfl | rfl | rfl | rfl | rfl | rfl | hu | hu | rfl
  · rfl
  · rfl
  · exact (RS_one h1).1
  · exact (RS_one h2).1
  · rfl
  · rfl
  · exact RX_oneC h3 u hu
  · exact RX_oneC h4 u hu
  · exact (RS_one h5).1
def PrRow (M : Mem) (R : RR) (ov pv : Value) (parts : List Se) (ops : List Int) : Prop :=
  ∃ oa oc pa pc xs ys, ov = .slice oa ops.length oc ∧ pv = .slice pa parts.length pc ∧ R = [(pv, 91, 21, xs), (ov, 3, 1, ys)] ∧ RL (RSe M) parts xs ∧ RL RI ops ys
def PrOk (M : Mem) (R : RR) (ov pv : Value) (parts : List Se) (ops : List Int) : Prop :=
  (∃ bF xs, ops = [] ∧ ov = .slice none 0 0 ∧ R = [] ∧ pv = .slice (some ⟨bF, 0, none⟩) 1 1 ∧ parts.length = 1 ∧ M bF = some xs ∧ RL (RSe M) parts xs) ∨ PrRow M R ov pv parts ops
def PrMid (M : Mem) (R : RR) (ov pv : Value) (parts : List Se) (ops : List Int) : Prop :=
  (∃ bF xs oa oc ys, ov = .slice oa ops.length oc ∧ R = [(ov, 3, 1, ys)] ∧ RL RI ops ys ∧ pv = .slice (some ⟨bF, 0, none⟩) 1 1 ∧ parts.length = 1 ∧ M bF = some xs ∧ RL (RSe M) parts xs) ∨ PrRow M R ov pv parts ops
theorem PrRow_ext {M M' : Mem} {R ov pv parts ops} (hM : Ext M M') (h : PrRow M R ov pv parts ops) : PrRow M' R ov pv parts ops := by
  obtain ⟨oa, oc, pa, pc, xs, ys, h1, h2, h3, h4, h5⟩ := h
  exact ⟨oa, oc, pa, pc, xs, ys, h1, h2, h3, RL_mono (fun x cs h => RSe_ext hM _ _ h) h4, h5⟩
theorem PrOk_ext {M M' : Mem} {R ov pv parts ops} (hM : Ext M M') (h : PrOk M R ov pv parts ops) : PrOk M' R ov pv parts ops := by
  rcases h with ⟨bF, xs, h1, h2, h3, h4, h5, h6, h7⟩ | h
  · exact .inl ⟨bF, xs, h1, h2, h3, h4, h5, hM _ _ h6, RL_mono (fun x cs h => RSe_ext hM _ _ h) h7⟩
  · exact .inr (PrRow_ext hM h)
theorem PrMid_ext {M M' : Mem} {R ov pv parts ops} (hM : Ext M M') (h : PrMid M R ov pv parts ops) : PrMid M' R ov pv parts ops := by
  rcases h with ⟨bF, xs, oa, oc, ys, h1, h2, h3, h4, h5, h6, h7⟩ | h
  · exact .inl ⟨bF, xs, oa, oc, ys, h1, h2, h3, h4, h5, hM _ _ h6, RL_mono (fun x cs h => RSe_ext hM _ _ h) h7⟩
  · exact .inr (PrRow_ext hM h)
theorem PrOk_form {M R ov pv parts ops} (h : PrOk M R ov pv parts ops) : (∃ a c, ov = .slice a ops.length c) ∧ ∃ a c, pv = .slice a parts.length c := by
  rcases h with ⟨bF, xs, rfl, rfl, rfl, rfl, h, _⟩ | ⟨oa, oc, pa, pc, xs, ys, rfl, rfl, _⟩
  · exact ⟨⟨_, _, rfl⟩, ⟨_, _, by rw [h]⟩⟩
  · exact ⟨⟨_, _, rfl⟩, ⟨_, _, rfl⟩⟩
theorem RI_len {n : Int} {cs} (h : RI n cs) : cs.length = 1 := by unfold RI at h; subst h; rfl
theorem app_ops {F : Fi} {s : List Vc.Item} {e : Env} {ds : List Deferred} {dd : Option Nat} {T : Tm} {M : Mem} {L : LL} {R : RR} {b a n c pv} {parts : List Se} {ops : List Int} {k : Int} (hf : PrOk M R (.slice a n c) pv parts ops) (hb : M b = none) (hlen : ops.length ≤ 400)
    (kk : ∀ a' c' R', PrMid M R' (.slice a' (ops.length + 1) c') pv parts (ops ++ [k]) → Run Tryz.prog F s (updo e dd (.slice a' (ops.length + 1) c')) ds ⟨T, M, (b, [.int .i64 k]) :: L, R'⟩ ⟨⟩) :
    rApp Tryz.prog F 57 57 (.slice a n c) (.slice (some ⟨b, 0, none⟩) 1 1) dd s e ds ⟨T, M, (b, [.int .i64 k]) :: L, R⟩ ⟨⟩ := by
  have hsr : ∀ R, Srcs Tryz.prog 57 1 ⟨T, M, (b, [.int .i64 k]) :: L, R⟩ (.slice (some ⟨b, 0, none⟩) 1 1) [.int .i64 k] := fun R =>
    .slice _ 1 _ _ _ Tryz.underlying57 (cells_own [] hb trivial rfl) (by intro u hu; simp only [List.mem_singleton] at hu; subst hu; rfl)
  rcases hf with ⟨bF, xs, rfl, h2, rfl, h4, h5, h6, h7⟩ | ⟨oa, oc, pa, pc, xs, ys, h1, h2, rfl, h3, h4⟩
  · injection h2 with h2 h2' h2''; subst h2 h2' h2''
    refine app_nil row57 okt57 (hsr []) (Nat.le_of_ble_eq_true rfl) ?_
    intro ra rm rc hrm
    have : rm = 1 := by simpa using hrm
    subst this
    exact kk _ _ _ (.inl ⟨bF, xs, ra, rc, _, rfl, rfl, RL_one rfl, h4, h5, h6, h7⟩)
  · injection h1 with h1 h1' h1''; subst h1 h1' h1''
    have hxl := RL_len (fun _ _ => RI_len) h4
    refine ⟨_, _, _, _, row57, okt57, hsr _, .inl ⟨1, ys, rfl, by rw [hxl]; simp only [List.length_cons, List.length_nil]; omega, ?_⟩⟩
    intro ra rm rc hrm
    have : rm = ops.length + 1 := by rw [hxl] at hrm; simp only [List.length_cons, List.length_nil] at hrm; omega
    subst this
    exact kk _ _ _ (.inr ⟨_, _, _, _, _, _, by rw [List.length_append]; rfl, h2, rfl, h3, RL_append h4 (RL_one rfl)⟩)
theorem app_parts {F : Fi} {s : List Vc.Item} {e : Env} {ds : List Deferred} {dd : Option Nat} {T : Tm} {M : Mem} {L : LL} {R : RR} {b a n c ov} {parts : List Se} {ops : List Int} {x : Se} {cs : List Value} (hf : PrMid M R ov (.slice a n c) parts ops) (hx : RSe M x cs) (hb : M b = none) (hlen : parts.length ≤ 400)
    (kk : ∀ a' c' R', PrOk M R' ov (.slice a' (parts.length + 1) c') (parts ++ [x]) ops → Run Tryz.prog F s (updo e dd (.slice a' (parts.length + 1) c')) ds ⟨T, M, (b, cs) :: L, R'⟩ ⟨⟩) :
    rApp Tryz.prog F 56 56 (.slice a n c) (.slice (some ⟨b, 0, none⟩) 1 1) dd s e ds ⟨T, M, (b, cs) :: L, R⟩ ⟨⟩ := by
  have hcl := RSe_len hx
  have hsr : ∀ R, Srcs Tryz.prog 56 21 ⟨T, M, (b, cs) :: L, R⟩ (.slice (some ⟨b, 0, none⟩) 1 1) cs := fun R =>
    .slice _ 1 _ _ _ Tryz.underlying56 (cells_own [] hb trivial (by rw [hcl])) (RSe_oneC hx)
  rcases hf with ⟨bF, xs, oa, oc, ys, h1, rfl, h3, h4, h5, h6, h7⟩ | ⟨oa, oc, pa, pc, xs, ys, h1, h2, rfl, h3, h4⟩
  · injection h4 with h4 h4' h4''; subst h4 h4' h4''
    have hxl := RL_len (fun _ _ => RSe_len) h7
    rw [h5] at hxl
    refine app_read row56 okt56 (hsr _) (xs := xs) ?_ (by rw [hcl]; decide) (by rw [hcl, hxl]; decide) ?_
    · have := cells_of (h := ⟨T, M, (b, cs) :: L, [(ov, 3, 1, ys)]⟩) (b := bF) (cs := xs) (fun o v hv => by
        have : mcell M ⟨bF, o, none⟩ = some v := by rw [mcell_some h6]; exact hv
        simp only [Sh.cell, this]) 21 0 (by omega)
      simpa using this
    · intro ra rm rc hrm
      have : rm = parts.length + 1 := by rw [hcl, hxl] at hrm; omega
      subst this
      exact kk _ _ _ (.inr ⟨_, _, _, _, _, _, h1, by rw [List.length_append]; rfl, rfl, RL_append h7 (RL_one hx), h3⟩)
  · injection h2 with h2 h2' h2''; subst h2 h2' h2''
    have hxl := RL_len (fun _ _ => RSe_len) h3
    refine app_row row56 okt56 (hsr _) (by rw [hcl, hxl]; omega) ?_
    intro ra rm rc hrm
    have : rm = parts.length + 1 := by rw [hcl, hxl] at hrm; omega
    subst this
    exact kk _ _ _ (.inr ⟨_, _, _, _, _, _, h1, by rw [List.length_append]; rfl, rfl, RL_append h3 (RL_one hx), h4⟩)
theorem Close_pr {N M L R ov pv parts ops} {k : Sh → Prop} (h : PrOk M R ov pv parts ops) (h1 : parts.length ≤ 400) (h2 : ops.length ≤ 400) (hk : ∀ M', Ext M M' → noneL M' L → RS M' (RSe M') 21 parts pv → RS M' RI 1 ops ov → Close ⟨N, M', L, []⟩ k) (hno : noneL M L) : Close ⟨N, M, L, R⟩ k := by
  rcases h with ⟨bF, xs, rfl, rfl, rfl, rfl, h3, h4, h5⟩ | ⟨oa, oc, pa, pc, xs, ys, rfl, rfl, rfl, h3, h4⟩
  · exact hk M Ext.rfl' hno (RS_lit (fun _ _ => RSe_len) h4 h5 h3 (by decide)) RS_nil
  · exact Close_row fun M' hM hno' hsl => Close_row fun M'' hM' hno'' hsl' => hk M'' (hM.trans hM') hno'' ⟨by omega, xs, hsl.ext hM', RL_mono (fun x cs h => RSe_ext (hM.trans hM') _ _ h) h3⟩ ⟨by omega, ys, hsl', h4⟩
theorem rCall_frz2 {P : Program} {F : Fi} {f : FuncId} {args : List Value} {dd : Option Nat} {s : List Vc.Item} {e : Env} {ds : List Deferred} {N : Tm} {M : Mem} {b b' : Nat} {cs cs' : List Value} {L : LL} {R : RR} (hb : bodied P f = true)
    (h : ∀ M', Ext M M' → M' b = some cs → noneL M' ((b', cs') :: L) → rCall P F f args dd s e ds ⟨N, M', (b', cs') :: L, R⟩ ⟨⟩) : rCall P F f args dd s e ds ⟨N, M, (b', cs') :: (b, cs) :: L, R⟩ ⟨⟩ :=
  rCall_close (k := fun h' => ∃ M', Ext M M' ∧ M' b = some cs ∧ noneL M' ((b', cs') :: L) ∧ h' = ⟨N, M', (b', cs') :: L, R⟩) (Close_perm (List.Perm.swap _ _ _) (Close_freeze fun he h1 h2 => Close_id ⟨_, he, h1, h2, rfl⟩))
    (by rintro h' ⟨M', he, h1, h2, rfl⟩; exact h M' he h1 h2) hb
theorem ct_query {M : Mem} {pb : Nat} {toks : List Tk} {lv : Value} {en op : Int} {ex : List Tk → Rs X} (hg : Glob M) (hl : RS M RTk 3 toks lv) (hex : ExC en pb ex op) (hne : queryM en ex toks ≠ .out) (T : Tm) :
    CtT Tryz.prog 62 [.pointer (some ⟨pb, 0, none⟩)] T M (pL pb lv en op) [] (postP pb en op encQ (queryM en ex toks)) (panP pb en (queryM en ex toks)) := by
  refine ct_run mx bod62 Tryz.func62 rfl (by rw [nt62]; exact Nat.le_of_ble_eq_true rfl) (dr := dr62) (by kernel_rfl) rs62 ?_
  intro hno _
  simp only [noneL_pL] at hno
  simp +contextual only [go_sem, Rcb, Rbk, sevalprocAttr]
  intro b2 T2 hb2 hap2 hT2 hTb2
  refine part_b [(b2, _)] hT2 rfl hne (fun h => ct_sel hg hl hex h T2) ?_
  rintro v M1 s0 t lv1 hM1 hno1 hres hl1 ⟨cs, rfl, hs0⟩
  have hcl := RSe_len hs0
  simp only [List.cons_append, List.nil_append, noneL, noneL_pL] at hno1
  simp +contextual only [go_sem, Rcb, Rbk, sevalprocAttr, hno1, hap2, hcl]
  intro b7 hb7 hap7 b3 T3 hb3 hap3 hT3 hTb3
  have hT := hT2.trans hT3
  refine rCall_frz2 bod102 fun M2 hM2 hb7' hno2 => ?_
  simp only [List.cons_append, List.nil_append, noneL, noneL_pL] at hno2
  refine part_b [(b3, _), (b2, _)] hT hres hne (fun _ => ct_set (RS_ext hM2 (fun _ _ h => h) hl1) T3) ?_
  rintro v M3 k t2 lv2 hM3 hno3 hres hl2 rfl
  simp only [List.cons_append, List.nil_append, noneL, noneL_pL] at hno3
  have hpr : PrOk M3 [] (.slice none 0 0) (.slice (some ⟨b7, 0, none⟩) 1 1) [s0] [] := .inl ⟨b7, cs, rfl, rfl, rfl, rfl, rfl, hM3 _ _ hb7', RL_one (RSe_ext (hM2.trans hM3) _ _ hs0)⟩
  simp +contextual only [go_sem, sevalprocAttr, hno3, hap2, hap3]
  refine run_cut (fun e ds h => ds = [] ∧ e 0 = .pointer (some ⟨pb, 0, none⟩) ∧ e 2 = .pointer (some ⟨b2, 0, none⟩) ∧ e 3 = .pointer (some ⟨b3, 0, none⟩) ∧
    ∃ M' t lv' parts ops pv ov R, Ext M3 M' ∧ M' b3 = none ∧ M' b2 = none ∧ M' pb = none ∧ RS M' RTk 3 t lv' ∧ parts.length ≤ 4 ∧ ops.length ≤ 4 ∧ PrOk M' R ov pv parts ops ∧ queryM en ex toks = queryK en ex parts ops t ∧
      h = ⟨T3, M', (b3, [pv, ov, .slice none 0 0, .int .i64 (-1)]) :: (b2, [.slice none 0 0, .slice none 0 0, .slice none 0 0, .int .i64 0]) :: pL pb lv' en op, R⟩) (fun S' hS' => ?_) ?_
  · simp +contextual only [go_sem, Rcb, Rbk, sevalprocAttr]
    refine loop_rule (fun m e ds h => ds = [] ∧ e 0 = .pointer (some ⟨pb, 0, none⟩) ∧ e 2 = .pointer (some ⟨b2, 0, none⟩) ∧ e 3 = .pointer (some ⟨b3, 0, none⟩) ∧
      ∃ M' t lv' k parts ops pv ov R, e 4 = .int .i64 k ∧ m + parts.length = 4 ∧ ops.length + 1 = parts.length ∧ Ext M3 M' ∧ M' b3 = none ∧ M' b2 = none ∧ M' pb = none ∧ RS M' RTk 3 t lv' ∧ PrOk M' R ov pv parts ops ∧
        queryM en ex toks = (setsB en ex m k t).bind (fun l t => queryK en ex (parts ++ l.2) (ops ++ l.1) t) ∧
        h = ⟨T3, M', (b3, [pv, ov, .slice none 0 0, .int .i64 (-1)]) :: (b2, [.slice none 0 0, .slice none 0 0, .slice none 0 0, .int .i64 0]) :: pL pb lv' en op, R⟩)
      ⟨3, rfl, ?_, ?_, ?_, M3, t2, lv2, k, [s0], [], _, _, [], ?_, rfl, rfl, Ext.rfl', hno3.1, hno3.2.1, hno3.2.2, hl2, hpr, hres, rfl⟩ ?_
    all_goals first | (simp only [go_sem, Rcb, Rbk, sevalprocAttr]; done) | skip
    clear hres hl2 hpr
    rintro m e ds h ⟨rfl, e0, e2, e3, M4, t4, lv4, k, parts, ops, pv, ov, R, e4, hm, hpo, hM4, n3, n2, np, hl4, hpr, hres, rfl⟩
    by_cases hk : 0 < k
    · obtain ⟨⟨oa, oc, rfl⟩, pa, pc, rfl⟩ := PrOk_form hpr
      unfold setsB at hres
      rw [if_pos hk] at hres
      cases m with
      | zero =>
        have hlen : (parts.length : Int) = 4 := by omega
        simp +contextual only [go_sem, Rcb, Rbk, sevalprocAttr, e0, e2, e3, e4, hk, n3, n2, np, hap2, hap3, hlen]
        refine at_p [(b3, _), (b2, _)] hl4 ?_
        simp +contextual only [go_sem, Rcb, Rbk, sevalprocAttr]
        exact fail_p [(b3, _), (b2, _)] hT hres
      | succ m =>
        have hlen : ¬ (parts.length : Int) = 4 := by omega
        simp only [Rs.bind_assoc] at hres
        simp +contextual only [go_sem, Rcb, Rbk, sevalprocAttr, e0, e2, e3, e4, hk, n3, n2, np, hap2, hap3, hlen]
        refine draw_at ⟨T, fun _ => none, [(b3, _)], []⟩ (Sub_hd n3) ?_
        simp +contextual only [go_sem, Rcb, Rbk, sevalprocAttr, e0, e2, e3, e4, hk, n3, n2, np, hap2, hap3, hlen]
        intro b8 hb8 hap8
        refine ⟨Sub_hd2 n3 (fun h => hap8.1.2 h), ?_⟩
        refine app_ops hpr hb8 (by omega) ?_
        intro oa' oc' R1 hmid
        simp +contextual only [go_sem, Rcb, Rbk, sevalprocAttr, e0, e2, e3, e4, hk, n3, n2, np, hap2, hap3, hap8, hlen]
        refine ⟨Sub_hd2 n3 (fun h => hap8.1.2 h), ?_⟩
        have hg4 := (hg.ext hM1).ext ((hM2.trans hM3).trans hM4)
        refine part_b [(b8, _), (b3, _), (b2, _)] hT hres hne (fun h => ct_sel hg4 hl4 hex h T3) ?_
        rintro v M5 s1 t5 lv5 hM5 hno5 hres hl5 ⟨cs1, rfl, hs1⟩
        have hcl1 := RSe_len hs1
        simp only [List.cons_append, List.nil_append, noneL, noneL_pL] at hno5
        simp +contextual only [go_sem, Rcb, Rbk, sevalprocAttr, hno5, hap2, hap3, hap8, hcl1, e0, e2, e3]
        refine ⟨Sub_own [(b8, _)] hno5.2.1 ⟨⟨hap8.1.2, hap8.1.1⟩, trivial⟩, ?_⟩
        intro b9 hb9 hap9
        refine ⟨Sub_own [(b9, _), (b8, _)] hno5.2.1 ⟨⟨hap9.2.1.2, hap9.2.1.1⟩, ⟨hap8.1.2, hap8.1.1⟩, trivial⟩, ?_⟩
        refine app_parts (PrMid_ext hM5 hmid) hs1 hb9 (by omega) ?_
        intro pa' pc' R2 hpr2
        simp +contextual only [go_sem, Rcb, Rbk, sevalprocAttr, hno5, hap2, hap3, hap8, hap9, hb9, e0, e2, e3]
        refine ⟨Sub_own [(b9, _), (b8, _)] hno5.2.1 ⟨⟨hap9.2.1.2, hap9.2.1.1⟩, ⟨hap8.1.2, hap8.1.1⟩, trivial⟩, ?_⟩
        refine part_b [(b9, _), (b8, _), (b3, _), (b2, _)] hT hres hne (fun _ => ct_set hl5 T3) ?_
        rintro v M6 k' t6 lv6 hM6 hno6 hres hl6 rfl
        simp only [List.cons_append, List.nil_append, noneL, noneL_pL] at hno6
        simp +contextual only [go_sem, Rcb, Rbk, sevalprocAttr, e0, e2, e3]
        rw [Run_lp]
        refine Close_drop (Close_drop (Close_id ⟨m, by omega, rfl, ?_, ?_, ?_, M6, t6, lv6, k', parts ++ [s1], ops ++ [k], _, _, R2, ?_, ?_, ?_, (hM4.trans hM5).trans hM6, hno6.2.2.1, hno6.2.2.2.1, hno6.2.2.2.2, hl6, PrOk_ext hM6 hpr2, ?_, rfl⟩))
        · simp only [e0, go_sem, Rcb, Rbk, sevalprocAttr]
        · simp only [e2, go_sem, Rcb, Rbk, sevalprocAttr]
        · simp only [e3, go_sem, Rcb, Rbk, sevalprocAttr]
        · simp only [go_sem, Rcb, Rbk, sevalprocAttr]
        · rw [List.length_append]; simp only [List.length_cons, List.length_nil]; omega
        · rw [List.length_append, List.length_append]; simp only [List.length_cons, List.length_nil]; omega
        · rw [hres]; congr 1; funext l t; simp [Rs.bind]
    · unfold setsB at hres
      rw [if_neg hk] at hres
      simp +contextual only [go_sem, Rcb, Rbk, sevalprocAttr, e0, e2, e3, e4, hk]
      refine hS' _ _ _ ⟨rfl, ?_, ?_, ?_, M4, _, lv4, parts, ops, pv, ov, R, hM4, n3, n2, np, hl4, by omega, by omega, hpr, ?_, rfl⟩
      · simp only [e0, go_sem, Rcb, Rbk, sevalprocAttr]
      · simp only [e2, go_sem, Rcb, Rbk, sevalprocAttr]
      · simp only [e3, go_sem, Rcb, Rbk, sevalprocAttr]
      · rw [hres]; simp [Rs.bind]
  clear hres hno3 hl2 hpr hno2 hno1
  rintro e ds h ⟨rfl, e0, e2, e3, M4, t, lv4, parts, ops, pv, ov, R, hM4, n3, n2, np, hl4, hpl, hol, hpr, hres, rfl⟩
  simp +contextual only [go_sem, Rcb, Rbk, sevalprocAttr, e0, e2, e3]
  refine is_p [(b3, _), (b2, _)] wOrder hl4 ?_
  intro lv5 hl5
  unfold queryK orderM at hres
  generalize seesM wOrder t = gw at hres hl5 ⊢
  simp +contextual only [go_sem, sevalprocAttr, n3, n2, np, hap2, hap3, e0, e2, e3]
  have hg4 := (hg.ext hM1).ext ((hM2.trans hM3).trans hM4)
  refine cond_cut (fun e ds h => ds = [] ∧ e 0 = .pointer (some ⟨pb, 0, none⟩) ∧ e 2 = .pointer (some ⟨b2, 0, none⟩) ∧ e 3 = .pointer (some ⟨b3, 0, none⟩) ∧
    ∃ M' t lv' ord rv lim, Ext M4 M' ∧ M' b3 = none ∧ M' b2 = none ∧ M' pb = none ∧ RS M' RTk 3 t lv' ∧ RS M' (RX M') 7 ord rv ∧ queryM en ex toks = .ok ⟨parts, ops, ord, lim⟩ t ∧
      h = ⟨T3, M', (b3, [pv, ov, rv, .int .i64 lim]) :: (b2, [.slice none 0 0, .slice none 0 0, .slice none 0 0, .int .i64 0]) :: pL pb lv' en op, R⟩) (fun S' hS' => ?_) ?_
  · cases gw with
    | false =>
      simp only [if_false, Bool.false_eq_true] at hres hl5
      simp +contextual only [go_sem, Rcb, Rbk, sevalprocAttr]
      refine hS' _ _ _ ⟨rfl, ?_, ?_, ?_, M4, _, lv5, [], _, _, Ext.rfl', n3, n2, np, hl5, RS_nil, hres, rfl⟩
      all_goals simp only [e0, e2, e3, go_sem, Rcb, Rbk, sevalprocAttr]
    | true =>
      simp only [if_true, Rs.bind_assoc] at hres hl5
      simp +contextual only [go_sem, Rcb, Rbk, sevalprocAttr, e0, e2, e3]
      intro b5 hb5 hap5
      refine need_b [(b3, _), (b2, _)] hT hres hl5 ?_
      intro M5 lv6 hM5 hno5 hres hl6
      simp +contextual only [go_sem, Rcb, Rbk, sevalprocAttr, e0, e2, e3]
      refine part_b [(b3, _), (b2, _)] hT hres hne (fun h => ct_some_X (fa := [.pointer (some ⟨pb, 0, none⟩)]) (fc := []) (C := fun _ => True) (r := RX) (enc := encX) (g := ex) 8
        (fun M t lv T hg _ hl hne => hex M t lv T hg hl hne) (fun x v M h => by obtain ⟨cs, rfl, h⟩ := h; exact ⟨cs, rfl, h⟩) (fun _ _ _ h => RX_len h) (fun _ _ _ h => RX_oneC h) (fun _ _ _ _ he h => RX_ext he _ _ h)
        (fun _ _ _ h => h) trivial (by decide) (hg4.ext hM5) hl6 h T3) ?_
      rintro v M6 ord t2 lv7 hM6 hno6 hres hl7 hv
      obtain ⟨hv1, hv2⟩ := RS_one hv
      have hv2m := hv2
      simp only [Value.cells] at hv2m
      simp only [List.cons_append, List.nil_append, noneL, noneL_pL] at hno6
      simp +contextual only [go_sem, Rcb, Rbk, sevalprocAttr, hno6, hap2, hap3, hv1, hv2, hv2m, e0, e2, e3]
      intro b6 hb6 hap6
      refine need_b [(b3, _), (b2, _)] hT hres hl7 ?_
      intro M7 lv8 hM7 hno7 hres hl8
      simp +contextual only [go_sem, Rcb, Rbk, sevalprocAttr, e0, e2, e3]
      refine at_p [(b3, _), (b2, _)] hl8 ?_
      unfold limM at hres
      rw [Rs.bind_assoc] at hres
      simp +contextual only [go_sem, Rcb, Rbk, sevalprocAttr, e0, e2, e3]
      refine part_b [(b3, _), (b2, _)] hT hres hne (fun _ => ct_p_int hl8 T3) ?_
      rintro v M8 n t3 lv9 hM8 hno8 hres hl9 rfl
      simp only [List.cons_append, List.nil_append, noneL, noneL_pL] at hno8
      by_cases hn : n < 0
      · rw [if_pos (.inl hn)] at hres
        simp +contextual only [go_sem, Rcb, Rbk, sevalprocAttr, e0, e2, e3, hn]
        exact fail_p [(b3, _), (b2, _)] hT hres
      · by_cases hn2 : 50 < n
        · rw [if_pos (.inr hn2)] at hres
          simp +contextual only [go_sem, Rcb, Rbk, sevalprocAttr, e0, e2, e3, hn, hn2]
          exact fail_p [(b3, _), (b2, _)] hT hres
        · rw [if_neg (by omega)] at hres
          simp +contextual only [go_sem, Rcb, Rbk, sevalprocAttr, e0, e2, e3, hn, hn2, hno8, hap2, hap3]
          refine hS' _ _ _ ⟨rfl, ?_, ?_, ?_, M8, _, lv9, ord, _, n, ((hM5.trans hM6).trans hM7).trans hM8, hno8.1, hno8.2.1, hno8.2.2, hl9, RS_ext (hM7.trans hM8) (RX_ext (hM7.trans hM8)) hv, hres, rfl⟩
          all_goals simp only [e0, e2, e3, go_sem, Rcb, Rbk, sevalprocAttr]
  clear hres n3 n2 np hl4 hl5 e0 e2 e3
  rintro e ds h ⟨rfl, e0, e2, e3, M5, t, lv4, ord, rv, lim, hM5, n3, n2, np, hl4, hrv, hres, rfl⟩
  obtain ⟨⟨oa, oc, rfl⟩, pa, pc, rfl⟩ := PrOk_form hpr
  have o3 := RS_one hrv
  simp +contextual only [go_sem, Rcb, Rbk, sevalprocAttr, e0, e2, e3, n3, n2, np, hap2, hap3, o3]
  refine Close_drop (Close_drop (Close_pr (PrOk_ext hM5 hpr) (by omega) (by omega) (fun M6 hM6 hno6 hrs hos => end_id hT rfl rfl ?_) (by simpa only [noneL_pL] using np)))
  exact ⟨_, t, lv4, hres, rfl, RS_ext hM6 (fun _ _ h => h) hl4, rfl, _, rfl, ⟨_, _, _, hrs, hos, RS_ext hM6 (RX_ext hM6) hrv, rfl⟩⟩
end Go.Proofs.YtoainkbcfnlkcaaGreatDoor

namespace Go.Proofs.YtoainkbcfnlkcaaGreatDoor
open Go Vc
set_option linter.unusedSimpArgs false
set_option linter.unusedVariables false
set_option maxRecDepth 10000

def zeroQ : Q := ⟨[], [], [], 0⟩
def encStm (q : Stm) (v : Value) (M : Mem) : Prop := ∃ cs, v = .agg ⟨cs⟩ ∧ RStm M q cs
theorem RQ_zero {M : Mem} : RQ M zeroQ [.slice none 0 0, .slice none 0 0, .slice none 0 0, .int .i64 0] := ⟨_, _, _, RS_nil, RS_nil, RS_nil, rfl⟩
theorem RQ_form {M : Mem} {q : Q} {cs : List Value} (h : RQ M q cs) : ∃ p o r, cs = [p, o, r, .int .i64 q.limit] ∧ p.oneCell' = true ∧ o.oneCell' = true ∧ r.oneCell' = true := by
  obtain ⟨p, o, r, h1, h2, h3, rfl⟩ := h
  exact ⟨p, o, r, rfl, (RS_one h1).1, (RS_one h2).1, (RS_one h3).1⟩
def viewM (en : Int) (ex : List Tk → Rs X) (t : List Tk) : Rs Stm := (nameM en t).bind fun n t => (needM en [wAs] t).bind fun _ t => (queryM en ex t).bind fun q t => .ok ⟨2, n, [], q, [], false, zeroX⟩ t
def tableM (en : Int) (t : List Tk) : Rs Stm := (needM en [wTable] t).bind fun _ t => (nameM en t).bind fun n t => (needM en [sOpen] t).bind fun _ t => (someM en (columnM en) 8 t).bind fun c t => (needM en [sClose] t).bind fun _ t => .ok ⟨1, n, c, zeroQ, [], false, zeroX⟩ t
def insertM (en : Int) (t : List Tk) : Rs Stm := (needM en [wInto] t).bind fun _ t => (nameM en t).bind fun n t => (needM en [wValues] t).bind fun _ t => (someM en (rowM en) 400 t).bind fun r t => .ok ⟨3, n, [], zeroQ, r, false, zeroX⟩ t
def deleteM (en : Int) (ex : List Tk → Rs X) (t : List Tk) : Rs Stm := (needM en [wFrom] t).bind fun _ t => (nameM en t).bind fun n t => (optX ex wWhere t).bind fun wh t' => .ok ⟨4, n, [], zeroQ, [], seesM wWhere t, wh⟩ t'
def showM (en : Int) (ex : List Tk → Rs X) (t : List Tk) : Rs Stm := (needM en [wShow] t).bind fun _ t => (queryM en ex t).bind fun q t => .ok ⟨5, [], [], q, [], false, zeroX⟩ t
def stmtM (en : Int) (ex : List Tk → Rs X) (t : List Tk) : Rs Stm :=
  if seesM wCreate t = true then (if seesM wView t.tail = true then viewM en ex t.tail.tail else tableM en t.tail)
  else if seesM wInsert t = true then insertM en t.tail
  else if seesM wDelete t = true then deleteM en ex t.tail
  else showM en ex t
theorem ct_stmt {M : Mem} {pb : Nat} {toks : List Tk} {lv : Value} {en op : Int} {ex : List Tk → Rs X} (hg : Glob M) (hl : RS M RTk 3 toks lv) (hex : ExC en pb ex op) (hne : stmtM en ex toks ≠ .out) (T : Tm) :
    CtT Tryz.prog 30 [.pointer (some ⟨pb, 0, none⟩)] T M (pL pb lv en op) [] (postP pb en op encStm (stmtM en ex toks)) (panP pb en (stmtM en ex toks)) := by
  refine ct_run mx bod30 Tryz.func30 rfl (by rw [nt30]; exact Nat.le_of_ble_eq_true rfl) (dr := dr30) (by kernel_rfl) rs30 ?_
  intro hno _
  simp only [noneL_pL] at hno
  simp +contextual only [go_sem, Rcb, Rbk, sevalprocAttr]
  intro b2 T2 hb2 hap2 hT2 hTb2
  have hres : stmtM en ex toks = stmtM en ex toks := rfl
  generalize hS : stmtM en ex toks = S at hne ⊢
  unfold stmtM at hS
  replace hres := hS.symm
  refine is_c [(b2, _)] wCreate hl (fun hs lv1 hl1 => ?_) (fun hs lv1 hl1 => ?_)
  · rw [if_pos hs] at hres
    simp +contextual only [go_sem, Rcb, Rbk, sevalprocAttr]
    refine is_c [(b2, _)] wView hl1 (fun hs lv2 hl2 => ?_) (fun hs lv2 hl2 => ?_)
    · rw [if_pos hs] at hres
      unfold viewM at hres
      simp +contextual only [go_sem, Rcb, Rbk, sevalprocAttr]
      refine part_b [(b2, _)] hT2 hres hne (fun _ => ct_p_name hg hl2 T2) ?_
      rintro v M1 n t lv3 hM1 hno1 hres hl3 rfl
      simp only [List.cons_append, List.nil_append, noneL, noneL_pL] at hno1
      simp +contextual only [go_sem, Rcb, Rbk, sevalprocAttr, hno1, hap2]
      intro b3 T3 hb3 hap3 hT3 hTb3 b4 hb4 hap4
      have hT := hT2.trans hT3
      refine need_b [(b3, _), (b2, _)] hT hres hl3 ?_
      intro M2 lv4 hM2 hno2 hres hl4
      simp +contextual only [go_sem, Rcb, Rbk, sevalprocAttr]
      refine part_b [(b3, _), (b2, _)] hT hres hne (fun h => ct_query ((hg.ext hM1).ext hM2) hl4 hex h T3) ?_
      rintro v M3 q t2 lv5 hM3 hno3 hres hl5 ⟨cs, rfl, hq⟩
      obtain ⟨p, o, r, rfl, h1, h2, h3⟩ := RQ_form hq
      simp only [List.cons_append, List.nil_append, noneL, noneL_pL] at hno3
      simp +contextual only [go_sem, Rcb, Rbk, sevalprocAttr, hno3, hap2, hap3, h1, h2, h3]
      refine Close_drop (Close_drop (end_id hT rfl rfl ?_))
      exact ⟨_, _, lv5, hres, rfl, hl5, rfl, _, rfl, _, _, _, _, RS_nil, hq, RS_nil, RX_zero, rfl⟩
    · rw [if_neg (by simp [hs])] at hres
      unfold tableM at hres
      simp +contextual only [go_sem, Rcb, Rbk, sevalprocAttr]
      intro b4 hb4 hap4
      refine need_b [(b2, _)] hT2 hres hl2 ?_
      intro M1 lv3 hM1 hno1 hres hl3
      simp +contextual only [go_sem, Rcb, Rbk, sevalprocAttr]
      refine part_b [(b2, _)] hT2 hres hne (fun _ => ct_p_name (hg.ext hM1) hl3 T2) ?_
      rintro v M2 n t lv4 hM2 hno2 hres hl4 rfl
      simp only [List.cons_append, List.nil_append, noneL, noneL_pL] at hno2
      simp +contextual only [go_sem, Rcb, Rbk, sevalprocAttr, hno2, hap2]
      intro b3 T3 hb3 hap3 hT3 hTb3 b5 hb5 hap5
      have hT := hT2.trans hT3
      refine need_b [(b3, _), (b2, _)] hT hres hl4 ?_
      intro M3 lv5 hM3 hno3 hres hl5
      simp +contextual only [go_sem, Rcb, Rbk, sevalprocAttr]
      refine part_b [(b3, _), (b2, _)] hT hres hne (fun h => ct_some_Co (fa := [.pointer (some ⟨pb, 0, none⟩)]) (fc := []) (C := fun _ => True) (r := fun _ => RCo) (enc := encCo) (g := columnM en) 8
        (fun M t lv T hg _ hl hne => ct_column hg hl T) (fun x v M h => by obtain ⟨cs, rfl, h⟩ := h; exact ⟨cs, rfl, h⟩) (fun _ _ _ h => by unfold RCo at h; subst h; rfl) (fun _ _ _ h => by unfold RCo at h; subst h; intro u hu; simp only [List.mem_cons, List.not_mem_nil, or_false] at hu; rcases hu with rfl | rfl <;> rfl) (fun _ _ _ _ he h => h)
        (fun _ _ _ h => h) trivial (by decide) (((hg.ext hM1).ext hM2).ext hM3) hl5 h T3) ?_
      rintro v M4 cols t2 lv6 hM4 hno4 hres hl6 hv
      obtain ⟨hv1, hv2⟩ := RS_one hv
      have hv2m := hv2
      simp only [Value.cells] at hv2m
      simp only [List.cons_append, List.nil_append, noneL, noneL_pL] at hno4
      simp +contextual only [go_sem, Rcb, Rbk, sevalprocAttr, hno4, hap2, hap3, hv1, hv2, hv2m]
      intro b6 hb6 hap6
      refine need_b [(b3, _), (b2, _)] hT hres hl6 ?_
      intro M5 lv7 hM5 hno5 hres hl7
      simp only [List.cons_append, List.nil_append, noneL, noneL_pL] at hno5
      simp +contextual only [go_sem, Rcb, Rbk, sevalprocAttr, hno5, hap2, hap3, hv1, hv2, hv2m]
      refine Close_drop (Close_drop (end_id hT rfl rfl ?_))
      exact ⟨_, _, lv7, hres, rfl, hl7, rfl, _, rfl, _, _, _, _, RS_ext hM5 (fun _ _ h => h) hv, RQ_zero, RS_nil, RX_zero, rfl⟩
  rw [if_neg (by simp [hs])] at hres
  clear hs
  simp +contextual only [go_sem, Rcb, Rbk, sevalprocAttr]
  refine is_c [(b2, _)] wInsert hl1 (fun hs lv2 hl2 => ?_) (fun hs lv2 hl2 => ?_)
  · rw [if_pos hs] at hres
    unfold insertM at hres
    simp +contextual only [go_sem, Rcb, Rbk, sevalprocAttr]
    intro b4 hb4 hap4
    refine need_b [(b2, _)] hT2 hres hl2 ?_
    intro M1 lv3 hM1 hno1 hres hl3
    simp +contextual only [go_sem, Rcb, Rbk, sevalprocAttr]
    refine part_b [(b2, _)] hT2 hres hne (fun _ => ct_p_name (hg.ext hM1) hl3 T2) ?_
    rintro v M2 n t lv4 hM2 hno2 hres hl4 rfl
    simp only [List.cons_append, List.nil_append, noneL, noneL_pL] at hno2
    simp +contextual only [go_sem, Rcb, Rbk, sevalprocAttr, hno2, hap2]
    intro b3 T3 hb3 hap3 hT3 hTb3 b5 hb5 hap5
    have hT := hT2.trans hT3
    refine need_b [(b3, _), (b2, _)] hT hres hl4 ?_
    intro M3 lv5 hM3 hno3 hres hl5
    simp +contextual only [go_sem, Rcb, Rbk, sevalprocAttr]
    refine part_b [(b3, _), (b2, _)] hT hres hne (fun h => ct_some_Vs (fa := [.pointer (some ⟨pb, 0, none⟩)]) (fc := []) (C := fun _ => True) (r := RVs) (enc := encRow) (g := rowM en) 400
      (fun M t lv T hg _ hl hne => ct_row hg hl T) (fun x v M h => ⟨_, (RS_one h).2, _, h, rfl⟩) (fun _ _ _ h => by obtain ⟨_, _, rfl⟩ := h; rfl) (fun _ _ _ h => by obtain ⟨_, h, rfl⟩ := h; intro u hu; simp only [List.mem_singleton] at hu; subst hu; exact (RS_one h).1) (fun _ _ _ _ he h => RVs_ext he _ _ h)
      (fun _ _ _ h => h) trivial (by decide) (((hg.ext hM1).ext hM2).ext hM3) hl5 h T3) ?_
    rintro v M4 rows t2 lv6 hM4 hno4 hres hl6 hv
    obtain ⟨hv1, hv2⟩ := RS_one hv
    have hv2m := hv2
    simp only [Value.cells] at hv2m
    simp only [List.cons_append, List.nil_append, noneL, noneL_pL] at hno4
    simp +contextual only [go_sem, Rcb, Rbk, sevalprocAttr, hno4, hap2, hap3, hv1, hv2, hv2m]
    refine Close_drop (Close_drop (end_id hT rfl rfl ?_))
    exact ⟨_, _, lv6, hres, rfl, hl6, rfl, _, rfl, _, _, _, _, RS_nil, RQ_zero, hv, RX_zero, rfl⟩
  rw [if_neg (by simp [hs])] at hres
  clear hs
  simp +contextual only [go_sem, Rcb, Rbk, sevalprocAttr]
  refine is_c [(b2, _)] wDelete hl2 (fun hs lv3 hl3 => ?_) (fun hs lv3 hl3 => ?_)
  · rw [if_pos hs] at hres
    unfold deleteM at hres
    simp +contextual only [go_sem, Rcb, Rbk, sevalprocAttr]
    intro b4 hb4 hap4
    refine need_b [(b2, _)] hT2 hres hl3 ?_
    intro M1 lv4 hM1 hno1 hres hl4
    simp +contextual only [go_sem, Rcb, Rbk, sevalprocAttr]
    refine part_b [(b2, _)] hT2 hres hne (fun _ => ct_p_name (hg.ext hM1) hl4 T2) ?_
    rintro v M2 n t lv5 hM2 hno2 hres hl5 rfl
    simp only [List.cons_append, List.nil_append, noneL, noneL_pL] at hno2
    simp +contextual only [go_sem, Rcb, Rbk, sevalprocAttr, hno2, hap2]
    intro b3 T3 hb3 hap3 hT3 hTb3
    have hT := hT2.trans hT3
    refine is_c [(b3, _), (b2, _)] wWhere hl5 (fun hs lv6 hl6 => ?_) (fun hs lv6 hl6 => ?_)
    · unfold optX at hres
      rw [if_pos hs, hs] at hres
      simp +contextual only [go_sem, Rcb, Rbk, sevalprocAttr, hno2, hb3, hap2, hap3]
      refine part_b [(b3, _), (b2, _)] hT hres hne (fun h => hex M2 _ lv6 T3 ((hg.ext hM1).ext hM2) hl6 h) ?_
      rintro v M3 x t2 lv7 hM3 hno3 hres hl7 ⟨cs, rfl, hx⟩
      obtain ⟨s, rfl, h1, _⟩ := RX_form hx
      simp only [List.cons_append, List.nil_append, noneL, noneL_pL] at hno3
      simp +contextual only [go_sem, Rcb, Rbk, sevalprocAttr, hno3, hap2, hap3, h1]
      refine Close_drop (Close_drop (end_id hT rfl rfl ?_))
      exact ⟨_, _, lv7, hres, rfl, hl7, rfl, _, rfl, _, _, _, _, RS_nil, RQ_zero, RS_nil, hx, rfl⟩
    · unfold optX at hres
      rw [if_neg (by simp [hs]), hs] at hres
      simp +contextual only [go_sem, Rcb, Rbk, sevalprocAttr, hno2, hb3, hap2, hap3]
      refine Close_drop (Close_drop (end_id hT rfl rfl ?_))
      exact ⟨_, _, lv6, hres, rfl, hl6, rfl, _, rfl, _, _, _, _, RS_nil, RQ_zero, RS_nil, RX_zero, rfl⟩
  rw [if_neg (by simp [hs])] at hres
  clear hs
  unfold showM at hres
  simp +contextual only [go_sem, Rcb, Rbk, sevalprocAttr]
  intro b4 hb4 hap4
  refine need_b [(b2, _)] hT2 hres hl3 ?_
  intro M1 lv4 hM1 hno1 hres hl4
  simp +contextual only [go_sem, Rcb, Rbk, sevalprocAttr]
  refine part_b [(b2, _)] hT2 hres hne (fun h => ct_query (hg.ext hM1) hl4 hex h T2) ?_
  rintro v M2 q t2 lv5 hM2 hno2 hres hl5 ⟨cs, rfl, hq⟩
  obtain ⟨p, o, r, rfl, h1, h2, h3⟩ := RQ_form hq
  simp only [List.cons_append, List.nil_append, noneL, noneL_pL] at hno2
  simp +contextual only [go_sem, Rcb, Rbk, sevalprocAttr, hno2, hap2, h1, h2, h3]
  refine Close_drop (end_id hT2 rfl rfl ?_)
  exact ⟨_, _, lv5, hres, rfl, hl5, rfl, _, rfl, _, _, _, _, RS_nil, hq, RS_nil, RX_zero, rfl⟩
end Go.Proofs.YtoainkbcfnlkcaaGreatDoor

namespace Go.Proofs.YtoainkbcfnlkcaaGreatDoor
open Go Vc
set_option linter.unusedSimpArgs false
set_option linter.unusedVariables false
set_option maxRecDepth 10000

def runN (p : UInt8 → Bool) (s : Bs) : Nat := (s.takeWhile p).length
theorem ct_lex_run {gf : Nat} {p : UInt8 → Bool} (hp : ∀ (c : UInt8) (M : Mem), Ct Tryz.prog gf [.int .u8 (c.toNat : Int)] M [] [] (fun r _ _ _ => r = .bool (p c)) noPan) (s : Bs) (hs : s.length ≤ 4000) (M : Mem) :
    Ct Tryz.prog 95 [st s, .func (.func gf) ⟨[]⟩ ⟨[]⟩] M [] [] (fun r _ _ _ => r = .int .i64 (runN p s)) noPan := by
  intro T
  refine ct_run mx bod95 Tryz.func95 rfl (by rw [nt95]; exact Nat.le_of_ble_eq_true rfl) (dr := dr95) (by kernel_rfl) rs95 ?_
  intro hno _
  simp +contextual only [go_sem, Rcb, Rbk, sevalprocAttr]
  refine loop_range s.length 5 [(0, st s), (1, .func (.func gf) ⟨[]⟩ ⟨[]⟩)] (fun i e h => ∃ M', h = ⟨T, M', [], []⟩ ∧ runN p s = i + runN p (s.drop i)) 0 (by omega) (by simp only [live, go_sem, Rcb, Rbk, sevalprocAttr]) (by simp only [go_sem, Rcb, Rbk, sevalprocAttr]) ⟨M, rfl, by simp⟩ ?_
  rintro i e h hi hlv ht ⟨M1, rfl, hres⟩
  simp only [live, st] at hlv
  by_cases hlt : i < s.length
  · have hx := byteAt_bs hlt
    have hdrop : s.drop i = s[i] :: s.drop (i + 1) := List.drop_eq_getElem_cons hlt
    rw [hdrop] at hres
    simp +contextual only [go_sem, Rcb, Rbk, sevalprocAttr, hlv, ht, hlt, hx]
    refine rCall_pure (hp s[i] M1 T) ?_ (fun _ _ _ _ h => h.elim)
    rintro v M2 hM2 _ rfl
    by_cases hk : p s[i] = true
    · simp +contextual only [go_sem, Rcb, Rbk, sevalprocAttr, hlv, ht, hk]
      refine lp_range hlt ?_ ?_ ⟨M2, rfl, ?_⟩
      · simp only [live, hlv, go_sem, Rcb, Rbk, sevalprocAttr]
      · simp only [ht, go_sem, Rcb, Rbk, sevalprocAttr, wrap_succ i (by omega)]
      · rw [hres]; simp only [runN, List.takeWhile_cons, hk, if_true, List.length_cons]; omega
    · simp +contextual only [go_sem, Rcb, Rbk, sevalprocAttr, hlv, ht, hk]
      refine end_none ExtT.rfl' ?_
      rw [hres]
      simp only [runN, List.takeWhile_cons, hk, if_false, Bool.false_eq_true, List.length_nil, Nat.add_zero]
  · have : i = s.length := by omega
    subst this
    simp +contextual only [go_sem, Rcb, Rbk, sevalprocAttr, hlv, ht, hlt]
    refine end_none ExtT.rfl' ?_
    rw [hres]
    simp [runN]
theorem ct_prefix0 (s x : Bs) (M : Mem) : Ct Tryz.prog 137 [st s, st x] M [] [] (fun r _ _ _ => r = .bool (x.isPrefixOf s)) noPan := by
  intro T
  refine ct_run mx bod137 Tryz.func137 rfl (by rw [nt137]; exact Nat.le_of_ble_eq_true rfl) (dr := dr137) (by kernel_rfl) rs137 ?_
  intro hno _
  by_cases hl : x.length ≤ s.length
  · simp +contextual only [go_sem, Rcb, Rbk, sevalprocAttr, hl]
    refine end_none ExtT.rfl' ?_
    rw [List.drop_zero]
    congr 1
    rw [Bool.eq_iff_iff, List.isPrefixOf_iff_prefix, List.prefix_iff_eq_take, decide_eq_true_eq]
    exact eq_comm
  · simp +contextual only [go_sem, Rcb, Rbk, sevalprocAttr, hl]
    refine end_none ExtT.rfl' ?_
    have : x.isPrefixOf s = false := by
      rw [Bool.eq_false_iff]; intro h; exact hl (List.isPrefixOf_iff_prefix.1 h).length_le
    rw [this]
theorem ct_prefix (s x : Bs) (M : Mem) : Ct Tryz.prog 99 [st s, st x] M [] [] (fun r _ _ _ => r = .bool (x.isPrefixOf s)) noPan := by
  intro T
  refine ct_run mx bod99 Tryz.func99 rfl (by rw [nt99]; exact Nat.le_of_ble_eq_true rfl) (dr := dr99) (by kernel_rfl) rs99 ?_
  intro hno _
  simp +contextual only [go_sem, Rcb, Rbk, sevalprocAttr]
  refine rCall_pure (ct_prefix0 s x M T) ?_ (fun _ _ _ _ h => h.elim)
  rintro v M2 hM2 _ rfl
  simp +contextual only [go_sem, Rcb, Rbk, sevalprocAttr]
  exact end_none ExtT.rfl' rfl
end Go.Proofs.YtoainkbcfnlkcaaGreatDoor

namespace Go.Proofs.YtoainkbcfnlkcaaGreatDoor
open Go Vc Go.RowKit Go.Shelf
set_option linter.unusedSimpArgs false
set_option linter.unusedVariables false
set_option maxRecDepth 10000

theorem ntm136 : Tryz.f136.ntmps = 20 := by kernel_rfl
theorem infoBuilder : (Tryz.prog.info? 95).map (·.size) = some 2 := by kernel_rfl
theorem liesBuilder : liesAt Tryz.prog Tryz.prog.depth 95 (2 / Tryz.prog.cellsOf 95) 0 95 1 = true := by kernel_rfl
set_option maxHeartbeats 1000000 in
set_option maxRecDepth 100000 in
theorem w_copyCheck_used (b : Nat) (w : World) (h0 : w.cell? ⟨b, 0, none⟩ = some (.pointer (some ⟨b, 0, none⟩))) :
    Calls Tryz.prog 136 #[.pointer (some ⟨b, 0, none⟩)] w fun e w' => e = .returned (.tuple #[]) ∧ w' = w := by
  obtain ⟨j, hj, _⟩ := Option.map_eq_some_iff.1 infoBuilder
  have mixed := mx
  go_enter Tryz.func136, ntm136
  go_wp2
  rw [Lib.run_neq_ptr_same w _ Tryz.underlying93 hj]
  go_wp2
  go_end0
  exact ⟨rfl, rfl⟩
set_option maxHeartbeats 1000000 in
set_option maxRecDepth 100000 in
theorem w_copyCheck_fresh (b : Nat) (w : World) (h0 : w.cell? ⟨b, 0, none⟩ = some (.pointer none)) (hsh : w.shape? b = some (95, 2)) (hfz : w.frozen? ⟨b, 0, none⟩ = false) :
    Calls Tryz.prog 136 #[.pointer (some ⟨b, 0, none⟩)] w fun e w' => e = .returned (.tuple #[]) ∧ w' = w.setCell ⟨b, 0, none⟩ (.pointer (some ⟨b, 0, none⟩)) := by
  obtain ⟨j, hj, hjs⟩ := Option.map_eq_some_iff.1 infoBuilder
  have mixed := mx
  have t95 := Tryz.underlying95
  have t93 := Tryz.underlying93
  go_enter Tryz.func136, ntm136
  go_wp2
  rw [Lib.run_to_unsafe w ⟨b, 0, none⟩ Tryz.underlying93 Tryz.underlying216 hj (by rw [hjs]; decide) hsh (Nat.zero_lt_succ 1)]
  simp only [Result.andThen]
  rw [Oper.upon_value]
  go_wp2
  rw [run_callFunc_extern Tryz.func165 (by kernel_rfl) (by kernel_rfl) (by kernel_rfl) (e := Extern.AbiNoEscape.same) (by kernel_rfl)]
  rw [Lib.run_noEscape]
  simp only [Result.andThen]
  rw [Oper.upon_value]
  go_wp2
  rw [Lib.run_from_unsafe w ⟨b, 0, none⟩ Tryz.underlying216 Tryz.underlying93 hj hsh liesBuilder]
  simp only [Result.andThen]
  rw [Oper.upon_value]
  go_wp2
  go_end0
  exact ⟨rfl, rfl⟩
theorem ntm48 : Tryz.f48.ntmps = 14 := by kernel_rfl
theorem cellsByte : Tryz.prog.cellsOf 5 = 1 := by kernel_rfl
set_option maxHeartbeats 1000000 in
set_option maxRecDepth 100000 in
theorem w_String {tid : TypeId} (b g cap : Nat) (p : Value) (cur : Array Value) (l : List UInt8) (w : World) (h0 : l ≠ []) (hbk : w.heap[b]? = some (.cells #[p, .slice (some ⟨g, 0, none⟩) l.length cap] tid (0, 0)))
    (hg : w.heap[g]? = some (.cells cur 5 (0, 0))) (hnc : l.length ≤ cap) (hcs : cur.size = cap) (hcm : l.length ≤ 4294967296) (htake : cur.toList.take l.length = Lib.byteCells l) :
    Calls Tryz.prog 48 #[.pointer (some ⟨b, 0, none⟩)] w fun e w' => e = .returned (.string ⟨l.toArray⟩) ∧ w' = w.drew.freeze ⟨g, 0, none⟩ l.length := by
  have hl0 : l.length ≠ 0 := by simpa using h0
  have c1 : w.drew.cell? ⟨b, 1, none⟩ = some (.slice (some ⟨g, 0, none⟩) l.length cap) := by
    have : w.drew.heap[b]? = some (.cells #[p, .slice (some ⟨g, 0, none⟩) l.length cap] tid (0, 0)) := hbk
    rw [Lib.cell_of_heap this]; rfl
  have hSD : (Builtin.unsafeSliceData_ #[37] 137 #[.slice (some ⟨g, 0, none⟩) l.length cap]).run Tryz.prog w.drew = .ok (.pointer (some ⟨g, 0, none⟩)) w.drew :=
    Lib.run_unsafeSliceData_row _ _ _ _ _ _ (by omega)
  have hUS : (Builtin.unsafeString_ #[137, 3] 9 #[.pointer (some ⟨g, 0, none⟩), .int .i64 l.length]).run Tryz.prog w.drew = .ok (.string ⟨l.toArray⟩) (w.drew.freeze ⟨g, 0, none⟩ l.length) := by
    refine Lib.run_unsafeString_row w.drew 137 3 9 5 Tryz.underlying137 cellsByte g cur.size (by have hg' : w.drew.heap[g]? = some (.cells cur 5 (0, 0)) := hg; simp [World.shape?, hg']) l h0 (by omega) (by omega) ?_
    intro j x hx
    have hg' : w.drew.heap[g]? = some (.cells cur 5 (0, 0)) := hg
    have hj : j < l.length := (List.getElem?_eq_some_iff.1 hx).1
    have h2 : (cur.toList.take l.length)[j]? = some (.int .u8 x.toNat) := by rw [htake]; simp [Lib.byteCells, hx]
    rw [List.getElem?_take_of_lt hj] at h2
    rw [Addr.add_lit, Nat.zero_add, Lib.cell_of_heap hg']
    simpa using h2
  have mixed := mx
  have t95 := Tryz.underlying95
  have t93 := Tryz.underlying93
  have t37 := Tryz.underlying37
  have t137 := Tryz.underlying137
  go_enter Tryz.func48, ntm48
  go_wp2
  go_region_o
  all_goals (go_wp2; go_ret; exact ⟨rfl, rfl⟩)
theorem w_String_nil {tid : TypeId} (b : Nat) (p : Value) (w : World) (hbk : w.heap[b]? = some (.cells #[p, .slice none 0 0] tid (0, 0))) :
    Calls Tryz.prog 48 #[.pointer (some ⟨b, 0, none⟩)] w fun e w' => e = .returned (.string ⟨#[]⟩) ∧ w' = w.drew := by
  have hUS : ∀ W q, (Builtin.unsafeString_ #[137, 3] 9 #[.pointer q, .int .i64 0]).run Tryz.prog W = .ok (.string .empty) W := fun W q => Lib.run_unsafeString_none W _ _ _ q
  have c1 : w.drew.cell? ⟨b, 1, none⟩ = some (.slice none 0 0) := by
    have : w.drew.heap[b]? = some (.cells #[p, .slice none 0 0] tid (0, 0)) := hbk
    rw [Lib.cell_of_heap this]; rfl
  have hSD : (Builtin.unsafeSliceData_ #[37] 137 #[.slice none 0 0]).run Tryz.prog w.drew = .ok (.pointer none) w.drew := rfl
  have mixed := mx
  have t95 := Tryz.underlying95
  have t93 := Tryz.underlying93
  have t37 := Tryz.underlying37
  have t137 := Tryz.underlying137
  go_enter Tryz.func48, ntm48
  go_wp2
  go_region_o
  all_goals (go_wp2; go_ret; exact ⟨rfl, rfl⟩)
end Go.Proofs.YtoainkbcfnlkcaaGreatDoor

namespace Go.Proofs.YtoainkbcfnlkcaaGreatDoor
open Go Vc
set_option linter.unusedSimpArgs false
set_option linter.unusedVariables false
set_option maxRecDepth 10000

theorem bod136' : bodied Tryz.prog 136 = true := by kernel_rfl
theorem bod48' : bodied Tryz.prog 48 = true := by kernel_rfl
theorem ct_copyCheck {T : Tm} {M : Mem} {b : Nat} {p v : Value} (hT : T b = some 95) (hp : p = .pointer none ∨ p = .pointer (some ⟨b, 0, none⟩)) :
    CtT Tryz.prog 136 [.pointer (some ⟨b, 0, none⟩)] T M [(b, [p, v])] [] (fun r M' L' R' => r = .tuple #[] ∧ M' = M ∧ L' = [(b, [.pointer (some ⟨b, 0, none⟩), v])] ∧ R' = []) noPan := by
  refine ⟨bod136', fun w U hw => ?_⟩
  obtain ⟨bs, rfl, hi⟩ := hw
  have hbk : w.heap[b]? = some (.cells #[p, v] 95 (0, 0)) := hi.typed hT (List.mem_singleton.2 rfl)
  have c0 : w.cell? ⟨b, 0, none⟩ = some p := by rw [Lib.cell_of_heap hbk]; rfl
  rcases hp with rfl | rfl
  · refine Calls.mono (w_copyCheck_fresh b w c0 (by simp [World.shape?, hbk]) (Lib.frozen_of_heap hbk 0)) ?_
    rintro e w' ⟨rfl, rfl⟩
    have h2 := hi.store (k := b) (i := 0) (v := .pointer (some ⟨b, 0, none⟩)) (by simp)
    have h3 : lset [(b, [.pointer none, v])] b 0 (.pointer (some ⟨b, 0, none⟩)) = [(b, [.pointer (some ⟨b, 0, none⟩), v])] := by simp [lset]
    rw [h3] at h2
    exact ⟨M, _, [], ⟨⟨bs, h2⟩, rfl, rfl⟩, rfl, rfl, rfl, rfl⟩
  · refine Calls.mono (w_copyCheck_used b w c0) ?_
    rintro e w' ⟨rfl, rfl⟩
    exact ⟨M, _, [], ⟨⟨bs, hi⟩, rfl, rfl⟩, rfl, rfl, rfl, rfl⟩
theorem drew_old {w : World} {g n b : Nat} (h : b ≠ g) : (w.drew.freeze ⟨g, 0, none⟩ n).heap[b]? = w.heap[b]? := by
  rw [freeze_other h]; rfl
theorem drew_size {w : World} {g n : Nat} : (w.drew.freeze ⟨g, 0, none⟩ n).heap.size = w.heap.size := by
  unfold World.freeze
  split
  · rfl
  · show (Array.modify _ _ _).size = _
    rw [Array.size_modify]; rfl
theorem ct_String {tid : TypeId} {T : Tm} {M : Mem} {b : Nat} {p v : Value} {l : Bs} (hT : T b = some tid) (hl : l.length ≤ 1000000000) (hnil : l = [] → v = .slice none 0 0) :
    CtT Tryz.prog 48 [.pointer (some ⟨b, 0, none⟩)] T M [(b, [p, v])] [(v, 5, 1, Lib.byteCells l)] (fun r M' L' R' => r = st l ∧ M' = M ∧ (∃ v', L' = [(b, [p, v'])]) ∧ R' = [(.slice none 0 0, 5, 1, [])]) noPan := by
  refine ⟨bod48', fun w U hw => ?_⟩
  obtain ⟨bs, rfl, hi⟩ := hw
  have hbk : w.heap[b]? = some (.cells #[p, v] tid (0, 0)) := hi.typed hT (List.mem_singleton.2 rfl)
  obtain ⟨hlen, hrow⟩ := hi.rows
  obtain ⟨o, rfl⟩ : ∃ o, bs = [o] := by
    cases bs with
    | nil => simp at hlen
    | cons o bs => cases bs with
      | nil => exact ⟨o, rfl⟩
      | cons _ _ => simp at hlen
  have hr := hrow 0 _ _ _ _ o rfl rfl
  rcases hr with ⟨rfl, hx, rfl⟩ | ⟨g, n, cap, junk, rfl, hg, hn, hc, hle, rfl⟩ | ⟨h0, _⟩ | ⟨h0, _⟩
  rotate_left 2
  · exact absurd h0 (by decide)
  · exact absurd h0 (by decide)
  · have hl0 : l = [] := by simpa [Lib.byteCells] using hx
    subst hl0
    refine Calls.mono (w_String_nil b p w hbk) ?_
    rintro e w' ⟨rfl, rfl⟩
    exact ⟨M, _, _, ⟨⟨[none], hi.keeps ⟨rfl, rfl, rfl, Nat.le_refl _, fun _ _ => rfl⟩⟩, rfl, rfl⟩, rfl, rfl, ⟨_, rfl⟩, rfl⟩
  · have hbl : (Lib.byteCells l).length = l.length := by simp [Lib.byteCells]
    have hnl : n = l.length := by omega
    subst hnl
    have hgM := hi.apart g (by simp)
    have hgL : g ∉ [(b, [p, .slice (some ⟨g, 0, none⟩) l.length cap])].map (·.1) := by
      have := hi.nodup
      simp at this
      simp
      exact fun h => this h.symm
    obtain ⟨bs', hi'⟩ := hi.dropR
    have hbs : bs' = [] := by simpa using hi'.rows.1.symm
    subst hbs
    by_cases h0 : l = []
    · have := hnil h0; injection this with h; cases h
    · refine Calls.mono (w_String b g cap p _ l w h0 hbk hg hle (by simpa using hc) (by omega) ?_) ?_
      · rw [← hbl]; simp
      · rintro e w' ⟨rfl, rfl⟩
        have h2 := hi'.keepsBut (g := g) (w' := w.drew.freeze ⟨g, 0, none⟩ l.length) hgM.2 hgM.1 hgL (by simp) (by unfold World.freeze; split <;> rfl) (by unfold World.freeze; split <;> rfl) (by unfold World.freeze; split <;> rfl) (by rw [drew_size]; exact Nat.le_refl _) (fun k hk _ => drew_old hk)
        exact ⟨M, _, _, ⟨⟨_, h2.addNil⟩, rfl, rfl⟩, rfl, rfl, ⟨_, rfl⟩, rfl⟩
theorem ct_Len {M : Mem} {b n c : Nat} {a : Option Addr} {p : Value} : Ct Tryz.prog 47 [.pointer (some ⟨b, 0, none⟩)] M [(b, [p, .slice a n c])] [] (fun r M' L' R' => r = .int .i64 n ∧ M' = M ∧ L' = [(b, [p, .slice a n c])] ∧ R' = []) noPan := by
  intro T
  refine ct_run mx bod47 Tryz.func47 rfl (by rw [nt47]; exact Nat.le_of_ble_eq_true rfl) (dr := dr47) (by kernel_rfl) rs47 ?_
  intro hno _
  simp only [noneL, and_true] at hno
  simp +contextual only [go_sem, Rcb, Rbk, sevalprocAttr, hno]
  exact end_id ExtT.rfl' rfl rfl ⟨rfl, rfl, rfl, rfl⟩
theorem ct_WriteByte {T : Tm} {M : Mem} {b : Nat} {a : Option Addr} {n c : Nat} {p : Value} {xs : List Value} {ch : Int} (hT : T b = some 95) (hp : p = .pointer none ∨ p = .pointer (some ⟨b, 0, none⟩)) (hn : xs.length = n) (hl : n ≤ 4000) :
    CtT Tryz.prog 98 [.pointer (some ⟨b, 0, none⟩), .int .u8 ch] T M [(b, [p, .slice a n c])] [(.slice a n c, 5, 1, xs)] (fun r M' L' R' => r = .nilIface ∧ M' = M ∧ ∃ a' c', L' = [(b, [.pointer (some ⟨b, 0, none⟩), .slice a' (n + 1) c'])] ∧ R' = [(.slice a' (n + 1) c', 5, 1, xs ++ [.int .u8 ch])]) noPan := by
  refine ct_run mx bod98 Tryz.func98 rfl (by rw [nt98]; exact Nat.le_of_ble_eq_true rfl) (dr := dr98) (by kernel_rfl) rs98 ?_
  intro hno _
  simp only [noneL, and_true] at hno
  simp +contextual only [go_sem, Rcb, Rbk, sevalprocAttr]
  refine rCall_one [] (ct_copyCheck hT hp) ?_ (fun _ _ _ _ _ _ h => h.elim)
  rintro v M' L' _ _ hno' ⟨rfl, rfl, rfl, -⟩
  simp +contextual only [go_sem, Rcb, Rbk, sevalprocAttr, hno]
  intro b1 hb1 hap1
  refine app_row row37 okt37 (.slice _ 1 _ _ _ Tryz.underlying37 (cells_own [] hb1 trivial rfl) (by intro u hu; simp only [List.mem_singleton] at hu; subst hu; rfl)) (by rw [hn]; simp only [List.length_cons, List.length_nil]; omega) ?_
  intro a' m c' hm
  have : m = n + 1 := by rw [hn] at hm; simp only [List.length_cons, List.length_nil] at hm; omega
  subst this
  simp +contextual only [go_sem, Rcb, Rbk, sevalprocAttr, hno, hap1]
  exact Close_drop (end_id ExtT.rfl' rfl rfl ⟨rfl, rfl, _, _, rfl, rfl⟩)
end Go.Proofs.YtoainkbcfnlkcaaGreatDoor


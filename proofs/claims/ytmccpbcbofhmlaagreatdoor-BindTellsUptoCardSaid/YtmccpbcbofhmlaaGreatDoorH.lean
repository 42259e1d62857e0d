import Derived.Test.YtmccpbcbofhmlaaGreatDoorG
set_option linter.all false
namespace Go.Proofs.YtmccpbcbofhmlaaGreatDoor
open Go Vc
set_option maxRecDepth 10000
def barS (a : Bs) : Bs := [124] ++ a ++ [124]
theorem barS_len (a : Bs) : (barS a).length = a.length + 2 := by simp [barS]
def occR (seen pat : Bs) (n : Nat) : Bool := (List.range n).any fun k => decide ((seen.drop k).take pat.length = pat)
theorem occR_succ (seen pat : Bs) (n : Nat) : occR seen pat (n + 1) = (occR seen pat n || decide ((seen.drop n).take pat.length = pat)) := by
  unfold occR
  rw [List.range_succ, List.any_append]; simp
def occA (seen pat : Bs) : Bool := occR seen pat (seen.length + 1 - pat.length)
def fromR (rels : List Rel) : List So → Nat → Pl → List (Bs × Bs) → Bs → Int → (Pl × List (Bs × Bs)) × Int
  | [], _, p, names, _, e => ((p, names), e)
  | s :: l, i, p, names, seen, e =>
    let q := findR rels s.name
    let e1 := if (findG s.name 0 rels).isSome = true then e else putE e 7
    let e2 := if occA seen (barS (asOf s)) = true then putE e1 7 else e1
    let all := names ++ q.2.map fun c => (asOf s, c.name)
    if i = 0 then fromR rels l 1 q.1 all (seen ++ barS (asOf s)) e2
    else fromR rels l (i + 1) (.mk (joinK s.k) 0 (exprR all s.on e2).1 [] [] [p, q.1]) (if s.k = 2 ∨ s.k = 5 then all else names) (seen ++ barS (asOf s)) (exprR all s.on e2).2
theorem fromR_cons (rels : List Rel) (s : So) (l : List So) (i : Nat) (p : Pl) (names : List (Bs × Bs)) (seen : Bs) (e : Int) {q : Pl × List Co} {e1 e2 : Int} {all : List (Bs × Bs)} (hq : q = findR rels s.name) (h1 : e1 = if (findG s.name 0 rels).isSome = true then e else putE e 7) (h2 : e2 = if occA seen (barS (asOf s)) = true then putE e1 7 else e1) (ha : all = names ++ q.2.map fun c => (asOf s, c.name)) :
    fromR rels (s :: l) i p names seen e = if i = 0 then fromR rels l 1 q.1 all (seen ++ barS (asOf s)) e2
    else fromR rels l (i + 1) (.mk (joinK s.k) 0 (exprR all s.on e2).1 [] [] [p, q.1]) (if s.k = 2 ∨ s.k = 5 then all else names) (seen ++ barS (asOf s)) (exprR all s.on e2).2 := by
  subst hq h1
  subst h2
  subst ha
  rw [fromR]
theorem putE_twice (e f : Int) : putE (putE e f) f = putE e f := by unfold putE; grind
theorem findR_cols {rels : List Rel} (hc : ∀ r ∈ rels, r.cols.length ≤ 1048576) (name : Bs) : (findR rels name).2.length ≤ 1048576 := by
  unfold findR
  cases h : findG name 0 rels with
  | none => simp
  | some x =>
    obtain ⟨r, hr, he⟩ := findG_mem h
    show x.2.length ≤ _
    rw [he]; exact hc r hr
theorem RPl_setX {M : Mem} {p : Pl} {cs : List Value} (h : RPl M p cs) : ∃ g2 g3 g4 g5 g6 g7 xv av s, cs = [.int .i64 p.k, .int .i64 p.n, g2, g3, g4, g5, g6, g7, xv, av, s] ∧ (g2.oneCell' = true ∧ g3.oneCell' = true ∧ g4.oneCell' = true ∧ g5.oneCell' = true ∧ g6.oneCell' = true ∧ g7.oneCell' = true ∧ xv.oneCell' = true ∧ av.oneCell' = true ∧ s.oneCell' = true) ∧
    ∀ {M' : Mem} {y : Ex} {yc : List Value}, Ext M M' → REx M' y yc → RPl M' (.mk p.k p.n y p.xs p.ags p.kids) ([.int .i64 p.k, .int .i64 p.n] ++ (yc ++ [xv, av, s])) := by
  have hone := RPl_oneC h
  obtain ⟨xc, xv, av, s, rfl, hx, h1, h2, h3⟩ := RPl_iff.1 h
  have hl := REx_len hx
  match xc, hl with
  | [g2, g3, g4, g5, g6, g7], _ =>
    refine ⟨g2, g3, g4, g5, g6, g7, xv, av, s, rfl, ⟨?_, ?_, ?_, ?_, ?_, ?_, ?_, ?_, ?_⟩, ?_⟩
    iterate 9 (apply hone; simp)
    intro M' y yc he hy
    exact RPl_iff.2 ⟨yc, xv, av, s, rfl, hy, RS_ext he (REx_ext he) h1, RS_ext he (RAg_ext he) h2, RS_ext he (RPl_ext he) h3⟩
theorem Sub_swap {T0 T : Tm} {M : Mem} {x y : Nat × List Value} {L : LL} {R0 R : RR} (hne : x.1 ≠ y.1) : Sub ⟨T0, M, x :: y :: L, R0⟩ ⟨T, M, y :: x :: L, R⟩ := by
  obtain ⟨b, cs⟩ := x
  obtain ⟨b', cs'⟩ := y
  intro a v hv
  simp only [Sh.cell] at hv ⊢
  cases hm : mcell M a with
  | some u => rw [hm] at hv; exact hv
  | none =>
    rw [hm] at hv
    simp only [lcell] at hv ⊢
    by_cases h1 : a.block = b
    · have : ¬ a.block = b' := fun h => hne (h1 ▸ h)
      simp only [h1, if_true, if_false, this] at hv ⊢
      rw [if_neg (by rw [← h1]; exact this)]
      exact hv
    · simp only [h1, if_false] at hv ⊢
      exact hv
def FrI (rels : List Rel) (l : List So) (e0 : Int) (T : Tm) (M : Mem) (bb b6 b8 : Nat) (i : Nat) (e : Env) (h : Sh) : Prop :=
  ∃ N' M' p names seen f nv c0 c1 c2 c3 c4 c5 c6 c7 c8 c9 c10, ExtT T N' ∧ Ext M M' ∧ M' b8 = none ∧ M' b6 = none ∧ M' bb = none ∧ RPl M' p [c0, c1, c2, c3, c4, c5, c6, c7, c8, c9, c10] ∧ e 9 = nv ∧ RS M' RCl 2 names nv ∧ e 10 = st seen ∧ seen.length ≤ i * 1002 ∧ names.length ≤ i * 1048576 ∧
    fromR rels (l.drop i) i p names seen f = fromR rels l 0 zeroP [] [] e0 ∧ h = ⟨N', M', [(b8, [c0, c1, c2, c3, c4, c5, c6, c7, c8, c9, c10]), (b6, z11), (bb, [.int .i64 f])], []⟩
def drFrom : List (Nat × Sched) := [(28, .take 1 <| .take 2 <| .take 5 <| .take 6 <| .effN 0 false (.take 3 <| .take 4 <| .eff 7 false (.eff 8 false (.eff 9 true (.done) <| .no) <| .no) <| .no) <| .eff 7 false (.effN 0 false (.take 3 <| .take 4 <| .eff 8 false (.eff 9 true (.done) <| .no) <| .no) <| .no) <| .no)]
attribute [go_sem] drFrom
set_option maxHeartbeats 4000000 in
theorem ct_From {M : Mem} {bb : Nat} {rels : List Rel} {rv sv : Value} {l : List So} (e0 : Int) (hr : RS M (RRel M) 14 rels rv) (hcols : ∀ r ∈ rels, r.cols.length ≤ 1048576) (hs : RS M (RSo M) 10 l sv) (hlen : l.length ≤ 16)
    (hon : ∀ (j : Nat) (x : So), l[j]? = some x → 0 < j → (2 ≤ x.k ∧ x.k ≤ 5) ∧ okX x.on) (hnl : ∀ x ∈ l, (asOf x).length ≤ 1000) (T : Tm) :
    CtT Tryz.prog 69 [.pointer (some ⟨bb, 0, none⟩), rv, sv] T M [(bb, [.int .i64 e0])] [] (fun r M' L' R' => (∃ cs nv, r = .tuple ⟨[.agg ⟨cs⟩, nv]⟩ ∧ RPl M' (fromR rels l 0 zeroP [] [] e0).1.1 cs ∧ RS M' RCl 2 (fromR rels l 0 zeroP [] [] e0).1.2 nv) ∧ L' = [(bb, [.int .i64 (fromR rels l 0 zeroP [] [] e0).2])] ∧ R' = []) noPan := by
  obtain ⟨hbk, a, c, rfl, hle, _, hg⟩ := RS_elim (by decide) (fun _ _ => RSo_len) hs
  obtain ⟨_, ra, rc, rfl, _⟩ := RS_elim (by decide) (fun _ _ => RRel_len) hr
  obtain ⟨W, hW⟩ : ∃ W, W = fromR rels l 0 zeroP [] [] e0 := ⟨_, rfl⟩
  rw [← hW]
  refine ct_run mx bod69 Tryz.func69 rfl (by rw [nt69]; exact Nat.le_of_ble_eq_true rfl) (dr := drFrom) (by kernel_rfl) rs69 ?_
  intro hno _
  simp only [noneL, and_true] at hno
  simp +contextual only [go_sem, Rcb, Rbk, sevalprocAttr]
  intro b6 T6 hb6 hap6 hT6 hTb6 b8 T8 hb8 hap8 hT8 hTb8
  have hT := hT6.trans hT8
  have hpp : (¬ b8 = b6 ∧ ¬ b6 = b8) ∧ (¬ b8 = bb ∧ ¬ bb = b8) ∧ (¬ b6 = bb ∧ ¬ bb = b6) := ⟨hap8.1, hap8.2, hap6⟩
  refine loop_range l.length 24 [(0, .pointer (some ⟨bb, 0, none⟩)), (1, .slice ra rels.length rc), (6, .pointer (some ⟨b6, 0, none⟩)), (8, .pointer (some ⟨b8, 0, none⟩)), (22, .slice a l.length c), (23, .int .i64 (l.length : Int))]
    (FrI rels l e0 T8 M bb b6 b8) 0 (by omega) (by simp only [live, go_sem, Rcb, Rbk, sevalprocAttr]) (by simp only [go_sem, Rcb, Rbk, sevalprocAttr])
    ⟨T8, M, zeroP, [], [], e0, .slice none 0 0, _, _, _, _, _, _, _, _, _, _, _, ExtT.rfl', Ext.rfl', hb8, hb6, hno, zeroP_R M, by simp only [go_sem, Rcb, Rbk, sevalprocAttr], RS_nil, by simp only [go_sem, Rcb, Rbk, sevalprocAttr, st], by simp, by simp, rfl, rfl⟩ ?_
  rintro i e h hi hlv ht ⟨N1, M1, p, names, seen, f, nv, c0, c1, c2, c3, c4, c5, c6, c7, c8, c9, c10, hN1, hM1, n8, n6, nb, hp, e9, hnv, e10, hsl, hnml, hres, rfl⟩
  simp only [live] at hlv
  have hTT := hT.trans hN1
  obtain ⟨_, na, nc, rfl, _⟩ := RS_elim (by decide) (fun _ _ => RCl_len) hnv
  by_cases hlt : i < l.length
  · obtain ⟨b', o', cs', rfl, hat, hrx⟩ := hg i l[i] (List.getElem?_eq_getElem hlt)
    obtain ⟨aw, rfl, hso, haw⟩ := RSo_formC (RSo_ext hM1 _ _ hrx)
    obtain ⟨y0, y1, y2, y3, y4, y5, y6, y7, y8, y9⟩ := At10 (hat.ext hM1)
    have hdrop : l.drop i = l[i] :: l.drop (i + 1) := List.drop_eq_getElem_cons hlt
    simp +contextual only [go_sem, sevalprocAttr, hlv, ht, hlt, y0, y1, y2, y3, y4, y5, y6, y7, y8, y9, haw]
    rw [rCond_bool]
    simp +contextual only [go_sem, sevalprocAttr, Run_block, hlv, ht, hlt, y0, y1, y2, y3, y4, y5, y6, y7, y8, y9, haw]
    intro b12 T12 hb12 hap12 hT12 hTb12
    refine rCall_frz bod111 fun M2 hM2 h12 hno2 => ?_
    simp only [noneL, and_true] at hno2
    refine rCall_pure (ct_Find (l[i]).name (RS_ext (hM1.trans hM2) (RRel_ext (hM1.trans hM2)) hr) T12) ?_ (fun _ _ _ _ h => h.elim)
    rintro r M3 hM3 hno3 ⟨qs, cv, rfl, hqp, hcv⟩
    simp only [noneL, and_true] at hno3
    obtain ⟨q, hq⟩ : ∃ q, q = findR rels l[i].name := ⟨_, rfl⟩
    have hqc := findR_cols hcols l[i].name
    rw [← hq] at hqp hcv hqc
    obtain ⟨f1, hf1⟩ : ∃ f1, f1 = if (findG l[i].name 0 rels).isSome = true then f else putE f 7 := ⟨_, rfl⟩
    obtain ⟨f2, hf2⟩ : ∃ f2, f2 = if occA seen (barS (asOf l[i])) = true then putE f1 7 else f1 := ⟨_, rfl⟩
    obtain ⟨all, hall⟩ : ∃ all, all = names ++ q.2.map fun c => (asOf l[i], c.name) := ⟨_, rfl⟩
    rw [hdrop, fromR_cons rels l[i] _ i p names seen f hq hf1 hf2 hall] at hres
    obtain ⟨_, ca, cc, rfl, _⟩ := RS_elim (by decide) (fun _ _ => RCo_len) hcv
    obtain ⟨d0, d1, d2, d3, d4, d5, d6, d7, d8, d9, d10, rfl, hd⟩ := RPl_cells hqp
    have hm12 : ∀ {M' : Mem}, Ext M2 M' → mcell M' ⟨b12, 0, none⟩ = some (.int .i64 l[i].k) ∧ mcell M' ⟨b12, 1, none⟩ = some (st l[i].name) ∧ mcell M' ⟨b12, 2, none⟩ = some (st l[i].as) ∧ mcell M' ⟨b12, 3, none⟩ = some (.int .i64 l[i].on.k) ∧ mcell M' ⟨b12, 4, none⟩ = some (.int .i64 l[i].on.v.k) ∧ mcell M' ⟨b12, 5, none⟩ = some (.int .i64 l[i].on.v.n) ∧ mcell M' ⟨b12, 6, none⟩ = some (st l[i].on.v.t) ∧ mcell M' ⟨b12, 7, none⟩ = some (st l[i].on.tab) ∧ mcell M' ⟨b12, 8, none⟩ = some (st l[i].on.name) ∧ mcell M' ⟨b12, 9, none⟩ = some aw := by
      intro M' hM'
      have := hM' _ _ h12
      refine ⟨?_, ?_, ?_, ?_, ?_, ?_, ?_, ?_, ?_, ?_⟩ <;> rw [mcell_some this] <;> rfl
    simp +contextual only [go_sem, sevalprocAttr, Run_block, hlv, ht, hd]
    intro b13 T13 hb13 hap13 hT13 hTb13
    obtain ⟨LV, hLV⟩ : ∃ LV : List (Nat × Value), LV = [(0, .pointer (some ⟨bb, 0, none⟩)), (1, .slice ra rels.length rc), (6, .pointer (some ⟨b6, 0, none⟩)), (8, .pointer (some ⟨b8, 0, none⟩)), (22, .slice (some ⟨b', o', none⟩) l.length c), (23, .int .i64 (l.length : Int)), (24, .int .i64 (i : Int)), (12, .pointer (some ⟨b12, 0, none⟩)), (13, .pointer (some ⟨b13, 0, none⟩)), (14, .slice ca q.2.length cc), (9, .slice na names.length nc), (10, st seen), (11, .int .i64 (i : Int))] := ⟨_, rfl⟩
    have hp13 : (¬ b13 = b8 ∧ ¬ b8 = b13) ∧ (¬ b13 = b6 ∧ ¬ b6 = b13) ∧ (¬ b13 = bb ∧ ¬ bb = b13) := ⟨hap13.1, hap13.2.1, hap13.2.2⟩
    refine cond_cut (fun e ds h => ds = [] ∧ live e LV ∧ ∃ N' M', ExtT T13 N' ∧ Ext M3 M' ∧ (M' b13 = none ∧ M' b8 = none ∧ M' b6 = none ∧ M' bb = none) ∧ h = ⟨N', M', [(b13, [d0, d1, d2, d3, d4, d5, d6, d7, d8, d9, d10]), (b8, [c0, c1, c2, c3, c4, c5, c6, c7, c8, c9, c10]), (b6, z11), (bb, [.int .i64 f1])], []⟩) (fun S' hS' => ?_) ?_
    · rw [rCond_bool]
      cases hok : (findG l[i].name 0 rels).isSome with
      | true =>
        rw [hok, if_pos rfl] at hf1
        simp +contextual only [go_sem, Rcb, Rbk, sevalprocAttr]
        refine hS' _ _ _ ⟨rfl, ?_, T13, M3, ExtT.rfl', Ext.rfl', ⟨hb13, hno3.1, hno3.2.1, hno3.2.2⟩, by rw [hf1]⟩
        rw [hLV]; simp only [live, hlv, ht, e9, e10, go_sem, Rcb, Rbk, sevalprocAttr]
      | false =>
        rw [hok, if_neg (by decide)] at hf1
        simp +contextual only [go_sem, Rcb, Rbk, sevalprocAttr, hlv]
        refine rCall_one [(b13, _), (b8, _), (b6, _)] (ct_put f 7 T13) ?_ (fun _ _ _ _ _ _ h => h.elim)
        rintro r M4 L4 hM4 hk4 hno4 ⟨rfl, -⟩
        simp only [List.cons_append, List.nil_append, noneL, and_true] at hno4
        simp +contextual only [go_sem, Rcb, Rbk, sevalprocAttr]
        refine hS' _ _ _ ⟨rfl, ?_, T13, M4, ExtT.rfl', hM4, hno4, by rw [hf1]⟩
        rw [hLV]; simp only [live, hlv, ht, e9, e10, go_sem, Rcb, Rbk, sevalprocAttr]
    clear hlv ht e9 e10
    rintro e ds h ⟨rfl, hlv, N4, M4, hN4, hM4, hno4, rfl⟩
    rw [hLV] at hlv
    simp only [live] at hlv
    obtain ⟨z0, z1, z2, z3, z4, z5, z6, z7, z8, z9⟩ := hm12 (hM3.trans hM4)
    simp +contextual only [go_sem, sevalprocAttr, Run_block, hlv, z1, z2]
    refine cond_cut (fun e ds h => ds = [] ∧ live e LV ∧ e 16 = st (asOf l[i]) ∧ h = ⟨N4, M4, [(b13, [d0, d1, d2, d3, d4, d5, d6, d7, d8, d9, d10]), (b8, [c0, c1, c2, c3, c4, c5, c6, c7, c8, c9, c10]), (b6, z11), (bb, [.int .i64 f1])], []⟩) (fun S' hS' => ?_) ?_
    · rw [rCond_bool]
      by_cases has : l[i].as = []
      · simp +contextual only [go_sem, Rcb, Rbk, sevalprocAttr, hlv, z2, has]
        refine hS' _ _ _ ⟨rfl, ?_, ?_, rfl⟩
        · rw [hLV]; simp only [live, hlv, go_sem, Rcb, Rbk, sevalprocAttr]
        · simp only [asOf, has, go_sem, Rcb, Rbk, sevalprocAttr]
      · simp +contextual only [go_sem, Rcb, Rbk, sevalprocAttr, hlv, z2, has]
        refine hS' _ _ _ ⟨rfl, ?_, ?_, rfl⟩
        · rw [hLV]; simp only [live, hlv, go_sem, Rcb, Rbk, sevalprocAttr]
        · simp only [asOf, has, go_sem, Rcb, Rbk, sevalprocAttr]
    clear hlv
    rintro e ds h ⟨rfl, hlv, e16, rfl⟩
    rw [hLV] at hlv
    simp only [live] at hlv
    simp +contextual only [go_sem, Rcb, Rbk, sevalprocAttr, hlv, e16]
    have has := hnl _ (List.getElem_mem hlt)
    have hsl2 : seen.length ≤ 16032 := Nat.le_trans hsl (by
      have : i * 1002 ≤ 16 * 1002 := Nat.mul_le_mul_right _ (by omega)
      omega)
    have hpl := barS_len (asOf l[i])
    refine loop_rule (fun m e ds h => ds = [] ∧ live e LV ∧ e 16 = st (asOf l[i]) ∧ ∃ k N' M', e 17 = .int .i64 ((k : Nat) : Int) ∧ k ≤ seen.length + 1 - (barS (asOf l[i])).length ∧ m = seen.length + 1 - k ∧ ExtT N4 N' ∧ Ext M4 M' ∧ (M' b13 = none ∧ M' b8 = none ∧ M' b6 = none ∧ M' bb = none) ∧
      h = ⟨N', M', [(b13, [d0, d1, d2, d3, d4, d5, d6, d7, d8, d9, d10]), (b8, [c0, c1, c2, c3, c4, c5, c6, c7, c8, c9, c10]), (b6, z11), (bb, [.int .i64 (if occR seen (barS (asOf l[i])) k = true then putE f1 7 else f1)])], []⟩)
      ⟨seen.length + 1, rfl, by rw [hLV]; simp only [live, hlv, go_sem, Rcb, Rbk, sevalprocAttr], by simp only [e16, go_sem, Rcb, Rbk, sevalprocAttr], 0, N4, M4, by simp only [go_sem, Rcb, Rbk, sevalprocAttr], by omega, rfl, ExtT.rfl', Ext.rfl', hno4, rfl⟩ ?_
    clear hlv e16
    rintro m e ds h ⟨rfl, hlv, e16, k, N5, M5, e17, hk, rfl, hN5, hM5, hno5, rfl⟩
    rw [hLV] at hlv
    simp only [live] at hlv
    by_cases hin : k + (barS (asOf l[i])).length ≤ seen.length
    · have hc1 : IntKind.i64.wrap ((k : Int) + ((asOf l[i]).length : Int)) = ((k + (asOf l[i]).length : Nat) : Int) := by rw [wrap64 (by omega) (by omega)]; omega
      have hc2 : IntKind.i64.wrap (((k + (asOf l[i]).length : Nat) : Int) + 2) = ((k + (barS (asOf l[i])).length : Nat) : Int) := by rw [wrap64 (by omega) (by omega)]; omega
      have hin' : ((k + (barS (asOf l[i])).length : Nat) : Int) ≤ (seen.length : Int) := by omega
      have g1 : k ≤ k + (barS (asOf l[i])).length := Nat.le_add_right _ _
      have g2 : k + (barS (asOf l[i])).length - k = (barS (asOf l[i])).length := Nat.add_sub_cancel_left _ _
      have g3 : 1 + (asOf l[i]).length ≤ 9223372036854775807 := by omega
      have g4 : (124 :: asOf l[i]).length + 1 ≤ 9223372036854775807 := by simp only [List.length_cons]; omega
      have g5 : (asOf l[i]).length + 1 + 1 ≤ 9223372036854775807 := by omega
      have hbs : barS (asOf l[i]) = 124 :: (asOf l[i] ++ [124]) := rfl
      have hks : IntKind.i64.wrap ((k : Int) + 1) = ((k + 1 : Nat) : Int) := wrap_succ k (by omega)
      simp +contextual only [go_sem, Rcb, Rbk, sevalprocAttr, hlv, e16, e17, hc1, hc2, hin', g1, g2, g3, g4, g5, bs_append]
      by_cases hit : (seen.drop k).take (barS (asOf l[i])).length = barS (asOf l[i])
      · rw [if_pos (show _ = 124 :: (asOf l[i] ++ [124]) from hit)]
        refine rCall_one [(b13, _), (b8, _), (b6, _)] (ct_put _ 7 N5) ?_ (fun _ _ _ _ _ _ h => h.elim)
        rintro r M6 L6 hM6 hk6 hno6 ⟨rfl, -⟩
        simp only [List.cons_append, List.nil_append, noneL, and_true] at hno6
        simp +contextual only [go_sem, Rcb, Rbk, sevalprocAttr, hlv, e17]
        refine lp_close (Close_id ⟨seen.length + 1 - (k + 1), by omega, rfl, ?_, ?_, k + 1, N5, M6, ?_, by omega, rfl, hN5, hM5.trans hM6, hno6, ?_⟩)
        · rw [hLV]; simp only [live, hlv, go_sem, Rcb, Rbk, sevalprocAttr]
        · simp only [e16, go_sem, Rcb, Rbk, sevalprocAttr]
        · simp only [go_sem, Rcb, Rbk, sevalprocAttr, hks]
        · rw [occR_succ, decide_eq_true hit, Bool.or_true, if_pos rfl]
          cases occR seen (barS (asOf l[i])) k with
          | true => rw [if_pos rfl, putE_twice]
          | false => rw [if_neg (by decide)]
      · rw [if_neg (show ¬ _ = 124 :: (asOf l[i] ++ [124]) from hit)]
        refine lp_close (Close_id ⟨seen.length + 1 - (k + 1), by omega, rfl, ?_, ?_, k + 1, N5, M5, ?_, by omega, rfl, hN5, hM5, hno5, ?_⟩)
        · rw [hLV]; simp only [live, hlv, go_sem, Rcb, Rbk, sevalprocAttr]
        · simp only [e16, go_sem, Rcb, Rbk, sevalprocAttr]
        · simp only [e17, go_sem, Rcb, Rbk, sevalprocAttr, hks]
        · rw [occR_succ, decide_eq_false hit, Bool.or_false]
    · have hc1 : IntKind.i64.wrap ((k : Int) + ((asOf l[i]).length : Int)) = ((k + (asOf l[i]).length : Nat) : Int) := by rw [wrap64 (by omega) (by omega)]; omega
      have hc2 : IntKind.i64.wrap (((k + (asOf l[i]).length : Nat) : Int) + 2) = ((k + (barS (asOf l[i])).length : Nat) : Int) := by rw [wrap64 (by omega) (by omega)]; omega
      have hin' : ¬ ((k + (barS (asOf l[i])).length : Nat) : Int) ≤ (seen.length : Int) := by omega
      have hkk : k = seen.length + 1 - (barS (asOf l[i])).length := by omega
      subst hkk
      rw [← show occA seen (barS (asOf l[i])) = occR seen (barS (asOf l[i])) (seen.length + 1 - (barS (asOf l[i])).length) from rfl, ← hf2]
      have g1 : seen.length ≤ 9223372036854775806 := by omega
      have g2 : seen.length + 1 + (asOf l[i]).length ≤ 9223372036854775807 := by omega
      have g3 : seen.length + (1 + (asOf l[i]).length) ≤ 9223372036854775806 := by omega
      have g4 : seen.length + (1 + (asOf l[i]).length) + 1 ≤ 9223372036854775807 := by omega
      obtain ⟨ys, hyl, hys, hsr⟩ := srcs_RS (P := Tryz.prog) Tryz.underlying112 (fun _ _ => RCl_len) (fun _ _ h => RCl_oneC h) (RS_ext ((((hM2.trans hM3).trans hM4).trans hM5)) (fun _ _ h => h) hnv)
      have g5 : seen.length + ((asOf l[i]).length + 1) ≤ 9223372036854775806 := by omega
      have hseen : seen ++ 124 :: (asOf l[i] ++ [124]) = seen ++ barS (asOf l[i]) := rfl
      have hnm16 : names.length ≤ 16777216 := Nat.le_trans hnml (by
        have : i * 1048576 ≤ 16 * 1048576 := Nat.mul_le_mul_right _ (by omega)
        omega)
      simp +contextual only [go_sem, Rcb, Rbk, sevalprocAttr, hlv, e16, e17, hc1, hc2, hin', bs_append, g1, g2, g3, g4, g5, List.length_append]
      intro bz hbz hapz
      refine app_accsZ row112 okt112 (.inl ⟨rfl, ⟨bz, rfl⟩, rfl⟩) hys (fun _ => hsr _ _ _) (fun _ _ => RCl_len) (by simp only [List.length_nil]; omega) (by decide) ?_
      intro fv1 R1 hacc1
      rw [List.nil_append] at hacc1
      obtain ⟨_, ca', cc', hcx, hccle, _, hcg⟩ := RS_elim (by decide) (fun _ _ => RCo_len) (RS_ext (hM4.trans hM5) (fun _ _ h => h) hcv)
      injection hcx with q1 q2 q3
      subst q1 q3
      simp +contextual only [go_sem, Rcb, Rbk, sevalprocAttr, hlv, e16]
      obtain ⟨L2, hL2⟩ : ∃ L2 : List (Nat × Value), L2 = [(0, .pointer (some ⟨bb, 0, none⟩)), (1, .slice ra rels.length rc), (6, .pointer (some ⟨b6, 0, none⟩)), (8, .pointer (some ⟨b8, 0, none⟩)), (22, .slice (some ⟨b', o', none⟩) l.length c), (23, .int .i64 (l.length : Int)), (24, .int .i64 (i : Int)), (12, .pointer (some ⟨b12, 0, none⟩)), (13, .pointer (some ⟨b13, 0, none⟩)), (9, .slice na names.length nc), (10, st (seen ++ barS (asOf l[i]))), (11, .int .i64 (i : Int)), (16, st (asOf l[i])), (80, .slice ca q.2.length cc), (81, .int .i64 (q.2.length : Int))] := ⟨_, rfl⟩
      refine loop_rangeC q.2.length 82 L2
        (fun j e h => ∃ N' R fv, ExtT N5 N' ∧ e 18 = fv ∧ AccZ 116 2 RCl R fv (curC names (asOf l[i]) q.2 j) ∧
          h = ⟨N', M5, [(b13, [d0, d1, d2, d3, d4, d5, d6, d7, d8, d9, d10]), (b8, [c0, c1, c2, c3, c4, c5, c6, c7, c8, c9, c10]), (b6, z11), (bb, [.int .i64 f2])], R⟩)
        0 (by omega) (by rw [hL2]; simp only [live, hlv, e16, go_sem, Rcb, Rbk, sevalprocAttr]; rfl) (by simp only [go_sem, Rcb, Rbk, sevalprocAttr]) (Close_drop (Close_id ⟨N5, R1, fv1, ExtT.rfl', by simp only [go_sem, Rcb, Rbk, sevalprocAttr], by rw [curC_zero]; exact hacc1, rfl⟩)) ?_
      clear hlv e16 e17
      rintro j e h hj hlv ht ⟨N6, R6, fv, hN6, e18, hacc, rfl⟩
      rw [hL2] at hlv
      simp only [live] at hlv
      have hcl := curC_len names (asOf l[i]) q.2 hj
      by_cases hjlt : j < q.2.length
      · obtain ⟨bc, oc, cc', rfl, hatc, hrc⟩ := hcg j q.2[j] (List.getElem?_eq_getElem hjlt)
        unfold RCo at hrc
        subst hrc
        obtain ⟨w0, w1⟩ := At2 hatc
        simp +contextual only [go_sem, Rcb, Rbk, sevalprocAttr, hlv, ht, hjlt, w0, w1, e18]
        intro b20 T20 hb20 hap20 hT20 hTb20 b19 hb19 hap19
        refine app_accZ (x := (asOf l[i], q.2[j].name)) Tryz.underlying112 row112 okt112 hacc rfl (fun _ _ => RCl_len) (RCl_oneC (c := (asOf l[i], q.2[j].name)) rfl) hb19 (by omega) (by decide) ?_
        intro fv' R' hacc'
        rw [← curC_succ names (asOf l[i]) q.2 hjlt] at hacc'
        simp +contextual only [go_sem, Rcb, Rbk, sevalprocAttr, hlv, ht]
        refine lp_close (Close_drop (Close_drop (Close_id ⟨q.2.length - (j + 1), by omega, rfl, j + 1, by omega, rfl, ?_, ?_, T20, R', fv', hN6.trans hT20, ?_, hacc', rfl⟩)))
        · rw [hL2]; simp only [live, hlv, go_sem, Rcb, Rbk, sevalprocAttr]
        · simp only [ht, go_sem, Rcb, Rbk, sevalprocAttr, wrap_succ j (by omega)]
        · simp only [go_sem, Rcb, Rbk, sevalprocAttr]
      · have hj1 : j = q.2.length := by omega
        subst hj1
        have hca := curC_all names (asOf l[i]) q.2
        rw [hca, ← hall] at hacc hcl
        obtain ⟨za, zc, rfl⟩ := AccZ_form hacc
        by_cases hi0 : i = 0
        · rw [if_pos hi0] at hres
          have hi0' : (i : Int) = 0 := by omega
          simp +contextual only [go_sem, Rcb, Rbk, sevalprocAttr, hlv, ht, hjlt, e18, hi0', hno5, hp13, hd, hpp]
          refine lp_close (Close_drop (Close_accZ hacc (by omega) (by decide) ⟨hno5.2.1, hno5.2.2.1, hno5.2.2.2, trivial⟩ fun M6 hM6 hno6 hrs => Close_id ⟨l.length - (i + 1), by omega, rfl, i + 1, by omega, rfl, ?_, ?_, N6, M6, q.1, all, seen ++ barS (asOf l[i]), f2, _, d0, d1, d2, d3, d4, d5, d6, d7, d8, d9, d10, ?_, ?_, hno6.1, hno6.2.1, hno6.2.2.1, ?_, ?_, hrs, ?_, ?_, ?_, ?_, ?_⟩))
          · simp only [live, hlv, go_sem, Rcb, Rbk, sevalprocAttr]
          · simp only [hlv, go_sem, Rcb, Rbk, sevalprocAttr]; subst hi0; rfl
          · exact (((hN1.trans hT12).trans hT13).trans hN4).trans (hN5.trans hN6)
          · exact ((hM1.trans hM2).trans ((hM3.trans hM4).trans hM5)).trans hM6
          · exact RPl_ext ((hM4.trans hM5).trans hM6) _ _ hqp
          · simp only [go_sem, Rcb, Rbk, sevalprocAttr]
          · simp only [hlv, go_sem, Rcb, Rbk, sevalprocAttr]
          · rw [List.length_append, hpl]; omega
          · rw [hall, List.length_append, List.length_map]; omega
          · subst hi0; exact hres
          · rfl
        · rw [if_neg hi0] at hres
          have hi0' : ¬ (i : Int) = 0 := by omega
          have h25 := (hM3.trans hM4).trans hM5
          obtain ⟨z0, z1, z2, z3, z4, z5, z6, z7, z8, z9⟩ := hm12 h25
          simp +contextual only [go_sem, Rcb, Rbk, sevalprocAttr, hlv, ht, hjlt, e18, hi0', z0, z1, z2, z3, z4, z5, z6, z7, z8, z9, haw]
          intro b100 T100 hb100 hap100 hT100 hTb100
          refine rCall_close (k := fun h' => ∃ M6, Ext M5 M6 ∧ RS M6 RCl 2 all (.slice za all.length zc) ∧ M6 b100 = some [.slice za all.length zc, .bool false, .slice none 0 0, .slice none 0 0] ∧ (M6 b13 = none ∧ M6 b8 = none ∧ M6 b6 = none ∧ M6 bb = none) ∧ h' = ⟨T100, M6, [(b13, [d0, d1, d2, d3, d4, d5, d6, d7, d8, d9, d10]), (b8, [c0, c1, c2, c3, c4, c5, c6, c7, c8, c9, c10]), (b6, z11), (bb, [.int .i64 f2])], []⟩)
            (Close_accZ hacc (by omega) (by decide) ⟨hb100, hno5.1, hno5.2.1, hno5.2.2.1, hno5.2.2.2, trivial⟩ fun M6 hM6 hno6 hrs => Close_freeze fun he hb hno7 => Close_id ⟨_, hM6.trans he, RS_ext he (fun _ _ h => h) hrs, hb, ⟨hno7.1, hno7.2.1, hno7.2.2.1, hno7.2.2.2.1⟩, rfl⟩) ?_ bod34
          rintro h' ⟨M6, hM6, hrs, h100, n6', rfl⟩
          have h16 := (hM1.trans hM2).trans ((hM3.trans hM4).trans (hM5.trans hM6))
          obtain ⟨hkk, hokon⟩ := hon i l[i] (List.getElem?_eq_getElem hlt) (by omega)
          refine rCall_one [(b13, _), (b8, _), (b6, _)] (exR all _ l[i].on (Nat.le_refl _) M6 T100 b100 bb _ _ _ _ f2 hrs h100 (RX_ext (hM2.trans ((hM3.trans hM4).trans (hM5.trans hM6))) _ _ hso) hokon) ?_ (fun _ _ _ _ _ _ h => h.elim)
          rintro r M7 L7 hM7 hk7 hno7 ⟨⟨ys2, rfl, hye⟩, rfl, -⟩
          simp only [List.cons_append, List.nil_append, noneL, and_true] at hno7
          obtain ⟨s6, rfl, hs6, _⟩ := REx_form hye
          obtain ⟨z0, z1, z2, z3, z4, z5, z6, z7, z8, z9⟩ := hm12 (((hM3.trans hM4).trans hM5).trans (hM6.trans hM7))
          simp +contextual only [go_sem, Rcb, Rbk, sevalprocAttr, hlv, hs6]
          intro b21 T21 hb21 hap21 hT21 hTb21
          obtain ⟨L3, hL3⟩ : ∃ L3 : List (Nat × Value), L3 = [(0, .pointer (some ⟨bb, 0, none⟩)), (1, .slice ra rels.length rc), (6, .pointer (some ⟨b6, 0, none⟩)), (8, .pointer (some ⟨b8, 0, none⟩)), (22, .slice (some ⟨b', o', none⟩) l.length c), (23, .int .i64 (l.length : Int)), (24, .int .i64 (i : Int)), (12, .pointer (some ⟨b12, 0, none⟩)), (13, .pointer (some ⟨b13, 0, none⟩)), (21, .pointer (some ⟨b21, 0, none⟩)), (9, .slice na names.length nc), (10, st (seen ++ barS (asOf l[i]))), (18, .slice za all.length zc)] := ⟨_, rfl⟩
          obtain ⟨X, hX⟩ : ∃ X, X = (exprR all l[i].on f2).1 := ⟨_, rfl⟩
          obtain ⟨f3, hf3⟩ : ∃ f3, f3 = (exprR all l[i].on f2).2 := ⟨_, rfl⟩
          rw [← hX, ← hf3]
          rw [← hX, ← hf3] at hres
          rw [← hX] at hye
          have h57 := hM6.trans hM7
          have hc := RPl_one_cells hp
          have hpz := RPl_ext ((hM2.trans h25).trans h57) _ _ hp
          have hqz := RPl_ext ((hM4.trans hM5).trans h57) _ _ hqp
          refine draw_cut (fun e ds h => ds = [] ∧ live e L3 ∧ ∃ b105 T8 M8 g2 g3 g4 g5 g6 g7 xv av s, ExtT T21 T8 ∧ Ext M7 M8 ∧ (M8 b21 = none ∧ M8 b13 = none ∧ M8 b8 = none ∧ M8 b6 = none ∧ M8 bb = none) ∧ (((¬ b105 = b21 ∧ ¬ b21 = b105) ∧ (¬ b105 = b8 ∧ ¬ b8 = b105))) ∧
            (g2.oneCell' = true ∧ g3.oneCell' = true ∧ g4.oneCell' = true ∧ g5.oneCell' = true ∧ g6.oneCell' = true ∧ g7.oneCell' = true ∧ xv.oneCell' = true ∧ av.oneCell' = true ∧ s.oneCell' = true) ∧
            (∀ {M' : Mem} {y : Ex} {yc : List Value}, Ext M8 M' → REx M' y yc → RPl M' (.mk (joinK l[i].k) 0 y [] [] [p, q.1]) ([.int .i64 (joinK l[i].k), .int .i64 0] ++ (yc ++ [xv, av, s]))) ∧
            h = ⟨T8, M8, [(b105, [.int .i64 0, .int .i64 0, .int .i64 4, .int .i64 5, .int .i64 6, .int .i64 7]), (b21, [.int .i64 X.k, .int .i64 X.v.k, .int .i64 X.v.n, st X.v.t, .int .i64 X.c, s6]), (b13, [d0, d1, d2, d3, d4, d5, d6, d7, d8, d9, d10]), (b8, [.int .i64 (joinK l[i].k), .int .i64 0, g2, g3, g4, g5, g6, g7, xv, av, s]), (b6, z11), (bb, [.int .i64 f3])], []⟩) (fun S' hS' => ?_) ?_
          · refine draw_all ?_
            rcases (show l[i].k = 2 ∨ l[i].k = 3 ∨ l[i].k = 4 ∨ l[i].k = 5 by omega) with hk | hk | hk | hk
            · simp +contextual only [go_sem, Rcb, Rbk, sevalprocAttr, hlv, z0, hk, hno7, hp13, hap21, hpp, hb21]
              refine ⟨?_, ?_⟩
              · intro b105 hb105 hap105
                refine anew_all (Sub_ML1 Ext.rfl' ⟨hb21, hno7.1, hno7.2.1, hno7.2.2.1, hno7.2.2.2, trivial⟩ ⟨hap105.1, hap105.2.1, hap105.2.2.1, hap105.2.2.2.1, hap105.2.2.2.2, trivial⟩) ?_
                simp +contextual only [go_sem, Rcb, Rbk, sevalprocAttr, hlv, z0, hk, hno7, hp13, hap21, hpp, hb21, hb105, hd, hc]
                intro b112 hb112 hap112
                refine ⟨Sub_ML1 Ext.rfl' ⟨hb105, hb21, hno7.1, hno7.2.1, hno7.2.2.1, hno7.2.2.2, trivial⟩ ⟨hap112.1, hap112.2.1, hap112.2.2.1, hap112.2.2.2.1, hap112.2.2.2.2.1, hap112.2.2.2.2.2, trivial⟩, ?_⟩
                refine rCall_close (k := fun h' => ∃ M8, Ext M7 M8 ∧ M8 b112 = some [c0, c1, c2, c3, c4, c5, c6, c7, c8, c9, c10, d0, d1, d2, d3, d4, d5, d6, d7, d8, d9, d10] ∧ (M8 b105 = none ∧ M8 b21 = none ∧ M8 b13 = none ∧ M8 b8 = none ∧ M8 b6 = none ∧ M8 bb = none) ∧
                  h' = ⟨T21, M8, [(b105, [.int .i64 0, .int .i64 0, .int .i64 4, .int .i64 5, .int .i64 6, .int .i64 7]), (b21, [.int .i64 X.k, .int .i64 X.v.k, .int .i64 X.v.n, st X.v.t, .int .i64 X.c, s6]), (b13, [d0, d1, d2, d3, d4, d5, d6, d7, d8, d9, d10]), (b8, [c0, c1, c2, c3, c4, c5, c6, c7, c8, c9, c10]), (b6, z11), (bb, [.int .i64 f3])], []⟩)
                  (Close_freeze fun he h112 hno8 => Close_id ⟨_, he, h112, ⟨hno8.1, hno8.2.1, hno8.2.2.1, hno8.2.2.2.1, hno8.2.2.2.2.1, hno8.2.2.2.2.2.1⟩, rfl⟩) ?_ bod33
                rintro h' ⟨M8, hM8, h112, hno8, rfl⟩
                have hkids := RPl_two (cs := [c0, c1, c2, c3, c4, c5, c6, c7, c8, c9, c10]) (ds := [d0, d1, d2, d3, d4, d5, d6, d7, d8, d9, d10]) h112 (RPl_ext hM8 _ _ hpz) (RPl_ext hM8 _ _ hqz)
                refine rCall_pure (ct_over 4 hkids T21) ?_ (fun _ _ _ _ h => h.elim)
                rintro r M9 hM9 hno9 ⟨cs9, rfl, h9⟩
                simp only [noneL, and_true] at hno9
                obtain ⟨g2, g3, g4, g5, g6, g7, xv, av, s9, rfl, hg9, hset⟩ := RPl_setX h9
                simp only [Pl.k, Pl.n, Pl.xs, Pl.ags, Pl.kids] at hset
                simp +contextual only [go_sem, Rcb, Rbk, sevalprocAttr, hlv, z0, hk, hno9, hp13, hap21, hpp, hap105, hg9, Pl.k, Pl.n]
                refine ⟨Sub_ML (hM8.trans hM9) ⟨hno9.1, hno9.2.1, hno9.2.2.1, hno9.2.2.2.1, hno9.2.2.2.2.1, hno9.2.2.2.2.2, trivial⟩, ?_⟩
                refine hS' _ _ _ ⟨rfl, ?_, b105, T21, M9, g2, g3, g4, g5, g6, g7, xv, av, s9, ExtT.rfl', hM8.trans hM9, ⟨hno9.2.1, hno9.2.2.1, hno9.2.2.2.1, hno9.2.2.2.2.1, hno9.2.2.2.2.2⟩, ⟨hap105.1, hap105.2.2.1⟩, hg9, ?_, ?_⟩
                · rw [hL3]; simp only [live, hlv, e18, go_sem, Rcb, Rbk, sevalprocAttr]
                · rw [hk]; exact hset
                · rw [hk]; rfl
              · intro b112 hb112 hap112
                refine ⟨Sub_ML1 Ext.rfl' ⟨hb21, hno7.1, hno7.2.1, hno7.2.2.1, hno7.2.2.2, trivial⟩ ⟨hap112.1, hap112.2.1, hap112.2.2.1, hap112.2.2.2.1, hap112.2.2.2.2, trivial⟩, ?_⟩
                intro b105 hb105 hap105
                refine ⟨⟨T21, M7, [(b105, [.int .i64 0, .int .i64 0, .int .i64 4, .int .i64 5, .int .i64 6, .int .i64 7]), (b21, [.int .i64 X.k, .int .i64 X.v.k, .int .i64 X.v.n, st X.v.t, .int .i64 X.c, s6]), (b13, [d0, d1, d2, d3, d4, d5, d6, d7, d8, d9, d10]), (b8, [c0, c1, c2, c3, c4, c5, c6, c7, c8, c9, c10]), (b6, z11), (bb, [.int .i64 f3])], []⟩, Sub_ML1 Ext.rfl' ⟨hb21, hno7.1, hno7.2.1, hno7.2.2.1, hno7.2.2.2, trivial⟩ ⟨hap105.2.1, hap105.2.2.1, hap105.2.2.2.1, hap105.2.2.2.2.1, hap105.2.2.2.2.2, trivial⟩, fun _ => ?_, ?_⟩
                · refine Sub.trans ?_ (Sub_swap (x := (b112, [c0, c1, c2, c3, c4, c5, c6, c7, c8, c9, c10, d0, d1, d2, d3, d4, d5, d6, d7, d8, d9, d10])) (T0 := T21) (R0 := []) hap105.1.2)
                  exact Sub_ML1 Ext.rfl' ⟨hb105, hb21, hno7.1, hno7.2.1, hno7.2.2.1, hno7.2.2.2, trivial⟩ ⟨hap105.1.symm, hap112.1, hap112.2.1, hap112.2.2.1, hap112.2.2.2.1, hap112.2.2.2.2, trivial⟩
                simp +contextual only [go_sem, Rcb, Rbk, sevalprocAttr, hlv, z0, hk, hno7, hp13, hap21, hpp, hb21, hb105, hap105]
                refine rCall_close (k := fun h' => ∃ M8, Ext M7 M8 ∧ M8 b112 = some [c0, c1, c2, c3, c4, c5, c6, c7, c8, c9, c10, d0, d1, d2, d3, d4, d5, d6, d7, d8, d9, d10] ∧ (M8 b105 = none ∧ M8 b21 = none ∧ M8 b13 = none ∧ M8 b8 = none ∧ M8 b6 = none ∧ M8 bb = none) ∧
                  h' = ⟨T21, M8, [(b105, [.int .i64 0, .int .i64 0, .int .i64 4, .int .i64 5, .int .i64 6, .int .i64 7]), (b21, [.int .i64 X.k, .int .i64 X.v.k, .int .i64 X.v.n, st X.v.t, .int .i64 X.c, s6]), (b13, [d0, d1, d2, d3, d4, d5, d6, d7, d8, d9, d10]), (b8, [c0, c1, c2, c3, c4, c5, c6, c7, c8, c9, c10]), (b6, z11), (bb, [.int .i64 f3])], []⟩)
                  (Close_perm (List.Perm.swap _ _ _) (Close_freeze fun he h112 hno8 => Close_id ⟨_, he, h112, ⟨hno8.1, hno8.2.1, hno8.2.2.1, hno8.2.2.2.1, hno8.2.2.2.2.1, hno8.2.2.2.2.2.1⟩, rfl⟩)) ?_ bod33
                rintro h' ⟨M8, hM8, h112, hno8, rfl⟩
                have hkids := RPl_two (cs := [c0, c1, c2, c3, c4, c5, c6, c7, c8, c9, c10]) (ds := [d0, d1, d2, d3, d4, d5, d6, d7, d8, d9, d10]) h112 (RPl_ext hM8 _ _ hpz) (RPl_ext hM8 _ _ hqz)
                refine rCall_pure (ct_over 4 hkids T21) ?_ (fun _ _ _ _ h => h.elim)
                rintro r M9 hM9 hno9 ⟨cs9, rfl, h9⟩
                simp only [noneL, and_true] at hno9
                obtain ⟨g2, g3, g4, g5, g6, g7, xv, av, s9, rfl, hg9, hset⟩ := RPl_setX h9
                simp only [Pl.k, Pl.n, Pl.xs, Pl.ags, Pl.kids] at hset
                simp +contextual only [go_sem, Rcb, Rbk, sevalprocAttr, hlv, z0, hk, hno9, hp13, hap21, hpp, hap105, hg9, Pl.k, Pl.n]
                refine ⟨Sub_ML (hM8.trans hM9) ⟨hno9.1, hno9.2.1, hno9.2.2.1, hno9.2.2.2.1, hno9.2.2.2.2.1, hno9.2.2.2.2.2, trivial⟩, ?_⟩
                refine hS' _ _ _ ⟨rfl, ?_, b105, T21, M9, g2, g3, g4, g5, g6, g7, xv, av, s9, ExtT.rfl', hM8.trans hM9, ⟨hno9.2.1, hno9.2.2.1, hno9.2.2.2.1, hno9.2.2.2.2.1, hno9.2.2.2.2.2⟩, ⟨hap105.2.1, hap105.2.2.2.1⟩, hg9, ?_, ?_⟩
                · rw [hL3]; simp only [live, hlv, e18, go_sem, Rcb, Rbk, sevalprocAttr]
                · rw [hk]; exact hset
                · rw [hk]; rfl
            · simp +contextual only [go_sem, Rcb, Rbk, sevalprocAttr, hlv, z0, hk, hno7, hp13, hap21, hpp, hb21]
              refine ⟨?_, ?_⟩
              · intro b105 hb105 hap105
                refine anew_all (Sub_ML1 Ext.rfl' ⟨hb21, hno7.1, hno7.2.1, hno7.2.2.1, hno7.2.2.2, trivial⟩ ⟨hap105.1, hap105.2.1, hap105.2.2.1, hap105.2.2.2.1, hap105.2.2.2.2, trivial⟩) ?_
                simp +contextual only [go_sem, Rcb, Rbk, sevalprocAttr, hlv, z0, hk, hno7, hp13, hap21, hpp, hb21, hb105, hd, hc]
                intro b112 hb112 hap112
                refine ⟨Sub_ML1 Ext.rfl' ⟨hb105, hb21, hno7.1, hno7.2.1, hno7.2.2.1, hno7.2.2.2, trivial⟩ ⟨hap112.1, hap112.2.1, hap112.2.2.1, hap112.2.2.2.1, hap112.2.2.2.2.1, hap112.2.2.2.2.2, trivial⟩, ?_⟩
                refine rCall_close (k := fun h' => ∃ M8, Ext M7 M8 ∧ M8 b112 = some [c0, c1, c2, c3, c4, c5, c6, c7, c8, c9, c10, d0, d1, d2, d3, d4, d5, d6, d7, d8, d9, d10] ∧ (M8 b105 = none ∧ M8 b21 = none ∧ M8 b13 = none ∧ M8 b8 = none ∧ M8 b6 = none ∧ M8 bb = none) ∧
                  h' = ⟨T21, M8, [(b105, [.int .i64 0, .int .i64 0, .int .i64 4, .int .i64 5, .int .i64 6, .int .i64 7]), (b21, [.int .i64 X.k, .int .i64 X.v.k, .int .i64 X.v.n, st X.v.t, .int .i64 X.c, s6]), (b13, [d0, d1, d2, d3, d4, d5, d6, d7, d8, d9, d10]), (b8, [c0, c1, c2, c3, c4, c5, c6, c7, c8, c9, c10]), (b6, z11), (bb, [.int .i64 f3])], []⟩)
                  (Close_freeze fun he h112 hno8 => Close_id ⟨_, he, h112, ⟨hno8.1, hno8.2.1, hno8.2.2.1, hno8.2.2.2.1, hno8.2.2.2.2.1, hno8.2.2.2.2.2.1⟩, rfl⟩) ?_ bod33
                rintro h' ⟨M8, hM8, h112, hno8, rfl⟩
                have hkids := RPl_two (cs := [c0, c1, c2, c3, c4, c5, c6, c7, c8, c9, c10]) (ds := [d0, d1, d2, d3, d4, d5, d6, d7, d8, d9, d10]) h112 (RPl_ext hM8 _ _ hpz) (RPl_ext hM8 _ _ hqz)
                refine rCall_pure (ct_over 5 hkids T21) ?_ (fun _ _ _ _ h => h.elim)
                rintro r M9 hM9 hno9 ⟨cs9, rfl, h9⟩
                simp only [noneL, and_true] at hno9
                obtain ⟨g2, g3, g4, g5, g6, g7, xv, av, s9, rfl, hg9, hset⟩ := RPl_setX h9
                simp only [Pl.k, Pl.n, Pl.xs, Pl.ags, Pl.kids] at hset
                simp +contextual only [go_sem, Rcb, Rbk, sevalprocAttr, hlv, z0, hk, hno9, hp13, hap21, hpp, hap105, hg9, Pl.k, Pl.n]
                refine ⟨Sub_ML (hM8.trans hM9) ⟨hno9.1, hno9.2.1, hno9.2.2.1, hno9.2.2.2.1, hno9.2.2.2.2.1, hno9.2.2.2.2.2, trivial⟩, ?_⟩
                refine hS' _ _ _ ⟨rfl, ?_, b105, T21, M9, g2, g3, g4, g5, g6, g7, xv, av, s9, ExtT.rfl', hM8.trans hM9, ⟨hno9.2.1, hno9.2.2.1, hno9.2.2.2.1, hno9.2.2.2.2.1, hno9.2.2.2.2.2⟩, ⟨hap105.1, hap105.2.2.1⟩, hg9, ?_, ?_⟩
                · rw [hL3]; simp only [live, hlv, e18, go_sem, Rcb, Rbk, sevalprocAttr]
                · rw [hk]; exact hset
                · rw [hk]; rfl
              · intro b112 hb112 hap112
                refine ⟨Sub_ML1 Ext.rfl' ⟨hb21, hno7.1, hno7.2.1, hno7.2.2.1, hno7.2.2.2, trivial⟩ ⟨hap112.1, hap112.2.1, hap112.2.2.1, hap112.2.2.2.1, hap112.2.2.2.2, trivial⟩, ?_⟩
                intro b105 hb105 hap105
                refine ⟨⟨T21, M7, [(b105, [.int .i64 0, .int .i64 0, .int .i64 4, .int .i64 5, .int .i64 6, .int .i64 7]), (b21, [.int .i64 X.k, .int .i64 X.v.k, .int .i64 X.v.n, st X.v.t, .int .i64 X.c, s6]), (b13, [d0, d1, d2, d3, d4, d5, d6, d7, d8, d9, d10]), (b8, [c0, c1, c2, c3, c4, c5, c6, c7, c8, c9, c10]), (b6, z11), (bb, [.int .i64 f3])], []⟩, Sub_ML1 Ext.rfl' ⟨hb21, hno7.1, hno7.2.1, hno7.2.2.1, hno7.2.2.2, trivial⟩ ⟨hap105.2.1, hap105.2.2.1, hap105.2.2.2.1, hap105.2.2.2.2.1, hap105.2.2.2.2.2, trivial⟩, fun _ => ?_, ?_⟩
                · refine Sub.trans ?_ (Sub_swap (x := (b112, [c0, c1, c2, c3, c4, c5, c6, c7, c8, c9, c10, d0, d1, d2, d3, d4, d5, d6, d7, d8, d9, d10])) (T0 := T21) (R0 := []) hap105.1.2)
                  exact Sub_ML1 Ext.rfl' ⟨hb105, hb21, hno7.1, hno7.2.1, hno7.2.2.1, hno7.2.2.2, trivial⟩ ⟨hap105.1.symm, hap112.1, hap112.2.1, hap112.2.2.1, hap112.2.2.2.1, hap112.2.2.2.2, trivial⟩
                simp +contextual only [go_sem, Rcb, Rbk, sevalprocAttr, hlv, z0, hk, hno7, hp13, hap21, hpp, hb21, hb105, hap105]
                refine rCall_close (k := fun h' => ∃ M8, Ext M7 M8 ∧ M8 b112 = some [c0, c1, c2, c3, c4, c5, c6, c7, c8, c9, c10, d0, d1, d2, d3, d4, d5, d6, d7, d8, d9, d10] ∧ (M8 b105 = none ∧ M8 b21 = none ∧ M8 b13 = none ∧ M8 b8 = none ∧ M8 b6 = none ∧ M8 bb = none) ∧
                  h' = ⟨T21, M8, [(b105, [.int .i64 0, .int .i64 0, .int .i64 4, .int .i64 5, .int .i64 6, .int .i64 7]), (b21, [.int .i64 X.k, .int .i64 X.v.k, .int .i64 X.v.n, st X.v.t, .int .i64 X.c, s6]), (b13, [d0, d1, d2, d3, d4, d5, d6, d7, d8, d9, d10]), (b8, [c0, c1, c2, c3, c4, c5, c6, c7, c8, c9, c10]), (b6, z11), (bb, [.int .i64 f3])], []⟩)
                  (Close_perm (List.Perm.swap _ _ _) (Close_freeze fun he h112 hno8 => Close_id ⟨_, he, h112, ⟨hno8.1, hno8.2.1, hno8.2.2.1, hno8.2.2.2.1, hno8.2.2.2.2.1, hno8.2.2.2.2.2.1⟩, rfl⟩)) ?_ bod33
                rintro h' ⟨M8, hM8, h112, hno8, rfl⟩
                have hkids := RPl_two (cs := [c0, c1, c2, c3, c4, c5, c6, c7, c8, c9, c10]) (ds := [d0, d1, d2, d3, d4, d5, d6, d7, d8, d9, d10]) h112 (RPl_ext hM8 _ _ hpz) (RPl_ext hM8 _ _ hqz)
                refine rCall_pure (ct_over 5 hkids T21) ?_ (fun _ _ _ _ h => h.elim)
                rintro r M9 hM9 hno9 ⟨cs9, rfl, h9⟩
                simp only [noneL, and_true] at hno9
                obtain ⟨g2, g3, g4, g5, g6, g7, xv, av, s9, rfl, hg9, hset⟩ := RPl_setX h9
                simp only [Pl.k, Pl.n, Pl.xs, Pl.ags, Pl.kids] at hset
                simp +contextual only [go_sem, Rcb, Rbk, sevalprocAttr, hlv, z0, hk, hno9, hp13, hap21, hpp, hap105, hg9, Pl.k, Pl.n]
                refine ⟨Sub_ML (hM8.trans hM9) ⟨hno9.1, hno9.2.1, hno9.2.2.1, hno9.2.2.2.1, hno9.2.2.2.2.1, hno9.2.2.2.2.2, trivial⟩, ?_⟩
                refine hS' _ _ _ ⟨rfl, ?_, b105, T21, M9, g2, g3, g4, g5, g6, g7, xv, av, s9, ExtT.rfl', hM8.trans hM9, ⟨hno9.2.1, hno9.2.2.1, hno9.2.2.2.1, hno9.2.2.2.2.1, hno9.2.2.2.2.2⟩, ⟨hap105.2.1, hap105.2.2.2.1⟩, hg9, ?_, ?_⟩
                · rw [hL3]; simp only [live, hlv, e18, go_sem, Rcb, Rbk, sevalprocAttr]
                · rw [hk]; exact hset
                · rw [hk]; rfl
            · simp +contextual only [go_sem, Rcb, Rbk, sevalprocAttr, hlv, z0, hk, hno7, hp13, hap21, hpp, hb21]
              refine ⟨?_, ?_⟩
              · intro b105 hb105 hap105
                refine anew_all (Sub_ML1 Ext.rfl' ⟨hb21, hno7.1, hno7.2.1, hno7.2.2.1, hno7.2.2.2, trivial⟩ ⟨hap105.1, hap105.2.1, hap105.2.2.1, hap105.2.2.2.1, hap105.2.2.2.2, trivial⟩) ?_
                simp +contextual only [go_sem, Rcb, Rbk, sevalprocAttr, hlv, z0, hk, hno7, hp13, hap21, hpp, hb21, hb105, hd, hc]
                intro b112 hb112 hap112
                refine ⟨Sub_ML1 Ext.rfl' ⟨hb105, hb21, hno7.1, hno7.2.1, hno7.2.2.1, hno7.2.2.2, trivial⟩ ⟨hap112.1, hap112.2.1, hap112.2.2.1, hap112.2.2.2.1, hap112.2.2.2.2.1, hap112.2.2.2.2.2, trivial⟩, ?_⟩
                refine rCall_close (k := fun h' => ∃ M8, Ext M7 M8 ∧ M8 b112 = some [c0, c1, c2, c3, c4, c5, c6, c7, c8, c9, c10, d0, d1, d2, d3, d4, d5, d6, d7, d8, d9, d10] ∧ (M8 b105 = none ∧ M8 b21 = none ∧ M8 b13 = none ∧ M8 b8 = none ∧ M8 b6 = none ∧ M8 bb = none) ∧
                  h' = ⟨T21, M8, [(b105, [.int .i64 0, .int .i64 0, .int .i64 4, .int .i64 5, .int .i64 6, .int .i64 7]), (b21, [.int .i64 X.k, .int .i64 X.v.k, .int .i64 X.v.n, st X.v.t, .int .i64 X.c, s6]), (b13, [d0, d1, d2, d3, d4, d5, d6, d7, d8, d9, d10]), (b8, [c0, c1, c2, c3, c4, c5, c6, c7, c8, c9, c10]), (b6, z11), (bb, [.int .i64 f3])], []⟩)
                  (Close_freeze fun he h112 hno8 => Close_id ⟨_, he, h112, ⟨hno8.1, hno8.2.1, hno8.2.2.1, hno8.2.2.2.1, hno8.2.2.2.2.1, hno8.2.2.2.2.2.1⟩, rfl⟩) ?_ bod33
                rintro h' ⟨M8, hM8, h112, hno8, rfl⟩
                have hkids := RPl_two (cs := [c0, c1, c2, c3, c4, c5, c6, c7, c8, c9, c10]) (ds := [d0, d1, d2, d3, d4, d5, d6, d7, d8, d9, d10]) h112 (RPl_ext hM8 _ _ hpz) (RPl_ext hM8 _ _ hqz)
                refine rCall_pure (ct_over 6 hkids T21) ?_ (fun _ _ _ _ h => h.elim)
                rintro r M9 hM9 hno9 ⟨cs9, rfl, h9⟩
                simp only [noneL, and_true] at hno9
                obtain ⟨g2, g3, g4, g5, g6, g7, xv, av, s9, rfl, hg9, hset⟩ := RPl_setX h9
                simp only [Pl.k, Pl.n, Pl.xs, Pl.ags, Pl.kids] at hset
                simp +contextual only [go_sem, Rcb, Rbk, sevalprocAttr, hlv, z0, hk, hno9, hp13, hap21, hpp, hap105, hg9, Pl.k, Pl.n]
                refine ⟨Sub_ML (hM8.trans hM9) ⟨hno9.1, hno9.2.1, hno9.2.2.1, hno9.2.2.2.1, hno9.2.2.2.2.1, hno9.2.2.2.2.2, trivial⟩, ?_⟩
                refine hS' _ _ _ ⟨rfl, ?_, b105, T21, M9, g2, g3, g4, g5, g6, g7, xv, av, s9, ExtT.rfl', hM8.trans hM9, ⟨hno9.2.1, hno9.2.2.1, hno9.2.2.2.1, hno9.2.2.2.2.1, hno9.2.2.2.2.2⟩, ⟨hap105.1, hap105.2.2.1⟩, hg9, ?_, ?_⟩
                · rw [hL3]; simp only [live, hlv, e18, go_sem, Rcb, Rbk, sevalprocAttr]
                · rw [hk]; exact hset
                · rw [hk]; rfl
              · intro b112 hb112 hap112
                refine ⟨Sub_ML1 Ext.rfl' ⟨hb21, hno7.1, hno7.2.1, hno7.2.2.1, hno7.2.2.2, trivial⟩ ⟨hap112.1, hap112.2.1, hap112.2.2.1, hap112.2.2.2.1, hap112.2.2.2.2, trivial⟩, ?_⟩
                intro b105 hb105 hap105
                refine ⟨⟨T21, M7, [(b105, [.int .i64 0, .int .i64 0, .int .i64 4, .int .i64 5, .int .i64 6, .int .i64 7]), (b21, [.int .i64 X.k, .int .i64 X.v.k, .int .i64 X.v.n, st X.v.t, .int .i64 X.c, s6]), (b13, [d0, d1, d2, d3, d4, d5, d6, d7, d8, d9, d10]), (b8, [c0, c1, c2, c3, c4, c5, c6, c7, c8, c9, c10]), (b6, z11), (bb, [.int .i64 f3])], []⟩, Sub_ML1 Ext.rfl' ⟨hb21, hno7.1, hno7.2.1, hno7.2.2.1, hno7.2.2.2, trivial⟩ ⟨hap105.2.1, hap105.2.2.1, hap105.2.2.2.1, hap105.2.2.2.2.1, hap105.2.2.2.2.2, trivial⟩, fun _ => ?_, ?_⟩
                · refine Sub.trans ?_ (Sub_swap (x := (b112, [c0, c1, c2, c3, c4, c5, c6, c7, c8, c9, c10, d0, d1, d2, d3, d4, d5, d6, d7, d8, d9, d10])) (T0 := T21) (R0 := []) hap105.1.2)
                  exact Sub_ML1 Ext.rfl' ⟨hb105, hb21, hno7.1, hno7.2.1, hno7.2.2.1, hno7.2.2.2, trivial⟩ ⟨hap105.1.symm, hap112.1, hap112.2.1, hap112.2.2.1, hap112.2.2.2.1, hap112.2.2.2.2, trivial⟩
                simp +contextual only [go_sem, Rcb, Rbk, sevalprocAttr, hlv, z0, hk, hno7, hp13, hap21, hpp, hb21, hb105, hap105]
                refine rCall_close (k := fun h' => ∃ M8, Ext M7 M8 ∧ M8 b112 = some [c0, c1, c2, c3, c4, c5, c6, c7, c8, c9, c10, d0, d1, d2, d3, d4, d5, d6, d7, d8, d9, d10] ∧ (M8 b105 = none ∧ M8 b21 = none ∧ M8 b13 = none ∧ M8 b8 = none ∧ M8 b6 = none ∧ M8 bb = none) ∧
                  h' = ⟨T21, M8, [(b105, [.int .i64 0, .int .i64 0, .int .i64 4, .int .i64 5, .int .i64 6, .int .i64 7]), (b21, [.int .i64 X.k, .int .i64 X.v.k, .int .i64 X.v.n, st X.v.t, .int .i64 X.c, s6]), (b13, [d0, d1, d2, d3, d4, d5, d6, d7, d8, d9, d10]), (b8, [c0, c1, c2, c3, c4, c5, c6, c7, c8, c9, c10]), (b6, z11), (bb, [.int .i64 f3])], []⟩)
                  (Close_perm (List.Perm.swap _ _ _) (Close_freeze fun he h112 hno8 => Close_id ⟨_, he, h112, ⟨hno8.1, hno8.2.1, hno8.2.2.1, hno8.2.2.2.1, hno8.2.2.2.2.1, hno8.2.2.2.2.2.1⟩, rfl⟩)) ?_ bod33
                rintro h' ⟨M8, hM8, h112, hno8, rfl⟩
                have hkids := RPl_two (cs := [c0, c1, c2, c3, c4, c5, c6, c7, c8, c9, c10]) (ds := [d0, d1, d2, d3, d4, d5, d6, d7, d8, d9, d10]) h112 (RPl_ext hM8 _ _ hpz) (RPl_ext hM8 _ _ hqz)
                refine rCall_pure (ct_over 6 hkids T21) ?_ (fun _ _ _ _ h => h.elim)
                rintro r M9 hM9 hno9 ⟨cs9, rfl, h9⟩
                simp only [noneL, and_true] at hno9
                obtain ⟨g2, g3, g4, g5, g6, g7, xv, av, s9, rfl, hg9, hset⟩ := RPl_setX h9
                simp only [Pl.k, Pl.n, Pl.xs, Pl.ags, Pl.kids] at hset
                simp +contextual only [go_sem, Rcb, Rbk, sevalprocAttr, hlv, z0, hk, hno9, hp13, hap21, hpp, hap105, hg9, Pl.k, Pl.n]
                refine ⟨Sub_ML (hM8.trans hM9) ⟨hno9.1, hno9.2.1, hno9.2.2.1, hno9.2.2.2.1, hno9.2.2.2.2.1, hno9.2.2.2.2.2, trivial⟩, ?_⟩
                refine hS' _ _ _ ⟨rfl, ?_, b105, T21, M9, g2, g3, g4, g5, g6, g7, xv, av, s9, ExtT.rfl', hM8.trans hM9, ⟨hno9.2.1, hno9.2.2.1, hno9.2.2.2.1, hno9.2.2.2.2.1, hno9.2.2.2.2.2⟩, ⟨hap105.2.1, hap105.2.2.2.1⟩, hg9, ?_, ?_⟩
                · rw [hL3]; simp only [live, hlv, e18, go_sem, Rcb, Rbk, sevalprocAttr]
                · rw [hk]; exact hset
                · rw [hk]; rfl
            · simp +contextual only [go_sem, Rcb, Rbk, sevalprocAttr, hlv, z0, hk, hno7, hp13, hap21, hpp, hb21]
              refine ⟨?_, ?_⟩
              · intro b105 hb105 hap105
                refine anew_all (Sub_ML1 Ext.rfl' ⟨hb21, hno7.1, hno7.2.1, hno7.2.2.1, hno7.2.2.2, trivial⟩ ⟨hap105.1, hap105.2.1, hap105.2.2.1, hap105.2.2.2.1, hap105.2.2.2.2, trivial⟩) ?_
                simp +contextual only [go_sem, Rcb, Rbk, sevalprocAttr, hlv, z0, hk, hno7, hp13, hap21, hpp, hb21, hb105, hd, hc]
                intro b112 hb112 hap112
                refine ⟨Sub_ML1 Ext.rfl' ⟨hb105, hb21, hno7.1, hno7.2.1, hno7.2.2.1, hno7.2.2.2, trivial⟩ ⟨hap112.1, hap112.2.1, hap112.2.2.1, hap112.2.2.2.1, hap112.2.2.2.2.1, hap112.2.2.2.2.2, trivial⟩, ?_⟩
                refine rCall_close (k := fun h' => ∃ M8, Ext M7 M8 ∧ M8 b112 = some [c0, c1, c2, c3, c4, c5, c6, c7, c8, c9, c10, d0, d1, d2, d3, d4, d5, d6, d7, d8, d9, d10] ∧ (M8 b105 = none ∧ M8 b21 = none ∧ M8 b13 = none ∧ M8 b8 = none ∧ M8 b6 = none ∧ M8 bb = none) ∧
                  h' = ⟨T21, M8, [(b105, [.int .i64 0, .int .i64 0, .int .i64 4, .int .i64 5, .int .i64 6, .int .i64 7]), (b21, [.int .i64 X.k, .int .i64 X.v.k, .int .i64 X.v.n, st X.v.t, .int .i64 X.c, s6]), (b13, [d0, d1, d2, d3, d4, d5, d6, d7, d8, d9, d10]), (b8, [c0, c1, c2, c3, c4, c5, c6, c7, c8, c9, c10]), (b6, z11), (bb, [.int .i64 f3])], []⟩)
                  (Close_freeze fun he h112 hno8 => Close_id ⟨_, he, h112, ⟨hno8.1, hno8.2.1, hno8.2.2.1, hno8.2.2.2.1, hno8.2.2.2.2.1, hno8.2.2.2.2.2.1⟩, rfl⟩) ?_ bod33
                rintro h' ⟨M8, hM8, h112, hno8, rfl⟩
                have hkids := RPl_two (cs := [c0, c1, c2, c3, c4, c5, c6, c7, c8, c9, c10]) (ds := [d0, d1, d2, d3, d4, d5, d6, d7, d8, d9, d10]) h112 (RPl_ext hM8 _ _ hpz) (RPl_ext hM8 _ _ hqz)
                refine rCall_pure (ct_over 7 hkids T21) ?_ (fun _ _ _ _ h => h.elim)
                rintro r M9 hM9 hno9 ⟨cs9, rfl, h9⟩
                simp only [noneL, and_true] at hno9
                obtain ⟨g2, g3, g4, g5, g6, g7, xv, av, s9, rfl, hg9, hset⟩ := RPl_setX h9
                simp only [Pl.k, Pl.n, Pl.xs, Pl.ags, Pl.kids] at hset
                simp +contextual only [go_sem, Rcb, Rbk, sevalprocAttr, hlv, z0, hk, hno9, hp13, hap21, hpp, hap105, hg9, Pl.k, Pl.n]
                refine ⟨Sub_ML (hM8.trans hM9) ⟨hno9.1, hno9.2.1, hno9.2.2.1, hno9.2.2.2.1, hno9.2.2.2.2.1, hno9.2.2.2.2.2, trivial⟩, ?_⟩
                refine hS' _ _ _ ⟨rfl, ?_, b105, T21, M9, g2, g3, g4, g5, g6, g7, xv, av, s9, ExtT.rfl', hM8.trans hM9, ⟨hno9.2.1, hno9.2.2.1, hno9.2.2.2.1, hno9.2.2.2.2.1, hno9.2.2.2.2.2⟩, ⟨hap105.1, hap105.2.2.1⟩, hg9, ?_, ?_⟩
                · rw [hL3]; simp only [live, hlv, e18, go_sem, Rcb, Rbk, sevalprocAttr]
                · rw [hk]; exact hset
                · rw [hk]; rfl
              · intro b112 hb112 hap112
                refine ⟨Sub_ML1 Ext.rfl' ⟨hb21, hno7.1, hno7.2.1, hno7.2.2.1, hno7.2.2.2, trivial⟩ ⟨hap112.1, hap112.2.1, hap112.2.2.1, hap112.2.2.2.1, hap112.2.2.2.2, trivial⟩, ?_⟩
                intro b105 hb105 hap105
                refine ⟨⟨T21, M7, [(b105, [.int .i64 0, .int .i64 0, .int .i64 4, .int .i64 5, .int .i64 6, .int .i64 7]), (b21, [.int .i64 X.k, .int .i64 X.v.k, .int .i64 X.v.n, st X.v.t, .int .i64 X.c, s6]), (b13, [d0, d1, d2, d3, d4, d5, d6, d7, d8, d9, d10]), (b8, [c0, c1, c2, c3, c4, c5, c6, c7, c8, c9, c10]), (b6, z11), (bb, [.int .i64 f3])], []⟩, Sub_ML1 Ext.rfl' ⟨hb21, hno7.1, hno7.2.1, hno7.2.2.1, hno7.2.2.2, trivial⟩ ⟨hap105.2.1, hap105.2.2.1, hap105.2.2.2.1, hap105.2.2.2.2.1, hap105.2.2.2.2.2, trivial⟩, fun _ => ?_, ?_⟩
                · refine Sub.trans ?_ (Sub_swap (x := (b112, [c0, c1, c2, c3, c4, c5, c6, c7, c8, c9, c10, d0, d1, d2, d3, d4, d5, d6, d7, d8, d9, d10])) (T0 := T21) (R0 := []) hap105.1.2)
                  exact Sub_ML1 Ext.rfl' ⟨hb105, hb21, hno7.1, hno7.2.1, hno7.2.2.1, hno7.2.2.2, trivial⟩ ⟨hap105.1.symm, hap112.1, hap112.2.1, hap112.2.2.1, hap112.2.2.2.1, hap112.2.2.2.2, trivial⟩
                simp +contextual only [go_sem, Rcb, Rbk, sevalprocAttr, hlv, z0, hk, hno7, hp13, hap21, hpp, hb21, hb105, hap105]
                refine rCall_close (k := fun h' => ∃ M8, Ext M7 M8 ∧ M8 b112 = some [c0, c1, c2, c3, c4, c5, c6, c7, c8, c9, c10, d0, d1, d2, d3, d4, d5, d6, d7, d8, d9, d10] ∧ (M8 b105 = none ∧ M8 b21 = none ∧ M8 b13 = none ∧ M8 b8 = none ∧ M8 b6 = none ∧ M8 bb = none) ∧
                  h' = ⟨T21, M8, [(b105, [.int .i64 0, .int .i64 0, .int .i64 4, .int .i64 5, .int .i64 6, .int .i64 7]), (b21, [.int .i64 X.k, .int .i64 X.v.k, .int .i64 X.v.n, st X.v.t, .int .i64 X.c, s6]), (b13, [d0, d1, d2, d3, d4, d5, d6, d7, d8, d9, d10]), (b8, [c0, c1, c2, c3, c4, c5, c6, c7, c8, c9, c10]), (b6, z11), (bb, [.int .i64 f3])], []⟩)
                  (Close_perm (List.Perm.swap _ _ _) (Close_freeze fun he h112 hno8 => Close_id ⟨_, he, h112, ⟨hno8.1, hno8.2.1, hno8.2.2.1, hno8.2.2.2.1, hno8.2.2.2.2.1, hno8.2.2.2.2.2.1⟩, rfl⟩)) ?_ bod33
                rintro h' ⟨M8, hM8, h112, hno8, rfl⟩
                have hkids := RPl_two (cs := [c0, c1, c2, c3, c4, c5, c6, c7, c8, c9, c10]) (ds := [d0, d1, d2, d3, d4, d5, d6, d7, d8, d9, d10]) h112 (RPl_ext hM8 _ _ hpz) (RPl_ext hM8 _ _ hqz)
                refine rCall_pure (ct_over 7 hkids T21) ?_ (fun _ _ _ _ h => h.elim)
                rintro r M9 hM9 hno9 ⟨cs9, rfl, h9⟩
                simp only [noneL, and_true] at hno9
                obtain ⟨g2, g3, g4, g5, g6, g7, xv, av, s9, rfl, hg9, hset⟩ := RPl_setX h9
                simp only [Pl.k, Pl.n, Pl.xs, Pl.ags, Pl.kids] at hset
                simp +contextual only [go_sem, Rcb, Rbk, sevalprocAttr, hlv, z0, hk, hno9, hp13, hap21, hpp, hap105, hg9, Pl.k, Pl.n]
                refine ⟨Sub_ML (hM8.trans hM9) ⟨hno9.1, hno9.2.1, hno9.2.2.1, hno9.2.2.2.1, hno9.2.2.2.2.1, hno9.2.2.2.2.2, trivial⟩, ?_⟩
                refine hS' _ _ _ ⟨rfl, ?_, b105, T21, M9, g2, g3, g4, g5, g6, g7, xv, av, s9, ExtT.rfl', hM8.trans hM9, ⟨hno9.2.1, hno9.2.2.1, hno9.2.2.2.1, hno9.2.2.2.2.1, hno9.2.2.2.2.2⟩, ⟨hap105.2.1, hap105.2.2.2.1⟩, hg9, ?_, ?_⟩
                · rw [hL3]; simp only [live, hlv, e18, go_sem, Rcb, Rbk, sevalprocAttr]
                · rw [hk]; exact hset
                · rw [hk]; rfl
          · clear hlv ht e18
            rintro e ds h ⟨rfl, hlv, b105, T9, M8, g2, g3, g4, g5, g6, g7, xv, av, s9, hT9, hM8, hno8, hp105, hg8, hset, rfl⟩
            rw [hL3] at hlv
            simp only [live] at hlv
            have h27 := ((hM3.trans hM4).trans hM5).trans h57
            obtain ⟨z0, z1, z2, z3, z4, z5, z6, z7, z8, z9⟩ := hm12 (h27.trans hM8)
            have hyX := REx_ext hM8 _ _ hye
            have hNN := ((((hN1.trans hT12).trans hT13).trans hN4).trans (hN5.trans hN6)).trans ((hT100.trans hT21).trans hT9)
            have hMM := (((hM1.trans hM2).trans ((hM3.trans hM4).trans hM5)).trans h57).trans hM8
            simp +contextual only [go_sem, Rcb, Rbk, sevalprocAttr, hlv, z0, hs6, hp13, hap21, hpp, hno8, hp105]
            by_cases hb2 : l[i].k = 2 ∨ l[i].k = 5
            · rw [if_pos hb2] at hres ⊢
              refine lp_close (Close_drop (Close_drop (Close_drop (Close_id ⟨l.length - (i + 1), by omega, rfl, i + 1, by omega, rfl, ?_, ?_, T9, M8, _, all, seen ++ barS (asOf l[i]), f3, _, _, _, _, _, _, _, _, _, _, _, _, hNN, hMM, hno8.2.2.1, hno8.2.2.2.1, hno8.2.2.2.2, hset Ext.rfl' hyX, ?_, RS_ext (hM7.trans hM8) (fun _ _ h => h) hrs, ?_, ?_, ?_, hres, rfl⟩))))
              · simp only [live, hlv, go_sem, Rcb, Rbk, sevalprocAttr]
              · simp only [hlv, go_sem, Rcb, Rbk, sevalprocAttr, wrap_succ i (by omega)]
              · simp only [hlv, go_sem, Rcb, Rbk, sevalprocAttr]
              · simp only [hlv, go_sem, Rcb, Rbk, sevalprocAttr]
              · rw [List.length_append, hpl]; omega
              · rw [hall, List.length_append, List.length_map]; omega
            · rw [if_neg hb2] at hres ⊢
              refine lp_close (Close_drop (Close_drop (Close_drop (Close_id ⟨l.length - (i + 1), by omega, rfl, i + 1, by omega, rfl, ?_, ?_, T9, M8, _, names, seen ++ barS (asOf l[i]), f3, _, _, _, _, _, _, _, _, _, _, _, _, hNN, hMM, hno8.2.2.1, hno8.2.2.2.1, hno8.2.2.2.2, hset Ext.rfl' hyX, ?_, RS_ext (((hM2.trans h25).trans h57).trans hM8) (fun _ _ h => h) hnv, ?_, ?_, ?_, hres, rfl⟩))))
              · simp only [live, hlv, go_sem, Rcb, Rbk, sevalprocAttr]
              · simp only [hlv, go_sem, Rcb, Rbk, sevalprocAttr, wrap_succ i (by omega)]
              · simp only [hlv, go_sem, Rcb, Rbk, sevalprocAttr]
              · simp only [hlv, go_sem, Rcb, Rbk, sevalprocAttr]
              · rw [List.length_append, hpl]; omega
              · exact Nat.le_trans hnml (Nat.mul_le_mul_right _ (Nat.le_succ i))
  · have : i = l.length := by omega
    subst this
    rw [List.drop_length, fromR, ← hW] at hres
    obtain ⟨_, _, _, _, _, _, _, _, _, _, _, hcx, hc⟩ := RPl_cells hp
    cases hcx
    simp +contextual only [go_sem, Rcb, Rbk, sevalprocAttr, hlv, ht, hlt, e9, n8, n6, hpp, hc]
    exact Close_drop (Close_drop (end_id hTT rfl rfl ⟨⟨_, _, rfl, by rw [← hres]; exact hp, by rw [← hres]; exact hnv⟩, by rw [← hres], rfl⟩))
theorem Hp_swapR {c N M L} {r1 r2 : Value × TypeId × Nat × List Value} {R w bs} (hi : Hp c ⟨N, M, L, r1 :: r2 :: R⟩ w bs) : ∃ bs', Hp c ⟨N, M, L, r2 :: r1 :: R⟩ w bs' := by
  obtain ⟨hlen, hrow⟩ := hi.rows
  match bs, hlen with
  | o1 :: o2 :: bs, hlen =>
    have hp : (L.map (·.1) ++ (o1 :: o2 :: bs).filterMap id).Perm (L.map (·.1) ++ (o2 :: o1 :: bs).filterMap id) := ((List.Perm.swap _ _ _).filterMap id).append_left _
    exact ⟨o2 :: o1 :: bs,
    { typ := hi.typ
      holds := hi.holds
      blk := hi.blk
      rows := ⟨by simpa using hlen, fun i v e sz xs o h1 h2 => by
        match i with
        | 0 => exact hrow 1 v e sz xs o (by simpa using h1) (by simpa using h2)
        | 1 => exact hrow 0 v e sz xs o (by simpa using h1) (by simpa using h2)
        | i + 2 => exact hrow (i + 2) v e sz xs o (by simpa using h1) (by simpa using h2)⟩
      nodup := hp.nodup_iff.1 hi.nodup
      apart := fun b hb => hi.apart b (hp.mem_iff.2 hb)
      os := hi.os
      tape := hi.tape
      output := hi.output
      size := hi.size
      old := hi.old
      mem := hi.mem
      le := hi.le }⟩
theorem Close_swapR {N M L r1 r2 R} {k : Sh → Prop} (hk : Close ⟨N, M, L, r2 :: r1 :: R⟩ k) : Close ⟨N, M, L, r1 :: r2 :: R⟩ k := fun c w hw => by
  obtain ⟨bs, hi⟩ := hw
  obtain ⟨bs', hi'⟩ := Hp_swapR hi
  exact hk c w ⟨bs', hi'⟩
theorem Close_swapA {α β : Type} {N M L} {el el' : TypeId} {sz sz' : Nat} {r : α → List Value → Prop} {r' : β → List Value → Prop} {R0 R1 R2 : RR} {fv gv : Value} {acc : List α} {bcc : List β} {k : Sh → Prop}
    (h1 : Acc el sz r R0 R1 fv acc) (h2 : Acc el' sz' r' R1 R2 gv bcc) (hk : ∀ R1' R2', Acc el' sz' r' R0 R1' gv bcc → Acc el sz r R1' R2' fv acc → Close ⟨N, M, L, R2'⟩ k) : Close ⟨N, M, L, R2⟩ k := by
  rcases h1 with ⟨rfl, rfl, rfl⟩ | ⟨a, c, xs, rfl, h3, rfl⟩
  · rcases h2 with ⟨rfl, rfl, rfl⟩ | ⟨a', c', xs', rfl, h3', rfl⟩
    · exact hk _ _ (.inl ⟨rfl, rfl, rfl⟩) (.inl ⟨rfl, rfl, rfl⟩)
    · exact hk _ _ (.inr ⟨a', c', xs', rfl, h3', rfl⟩) (.inl ⟨rfl, rfl, rfl⟩)
  · rcases h2 with ⟨rfl, rfl, rfl⟩ | ⟨a', c', xs', rfl, h3', rfl⟩
    · exact hk _ _ (.inl ⟨rfl, rfl, rfl⟩) (.inr ⟨a, c, xs, rfl, h3, rfl⟩)
    · exact Close_swapR (hk _ _ (.inr ⟨a', c', xs', rfl, h3', rfl⟩) (.inr ⟨a, c, xs, rfl, h3, rfl⟩))
theorem rCall_acc2 {α β : Type} {F : Fi} {f : FuncId} {args : List Value} {dd : Option Nat} {s : List Vc.Item} {e : Env} {ds : List Deferred} {N : Tm} {M : Mem} {el el' : TypeId} {sz sz' : Nat} {r : α → List Value → Prop} {r' : β → List Value → Prop} {R0 R1 R2 : RR} {fv gv : Value} {acc : List α} {bcc : List β} {post : PostP} (L1 : LL) {Lp : LL}
    (hc : CtT Tryz.prog f args N M Lp R0 post noPan) (h1 : Acc el sz r R0 R1 fv acc) (h2 : Acc el' sz' r' R1 R2 gv bcc)
    (hn : ∀ v M' L' R0' R1' R2', Ext M M' → keys L' = keys Lp → R0'.length = R0.length → noneL M' (L1 ++ L') → post v M' L' R0' → Acc el sz r R0' R1' fv acc → Acc el' sz' r' R1' R2' gv bcc → Run Tryz.prog F s (updo e dd v) ds ⟨N, M', L1 ++ L', R2'⟩ ⟨⟩) : rCall Tryz.prog F f args dd s e ds ⟨N, M, L1 ++ Lp, R2⟩ ⟨⟩ := by
  have key : ∀ (Rx Ry : RR) (R2 : RR) (L2 : LL), L2 = L1 ++ Lp ++ [] → R2 = (Ry ++ Rx) ++ R0 ++ [] → (∀ R0', Acc el sz r R0' (Rx ++ R0') fv acc) → (∀ R0', Acc el' sz' r' R0' (Ry ++ R0') gv bcc) → rCall Tryz.prog F f args dd s e ds ⟨N, M, L2, R2⟩ ⟨⟩ := by
    rintro Rx Ry _ _ rfl rfl hx hy
    refine rCall_of L1 Lp [] (Ry ++ Rx) R0 [] hc (fun v M' L' R' hM hk hR hno hq => ?_) (fun ch M' L' R' hM hk hR hno hq => hq.elim)
    have k2 : ∀ (L2 : LL) (R2 : RR), L2 = L1 ++ L' → R2 = Ry ++ (Rx ++ R') → Run Tryz.prog F s (updo e dd v) ds ⟨N, M', L2, R2⟩ ⟨⟩ := by
      rintro _ _ rfl rfl
      exact hn v M' L' R' _ _ hM hk hR (by simpa using hno) hq (hx R') (hy _)
    exact k2 _ _ (by simp) (by simp)
  rcases h1 with ⟨rfl, rfl, rfl⟩ | ⟨a, c, xs, rfl, h3, rfl⟩
  · rcases h2 with ⟨rfl, rfl, rfl⟩ | ⟨a', c', xs', rfl, h3', rfl⟩
    · exact key [] [] _ _ (by simp) (by simp) (fun R0' => .inl ⟨rfl, rfl, rfl⟩) (fun R0' => .inl ⟨rfl, rfl, rfl⟩)
    · exact key [] [(.slice a' bcc.length c', el', sz', xs')] _ _ (by simp) (by simp) (fun R0' => .inl ⟨rfl, rfl, rfl⟩) (fun R0' => .inr ⟨a', c', xs', rfl, h3', rfl⟩)
  · rcases h2 with ⟨rfl, rfl, rfl⟩ | ⟨a', c', xs', rfl, h3', rfl⟩
    · exact key [(.slice a acc.length c, el, sz, xs)] [] _ _ (by simp) (by simp) (fun R0' => .inr ⟨a, c, xs, rfl, h3, rfl⟩) (fun R0' => .inl ⟨rfl, rfl, rfl⟩)
    · exact key [(.slice a acc.length c, el, sz, xs)] [(.slice a' bcc.length c', el', sz', xs')] _ _ (by simp) (by simp) (fun R0' => .inr ⟨a, c, xs, rfl, h3, rfl⟩) (fun R0' => .inr ⟨a', c', xs', rfl, h3', rfl⟩)
theorem rCall_rows {F : Fi} {f : FuncId} {args : List Value} {dd : Option Nat} {s : List Vc.Item} {e : Env} {ds : List Deferred} {N : Tm} {M : Mem} {R : RR} {post : PostP} (L1 : LL) {Lp : LL} (hc : CtT Tryz.prog f args N M Lp R post noPan)
    (hn : ∀ v M' L' R', Ext M M' → keys L' = keys Lp → R'.length = R.length → noneL M' (L1 ++ L') → post v M' L' R' → Run Tryz.prog F s (updo e dd v) ds ⟨N, M', L1 ++ L', R'⟩ ⟨⟩) : rCall Tryz.prog F f args dd s e ds ⟨N, M, L1 ++ Lp, R⟩ ⟨⟩ := by
  have key : ∀ (R2 : RR) (L2 : LL), L2 = L1 ++ Lp ++ [] → R2 = [] ++ R ++ [] → rCall Tryz.prog F f args dd s e ds ⟨N, M, L2, R2⟩ ⟨⟩ := by
    rintro _ _ rfl rfl
    refine rCall_of L1 Lp [] [] R [] hc (fun v M' L' R' hM hk hR hno hq => ?_) (fun ch M' L' R' hM hk hR hno hq => hq.elim)
    have k2 : ∀ (L2 : LL) (R2 : RR), L2 = L1 ++ L' → R2 = R' → Run Tryz.prog F s (updo e dd v) ds ⟨N, M', L2, R2⟩ ⟨⟩ := by
      rintro _ _ rfl rfl
      exact hn v M' L' _ hM hk hR (by simpa using hno) hq
    exact k2 _ _ (by simp) (by simp)
  exact key _ _ (by simp) (by simp)
def evX (grp : Bool) (names : List (Bs × Bs)) (keys : List X) (x : X) (e : Int) (ags : List Ag) : Ex × Int × List Ag := if grp = true then exprH names keys x e ags else ((exprR names x e).1, (exprR names x e).2, ags)
def evsX (grp : Bool) (names : List (Bs × Bs)) (keys : List X) : List X → Int → List Ag → List Ex × Int × List Ag
  | [], e, ags => ([], e, ags)
  | x :: l, e, ags => let y := evX grp names keys x e ags; let z := evsX grp names keys l y.2.1 y.2.2; (y.1 :: z.1, z.2.1, z.2.2)
theorem evsX_true (names : List (Bs × Bs)) (keys : List X) : ∀ (l : List X) (e : Int) (ags : List Ag), evsX true names keys l e ags = exprsH names keys l e ags
  | [], e, ags => by rw [evsX, exprsH]
  | x :: l, e, ags => by
    rw [evsX, exprsH]
    simp only [evsX_true names keys l, evX, if_true]
theorem evsX_false (names : List (Bs × Bs)) (keys : List X) : ∀ (l : List X) (e : Int) (ags : List Ag), evsX false names keys l e ags = ((exprsR names l e).1, (exprsR names l e).2, ags)
  | [], e, ags => by rw [evsX, exprsR]
  | x :: l, e, ags => by
    rw [evsX, exprsR]
    simp only [evsX_false names keys l, evX, if_false, Bool.false_eq_true]
theorem evX_cnt (grp : Bool) (names : List (Bs × Bs)) (keys : List X) (x : X) (e : Int) (ags : List Ag) : (evX grp names keys x e ags).2.2.length ≤ ags.length + cntX x := by
  unfold evX
  split
  · exact exprH_cnt _ _ _ _ _
  · exact Nat.le_add_right _ _
def preV (acc : List Ex) (r : List Ex × Int × List Ag) : List Ex × Int × List Ag := (acc ++ r.1, r.2)
theorem preV_cons (grp : Bool) (names : List (Bs × Bs)) (keys : List X) (x : X) (l : List X) (e : Int) (ags : List Ag) (acc : List Ex) : preV acc (evsX grp names keys (x :: l) e ags) = preV (acc ++ [(evX grp names keys x e ags).1]) (evsX grp names keys l (evX grp names keys x e ags).2.1 (evX grp names keys x e ags).2.2) := by
  rw [evsX]; simp [preV]
def EnvS (grp : Bool) (M : Mem) (vb bb : Nat) (lv kv : Value) (L : LL) (R : RR) (e : Int) (ags : List Ag) : Prop :=
  if grp = true then AgV M vb bb lv kv L R e ags else (∃ av, M vb = some [lv, .bool false, kv, av]) ∧ L = [(bb, [.int .i64 e])] ∧ R = []
theorem EnvS_keys {grp : Bool} {M : Mem} {vb bb : Nat} {lv kv : Value} {L : LL} {R : RR} {e : Int} {ags : List Ag} (h : EnvS grp M vb bb lv kv L R e ags) : keys L = (if grp = true then [vb, bb] else [bb]) := by
  unfold EnvS at h
  split at h
  · rename_i hg
    obtain ⟨a, c, xs, rfl, _⟩ := h
    rw [if_pos hg]; rfl
  · rename_i hg
    obtain ⟨_, rfl, _⟩ := h
    rw [if_neg hg]; rfl
theorem AgV_mono {M M' : Mem} {vb bb : Nat} {lv kv : Value} {L : LL} {R : RR} {e : Int} {ags : List Ag} (h : AgV M vb bb lv kv L R e ags) (he : Ext M M') : AgV M' vb bb lv kv L R e ags := by
  obtain ⟨a, c, xs, h1, h2, h3⟩ := h
  exact ⟨a, c, xs, h1, h2, RL_mono (fun x cs h => RAg_ext he x cs h) h3⟩
theorem EnvS_mono {grp : Bool} {M M' : Mem} {vb bb : Nat} {lv kv : Value} {L : LL} {R : RR} {e : Int} {ags : List Ag} (h : EnvS grp M vb bb lv kv L R e ags) (he : Ext M M') : EnvS grp M' vb bb lv kv L R e ags := by
  unfold EnvS at h ⊢
  split
  · rename_i hg
    rw [if_pos hg] at h
    exact AgV_mono h he
  · rename_i hg
    rw [if_neg hg] at h
    obtain ⟨⟨av, h1⟩, h2⟩ := h
    exact ⟨⟨av, he _ _ h1⟩, h2⟩
theorem ct_ev {grp : Bool} {names : List (Bs × Bs)} {keys : List X} (hkl : keys.length ≤ 1048576) (hkok : ∀ y ∈ keys, okX y) {x : X} {M : Mem} {vb bb : Nat} {lv kv : Value} {cs : List Value} {e : Int} {ags : List Ag} {L : LL} {R : RR} (hlv : RS M RCl 2 names lv) (hkv : grp = true → RS M (RX M) 7 keys kv) (hA : EnvS grp M vb bb lv kv L R e ags) (hcnt : ags.length + cntX x ≤ 1048576) (hx : RX M x cs) (hok : okX x) (T : Tm) :
    CtT Tryz.prog 34 [.pointer (some ⟨vb, 0, none⟩), .pointer (some ⟨bb, 0, none⟩), .agg ⟨cs⟩] T M L R (fun r M' L' R' => (∃ ys, r = .agg ⟨ys⟩ ∧ REx M' (evX grp names keys x e ags).1 ys) ∧ EnvS grp M' vb bb lv kv L' R' (evX grp names keys x e ags).2.1 (evX grp names keys x e ags).2.2) noPan := by
  cases grp with
  | true =>
    unfold EnvS evX at *
    simp only [if_true] at *
    exact exH names keys hkl hkok _ x (Nat.le_refl _) M T vb bb lv kv cs e ags L R hlv (hkv trivial) hA hcnt hx hok
  | false =>
    unfold EnvS evX at *
    simp only [if_false, Bool.false_eq_true] at *
    obtain ⟨⟨av, hvb⟩, rfl, rfl⟩ := hA
    refine CtT.mono (exR names _ x (Nat.le_refl _) M T vb bb lv kv av cs e hlv hvb hx hok) ?_ (fun _ _ _ _ _ _ _ h => h)
    rintro v M' L' R' he hk hR ⟨h1, h2, h3⟩
    exact ⟨h1, ⟨av, he _ _ hvb⟩, h2, h3⟩
def whR (names : List (Bs × Bs)) (s : Se) (p : Pl) (e : Int) : Pl × Int := if s.hasW = true then (.mk 2 0 (exprR names s.wh e).1 [] [] [p], (exprR names s.wh e).2) else (p, e)
def hvR (names : List (Bs × Bs)) (s : Se) (e : Int) (ags : List Ag) : Ex × Int × List Ag := if s.hasH = true then exprH names s.group s.hv e ags else (zeroE, e, ags)
def grpR (names : List (Bs × Bs)) (s : Se) (e : Int) : List Ex × Int := if groupedS s = true then exprsR names s.group e else ([], e)
def bodyR (s : Se) (p : Pl) (names : List (Bs × Bs)) (e : Int) : (Pl × List Bs) × Int :=
  if s.star = true then ((p, names.map (·.2)), if groupedS s = true then putE e 8 else e)
  else
    let k := grpR names s e
    let it := evsX (groupedS s) names s.group (s.items.map (·.x)) k.2 []
    if groupedS s = true then
      let h := hvR names s it.2.1 it.2.2
      let g : Pl := .mk 12 0 zeroE k.1 h.2.2 [p]
      ((.mk 3 0 zeroE it.1 [] [if s.hasH = true then .mk 2 0 h.1 [] [] [g] else g], calledL 0 s.items), h.2.1)
    else ((.mk 3 0 zeroE it.1 [] [p], calledL 0 s.items), it.2.1)
def selR2 (s : Se) (p : Pl) (names : List (Bs × Bs)) (e : Int) : (Pl × List Bs) × Int := let b := bodyR s p names e; ((if s.distinct = true then .mk 11 0 zeroE [] [] [b.1.1] else b.1.1, b.1.2), b.2)
def selR (rels : List Rel) (s : Se) (e : Int) : (Pl × List Bs) × Int :=
  let f := fromR rels s.src 0 zeroP [] [] e
  let w := whR f.1.2 s f.1.1 f.2
  selR2 s w.1 f.1.2 w.2
theorem selR_eq {rels : List Rel} {s : Se} {e : Int} {p : Pl} {names : List (Bs × Bs)} {e1 : Int} (h : fromR rels s.src 0 zeroP [] [] e = ((p, names), e1)) : selR rels s e = selR2 s (whR names s p e1).1 names (whR names s p e1).2 := by unfold selR; rw [h]
theorem fromR_len {rels : List Rel} (hc : ∀ r ∈ rels, r.cols.length ≤ 1048576) : ∀ (l : List So) (i : Nat) (p : Pl) (names : List (Bs × Bs)) (seen : Bs) (e : Int), (fromR rels l i p names seen e).1.2.length ≤ names.length + l.length * 1048576
  | [], i, p, names, seen, e => by rw [fromR]; simp
  | s :: l, i, p, names, seen, e => by
    rw [fromR_cons rels s l i p names seen e rfl rfl rfl rfl]
    have h := findR_cols hc s.name
    have e1 : (s :: l).length * 1048576 = l.length * 1048576 + 1048576 := Nat.succ_mul _ _
    rw [e1]
    have hall : (names ++ (findR rels s.name).2.map fun c => (asOf s, c.name)).length ≤ names.length + 1048576 := by
      rw [List.length_append, List.length_map]; omega
    split
    · have := fromR_len hc l 1 (findR rels s.name).1 (names ++ (findR rels s.name).2.map fun c => (asOf s, c.name)) (seen ++ barS (asOf s)) (if occA seen (barS (asOf s)) = true then putE (if (findG s.name 0 rels).isSome = true then e else putE e 7) 7 else if (findG s.name 0 rels).isSome = true then e else putE e 7)
      omega
    · refine Nat.le_trans (fromR_len hc l _ _ _ _ _) ?_
      split <;> omega
theorem ct_overX {M : Mem} (k : Int) {sa : Option Addr} {n sc : Nat} (T : Tm) : CtT Tryz.prog 33 [.int .i64 k, .slice sa n sc] T M [] [] (fun r M' _ _ => r = .agg ⟨[.int .i64 k, .int .i64 0, .int .i64 0, .int .i64 0, .int .i64 0, st [], .int .i64 0, .slice none 0 0, .slice none 0 0, .slice none 0 0, .slice sa n sc]⟩) noPan := by
  refine ct_run mx bod33 Tryz.func33 rfl (by rw [nt33]; exact Nat.le_of_ble_eq_true rfl) (dr := dr33) (by kernel_rfl) rs33 ?_
  intro hno _
  simp +contextual only [go_sem, Rcb, Rbk, sevalprocAttr]
  intro b4 T4 hb4 hT4 hTb4
  exact end_none hT4 rfl
theorem RPl_build {M : Mem} {k n : Int} {xs : List Ex} {ags : List Ag} {kids : List Pl} {xv av s : Value} (h1 : RS M (REx M) 6 xs xv) (h2 : RS M (RAg M) 7 ags av) (h3 : RS M (RPl M) 11 kids s) : RPl M (.mk k n zeroE xs ags kids) [.int .i64 k, .int .i64 n, .int .i64 0, .int .i64 0, .int .i64 0, st [], .int .i64 0, .slice none 0 0, xv, av, s] :=
  RPl_iff.2 ⟨[.int .i64 0, .int .i64 0, .int .i64 0, st [], .int .i64 0, .slice none 0 0], xv, av, s, rfl, REx_iff.2 ⟨_, rfl, RS_nil⟩, h1, h2, h3⟩
def preR (acc : List Ex) (r : List Ex × Int) : List Ex × Int := (acc ++ r.1, r.2)
theorem preR_cons (names : List (Bs × Bs)) (x : X) (l : List X) (e : Int) (acc : List Ex) : preR acc (exprsR names (x :: l) e) = preR (acc ++ [(exprR names x e).1]) (exprsR names l (exprR names x e).2) := by
  rw [exprsR]; simp [preR]
def kvG (s : Se) (ap : Option Addr) (aq : Nat) : Value := if groupedS s = true then .slice ap s.group.length aq else .slice none 0 0
set_option maxHeartbeats 4000000 in
theorem ct_SelectR {M : Mem} {bb : Nat} {rels : List Rel} {rv : Value} {s : Se} {cs : List Value} (e0 : Int) (hr : RS M (RRel M) 14 rels rv) (hcols : ∀ r ∈ rels, r.cols.length ≤ 1048576) (hs : RSe M s cs) (hok : OkSe s) (hnl : ∀ x ∈ s.src, (asOf x).length ≤ 1000) (T : Tm) :
    CtT Tryz.prog 32 [.pointer (some ⟨bb, 0, none⟩), rv, .agg ⟨cs⟩] T M [(bb, [.int .i64 e0])] [] (fun r M' L' R' => (∃ qs nv, r = .tuple ⟨[.agg ⟨qs⟩, nv]⟩ ∧ RPl M' (selR rels s e0).1.1 qs ∧ RS M' RSt 1 (selR rels s e0).1.2 nv) ∧ L' = [(bb, [.int .i64 (selR rels s e0).2])] ∧ R' = []) noPan := by
  obtain ⟨ai, aj, af, ag, aw, ah, ap, aq, rfl, hi, hf, hw, hv, hgr, ow, ov⟩ := RSe_form hs
  obtain ⟨_, ra, rc, rfl, _⟩ := RS_elim (by decide) (fun _ _ => RRel_len) hr
  obtain ⟨W, hW⟩ : ∃ W, W = selR rels s e0 := ⟨_, rfl⟩
  rw [← hW]
  refine ct_run mx bod32 Tryz.func32 rfl (by rw [nt32]; exact Nat.le_of_ble_eq_true rfl) (dr := dr32) (by kernel_rfl) rs32 ?_
  intro hno _
  simp only [noneL, and_true] at hno
  simp +contextual only [go_sem, Rcb, Rbk, sevalprocAttr, ow, ov]
  intro b5 T5 hb5 hap5 hT5 hTb5 b6 T6 hb6 hap6 hT6 hTb6
  refine rCall_close (k := fun h' => ∃ M1, Ext M M1 ∧ M1 b5 = some [.bool s.distinct, .bool s.star, .slice ai s.items.length aj, .slice af s.src.length ag, .bool s.hasW, .bool s.hasH, .int .i64 s.wh.k, .int .i64 s.wh.v.k, .int .i64 s.wh.v.n, st s.wh.v.t, st s.wh.tab, st s.wh.name, aw, .int .i64 s.hv.k, .int .i64 s.hv.v.k, .int .i64 s.hv.v.n, st s.hv.v.t, st s.hv.tab, st s.hv.name, ah, .slice ap s.group.length aq] ∧ M1 b6 = none ∧ M1 bb = none ∧ h' = ⟨T6, M1, [(b6, z11), (bb, [.int .i64 e0])], []⟩)
    (Close_perm (List.Perm.swap _ _ _) (Close_freeze fun he h5 hno1 => Close_id ⟨_, he, h5, hno1.1, hno1.2.1, rfl⟩)) ?_ bod69
  rintro h' ⟨M1, hM1, h5, n6, nb, rfl⟩
  have hT := hT5.trans hT6
  refine rCall_one [(b6, z11)] (ct_From e0 (RS_ext hM1 (RRel_ext hM1) hr) hcols (RS_ext hM1 (RSo_ext hM1) hf) hok.src hok.on hnl T6) ?_ (fun _ _ _ _ _ _ h => h.elim)
  obtain ⟨⟨⟨p, names⟩, e1⟩, hfm⟩ : ∃ F, fromR rels s.src 0 zeroP [] [] e0 = F := ⟨_, rfl⟩
  have hnlen : names.length ≤ 16777216 := by
    have h1 := fromR_len hcols s.src 0 zeroP [] [] e0
    rw [hfm] at h1
    have h2 : s.src.length * 1048576 ≤ 16 * 1048576 := Nat.mul_le_mul_right _ hok.src
    simp only [List.length_nil] at h1
    omega
  rw [selR_eq hfm] at hW
  rw [hfm]
  rintro r M2 L2 hM2 hk2 hno2 ⟨⟨cs2, nv, rfl, hp, hnv⟩, rfl, -⟩
  simp only [List.cons_append, List.nil_append, noneL, and_true] at hno2
  simp only at hp hnv
  obtain ⟨c0, c1, c2, c3, c4, c5, c6, c7, c8, c9, c10, rfl, hc⟩ := RPl_cells hp
  obtain ⟨_, na, nc, rfl, _, _, hlg⟩ := RS_elim (by decide) (fun _ _ => RCl_len) hnv
  have z := At21 ((At_self h5).ext hM2)
  simp only [Nat.zero_add] at z
  have hM12 := hM1.trans hM2
  simp +contextual only [go_sem, sevalprocAttr, hc, z]
  intro b8 T8 hb8 hap8 hT8 hTb8
  have hpp : (¬ b8 = b6 ∧ ¬ b6 = b8) ∧ (¬ b8 = bb ∧ ¬ bb = b8) ∧ (¬ b6 = bb ∧ ¬ bb = b6) := ⟨hap8.1, hap8.2, hap6.2⟩
  obtain ⟨LB, hLB⟩ : ∃ LB : List (Nat × Value), LB = [(0, .pointer (some ⟨bb, 0, none⟩)), (5, .pointer (some ⟨b5, 0, none⟩)), (6, .pointer (some ⟨b6, 0, none⟩)), (8, .pointer (some ⟨b8, 0, none⟩)), (9, .slice na names.length nc)] := ⟨_, rfl⟩
  refine cond_cut (fun e ds h => ds = [] ∧ live e LB ∧ ∃ N' M' p2 f2 d0 d1 d2 d3 d4 d5 d6 d7 d8 d9 d10, ExtT T8 N' ∧ Ext M2 M' ∧ (M' b8 = none ∧ M' b6 = none ∧ M' bb = none) ∧ RPl M' p2 [d0, d1, d2, d3, d4, d5, d6, d7, d8, d9, d10] ∧ W = selR2 s p2 names f2 ∧
    h = ⟨N', M', [(b8, [d0, d1, d2, d3, d4, d5, d6, d7, d8, d9, d10]), (b6, z11), (bb, [.int .i64 f2])], []⟩) (fun S' hS' => ?_) ?_
  · cases hWh : s.hasW with
    | false =>
      simp +contextual only [go_sem, Rcb, Rbk, sevalprocAttr]
      refine hS' _ _ _ ⟨rfl, ?_, T8, M2, p, e1, _, _, _, _, _, _, _, _, _, _, _, ExtT.rfl', Ext.rfl', ⟨hb8, hno2.1, hno2.2⟩, hp, ?_, rfl⟩
      · rw [hLB]; simp only [live, go_sem, Rcb, Rbk, sevalprocAttr]
      · rw [hW]; unfold whR; rw [hWh]; rfl
    | true =>
      simp +contextual only [go_sem, Rcb, Rbk, sevalprocAttr, z]
      intro b38 T38 hb38 hap38 hT38 hTb38
      refine rCall_frz bod34 fun M3 hM3 h38 hno3 => ?_
      simp only [noneL, and_true] at hno3
      refine rCall_one [(b8, _), (b6, z11)] (exR names _ s.wh (Nat.le_refl _) M3 T38 b38 bb _ _ _ _ e1 (RS_ext hM3 (fun _ _ h => h) hnv) h38 (RX_ext (hM12.trans hM3) _ _ hw) (hok.wh hWh)) ?_ (fun _ _ _ _ _ _ h => h.elim)
      rintro r M4 L4 hM4 hk4 hno4 ⟨⟨ys, rfl, hye⟩, rfl, -⟩
      simp only [List.cons_append, List.nil_append, noneL, and_true] at hno4
      obtain ⟨s6, rfl, hs6, _⟩ := REx_form hye
      simp +contextual only [go_sem, Rcb, Rbk, sevalprocAttr, hs6]
      intro b10 T10 hb10 hap10 hT10 hTb10
      simp +contextual only [go_sem, Rcb, Rbk, sevalprocAttr, hc, hno4, hpp, hap10]
      intro bk hbk hapk
      refine rCall_close (k := fun h' => ∃ M5, Ext M4 M5 ∧ M5 bk = some [c0, c1, c2, c3, c4, c5, c6, c7, c8, c9, c10] ∧ M5 b10 = some [.int .i64 (exprR names s.wh e1).1.k, .int .i64 (exprR names s.wh e1).1.v.k, .int .i64 (exprR names s.wh e1).1.v.n, st (exprR names s.wh e1).1.v.t, .int .i64 (exprR names s.wh e1).1.c, s6] ∧ (M5 b8 = none ∧ M5 b6 = none ∧ M5 bb = none) ∧
        h' = ⟨T10, M5, [(b8, [c0, c1, c2, c3, c4, c5, c6, c7, c8, c9, c10]), (b6, z11), (bb, [.int .i64 (exprR names s.wh e1).2])], []⟩)
        (Close_freeze fun he hk _ => Close_freeze fun he2 h10 hno5 => Close_id ⟨_, he.trans he2, he2 _ _ hk, h10, ⟨hno5.1, hno5.2.1, hno5.2.2.1⟩, rfl⟩) ?_ bod33
      rintro h' ⟨M5, hM5, hk, h10, hno5, rfl⟩
      have h25 := (hM3.trans hM4).trans hM5
      refine rCall_pure (ct_over 2 (RPl_one hk (RPl_ext h25 _ _ hp)) T10) ?_ (fun _ _ _ _ h => h.elim)
      rintro r M6 hM6 hno6 ⟨cs6, rfl, h6⟩
      simp only [noneL, and_true] at hno6
      obtain ⟨g2, g3, g4, g5, g6, g7, xv, av, s9, rfl, hg6, hset⟩ := RPl_setX h6
      simp only [Pl.k, Pl.n, Pl.xs, Pl.ags, Pl.kids] at hset
      obtain ⟨x0, x1, x2, x3, x4, x5⟩ := At6 (At_self (hM6 _ _ h10))
      simp +contextual only [go_sem, Rcb, Rbk, sevalprocAttr, hno6, hpp, hap10, hg6, Pl.k, Pl.n, x0, x1, x2, x3, x4, x5, hs6]
      refine hS' _ _ _ ⟨rfl, ?_, T10, M6, _, _, _, _, _, _, _, _, _, _, _, _, _, (hT38.trans hT10), h25.trans hM6, hno6, hset Ext.rfl' (REx_ext (hM5.trans hM6) _ _ hye), ?_, rfl⟩
      · rw [hLB]; simp only [live, go_sem, Rcb, Rbk, sevalprocAttr]
      · rw [hW]; unfold whR; rw [hWh]; rfl
  clear hp hc z
  rintro e ds h ⟨rfl, hlv, N3, M3, p2, f2, c0, c1, c2, c3, c4, c5, c6, c7, c8, c9, c10, hN3, hM3, hno3, hp, hW2, rfl⟩
  clear hW
  rw [hLB] at hlv
  simp only [live] at hlv
  have hc := RPl_one_cells hp
  have z := At21 ((At_self h5).ext (hM2.trans hM3))
  simp only [Nat.zero_add] at z
  simp only [Run_seq]
  obtain ⟨g0, hg0⟩ : ∃ g0, g0 = (decide (0 < s.group.length) || s.hasH) := ⟨_, rfl⟩
  obtain ⟨HB, hHB⟩ : ∃ HB : LL, HB = [(b8, [c0, c1, c2, c3, c4, c5, c6, c7, c8, c9, c10]), (b6, z11), (bb, [.int .i64 f2])] := ⟨_, rfl⟩
  refine run_cut (fun e ds h => ds = [] ∧ live e LB ∧ e 11 = .bool g0 ∧ h = ⟨N3, M3, HB, []⟩) (fun S' hS' => ?_) ?_
  · cases hH : s.hasH with
    | true =>
      simp +contextual only [go_sem, Rcb, Rbk, sevalprocAttr, hlv, z, hH]
      refine hS' _ _ _ ⟨rfl, ?_, ?_, by rw [hHB]⟩
      · rw [hLB]; simp only [live, hlv, hH, go_sem, Rcb, Rbk, sevalprocAttr]
      · rw [hg0, hH]; simp [hH, go_sem, Rcb, Rbk, sevalprocAttr]
    | false =>
      simp +contextual only [go_sem, Rcb, Rbk, sevalprocAttr, hlv, z, hH]
      refine hS' _ _ _ ⟨rfl, ?_, ?_, by rw [hHB]⟩
      · rw [hLB]; simp only [live, hlv, hH, go_sem, Rcb, Rbk, sevalprocAttr]
      · rw [hg0, hH]; simp [hH, go_sem, Rcb, Rbk, sevalprocAttr]
  clear hlv
  rintro e ds h ⟨rfl, hlv, e11, rfl⟩
  rw [hLB] at hlv
  simp only [live] at hlv
  obtain ⟨hib, _, hig⟩ : s.items.length ≤ 140737488355328 ∧ s.items.length ≤ aj ∧ ∀ (i : Nat) (x : It), s.items[i]? = some x → ∃ b o cs, ai = some ⟨b, o, none⟩ ∧ At M b (o + i * 8) cs ∧ RIt M x cs := by
    obtain ⟨h1, a', c', h2, h3, _, h4⟩ := RS_elim (by decide) (fun _ _ => RIt_len) hi
    injection h2 with h5 h6 h7
    subst h5 h7
    exact ⟨h1, h3, h4⟩
  simp +contextual only [go_sem, Rcb, Rbk, sevalprocAttr, hlv, z, e11]
  refine loop_range s.items.length 59 [(0, .pointer (some ⟨bb, 0, none⟩)), (5, .pointer (some ⟨b5, 0, none⟩)), (6, .pointer (some ⟨b6, 0, none⟩)), (8, .pointer (some ⟨b8, 0, none⟩)), (9, .slice na names.length nc), (57, .slice ai s.items.length aj), (58, .int .i64 (s.items.length : Int))]
    (fun i e h => e 11 = .bool (g0 || (!s.star && (s.items.take i).any fun i => hasX i.x)) ∧ ∃ N' M', ExtT N3 N' ∧ Ext M3 M' ∧ (M' b8 = none ∧ M' b6 = none ∧ M' bb = none) ∧ h = ⟨N', M', HB, []⟩)
    0 (by omega) (by simp only [live, hlv, go_sem, Rcb, Rbk, sevalprocAttr]) (by simp only [go_sem, Rcb, Rbk, sevalprocAttr]) ⟨by simp [e11, go_sem, Rcb, Rbk, sevalprocAttr], N3, M3, ExtT.rfl', Ext.rfl', hno3, rfl⟩ ?_
  clear hlv e11
  rintro i e h hi' hlv ht ⟨e11, N4, M4, hN4, hM4, hno4, rfl⟩
  simp only [live] at hlv
  replace z := At21 ((At_self h5).ext ((hM2.trans hM3).trans hM4))
  simp only [Nat.zero_add] at z
  by_cases hlt : i < s.items.length
  · obtain ⟨b', o', cs', rfl, hatI, hrx⟩ := hig i s.items[i] (List.getElem?_eq_getElem hlt)
    obtain ⟨aw', rfl, hxx, h1'⟩ := RIt_form hrx
    obtain ⟨y0, y1, y2, y3, y4, y5, y6, y7⟩ := At8 (hatI.ext ((hM12.trans hM3).trans hM4))
    have htk : ((s.items.take (i + 1)).any fun i => hasX i.x) = (((s.items.take i).any fun i => hasX i.x) || hasX s.items[i].x) := by
      rw [List.take_succ_eq_append_getElem hlt, List.any_append]; simp
    obtain ⟨gi, hgi⟩ : ∃ gi, gi = (g0 || (!s.star && (s.items.take i).any fun i => hasX i.x)) := ⟨_, rfl⟩
    rw [← hgi] at e11
    simp +contextual only [go_sem, sevalprocAttr, hlv, ht, hlt, y0, y1, y2, y3, y4, y5, y6, y7, h1']
    rw [rCond_bool, if_pos (by simp)]
    simp +contextual only [go_sem, Rcb, Rbk, sevalprocAttr, hlv, ht, hlt, y0, y1, y2, y3, y4, y5, y6, y7, h1']
    intro b13 T13 hb13 hap13 hT13 hTb13
    have hnewe : ∀ (M5 : Mem), Ext M4 M5 → Ext M3 M5 := fun _ h => hM4.trans h
    cases hgt : gi with
    | true =>
      simp +contextual only [go_sem, Rcb, Rbk, sevalprocAttr, hlv, ht, e11, hgt, z]
      refine lp_close (Close_drop (Close_id ⟨s.items.length - (i + 1), by omega, rfl, i + 1, by omega, rfl, ?_, ?_, ?_, T13, M4, hN4.trans hT13, hM4, hno4, rfl⟩))
      · simp only [live, hlv, go_sem, Rcb, Rbk, sevalprocAttr]
      · simp only [ht, go_sem, Rcb, Rbk, sevalprocAttr, wrap_succ i (by omega)]
      · have : (g0 || (!s.star && (s.items.take (i + 1)).any fun i => hasX i.x)) = true := by
          rw [hgi] at hgt
          rw [htk]
          exact (show ∀ (a b c d : Bool), (a || (!b && c)) = true → (a || (!b && (c || d))) = true by decide) _ _ _ _ hgt
        simp only [this, e11, hgt, go_sem, Rcb, Rbk, sevalprocAttr]
    | false =>
      rw [hgi] at hgt
      cases hS : s.star with
      | true =>
        rw [hgi, hgt] at e11
        simp +contextual only [go_sem, Rcb, Rbk, sevalprocAttr, hlv, ht, e11, z, hS]
        refine lp_close (Close_drop (Close_id ⟨s.items.length - (i + 1), by omega, rfl, i + 1, by omega, rfl, ?_, ?_, ?_, T13, M4, hN4.trans hT13, hM4, hno4, rfl⟩))
        · simp only [live, hlv, go_sem, Rcb, Rbk, sevalprocAttr]
        · simp only [ht, go_sem, Rcb, Rbk, sevalprocAttr, wrap_succ i (by omega)]
        · rw [hS] at hgt
          simp at hgt
          simp [hgt, go_sem, Rcb, Rbk, sevalprocAttr, hS]
      | false =>
        rw [hgi, hgt] at e11
        simp +contextual only [go_sem, Rcb, Rbk, sevalprocAttr, hlv, ht, e11, z, hS, hb13]
        refine rCall_frz bod70 fun M5 hM5 h13 hno5 => ?_
        rw [hHB] at hno5
        simp only [noneL, and_true] at hno5
        refine rCall_pure (ct_Has _ s.items[i].x (Nat.le_refl _) (RX_ext (((hM12.trans hM3).trans hM4).trans hM5) _ _ hxx) T13) ?_ (fun _ _ _ _ h => h.elim)
        rintro r M6 hM6 hno6 rfl
        rw [hHB] at hno6
        simp only [noneL, and_true] at hno6
        simp +contextual only [go_sem, Rcb, Rbk, sevalprocAttr, hlv, ht, hS, e11]
        refine lp_close (Close_id ⟨s.items.length - (i + 1), by omega, rfl, i + 1, by omega, rfl, ?_, ?_, ?_, T13, M6, hN4.trans hT13, hM4.trans (hM5.trans hM6), hno6, rfl⟩)
        · simp only [live, hlv, go_sem, Rcb, Rbk, sevalprocAttr]
        · simp only [ht, go_sem, Rcb, Rbk, sevalprocAttr, wrap_succ i (by omega)]
        · rw [hS] at hgt
          simp at hgt
          rw [htk]
          simp only [go_sem, Rcb, Rbk, sevalprocAttr]
          rw [hgt.1]
          have : ((s.items.take i).any fun i => hasX i.x) = false := by simpa using hgt.2
          rw [this]
          simp
  · have : i = s.items.length := by omega
    subst this
    simp +contextual only [go_sem, Rcb, Rbk, sevalprocAttr, hlv, ht, hlt]
    replace e11 : e 11 = .bool (groupedS s) := by rw [e11, List.take_length, hg0]; rfl
    replace hp := RPl_ext hM4 _ _ hp
    replace hnv := RS_ext (hM3.trans hM4) (fun _ _ h => h) hnv
    have hM := (hM12.trans hM3).trans hM4
    have hTT := ((hT.trans hT8).trans hN3).trans hN4
    rw [hHB]
    simp +contextual only [go_sem, sevalprocAttr, hlv, ht, hlt, z]
    rw [rCond_bool]
    cases hS : s.star with
    | true =>
      rw [if_pos rfl]
      simp +contextual only [go_sem, sevalprocAttr, hlv, e11]
      obtain ⟨f3, hf3⟩ : ∃ f3, f3 = (if groupedS s = true then putE f2 8 else f2) := ⟨_, rfl⟩
      have hW3 : W = ((if s.distinct = true then .mk 11 0 zeroE [] [] [p2] else p2, names.map (·.2)), f3) := by
        rw [hW2, hf3]; unfold selR2 bodyR; simp only [hS, if_true]
      refine cond_cut (fun e ds h => ds = [] ∧ live e LB ∧ e 14 = .slice none 0 0 ∧ ∃ M', Ext M4 M' ∧ (M' b8 = none ∧ M' b6 = none ∧ M' bb = none) ∧ h = ⟨N4, M', [(b8, [c0, c1, c2, c3, c4, c5, c6, c7, c8, c9, c10]), (b6, z11), (bb, [.int .i64 f3])], []⟩) (fun S' hS' => ?_) ?_
      · rw [rCond_bool]
        cases hG : groupedS s with
        | false =>
          rw [hG, if_neg (by decide)] at hf3
          simp +contextual only [go_sem, Rcb, Rbk, sevalprocAttr, hlv]
          refine hS' _ _ _ ⟨rfl, ?_, ?_, M4, Ext.rfl', hno4, by rw [hf3]⟩
          · rw [hLB]; simp only [live, hlv, go_sem, Rcb, Rbk, sevalprocAttr]
          · simp only [go_sem, Rcb, Rbk, sevalprocAttr]
        | true =>
          rw [hG, if_pos rfl] at hf3
          simp +contextual only [go_sem, Rcb, Rbk, sevalprocAttr, hlv]
          refine rCall_one [(b8, _), (b6, _)] (ct_put f2 8 N4) ?_ (fun _ _ _ _ _ _ h => h.elim)
          rintro r M5 L5 hM5 hk5 hno5 ⟨rfl, -⟩
          simp only [List.cons_append, List.nil_append, noneL, and_true] at hno5
          simp +contextual only [go_sem, Rcb, Rbk, sevalprocAttr]
          refine hS' _ _ _ ⟨rfl, ?_, ?_, M5, hM5, hno5, by rw [hf3]⟩
          · rw [hLB]; simp only [live, hlv, go_sem, Rcb, Rbk, sevalprocAttr]
          · simp only [go_sem, Rcb, Rbk, sevalprocAttr]
      clear hlv e11 hno4
      rintro e ds h ⟨rfl, hlv, e14, M5, hM5, hno5, rfl⟩
      rw [hLB] at hlv
      simp only [live] at hlv
      replace hp := RPl_ext hM5 _ _ hp
      replace z := At21 ((At_self h5).ext (((hM2.trans hM3).trans hM4).trans hM5))
      simp only [Nat.zero_add] at z
      have hMM := hM.trans hM5
      simp +contextual only [go_sem, Rcb, Rbk, sevalprocAttr, hlv, e14]
      refine loop_range names.length 82 [(0, .pointer (some ⟨bb, 0, none⟩)), (5, .pointer (some ⟨b5, 0, none⟩)), (6, .pointer (some ⟨b6, 0, none⟩)), (8, .pointer (some ⟨b8, 0, none⟩)), (80, .slice na names.length nc), (81, .int .i64 (names.length : Int))]
        (fun i e h => ∃ N' R nv, e 14 = nv ∧ ExtT N4 N' ∧ Acc 9 1 RSt [] R nv ((names.take i).map (·.2)) ∧ h = ⟨N', M5, [(b8, [c0, c1, c2, c3, c4, c5, c6, c7, c8, c9, c10]), (b6, z11), (bb, [.int .i64 f3])], R⟩)
        0 (by omega) (by simp only [live, hlv, go_sem, Rcb, Rbk, sevalprocAttr]) (by simp only [go_sem, Rcb, Rbk, sevalprocAttr]) ⟨N4, [], _, by simp only [e14, go_sem, Rcb, Rbk, sevalprocAttr], ExtT.rfl', Acc_nil, rfl⟩ ?_
      clear hlv e14
      rintro i e h hi' hlv ht ⟨N6, R6, nv, e14, hN6, hacc, rfl⟩
      simp only [live] at hlv
      have hnl2 : ((names.take i).map (·.2)).length = i := by simp; omega
      by_cases hlt : i < names.length
      · obtain ⟨b', o', cs', rfl, hatI, hrx⟩ := hlg i names[i] (List.getElem?_eq_getElem hlt)
        unfold RCl at hrx; subst hrx
        obtain ⟨x0, x1⟩ := At2 (hatI.ext ((hM3.trans hM4).trans hM5))
        simp +contextual only [go_sem, Rcb, Rbk, sevalprocAttr, hlv, ht, hlt, x0, x1]
        intro b16 T16 hb16 hap16 hT16 hTb16
        simp +contextual only [go_sem, Rcb, Rbk, sevalprocAttr, hlv, ht, hlt, x0, x1, hb16, e14]
        intro b19 hb19 hap19
        refine app_acc (Tryz.underlying93) row93 okt93 (x := names[i].2) hacc rfl (fun _ _ => RSt_len) (by intro u hu; simp only [List.mem_singleton] at hu; subst hu; rfl) hb19 (by omega) (by decide) ?_
        intro fv' R' hacc'
        simp +contextual only [go_sem, Rcb, Rbk, sevalprocAttr, hlv, ht, hlt]
        refine lp_close (Close_drop (Close_drop (Close_id ⟨names.length - (i + 1), by omega, rfl, i + 1, by omega, rfl, ?_, ?_, T16, R', fv', ?_, hN6.trans hT16, ?_, rfl⟩)))
        · simp only [live, hlv, go_sem, Rcb, Rbk, sevalprocAttr]
        · simp only [ht, go_sem, Rcb, Rbk, sevalprocAttr, wrap_succ i (by omega)]
        · simp only [go_sem, Rcb, Rbk, sevalprocAttr]
        · rw [List.take_succ_eq_append_getElem hlt, List.map_append]; exact hacc'
      · have : i = names.length := by omega
        subst this
        rw [List.take_length] at hacc hnl2
        simp +contextual only [go_sem, sevalprocAttr, hlv, ht, hlt, z]
        cases hD : s.distinct with
        | false =>
          rw [hD] at hW3
          simp +contextual only [go_sem, Rcb, Rbk, sevalprocAttr, hlv, e14, hc, hno5, hpp, z, hD]
          exact Close_acc hacc (by omega) (by decide) ⟨hno5.1, hno5.2.1, hno5.2.2, trivial⟩ fun M6 hM6 hno6 hrs => Close_drop (Close_drop (end_id (hTT.trans hN6) rfl rfl ⟨⟨_, _, rfl, by rw [hW3]; exact RPl_ext hM6 _ _ hp, by rw [hW3]; exact hrs⟩, by rw [hW3], rfl⟩))
        | true =>
          rw [hD] at hW3
          simp +contextual only [go_sem, Rcb, Rbk, sevalprocAttr, hlv, e14, hc, hno5, hpp, z, hD]
          intro bn hbn hapn
          refine rCall_frz bod33 fun M6 hM6 hn hno6 => ?_
          simp only [noneL, and_true] at hno6
          refine rCall_pure (ct_over 11 (RPl_one hn (RPl_ext hM6 _ _ hp)) N6) ?_ (fun _ _ _ _ h => h.elim)
          rintro r M7 hM7 hno7 ⟨cs7, rfl, h7⟩
          simp only [noneL, and_true] at hno7
          obtain ⟨q0, q1, q2, q3, q4, q5, q6, q7, q8, q9, q10, rfl, hq⟩ := RPl_cells h7
          simp +contextual only [go_sem, Rcb, Rbk, sevalprocAttr, hlv, e14, hq, hno7, hpp]
          exact Close_acc hacc (by omega) (by decide) ⟨hno7.1, hno7.2.1, hno7.2.2, trivial⟩ fun M8 hM8 hno8 hrs => Close_drop (Close_drop (end_id (hTT.trans hN6) rfl rfl ⟨⟨_, _, rfl, by rw [hW3]; exact RPl_ext hM8 _ _ h7, by rw [hW3]; exact hrs⟩, by rw [hW3], rfl⟩))
    | false =>
      rw [if_neg (by decide)]
      simp +contextual only [go_sem, Rcb, Rbk, sevalprocAttr, hlv, hc, hno4, hpp]
      intro b94 T94 hb94 hap94 hT94 hTb94
      intro bk hbk hapk
      refine rCall_close (k := fun h' => ∃ M5, Ext M4 M5 ∧ M5 bk = some [c0, c1, c2, c3, c4, c5, c6, c7, c8, c9, c10] ∧ M5 b94 = some [.slice na names.length nc, .bool false, .slice none 0 0, .slice none 0 0] ∧ (M5 b8 = none ∧ M5 b6 = none ∧ M5 bb = none) ∧
        h' = ⟨T94, M5, [(b8, [c0, c1, c2, c3, c4, c5, c6, c7, c8, c9, c10]), (b6, z11), (bb, [.int .i64 f2])], []⟩)
        (Close_freeze fun he hk _ => Close_freeze fun he2 h94 hno5 => Close_id ⟨_, he.trans he2, he2 _ _ hk, h94, ⟨hno5.1, hno5.2.1, hno5.2.2.1⟩, rfl⟩) ?_ bod33
      rintro h' ⟨M5, hM5, hk, h94, hno5, rfl⟩
      refine rCall_pure (ct_overX 12 T94) ?_ (fun _ _ _ _ h => h.elim)
      rintro r M6 hM6 hno6 rfl
      simp only [noneL, and_true] at hno6
      simp +contextual only [go_sem, sevalprocAttr, hlv]
      intro b18 T18 hb18 hap18 hT18 hTb18
      have h46 := hM5.trans hM6
      replace h94 := hM6 _ _ h94
      replace hk := hM6 _ _ hk
      replace z := At21 ((At_self h5).ext (((hM2.trans hM3).trans hM4).trans h46))
      simp only [Nat.zero_add] at z
      replace hM := hM.trans h46
      replace hTT := (hTT.trans hT94).trans hT18
      replace hnv := RS_ext h46 (fun _ _ h => h) hnv
      replace hp := RPl_ext h46 _ _ hp
      have hkids := RPl_one hk hp
      have hp18 : (¬ b18 = b8 ∧ ¬ b8 = b18) ∧ (¬ b18 = b6 ∧ ¬ b6 = b18) ∧ (¬ b18 = bb ∧ ¬ bb = b18) := ⟨hap18.1, hap18.2.1, hap18.2.2⟩
      obtain ⟨LC, hLC⟩ : ∃ LC : List (Nat × Value), LC = [(0, .pointer (some ⟨bb, 0, none⟩)), (5, .pointer (some ⟨b5, 0, none⟩)), (6, .pointer (some ⟨b6, 0, none⟩)), (8, .pointer (some ⟨b8, 0, none⟩)), (11, .bool (groupedS s)), (14, .slice none 0 0), (18, .pointer (some ⟨b18, 0, none⟩))] := ⟨_, rfl⟩
      refine cond_cut (fun e ds h => ds = [] ∧ live e LC ∧ ∃ vb xkv N' M', e 17 = .pointer (some ⟨vb, 0, none⟩) ∧ ExtT T18 N' ∧ Ext M6 M' ∧ (groupedS s = true → (¬ vb = b18 ∧ ¬ b18 = vb) ∧ (¬ vb = b8 ∧ ¬ b8 = vb) ∧ (¬ vb = b6 ∧ ¬ b6 = vb) ∧ (¬ vb = bb ∧ ¬ bb = vb)) ∧ Close h (fun h' => ∃ M'' LE RE, Ext M' M'' ∧ h' = ⟨N', M'', [(b18, [.int .i64 12, .int .i64 0, .int .i64 0, .int .i64 0, .int .i64 0, st [], .int .i64 0, .slice none 0 0, xkv, .slice none 0 0, .slice (some ⟨bk, 0, none⟩) 1 1]), (b8, [c0, c1, c2, c3, c4, c5, c6, c7, c8, c9, c10]), (b6, z11)] ++ LE, RE⟩ ∧
          noneL M'' ([(b18, [.int .i64 12, .int .i64 0, .int .i64 0, .int .i64 0, .int .i64 0, st [], .int .i64 0, .slice none 0 0, xkv, .slice none 0 0, .slice (some ⟨bk, 0, none⟩) 1 1]), (b8, [c0, c1, c2, c3, c4, c5, c6, c7, c8, c9, c10]), (b6, z11)] ++ LE) ∧ RS M'' (REx M'') 6 (grpR names s f2).1 xkv ∧ EnvS (groupedS s) M'' vb bb (.slice na names.length nc) (kvG s ap aq) LE RE (grpR names s f2).2 [])) (fun S' hS' => ?_) ?_
      · rw [e11, rCond_bool]
        cases hG : groupedS s with
        | false =>
          simp +contextual only [go_sem, Rcb, Rbk, sevalprocAttr, hlv]
          refine hS' _ _ _ ⟨rfl, ?_, b94, .slice none 0 0, T18, M6, ?_, ExtT.rfl', Ext.rfl', fun h => (by rw [hG] at h; cases h), Close_id ⟨M6, [(bb, [.int .i64 f2])], [], Ext.rfl', rfl, ⟨hb18, hno6.1, hno6.2.1, hno6.2.2, trivial⟩, ?_, ?_⟩⟩
          · rw [hLC]; simp only [live, hlv, e11, hG, go_sem, Rcb, Rbk, sevalprocAttr]
          · simp only [go_sem, Rcb, Rbk, sevalprocAttr]
          · unfold grpR; rw [hG]; exact RS_nil
          · unfold grpR EnvS kvG; rw [hG]; exact ⟨⟨_, h94⟩, rfl, rfl⟩
        | true =>
          obtain ⟨hgb, _, hgg⟩ : s.group.length ≤ 140737488355328 ∧ s.group.length ≤ aq ∧ ∀ (i : Nat) (x : X), s.group[i]? = some x → ∃ b o cs, ap = some ⟨b, o, none⟩ ∧ At M b (o + i * 7) cs ∧ RX M x cs := by
            obtain ⟨h1, a', c', h2, h3, _, h4⟩ := RS_elim (by decide) (fun _ _ => RX_len) hgr
            injection h2 with h5 h6 h7
            subst h5 h7
            exact ⟨h1, h3, h4⟩
          have hgle := hok.grp.1
          simp +contextual only [go_sem, Rcb, Rbk, sevalprocAttr, hlv, z]
          refine loop_range s.group.length 102 [(0, .pointer (some ⟨bb, 0, none⟩)), (5, .pointer (some ⟨b5, 0, none⟩)), (6, .pointer (some ⟨b6, 0, none⟩)), (8, .pointer (some ⟨b8, 0, none⟩)), (9, .slice na names.length nc), (11, .bool true), (14, .slice none 0 0), (17, .pointer (some ⟨b94, 0, none⟩)), (18, .pointer (some ⟨b18, 0, none⟩)), (100, .slice ap s.group.length aq), (101, .int .i64 (s.group.length : Int))]
            (fun i e h => ∃ N' M' R fv acc f, ExtT T18 N' ∧ Ext M6 M' ∧ (M' b18 = none ∧ M' b8 = none ∧ M' b6 = none ∧ M' bb = none) ∧ acc.length = i ∧ Acc 38 6 (REx M') [] R fv acc ∧ preR acc (exprsR names (s.group.drop i) f) = exprsR names s.group f2 ∧
              h = ⟨N', M', [(b18, [.int .i64 12, .int .i64 0, .int .i64 0, .int .i64 0, .int .i64 0, st [], .int .i64 0, .slice none 0 0, fv, .slice none 0 0, .slice (some ⟨bk, 0, none⟩) 1 1]), (b8, [c0, c1, c2, c3, c4, c5, c6, c7, c8, c9, c10]), (b6, z11), (bb, [.int .i64 f])], R⟩)
            0 (by omega) (by simp only [live, hlv, e11, hG, go_sem, Rcb, Rbk, sevalprocAttr]) (by simp only [go_sem, Rcb, Rbk, sevalprocAttr]) ⟨T18, M6, [], _, [], f2, ExtT.rfl', Ext.rfl', ⟨hb18, hno6⟩, rfl, Acc_nil, rfl, rfl⟩ ?_
          clear hlv e11
          rintro i e h hi' hlv ht ⟨N7, M7, R7, fv, acc, f, hN7, hM7, hno7, hacl, hacc, hres, rfl⟩
          simp only [live] at hlv
          obtain ⟨fa, fc, hfv⟩ := Acc_form hacc
          by_cases hlt : i < s.group.length
          · obtain ⟨b', o', cs', rfl, hatI, hrx⟩ := hgg i s.group[i] (List.getElem?_eq_getElem hlt)
            obtain ⟨aw', rfl, h1', _⟩ := RX_form hrx
            obtain ⟨y0, y1, y2, y3, y4, y5, y6⟩ := At7 (hatI.ext (hM.trans hM7))
            have hdrop : s.group.drop i = s.group[i] :: s.group.drop (i + 1) := List.drop_eq_getElem_cons hlt
            rw [hdrop, preR_cons] at hres
            subst hfv
            simp +contextual only [go_sem, Rcb, Rbk, sevalprocAttr, hlv, ht, hlt, y0, y1, y2, y3, y4, y5, y6, h1']
            intro b20 T20 hb20 hap20 hT20 hTb20
            have hap20' : (¬ b20 = b18 ∧ ¬ b18 = b20) ∧ (¬ b20 = b8 ∧ ¬ b8 = b20) ∧ (¬ b20 = b6 ∧ ¬ b6 = b20) ∧ (¬ b20 = bb ∧ ¬ bb = b20) := hap20
            refine draw_at ⟨T20, M7, [(b20, [.int .i64 s.group[i].k, .int .i64 s.group[i].v.k, .int .i64 s.group[i].v.n, st s.group[i].v.t, st s.group[i].tab, st s.group[i].name, aw']), (b18, [.int .i64 12, .int .i64 0, .int .i64 0, .int .i64 0, .int .i64 0, st [], .int .i64 0, .slice none 0 0, .slice fa acc.length fc, .slice none 0 0, .slice (some ⟨bk, 0, none⟩) 1 1]), (b8, [c0, c1, c2, c3, c4, c5, c6, c7, c8, c9, c10]), (b6, z11)], []⟩ (Sub_preM (L2 := [(bb, [.int .i64 f])]) Ext.rfl' ⟨hb20, hno7.1, hno7.2.1, hno7.2.2.1, trivial⟩) ?_
            simp +contextual only [go_sem, Rcb, Rbk, sevalprocAttr, hlv, ht, hlt, hno7, hap20', hp18, hb20]
            refine rCall_one [(b20, _), (b18, _), (b8, _), (b6, _)] (exR names _ s.group[i] (Nat.le_refl _) M7 T20 b94 bb _ _ _ _ f (RS_ext hM7 (fun _ _ h => h) hnv) (hM7 _ _ h94) (RX_ext (hM.trans hM7) _ _ hrx) (hok.grp.2 _ (List.getElem_mem hlt))) ?_ (fun _ _ _ _ _ _ h => h.elim)
            rintro r M8 L8 hM8 hk8 hno8 ⟨⟨ys, rfl, hye⟩, rfl, -⟩
            simp only [List.cons_append, List.nil_append, noneL, and_true] at hno8
            obtain ⟨s6, rfl, hs6, _⟩ := REx_form hye
            simp +contextual only [go_sem, Rcb, Rbk, sevalprocAttr, hlv, ht, hno8, hap20', hp18, hs6]
            refine ⟨Sub_preM (L2 := [(bb, [.int .i64 (exprR names s.group[i] f).2])]) hM8 ⟨hno8.1, hno8.2.1, hno8.2.2.1, hno8.2.2.2.1, trivial⟩, ?_⟩
            intro bl hbl hapl
            refine ⟨Sub_trans' (Sub_preM (T := T20) (R := []) (L2 := [(bb, [.int .i64 (exprR names s.group[i] f).2])]) hM8 ⟨hno8.1, hno8.2.1, hno8.2.2.1, hno8.2.2.2.1, trivial⟩) (Sub_ML1 Ext.rfl' ⟨hno8.1, hno8.2.1, hno8.2.2.1, hno8.2.2.2.1, hno8.2.2.2.2, trivial⟩ ⟨hapl.1, hapl.2.1, hapl.2.2.1, hapl.2.2.2.1, hapl.2.2.2.2, trivial⟩), ?_⟩
            refine app_acc (Tryz.underlying36) row36 okt36 (Acc_mono (REx_ext hM8) hacc) hye (fun _ _ => REx_len) (REx_oneC hye) hbl (by omega) (by decide) ?_
            intro fv' R' hacc'
            obtain ⟨fa', fc', rfl⟩ := Acc_form hacc'
            simp +contextual only [go_sem, Rcb, Rbk, sevalprocAttr, hlv, ht, hno8, hap20', hp18, hs6, hbl, hapl]
            refine ⟨Sub_trans' (Sub_preM (T := T20) (R := []) (L2 := [(bb, [.int .i64 (exprR names s.group[i] f).2])]) hM8 ⟨hno8.1, hno8.2.1, hno8.2.2.1, hno8.2.2.2.1, trivial⟩) (Sub_ML1 Ext.rfl' ⟨hno8.1, hno8.2.1, hno8.2.2.1, hno8.2.2.2.1, hno8.2.2.2.2, trivial⟩ ⟨hapl.1, hapl.2.1, hapl.2.2.1, hapl.2.2.2.1, hapl.2.2.2.2, trivial⟩), ?_⟩
            refine lp_close (Close_drop (Close_drop (Close_id ⟨s.group.length - (i + 1), by omega, rfl, i + 1, by omega, rfl, ?_, ?_, T20, M8, R', _, _, _, hN7.trans hT20, hM7.trans hM8, ⟨hno8.2.1, hno8.2.2.1, hno8.2.2.2.1, hno8.2.2.2.2⟩, ?_, hacc', hres, rfl⟩)))
            · simp only [live, hlv, go_sem, Rcb, Rbk, sevalprocAttr]
            · simp only [ht, go_sem, Rcb, Rbk, sevalprocAttr, wrap_succ i (by omega)]
            · rw [List.length_append, hacl]; rfl
          · have : i = s.group.length := by omega
            subst this
            rw [List.drop_length, exprsR] at hres
            simp only [preR, List.append_nil] at hres
            replace z := At21 ((At_self h5).ext ((((hM2.trans hM3).trans hM4).trans h46).trans hM7))
            simp only [Nat.zero_add] at z
            simp +contextual only [go_sem, Rcb, Rbk, sevalprocAttr, hlv, ht, hlt, z]
            intro b120 T120 hb120 hap120 hT120 hTb120
            refine hS' _ _ _ ⟨rfl, ?_, b120, fv, T120, M7, ?_, hN7.trans hT120, hM7, fun _ => hap120, Close_acc hacc (by omega) (by decide) ⟨hb120, hno7.1, hno7.2.1, hno7.2.2.1, hno7.2.2.2, trivial⟩ fun M8 hM8 hno8 hrs => Close_addNil (e := 119) (sz := 7) (Close_perm (L' := [(b18, _), (b8, _), (b6, _), (b120, _), (bb, _)]) ((List.perm_append_comm (l₁ := [(b120, _)]) (l₂ := [(b18, _), (b8, _), (b6, _)])).append_right [(bb, _)]) (Close_id ⟨M8, [(b120, _), (bb, _)], _, hM8, rfl, ⟨hno8.2.1, hno8.2.2.1, hno8.2.2.2.1, hno8.1, hno8.2.2.2.2.1, trivial⟩, ?_, ?_⟩))⟩
            · rw [hLC]; simp only [live, hlv, hG, go_sem, Rcb, Rbk, sevalprocAttr]
            · simp only [go_sem, Rcb, Rbk, sevalprocAttr]
            · unfold grpR; rw [hG, if_pos rfl, ← hres]; exact RS_ext Ext.rfl' (REx_ext hM8) hrs
            · unfold grpR EnvS kvG; rw [hG, if_pos rfl, if_pos rfl, if_pos rfl, ← hres]
              exact ⟨none, 0, [], rfl, rfl, rfl⟩
      clear hlv e11
      rintro e ds h ⟨rfl, hlv, vb, xkv, N7, M7, e17, hN7, hM7, hpv, hcl⟩
      rw [hLC] at hlv
      simp only [live] at hlv
      simp +contextual only [go_sem, sevalprocAttr, hlv]
      refine rCall_close hcl ?_ bod33
      rintro h' ⟨M8, LE, RE, hM8, rfl, hno8, hkx, hEnv⟩
      refine rCall_pure (ct_overX 3 N7) ?_ (fun _ _ _ _ h => h.elim)
      rintro r M9 hM9 hno9 rfl
      obtain ⟨hit40, hitok⟩ := hok.its hS
      have hcnt := hok.cnt hS
      have h69 := (hM7.trans hM8).trans hM9
      replace z := At21 ((At_self h5).ext ((((hM2.trans hM3).trans hM4).trans h46).trans h69))
      simp only [Nat.zero_add] at z
      simp +contextual only [go_sem, Rcb, Rbk, sevalprocAttr, hlv]
      intro b21 T21 hb21 hap21 hT21 hTb21
      simp +contextual only [go_sem, Rcb, Rbk, sevalprocAttr, hlv, z, e17]
      have hkvR : groupedS s = true → ∀ {M' : Mem}, Ext M9 M' → RS M' (RX M') 7 s.group (kvG s ap aq) := by
        intro hG M' he
        unfold kvG; rw [hG, if_pos rfl]
        exact RS_ext ((hM.trans h69).trans he) (RX_ext ((hM.trans h69).trans he)) hgr
      have hgl : s.group.length ≤ 1048576 := by have := hok.grp.1; omega
      have hgok := hok.grp.2
      obtain ⟨G, hG⟩ : ∃ G, G = groupedS s := ⟨_, rfl⟩
      obtain ⟨kv, hkv⟩ : ∃ kv, kv = kvG s ap aq := ⟨_, rfl⟩
      obtain ⟨K, hK⟩ : ∃ K, K = grpR names s f2 := ⟨_, rfl⟩
      rw [← hkv, ← hG] at hkvR
      rw [← hK] at hkx
      rw [← hK, ← hkv, ← hG] at hEnv
      obtain ⟨I, hI⟩ : ∃ I, I = evsX G names s.group (s.items.map (·.x)) K.2 [] := ⟨_, rfl⟩
      have hEL := EnvS_keys hEnv
      simp only [noneL, List.cons_append, List.nil_append] at hno9
      have hapL : apart1 b21 LE := hap21.2.2.2
      refine loop_range s.items.length 125 [(0, .pointer (some ⟨bb, 0, none⟩)), (5, .pointer (some ⟨b5, 0, none⟩)), (6, .pointer (some ⟨b6, 0, none⟩)), (8, .pointer (some ⟨b8, 0, none⟩)), (11, .bool (groupedS s)), (17, .pointer (some ⟨vb, 0, none⟩)), (18, .pointer (some ⟨b18, 0, none⟩)), (21, .pointer (some ⟨b21, 0, none⟩)), (123, .slice ai s.items.length aj), (124, .int .i64 (s.items.length : Int))]
        (fun i e h => ∃ N' M' L' R0 R1 R2 fv nv acc nm ags f, ExtT T21 N' ∧ Ext M9 M' ∧ (M' b21 = none ∧ M' b18 = none ∧ M' b8 = none ∧ M' b6 = none ∧ noneL M' L') ∧ e 14 = nv ∧ acc.length = i ∧ nm.length = i ∧ EnvS G M' vb bb (.slice na names.length nc) kv L' R0 f ags ∧ Acc 9 1 RSt R0 R1 nv nm ∧ Acc 38 6 (REx M') R1 R2 fv acc ∧ ags.length + cntL ((s.items.drop i).map (·.x)) + hvC s ≤ 1048576 ∧ preV acc (evsX G names s.group ((s.items.drop i).map (·.x)) f ags) = I ∧ nm ++ calledL i (s.items.drop i) = calledL 0 s.items ∧
          h = ⟨N', M', (b21, [.int .i64 3, .int .i64 0, .int .i64 0, .int .i64 0, .int .i64 0, st [], .int .i64 0, .slice none 0 0, fv, .slice none 0 0, .slice none 0 0]) :: (b18, [.int .i64 12, .int .i64 0, .int .i64 0, .int .i64 0, .int .i64 0, st [], .int .i64 0, .slice none 0 0, xkv, .slice none 0 0, .slice (some ⟨bk, 0, none⟩) 1 1]) :: (b8, [c0, c1, c2, c3, c4, c5, c6, c7, c8, c9, c10]) :: (b6, z11) :: L', R2⟩)
        0 (by omega) (by simp only [live, hlv, e17, go_sem, Rcb, Rbk, sevalprocAttr]) (by simp only [go_sem, Rcb, Rbk, sevalprocAttr]) ⟨T21, M9, LE, RE, RE, RE, _, _, [], [], [], K.2, ExtT.rfl', Ext.rfl', ⟨hb21, hno9⟩, (by simp only [hlv, go_sem, Rcb, Rbk, sevalprocAttr]), rfl, rfl, EnvS_mono hEnv hM9, Acc_nil, Acc_nil, by simp only [List.drop_zero, List.length_nil]; omega, hI.symm, rfl, rfl⟩ ?_
      clear hlv e17
      rintro i e h hi' hlv ht ⟨N10, M10, L10, R0, R1, R2, fv, nv, acc, nm, ags, f, hN10, hM10, hno10, e14, hacl, hnml, hE, hnacc, hacc, hcn, hres, hnm, rfl⟩
      simp only [live] at hlv
      have h6x := h69.trans hM10
      replace z := At21 ((At_self h5).ext ((((hM2.trans hM3).trans hM4).trans h46).trans h6x))
      simp only [Nat.zero_add] at z
      obtain ⟨fa, fc, hfv⟩ := Acc_form hacc
      have hp21 : (¬ b21 = b18 ∧ ¬ b18 = b21) ∧ (¬ b21 = b8 ∧ ¬ b8 = b21) ∧ (¬ b21 = b6 ∧ ¬ b6 = b21) := ⟨hap21.1, hap21.2.1, hap21.2.2.1⟩
      by_cases hlt : i < s.items.length
      · obtain ⟨b', o', cs', rfl, hatI, hrx⟩ := hig i s.items[i] (List.getElem?_eq_getElem hlt)
        obtain ⟨aw', rfl, hxx, h1'⟩ := RIt_form hrx
        obtain ⟨y0, y1, y2, y3, y4, y5, y6, y7⟩ := At8 (hatI.ext (hM.trans h6x))
        have hdrop : s.items.drop i = s.items[i] :: s.items.drop (i + 1) := List.drop_eq_getElem_cons hlt
        rw [hdrop, List.map_cons] at hres hcn
        rw [hdrop, calledL] at hnm
        rw [cntL] at hcn
        rw [preV_cons] at hres
        subst hfv
        simp +contextual only [go_sem, Rcb, Rbk, sevalprocAttr, hlv, ht, hlt, y0, y1, y2, y3, y4, y5, y6, y7, h1']
        intro b23 T23 hb23 hap23 hT23 hTb23
        have hp23 : (¬ b23 = b21 ∧ ¬ b21 = b23) ∧ (¬ b23 = b18 ∧ ¬ b18 = b23) ∧ (¬ b23 = b8 ∧ ¬ b8 = b23) ∧ (¬ b23 = b6 ∧ ¬ b6 = b23) := ⟨hap23.1, hap23.2.1, hap23.2.2.1, hap23.2.2.2.1⟩
        refine draw_at ⟨T23, M10, [(b23, [.int .i64 s.items[i].x.k, .int .i64 s.items[i].x.v.k, .int .i64 s.items[i].x.v.n, st s.items[i].x.v.t, st s.items[i].x.tab, st s.items[i].x.name, aw', st s.items[i].as]), (b21, [.int .i64 3, .int .i64 0, .int .i64 0, .int .i64 0, .int .i64 0, st [], .int .i64 0, .slice none 0 0, .slice fa acc.length fc, .slice none 0 0, .slice none 0 0]), (b18, [.int .i64 12, .int .i64 0, .int .i64 0, .int .i64 0, .int .i64 0, st [], .int .i64 0, .slice none 0 0, xkv, .slice none 0 0, .slice (some ⟨bk, 0, none⟩) 1 1]), (b8, [c0, c1, c2, c3, c4, c5, c6, c7, c8, c9, c10]), (b6, z11)], []⟩ (Sub_preM (L2 := L10) Ext.rfl' ⟨hb23, hno10.1, hno10.2.1, hno10.2.2.1, hno10.2.2.2.1, trivial⟩) ?_
        simp +contextual only [go_sem, Rcb, Rbk, sevalprocAttr, hlv, ht, hlt, hno10, hp21, hp23, hb23]
        refine rCall_acc2 [(b23, _), (b21, _), (b18, _), (b8, _), (b6, _)] (ct_ev hgl hgok (RS_ext h6x (fun _ _ h => h) hnv) (fun hg => hkvR hg hM10) hE (by omega) (RX_ext (hM.trans h6x) _ _ hxx) (hitok _ (List.getElem_mem hlt)) T23) hnacc hacc ?_
        rintro r M11 L11 R0' R1' R2' hM11 hk11 hr11 hno11 ⟨⟨ys, rfl, hye⟩, hE2⟩ hnacc2 hacc2
        have hcnt2 := evX_cnt G names s.group s.items[i].x f ags
        obtain ⟨Y, hY⟩ : ∃ Y, Y = evX G names s.group s.items[i].x f ags := ⟨_, rfl⟩
        rw [← hY] at hye hE2 hcnt2 hres
        simp only [List.cons_append, List.nil_append, noneL] at hno11
        obtain ⟨s6, rfl, hs6, _⟩ := REx_form hye
        simp +contextual only [go_sem, Rcb, Rbk, sevalprocAttr, hlv, ht, hno11, hp21, hp23, hs6]
        refine ⟨Sub_preM (L1 := [(b23, _), (b21, _), (b18, _), (b8, _), (b6, _)]) (L2 := L11) hM11 ⟨hno11.1, hno11.2.1, hno11.2.2.1, hno11.2.2.2.1, hno11.2.2.2.2.1, trivial⟩, ?_⟩
        intro bl hbl hapl
        have hp23' : (¬ bl = b23 ∧ ¬ b23 = bl) ∧ (¬ bl = b21 ∧ ¬ b21 = bl) ∧ (¬ bl = b18 ∧ ¬ b18 = bl) ∧ (¬ bl = b8 ∧ ¬ b8 = bl) ∧ (¬ bl = b6 ∧ ¬ b6 = bl) := ⟨hapl.1, hapl.2.1, hapl.2.2.1, hapl.2.2.2.1, hapl.2.2.2.2.1⟩
        refine ⟨Sub_trans' (Sub_preM (T := T23) (R := []) (L1 := [(b23, _), (b21, _), (b18, _), (b8, _), (b6, _)]) (L2 := L11) hM11 ⟨hno11.1, hno11.2.1, hno11.2.2.1, hno11.2.2.2.1, hno11.2.2.2.2.1, trivial⟩) (Sub_ML1 Ext.rfl' ⟨hno11.1, hno11.2.1, hno11.2.2.1, hno11.2.2.2.1, hno11.2.2.2.2.1, hno11.2.2.2.2.2⟩ ⟨hapl.1, hapl.2.1, hapl.2.2.1, hapl.2.2.2.1, hapl.2.2.2.2.1, hapl.2.2.2.2.2⟩), ?_⟩
        refine app_acc (Tryz.underlying36) row36 okt36 (Acc_mono (REx_ext hM11) hacc2) hye (fun _ _ => REx_len) (REx_oneC hye) hbl (by omega) (by decide) ?_
        intro fv' R3 hacc3
        obtain ⟨fa', fc', rfl⟩ := Acc_form hacc3
        simp +contextual only [go_sem, Rcb, Rbk, sevalprocAttr, hlv, ht, hno11, hp21, hp23, hp23', hs6, hbl, wrap_succ i (by omega)]
        refine ⟨Sub_trans' (Sub_preM (T := T23) (R := []) (L1 := [(b23, _), (b21, _), (b18, _), (b8, _), (b6, _)]) (L2 := L11) hM11 ⟨hno11.1, hno11.2.1, hno11.2.2.1, hno11.2.2.2.1, hno11.2.2.2.2.1, trivial⟩) (Sub_ML1 Ext.rfl' ⟨hno11.1, hno11.2.1, hno11.2.2.1, hno11.2.2.2.1, hno11.2.2.2.2.1, hno11.2.2.2.2.2⟩ ⟨hapl.1, hapl.2.1, hapl.2.2.1, hapl.2.2.2.1, hapl.2.2.2.2.1, hapl.2.2.2.2.2⟩), ?_⟩
        refine rCall_close (k := fun h' => ∃ R1x R2x, Acc 38 6 (REx M11) R0' R1x (.slice fa' (acc ++ [Y.1]).length fc') (acc ++ [Y.1]) ∧ Acc 9 1 RSt R1x R2x nv nm ∧
          h' = ⟨T23, M11, (b23, [.int .i64 s.items[i].x.k, .int .i64 s.items[i].x.v.k, .int .i64 s.items[i].x.v.n, st s.items[i].x.v.t, st s.items[i].x.tab, st s.items[i].x.name, aw', st s.items[i].as]) :: (b21, [.int .i64 3, .int .i64 0, .int .i64 0, .int .i64 0, .int .i64 0, st [], .int .i64 0, .slice none 0 0, .slice fa' (acc ++ [Y.1]).length fc', .slice none 0 0, .slice none 0 0]) :: (b18, [.int .i64 12, .int .i64 0, .int .i64 0, .int .i64 0, .int .i64 0, st [], .int .i64 0, .slice none 0 0, xkv, .slice none 0 0, .slice (some ⟨bk, 0, none⟩) 1 1]) :: (b8, [c0, c1, c2, c3, c4, c5, c6, c7, c8, c9, c10]) :: (b6, z11) :: L11, R2x⟩)
          (Close_drop (Close_swapA hnacc2 hacc3 fun R1x R2x h1 h2 => Close_id ⟨R1x, R2x, h1, h2, rfl⟩)) ?_ bod72
        rintro h' ⟨R1x, R2x, hx1, hx2, rfl⟩
        refine rCall_pure (ct_ItoaB (i + 1) (by omega) T23) ?_ (fun _ _ _ _ h => h.elim)
        rintro r M12 hM12 hno12 ⟨rfl, hMe⟩
        subst hMe
        have hd : (Lib.decDigits (i + 1)).length ≤ 20 := digits_le i (by omega)
        have hd2 : 1 + (Lib.decDigits (i + 1)).length ≤ 9223372036854775807 := by omega
        have hd3 : (Lib.decDigits (i + 1)).length + 1 ≤ 9223372036854775807 := by omega
        simp +contextual only [go_sem, sevalprocAttr, hlv, ht, bs_append, hd2, hd3, hno11]
        obtain ⟨HX, hHX⟩ : ∃ HX : LL, HX = (b23, [.int .i64 s.items[i].x.k, .int .i64 s.items[i].x.v.k, .int .i64 s.items[i].x.v.n, st s.items[i].x.v.t, st s.items[i].x.tab, st s.items[i].x.name, aw', st s.items[i].as]) :: (b21, [.int .i64 3, .int .i64 0, .int .i64 0, .int .i64 0, .int .i64 0, st [], .int .i64 0, .slice none 0 0, .slice fa' (acc ++ [Y.1]).length fc', .slice none 0 0, .slice none 0 0]) :: (b18, [.int .i64 12, .int .i64 0, .int .i64 0, .int .i64 0, .int .i64 0, st [], .int .i64 0, .slice none 0 0, xkv, .slice none 0 0, .slice (some ⟨bk, 0, none⟩) 1 1]) :: (b8, [c0, c1, c2, c3, c4, c5, c6, c7, c8, c9, c10]) :: (b6, z11) :: L11 := ⟨_, rfl⟩
        obtain ⟨LX, hLX⟩ : ∃ LX : List (Nat × Value), LX = [(0, .pointer (some ⟨bb, 0, none⟩)), (5, .pointer (some ⟨b5, 0, none⟩)), (6, .pointer (some ⟨b6, 0, none⟩)), (8, .pointer (some ⟨b8, 0, none⟩)), (11, .bool (groupedS s)), (14, nv), (17, .pointer (some ⟨vb, 0, none⟩)), (18, .pointer (some ⟨b18, 0, none⟩)), (21, .pointer (some ⟨b21, 0, none⟩)), (23, .pointer (some ⟨b23, 0, none⟩)), (123, .slice (some ⟨b', o', none⟩) s.items.length aj), (124, .int .i64 (s.items.length : Int)), (125, .int .i64 (i : Int))] := ⟨_, rfl⟩
        refine cond_cut (fun e ds h => ds = [] ∧ live e LX ∧ e 24 = st (if s.items[i].x.k = 2 then s.items[i].x.name else 99 :: Lib.decDigits (i + 1)) ∧ h = ⟨T23, M12, HX, R2x⟩) (fun S' hS' => ?_) ?_
        · rw [rCond_bool]
          by_cases hk2 : s.items[i].x.k = 2
          · simp +contextual only [go_sem, Rcb, Rbk, sevalprocAttr, hk2, hno11, hlv]
            refine hS' _ _ _ ⟨rfl, ?_, ?_, by subst hHX; first | rfl | (simp only [hk2]; rfl)⟩
            · rw [hLX]; simp only [live, hlv, ht, e14, go_sem, Rcb, Rbk, sevalprocAttr]
            · simp only [hk2, go_sem, Rcb, Rbk, sevalprocAttr]
          · simp +contextual only [go_sem, Rcb, Rbk, sevalprocAttr, hk2, hno11, hlv]
            refine hS' _ _ _ ⟨rfl, ?_, ?_, by subst hHX; rfl⟩
            · rw [hLX]; simp only [live, hlv, ht, e14, go_sem, Rcb, Rbk, sevalprocAttr]
            · simp only [hk2, go_sem, Rcb, Rbk, sevalprocAttr]
        clear hlv ht e14
        rintro e ds h ⟨rfl, hlv, e24, rfl⟩
        rw [hLX] at hlv
        simp only [live] at hlv
        rw [hHX]
        simp +contextual only [go_sem, sevalprocAttr, hlv, hno11]
        refine cond_cut (fun e ds h => ds = [] ∧ live e LX ∧ e 24 = st (calledM s.items[i] i) ∧ h = ⟨T23, M12, HX, R2x⟩) (fun S' hS' => ?_) ?_
        · rw [rCond_bool]
          by_cases has : s.items[i].as = []
          · simp +contextual only [go_sem, Rcb, Rbk, sevalprocAttr, has, hno11, hlv]
            refine hS' _ _ _ ⟨rfl, ?_, ?_, by subst hHX; first | rfl | (simp only [has]; rfl)⟩
            · rw [hLX]; simp only [live, hlv, go_sem, Rcb, Rbk, sevalprocAttr]
            · unfold calledM; simp only [has, e24, go_sem, Rcb, Rbk, sevalprocAttr, ne_eq, not_true_eq_false, if_false]
          · simp +contextual only [go_sem, Rcb, Rbk, sevalprocAttr, has, hno11, hlv]
            refine hS' _ _ _ ⟨rfl, ?_, ?_, by subst hHX; rfl⟩
            · rw [hLX]; simp only [live, hlv, go_sem, Rcb, Rbk, sevalprocAttr]
            · unfold calledM; simp only [has, go_sem, Rcb, Rbk, sevalprocAttr, ne_eq, not_false_eq_true, if_true]
        clear hlv e24
        rintro e ds h ⟨rfl, hlv, e24, rfl⟩
        rw [hLX] at hlv
        simp only [live] at hlv
        rw [hHX]
        simp +contextual only [go_sem, Rcb, Rbk, sevalprocAttr, hlv, e24]
        intro bm hbm hapm
        refine app_acc (Tryz.underlying93) row93 okt93 (x := calledM s.items[i] i) hx2 rfl (fun _ _ => RSt_len) (by intro u hu; simp only [List.mem_singleton] at hu; subst hu; rfl) hbm (by omega) (by decide) ?_
        intro nv' R4 hx3
        simp +contextual only [go_sem, Rcb, Rbk, sevalprocAttr, hlv]
        refine lp_close (Close_drop (Close_drop (Close_swapA hx1 hx3 fun R5 R6 h1 h2 => Close_id ⟨s.items.length - (i + 1), by omega, rfl, i + 1, by omega, rfl, ?_, ?_, T23, M12, L11, R0', R5, R6, _, nv', acc ++ [Y.1], nm ++ [calledM s.items[i] i], Y.2.2, Y.2.1, hN10.trans hT23, hM10.trans hM11, ⟨hno11.2.1, hno11.2.2.1, hno11.2.2.2.1, hno11.2.2.2.2.1, hno11.2.2.2.2.2⟩, ?_, ?_, ?_, hE2, h1, h2, ?_, hres, ?_, rfl⟩)))
        · simp only [live, hlv, go_sem, Rcb, Rbk, sevalprocAttr]
        · simp only [hlv, go_sem, Rcb, Rbk, sevalprocAttr, wrap_succ i (by omega)]
        · simp only [go_sem, Rcb, Rbk, sevalprocAttr]
        · rw [List.length_append, hacl]; rfl
        · rw [List.length_append, hnml]; rfl
        · omega
        · rw [List.append_assoc]; exact hnm
      · have : i = s.items.length := by omega
        subst this
        rw [List.drop_length] at hres hnm hcn
        simp only [List.map_nil, evsX, preV, List.append_nil, calledL] at hres hnm
        simp only [List.map_nil, cntL, Nat.add_zero] at hcn
        replace hkx := RS_ext (hM9.trans hM10) (REx_ext (hM9.trans hM10)) hkx
        replace hkids := RS_ext h6x (RPl_ext h6x) hkids
        replace hp := RPl_ext h6x _ _ hp
        have hTX := ((hTT.trans hN7).trans hT21).trans hN10
        subst hfv
        simp +contextual only [go_sem, sevalprocAttr, hlv, ht, hlt]
        rw [rCond_bool]
        cases hGg : groupedS s with
        | false =>
          have hGv : G = false := by rw [hG, hGg]
          rw [hGv] at hE hI
          unfold EnvS at hE
          rw [if_neg (by decide)] at hE
          obtain ⟨_, rfl, rfl⟩ := hE
          simp only [noneL, and_true] at hno10
          have hW3 : W = ((if s.distinct = true then .mk 11 0 zeroE [] [] [.mk 3 0 zeroE acc [] [p2]] else .mk 3 0 zeroE acc [] [p2], calledL 0 s.items), f) := by
            rw [hW2]; unfold selR2 bodyR; simp only [hS, hGg, if_false, Bool.false_eq_true]
            rw [← hK, ← hI, ← hres]
          rw [← hnm] at hW3
          simp +contextual only [go_sem, Rcb, Rbk, sevalprocAttr, hlv, hc, hno10, hp21, hp18, hpp, hGg, z]
          intro bm hbm hapm
          have hpm : (¬ bm = b21 ∧ ¬ b21 = bm) ∧ (¬ bm = b18 ∧ ¬ b18 = bm) ∧ (¬ bm = b8 ∧ ¬ b8 = bm) ∧ (¬ bm = b6 ∧ ¬ b6 = bm) ∧ (¬ bm = bb ∧ ¬ bb = bm) := hapm
          have hq : ∀ {M' : Mem}, Ext M10 M' → M' bm = some [c0, c1, c2, c3, c4, c5, c6, c7, c8, c9, c10] → RS M' (REx M') 6 acc (.slice fa acc.length fc) → RPl M' (.mk 3 0 zeroE acc [] [p2]) [.int .i64 3, .int .i64 0, .int .i64 0, .int .i64 0, .int .i64 0, st [], .int .i64 0, .slice none 0 0, .slice fa acc.length fc, .slice none 0 0, .slice (some ⟨bm, 0, none⟩) 1 1] := fun he hb hx => RPl_build hx RS_nil (RPl_one hb (RPl_ext he _ _ hp))
          cases hD : s.distinct with
          | false =>
            rw [hD] at hW3
            simp +contextual only [go_sem, Rcb, Rbk, sevalprocAttr, hlv, hc, hno10, hp21, hp18, hpp, hpm, z, hD, e14]
            exact Close_acc hacc (by omega) (by decide) ⟨hbm, hno10.1, hno10.2.1, hno10.2.2.1, hno10.2.2.2.1, hno10.2.2.2.2, trivial⟩ fun M11 hM11 hno11 hrs => Close_acc hnacc (by omega) (by decide) hno11 fun M12 hM12 hno12 hns => Close_freeze fun he hm hno13 => Close_drop (Close_drop (Close_drop (Close_drop (end_id hTX rfl rfl ⟨⟨_, _, rfl, by rw [hW3]; exact hq ((hM11.trans hM12).trans he) hm (RS_ext (hM12.trans he) (REx_ext ((hM11.trans hM12).trans he)) hrs), by rw [hW3]; exact RS_ext he (fun _ _ h => h) hns⟩, by rw [hW3], rfl⟩))))
          | true =>
            rw [hD] at hW3
            simp +contextual only [go_sem, Rcb, Rbk, sevalprocAttr, hlv, hc, hno10, hp21, hp18, hpp, hpm, z, hD, e14, hbm]
            intro bn hbn hapn
            refine rCall_close (k := fun h' => ∃ M11, Ext M10 M11 ∧ RPl M11 (.mk 3 0 zeroE acc [] [p2]) [.int .i64 3, .int .i64 0, .int .i64 0, .int .i64 0, .int .i64 0, st [], .int .i64 0, .slice none 0 0, .slice fa acc.length fc, .slice none 0 0, .slice (some ⟨bm, 0, none⟩) 1 1] ∧ RS M11 RSt 1 nm nv ∧ M11 bn = some [.int .i64 3, .int .i64 0, .int .i64 0, .int .i64 0, .int .i64 0, st [], .int .i64 0, .slice none 0 0, .slice fa acc.length fc, .slice none 0 0, .slice (some ⟨bm, 0, none⟩) 1 1] ∧ (M11 b8 = none ∧ M11 b6 = none ∧ M11 bb = none) ∧
              h' = ⟨N10, M11, [(b8, [.int .i64 3, .int .i64 0, .int .i64 0, .int .i64 0, .int .i64 0, st [], .int .i64 0, .slice none 0 0, .slice fa acc.length fc, .slice none 0 0, .slice (some ⟨bm, 0, none⟩) 1 1]), (b6, z11), (bb, [.int .i64 f])], []⟩)
              (Close_acc hacc (by omega) (by decide) ⟨hbn, hbm, hno10.1, hno10.2.1, hno10.2.2.1, hno10.2.2.2.1, hno10.2.2.2.2, trivial⟩ fun M11 hM11 hno11 hrs => Close_acc hnacc (by omega) (by decide) hno11 fun M12 hM12 hno12 hns => Close_freeze fun he1 hn hno13 => Close_freeze fun he2 hm hno14 => Close_drop (Close_drop (Close_id ⟨_, ((hM11.trans hM12).trans he1).trans he2, hq (((hM11.trans hM12).trans he1).trans he2) hm (RS_ext ((hM12.trans he1).trans he2) (REx_ext (((hM11.trans hM12).trans he1).trans he2)) hrs), RS_ext (he1.trans he2) (fun _ _ h => h) hns, he2 _ _ hn, ⟨hno14.2.2.1, hno14.2.2.2.1, hno14.2.2.2.2.1⟩, rfl⟩))) ?_ bod33
            rintro h' ⟨M11, hM11, hpl, hns, hn, hno11, rfl⟩
            refine rCall_pure (ct_over 11 (RPl_one hn hpl) N10) ?_ (fun _ _ _ _ h => h.elim)
            rintro r M12 hM12 hno12 ⟨cs7, rfl, h7⟩
            simp only [noneL, and_true] at hno12
            obtain ⟨q0, q1, q2, q3, q4, q5, q6, q7, q8, q9, q10, rfl, hqq⟩ := RPl_cells h7
            simp +contextual only [go_sem, Rcb, Rbk, sevalprocAttr, hlv, e14, hqq, hno12, hpp]
            exact Close_drop (Close_drop (end_id hTX rfl rfl ⟨⟨_, _, rfl, by rw [hW3]; exact h7, by rw [hW3]; exact RS_ext hM12 (fun _ _ h => h) hns⟩, by rw [hW3], rfl⟩))
        | true =>
          have hGv : G = true := by rw [hG, hGg]
          replace hpv := hpv hGg
          rw [hGv] at hE hI hEnv
          unfold EnvS at hE hEnv
          rw [if_pos rfl] at hE hEnv
          obtain ⟨_, _, _, rfl, _, _⟩ := hEnv
          obtain ⟨aa, ac, axs, rfl, rfl, haxs⟩ := hE
          simp only [noneL, and_true] at hno10
          have hpv21 : (¬ b21 = vb ∧ ¬ vb = b21) ∧ (¬ b21 = bb ∧ ¬ bb = b21) := ⟨hap21.2.2.2.1, hap21.2.2.2.2.1⟩
          have hlen3 : acc.length ≤ 140737488355328 := by omega
          have hlen4 : nm.length ≤ 140737488355328 := by omega
          simp +contextual only [go_sem, Rcb, Rbk, sevalprocAttr, hlv, hGg]
          refine rCall_close (k := fun h' => ∃ M11, Ext M10 M11 ∧ RS M11 (REx M11) 6 acc (.slice fa acc.length fc) ∧ RS M11 RSt 1 nm nv ∧ (M11 b21 = none ∧ M11 b18 = none ∧ M11 b8 = none ∧ M11 b6 = none ∧ M11 vb = none ∧ M11 bb = none) ∧
            h' = ⟨N10, M11, [(b21, [.int .i64 3, .int .i64 0, .int .i64 0, .int .i64 0, .int .i64 0, st [], .int .i64 0, .slice none 0 0, .slice fa acc.length fc, .slice none 0 0, .slice none 0 0]), (b18, [.int .i64 12, .int .i64 0, .int .i64 0, .int .i64 0, .int .i64 0, st [], .int .i64 0, .slice none 0 0, xkv, .slice none 0 0, .slice (some ⟨bk, 0, none⟩) 1 1]), (b8, [c0, c1, c2, c3, c4, c5, c6, c7, c8, c9, c10]), (b6, z11), (vb, [.slice na names.length nc, .bool true, kv, .slice aa ags.length ac]), (bb, [.int .i64 f])], [(.slice aa ags.length ac, 119, 7, axs)]⟩)
            (Close_acc hacc hlen3 (by decide) ⟨hno10.1, hno10.2.1, hno10.2.2.1, hno10.2.2.2.1, hno10.2.2.2.2.1, hno10.2.2.2.2.2, trivial⟩ fun M11 hM11 hno11 hrs => Close_acc hnacc hlen4 (by decide) hno11 fun M12 hM12 hno12 hns => Close_id ⟨_, hM11.trans hM12, RS_ext hM12 (REx_ext (hM11.trans hM12)) hrs, hns, ⟨hno12.1, hno12.2.1, hno12.2.2.1, hno12.2.2.2.1, hno12.2.2.2.2.1, hno12.2.2.2.2.2.1⟩, rfl⟩) ?_ bod33
          rintro h' ⟨M11, hM11, hxs, hns, hno11, rfl⟩
          refine rCall_pure (ct_overX 2 N10) ?_ (fun _ _ _ _ h => h.elim)
          rintro r M12 hM12 hno12 rfl
          simp only [noneL, and_true] at hno12
          replace z := At21 ((At_self h5).ext (((((hM2.trans hM3).trans hM4).trans h46).trans h6x).trans (hM11.trans hM12)))
          simp only [Nat.zero_add] at z
          simp +contextual only [go_sem, sevalprocAttr, hlv]
          intro b25 T25 hb25 hap25 hT25 hTb25
          have hMM := (hM.trans h6x).trans (hM11.trans hM12)
          have hp25 : (¬ b25 = b21 ∧ ¬ b21 = b25) ∧ (¬ b25 = b18 ∧ ¬ b18 = b25) ∧ (¬ b25 = b8 ∧ ¬ b8 = b25) ∧ (¬ b25 = b6 ∧ ¬ b6 = b25) ∧ (¬ b25 = vb ∧ ¬ vb = b25) ∧ (¬ b25 = bb ∧ ¬ bb = b25) := hap25
          obtain ⟨LG, hLG⟩ : ∃ LG : List (Nat × Value), LG = [(5, .pointer (some ⟨b5, 0, none⟩)), (6, .pointer (some ⟨b6, 0, none⟩)), (8, .pointer (some ⟨b8, 0, none⟩)), (14, nv), (17, .pointer (some ⟨vb, 0, none⟩)), (18, .pointer (some ⟨b18, 0, none⟩)), (21, .pointer (some ⟨b21, 0, none⟩)), (25, .pointer (some ⟨b25, 0, none⟩))] := ⟨_, rfl⟩
          simp +contextual only [go_sem, sevalprocAttr, hlv, z]
          refine cond_cut (fun e ds h => ds = [] ∧ live e LG ∧ ∃ M' hx f' ags' aa ac axs x0 x1 x2 x3 x4 x5, Ext M12 M' ∧ (M' b25 = none ∧ M' b21 = none ∧ M' b18 = none ∧ M' b8 = none ∧ M' b6 = none ∧ M' vb = none ∧ M' bb = none) ∧ REx M' hx [x0, x1, x2, x3, x4, x5] ∧ (x0.oneCell' = true ∧ x1.oneCell' = true ∧ x2.oneCell' = true ∧ x3.oneCell' = true ∧ x4.oneCell' = true ∧ x5.oneCell' = true) ∧ hvR names s f ags = (hx, f', ags') ∧ RL (RAg M') ags' axs ∧ ags'.length ≤ 1048576 ∧
            h = ⟨T25, M', [(b25, [.int .i64 2, .int .i64 0, x0, x1, x2, x3, x4, x5, .slice none 0 0, .slice none 0 0, .slice none 0 0]), (b21, [.int .i64 3, .int .i64 0, .int .i64 0, .int .i64 0, .int .i64 0, st [], .int .i64 0, .slice none 0 0, .slice fa acc.length fc, .slice none 0 0, .slice none 0 0]), (b18, [.int .i64 12, .int .i64 0, .int .i64 0, .int .i64 0, .int .i64 0, st [], .int .i64 0, .slice none 0 0, xkv, .slice none 0 0, .slice (some ⟨bk, 0, none⟩) 1 1]), (b8, [c0, c1, c2, c3, c4, c5, c6, c7, c8, c9, c10]), (b6, z11), (vb, [.slice na names.length nc, .bool true, kv, .slice aa ags'.length ac]), (bb, [.int .i64 f'])], [(.slice aa ags'.length ac, 119, 7, axs)]⟩) (fun S' hS' => ?_) ?_
          · rw [rCond_bool]
            cases hH : s.hasH with
            | false =>
              simp +contextual only [go_sem, Rcb, Rbk, sevalprocAttr]
              refine hS' _ _ _ ⟨rfl, ?_, M12, zeroE, f, ags, aa, ac, axs, _, _, _, _, _, _, Ext.rfl', ⟨hb25, hno12⟩, zeroE_R _, ⟨rfl, rfl, rfl, rfl, rfl, rfl⟩, by unfold hvR; rw [hH]; rfl, RL_mono (fun x cs h => RAg_ext (hM11.trans hM12) x cs h) haxs, by omega, rfl⟩
              rw [hLG]; simp only [live, hlv, e14, go_sem, Rcb, Rbk, sevalprocAttr]
            | true =>
              have hvc := hvC_eq hH
              simp +contextual only [go_sem, Rcb, Rbk, sevalprocAttr, hlv, z]
              refine rCall_rows [(b25, _), (b21, _), (b18, _), (b8, _), (b6, _)] (exH names s.group hgl hgok _ s.hv (Nat.le_refl _) M12 T25 vb bb (.slice na names.length nc) kv _ f ags [(vb, [.slice na names.length nc, .bool true, kv, .slice aa ags.length ac]), (bb, [.int .i64 f])] _ (RS_ext (h6x.trans (hM11.trans hM12)) (fun _ _ h => h) hnv) (hkvR hGv ((hM10.trans hM11).trans hM12)) ⟨aa, ac, axs, rfl, rfl, RL_mono (fun x cs h => RAg_ext (hM11.trans hM12) x cs h) haxs⟩ (by omega) (RX_ext hMM _ _ hv) (hok.hv hH)) ?_
              rintro r M13 L13 R13 hM13 hk13 hr13 hno13 ⟨⟨ys, rfl, hye⟩, a2, ac2, axs2, rfl, rfl, haxs2⟩
              have hcnt2 := exprH_cnt names s.group s.hv f ags
              simp only [List.cons_append, List.nil_append, noneL, and_true] at hno13
              obtain ⟨s6, rfl, hs6, _⟩ := REx_form hye
              simp +contextual only [go_sem, Rcb, Rbk, sevalprocAttr, hlv, hno13, hs6, hp25]
              refine hS' _ _ _ ⟨rfl, ?_, M13, _, _, _, a2, ac2, axs2, _, _, _, _, _, _, hM13, hno13, hye, ⟨rfl, rfl, rfl, rfl, rfl, hs6⟩, by unfold hvR; rw [hH, if_pos rfl], haxs2, by omega, rfl⟩
              rw [hLG]; simp only [live, hlv, e14, go_sem, Rcb, Rbk, sevalprocAttr]
          · clear hlv e14 hno12 hb25 haxs
            rintro e ds h ⟨rfl, hlv, M13, hx, f', ags', aa, ac, axs, x0, x1, x2, x3, x4, x5, hM13, hno13, hxe, hxo, hhv, haxs, hagl, rfl⟩
            rw [hLG] at hlv
            simp only [live] at hlv
            replace z := At21 ((At_self h5).ext ((((((hM2.trans hM3).trans hM4).trans h46).trans h6x).trans (hM11.trans hM12)).trans hM13))
            simp only [Nat.zero_add] at z
            obtain ⟨kx1, kx2⟩ := RS_one hkx
            have kx3 := kx2
            simp only [Value.cells] at kx3
            have h1013 := (hM11.trans hM12).trans hM13
            have hTY := hTX.trans hT25
            have hW3 : W = ((if s.distinct = true then .mk 11 0 zeroE [] [] [.mk 3 0 zeroE acc [] [if s.hasH = true then .mk 2 0 hx [] [] [.mk 12 0 zeroE K.1 ags' [p2]] else .mk 12 0 zeroE K.1 ags' [p2]]] else .mk 3 0 zeroE acc [] [if s.hasH = true then .mk 2 0 hx [] [] [.mk 12 0 zeroE K.1 ags' [p2]] else .mk 12 0 zeroE K.1 ags' [p2]], calledL 0 s.items), f') := by
              rw [hW2]; unfold selR2 bodyR; simp only [hS, hGg, if_false, if_true, Bool.false_eq_true]
              rw [← hK, ← hI, ← hres]
              simp only [hhv]
            have hg12 : ∀ {M' : Mem}, Ext M13 M' → RS M' (RAg M') 7 ags' (.slice aa ags'.length ac) → RPl M' (.mk 12 0 zeroE K.1 ags' [p2]) [.int .i64 12, .int .i64 0, .int .i64 0, .int .i64 0, .int .i64 0, st [], .int .i64 0, .slice none 0 0, xkv, .slice aa ags'.length ac, .slice (some ⟨bk, 0, none⟩) 1 1] := fun he ha => RPl_build (RS_ext (h1013.trans he) (REx_ext (h1013.trans he)) hkx) ha (RS_ext (h1013.trans he) (RPl_ext (h1013.trans he)) hkids)
            have hfin : ∀ {M7 M8 : Mem}, Ext M13 M7 → Sl M7 (.slice aa ags'.length ac) 7 axs → Ext M7 M8 → RS M8 (RAg M8) 7 ags' (.slice aa ags'.length ac) := fun he hsl he2 => ⟨by omega, axs, hsl.ext he2, RL_mono (fun x cs h => RAg_ext (he.trans he2) x cs h) haxs⟩
            have hxs13 : ∀ {M' : Mem}, Ext M13 M' → RS M' (REx M') 6 acc (.slice fa acc.length fc) := fun he => RS_ext ((hM12.trans hM13).trans he) (REx_ext ((hM12.trans hM13).trans he)) hxs
            have hns13 : ∀ {M' : Mem}, Ext M13 M' → RS M' RSt 1 nm nv := fun he => RS_ext ((hM12.trans hM13).trans he) (fun _ _ h => h) hns
            rw [← hnm] at hW3
            cases hH : s.hasH with
            | false =>
              rw [hH] at hW3
              simp only [if_false, Bool.false_eq_true] at hW3
              simp +contextual only [go_sem, Rcb, Rbk, sevalprocAttr, hlv, z, hH, hno13, hpp, hp18, hp21, hp25, hpv, hpv21, hc, kx1, kx2, kx3, hxo]
              intro bm hbm hapm
              have hq : ∀ {M' : Mem}, Ext M13 M' → RS M' (RAg M') 7 ags' (.slice aa ags'.length ac) → M' bm = some [.int .i64 12, .int .i64 0, .int .i64 0, .int .i64 0, .int .i64 0, st [], .int .i64 0, .slice none 0 0, xkv, .slice aa ags'.length ac, .slice (some ⟨bk, 0, none⟩) 1 1] → RPl M' (.mk 3 0 zeroE acc [] [(.mk 12 0 zeroE K.1 ags' [p2])]) [.int .i64 3, .int .i64 0, .int .i64 0, .int .i64 0, .int .i64 0, st [], .int .i64 0, .slice none 0 0, .slice fa acc.length fc, .slice none 0 0, .slice (some ⟨bm, 0, none⟩) 1 1] := fun he ha hb => RPl_build (hxs13 he) RS_nil (RPl_one hb (hg12 he ha))
              cases hD : s.distinct with
              | false =>
                rw [hD] at hW3
                simp only [if_false, Bool.false_eq_true] at hW3
                simp +contextual only [go_sem, Rcb, Rbk, sevalprocAttr, hlv, z, hH, hno13, hpp, hp18, hp21, hp25, hpv, hpv21, hc, hapm, hbm, hD]
                exact Close_row fun M14 hM14 hno14 hsl => Close_freeze fun he hm hno15 => Close_drop (Close_drop (Close_drop (Close_drop (Close_drop (Close_drop (end_id hTY rfl rfl ⟨⟨_, _, rfl, by rw [hW3]; exact hq (hM14.trans he) (hfin hM14 hsl he) hm, by rw [hW3]; exact hns13 (hM14.trans he)⟩, by rw [hW3], rfl⟩))))))
              | true =>
                rw [hD] at hW3
                simp only [if_true] at hW3
                simp +contextual only [go_sem, Rcb, Rbk, sevalprocAttr, hlv, z, hH, hno13, hpp, hp18, hp21, hp25, hpv, hpv21, hc, hapm, hbm, hD]
                intro bn hbn hapn
                refine rCall_close (k := fun h' => ∃ M14, Ext M13 M14 ∧ RPl M14 (.mk 3 0 zeroE acc [] [(.mk 12 0 zeroE K.1 ags' [p2])]) [.int .i64 3, .int .i64 0, .int .i64 0, .int .i64 0, .int .i64 0, st [], .int .i64 0, .slice none 0 0, .slice fa acc.length fc, .slice none 0 0, .slice (some ⟨bm, 0, none⟩) 1 1] ∧ M14 bn = some [.int .i64 3, .int .i64 0, .int .i64 0, .int .i64 0, .int .i64 0, st [], .int .i64 0, .slice none 0 0, .slice fa acc.length fc, .slice none 0 0, .slice (some ⟨bm, 0, none⟩) 1 1] ∧ (M14 b8 = none ∧ M14 b6 = none ∧ M14 vb = none ∧ M14 bb = none) ∧
                  h' = ⟨T25, M14, [(b8, [.int .i64 3, .int .i64 0, .int .i64 0, .int .i64 0, .int .i64 0, st [], .int .i64 0, .slice none 0 0, .slice fa acc.length fc, .slice none 0 0, .slice (some ⟨bm, 0, none⟩) 1 1]), (b6, z11), (vb, [.slice na names.length nc, .bool true, kv, .slice aa ags'.length ac]), (bb, [.int .i64 f'])], []⟩)
                  (Close_row fun M14 hM14 hno14 hsl => Close_freeze fun he1 hn hno15 => Close_freeze fun he2 hm hno16 => Close_drop (Close_drop (Close_drop (Close_id ⟨_, (hM14.trans he1).trans he2, hq ((hM14.trans he1).trans he2) (hfin hM14 hsl (he1.trans he2)) hm, he2 _ _ hn, ⟨hno16.2.2.2.1, hno16.2.2.2.2.1, hno16.2.2.2.2.2.1, hno16.2.2.2.2.2.2.1⟩, rfl⟩)))) ?_ bod33
                rintro h' ⟨M14, hM14, hpl, hn, hno14, rfl⟩
                refine rCall_pure (ct_over 11 (RPl_one hn hpl) T25) ?_ (fun _ _ _ _ h => h.elim)
                rintro r M15 hM15 hno15 ⟨cs7, rfl, h7⟩
                simp only [noneL, and_true] at hno15
                obtain ⟨q0, q1, q2, q3, q4, q5, q6, q7, q8, q9, q10, rfl, hqq⟩ := RPl_cells h7
                simp +contextual only [go_sem, Rcb, Rbk, sevalprocAttr, hlv, hqq, hno15, hpp]
                exact Close_drop (Close_drop (Close_drop (end_id hTY rfl rfl ⟨⟨_, _, rfl, by rw [hW3]; exact h7, by rw [hW3]; exact hns13 (hM14.trans hM15)⟩, by rw [hW3], rfl⟩)))
            | true =>
              rw [hH] at hW3
              simp only [if_true] at hW3
              simp +contextual only [go_sem, Rcb, Rbk, sevalprocAttr, hlv, z, hH, hno13, hpp, hp18, hp21, hp25, hpv, hpv21, hc, kx1, kx2, kx3, hxo]
              intro bl hbl hapl
              intro bm hbm hapm
              have hq : ∀ {M' : Mem}, Ext M13 M' → RS M' (RAg M') 7 ags' (.slice aa ags'.length ac) → M' bl = some [.int .i64 12, .int .i64 0, .int .i64 0, .int .i64 0, .int .i64 0, st [], .int .i64 0, .slice none 0 0, xkv, .slice aa ags'.length ac, .slice (some ⟨bk, 0, none⟩) 1 1] → M' bm = some [.int .i64 2, .int .i64 0, x0, x1, x2, x3, x4, x5, .slice none 0 0, .slice none 0 0, .slice (some ⟨bl, 0, none⟩) 1 1] → RPl M' (.mk 3 0 zeroE acc [] [(.mk 2 0 hx [] [] [.mk 12 0 zeroE K.1 ags' [p2]])]) [.int .i64 3, .int .i64 0, .int .i64 0, .int .i64 0, .int .i64 0, st [], .int .i64 0, .slice none 0 0, .slice fa acc.length fc, .slice none 0 0, .slice (some ⟨bm, 0, none⟩) 1 1] := fun he ha hl hb => RPl_build (hxs13 he) RS_nil (RPl_one hb (RPl_iff.2 ⟨[x0, x1, x2, x3, x4, x5], .slice none 0 0, .slice none 0 0, .slice (some ⟨bl, 0, none⟩) 1 1, rfl, REx_ext he _ _ hxe, RS_nil, RS_nil, RPl_one hl (hg12 he ha)⟩))
              cases hD : s.distinct with
              | false =>
                rw [hD] at hW3
                simp only [if_false, Bool.false_eq_true] at hW3
                simp +contextual only [go_sem, Rcb, Rbk, sevalprocAttr, hlv, z, hH, hno13, hpp, hp18, hp21, hp25, hpv, hpv21, hc, hapm, hbm, hapl, hbl, hD]
                exact Close_row fun M14 hM14 hno14 hsl => Close_freeze fun he hm hno15 => Close_freeze fun he2 hl hno16 => Close_drop (Close_drop (Close_drop (Close_drop (Close_drop (Close_drop (end_id hTY rfl rfl ⟨⟨_, _, rfl, by rw [hW3]; exact hq ((hM14.trans he).trans he2) (hfin hM14 hsl (he.trans he2)) hl (he2 _ _ hm), by rw [hW3]; exact hns13 ((hM14.trans he).trans he2)⟩, by rw [hW3], rfl⟩))))))
              | true =>
                rw [hD] at hW3
                simp only [if_true] at hW3
                simp +contextual only [go_sem, Rcb, Rbk, sevalprocAttr, hlv, z, hH, hno13, hpp, hp18, hp21, hp25, hpv, hpv21, hc, hapm, hbm, hapl, hbl, hD]
                intro bn hbn hapn
                refine rCall_close (k := fun h' => ∃ M14, Ext M13 M14 ∧ RPl M14 (.mk 3 0 zeroE acc [] [(.mk 2 0 hx [] [] [.mk 12 0 zeroE K.1 ags' [p2]])]) [.int .i64 3, .int .i64 0, .int .i64 0, .int .i64 0, .int .i64 0, st [], .int .i64 0, .slice none 0 0, .slice fa acc.length fc, .slice none 0 0, .slice (some ⟨bm, 0, none⟩) 1 1] ∧ M14 bn = some [.int .i64 3, .int .i64 0, .int .i64 0, .int .i64 0, .int .i64 0, st [], .int .i64 0, .slice none 0 0, .slice fa acc.length fc, .slice none 0 0, .slice (some ⟨bm, 0, none⟩) 1 1] ∧ (M14 b8 = none ∧ M14 b6 = none ∧ M14 vb = none ∧ M14 bb = none) ∧
                  h' = ⟨T25, M14, [(b8, [.int .i64 3, .int .i64 0, .int .i64 0, .int .i64 0, .int .i64 0, st [], .int .i64 0, .slice none 0 0, .slice fa acc.length fc, .slice none 0 0, .slice (some ⟨bm, 0, none⟩) 1 1]), (b6, z11), (vb, [.slice na names.length nc, .bool true, kv, .slice aa ags'.length ac]), (bb, [.int .i64 f'])], []⟩)
                  (Close_row fun M14 hM14 hno14 hsl => Close_freeze fun he1 hn hno15 => Close_freeze fun he2 hm hno16 => Close_freeze fun he3 hl hno17 => Close_drop (Close_drop (Close_drop (Close_id ⟨_, ((hM14.trans he1).trans he2).trans he3, hq (((hM14.trans he1).trans he2).trans he3) (hfin hM14 hsl ((he1.trans he2).trans he3)) hl (he3 _ _ hm), he3 _ _ (he2 _ _ hn), ⟨hno17.2.2.2.1, hno17.2.2.2.2.1, hno17.2.2.2.2.2.1, hno17.2.2.2.2.2.2.1⟩, rfl⟩)))) ?_ bod33
                rintro h' ⟨M14, hM14, hpl, hn, hno14, rfl⟩
                refine rCall_pure (ct_over 11 (RPl_one hn hpl) T25) ?_ (fun _ _ _ _ h => h.elim)
                rintro r M15 hM15 hno15 ⟨cs7, rfl, h7⟩
                simp only [noneL, and_true] at hno15
                obtain ⟨q0, q1, q2, q3, q4, q5, q6, q7, q8, q9, q10, rfl, hqq⟩ := RPl_cells h7
                simp +contextual only [go_sem, Rcb, Rbk, sevalprocAttr, hlv, hqq, hno15, hpp]
                exact Close_drop (Close_drop (Close_drop (end_id hTY rfl rfl ⟨⟨_, _, rfl, by rw [hW3]; exact h7, by rw [hW3]; exact hns13 (hM14.trans hM15)⟩, by rw [hW3], rfl⟩)))
def colR (r : Rel) (l : List Co) : List (Bs × Bs) := l.map fun c => (r.name, c.name)
def condR (r : Rel) (x : X) : Ex × Int := let y := exprR (colR r r.cols) x 0; if y.2 = 0 then y else (zeroE, y.2)
abbrev z6 : List Value := [.int .i64 0, .int .i64 0, .int .i64 0, st [], .int .i64 0, .slice none 0 0]
set_option maxHeartbeats 4000000 in
theorem ct_CondR {M : Mem} {r : Rel} {cs xc : List Value} {x : X} (hr : RRel M r cs) (hx : RX M x xc) (hok : okX x) (hcl : r.cols.length ≤ 1048576) (T : Tm) :
    CtT Tryz.prog 14 [.agg ⟨cs⟩, .agg ⟨xc⟩] T M [] [] (fun v M' _ _ => ∃ ys, v = .tuple ⟨[.agg ⟨ys⟩, .int .i64 (condR r x).2]⟩ ∧ REx M' (condR r x).1 ys) noPan := by
  obtain ⟨aw, rfl, ks, hsx⟩ := RX_form hx
  obtain ⟨ca, cn, s1, a1, n1, a2, n2, a3, n3, rfl, hs1, hcs, hpl⟩ := RRel_form hr
  obtain ⟨hbk, _, hcg⟩ : r.cols.length ≤ 140737488355328 ∧ r.cols.length ≤ cn ∧ ∀ (i : Nat) (x : Co), r.cols[i]? = some x → ∃ b o cs, ca = some ⟨b, o, none⟩ ∧ At M b (o + i * 2) cs ∧ RCo x cs := by
    obtain ⟨h1, a', c', h2, h3, _, h4⟩ := RS_elim (by decide) (fun _ _ => RCo_len) hcs
    injection h2 with h5 h6 h7
    subst h5 h7
    exact ⟨h1, h3, h4⟩
  refine ct_run mx bod14 Tryz.func14 rfl (by rw [nt14]; exact Nat.le_of_ble_eq_true rfl) (dr := dr14) (by kernel_rfl) rs14 ?_
  intro hno _
  simp +contextual only [go_sem, Rcb, Rbk, sevalprocAttr, hs1, ks]
  intro b2 T2 hb2 hT2 hTb2 b3 T3 hb3 hap3 hT3 hTb3 b4 T4 hb4 hap4 hT4 hTb4 b6 T6 hb6 hap6 hT6 hTb6 b7 T7 hb7 hap7 hT7 hTb7
  have hT := (((hT2.trans hT3).trans hT4).trans hT6).trans hT7
  have hp7 : (¬ b7 = b6 ∧ ¬ b6 = b7) ∧ (¬ b7 = b4 ∧ ¬ b4 = b7) ∧ (¬ b6 = b4 ∧ ¬ b4 = b6) := ⟨hap7.1, hap7.2.1, hap6.1⟩
  refine loop_rangeC r.cols.length 18 [(2, .pointer (some ⟨b2, 0, none⟩)), (3, .pointer (some ⟨b3, 0, none⟩)), (4, .pointer (some ⟨b4, 0, none⟩)), (6, .pointer (some ⟨b6, 0, none⟩)), (7, .pointer (some ⟨b7, 0, none⟩)), (16, .slice ca r.cols.length cn), (17, .int .i64 (r.cols.length : Int))]
    (fun i e h => ∃ N' M' R fv, ExtT T7 N' ∧ Ext M M' ∧ mcell M' ⟨b2, 0, none⟩ = some (st r.name) ∧ M' b3 = some [.int .i64 x.k, .int .i64 x.v.k, .int .i64 x.v.n, st x.v.t, st x.tab, st x.name, aw] ∧ (M' b7 = none ∧ M' b6 = none ∧ M' b4 = none) ∧ Acc 116 2 RCl [] R fv (colR r (r.cols.take i)) ∧
      h = ⟨N', M', [(b7, [fv, .bool false, .slice none 0 0, .slice none 0 0]), (b6, [.int .i64 0]), (b4, z6)], R⟩)
    0 (by omega) (by simp only [live, go_sem, Rcb, Rbk, sevalprocAttr]) (by simp only [go_sem, Rcb, Rbk, sevalprocAttr]) ?_ ?_
  · refine Close_perm (L' := [(b3, _), (b2, _), (b7, _), (b6, _), (b4, _)]) (List.perm_append_comm (l₁ := [(b7, _), (b6, _), (b4, _)]) (l₂ := [(b3, _), (b2, _)])) (Close_freeze fun he h3 hno3 => Close_freeze fun he2 h2 hno4 => Close_id ⟨T7, _, [], _, ExtT.rfl', he.trans he2, mcell_some h2, he2 _ _ h3, ⟨hno4.1, hno4.2.1, hno4.2.2.1⟩, Acc_nil, rfl⟩)
  rintro i e h hi' hlv ht ⟨N1, M1, R1, fv, hN1, hM1, h2, h3, hno1, hacc, rfl⟩
  simp only [live] at hlv
  have hlen : (colR r (r.cols.take i)).length = i := by unfold colR; simp; omega
  by_cases hlt : i < r.cols.length
  · obtain ⟨b', o', cs', rfl, hatI, hrx⟩ := hcg i r.cols[i] (List.getElem?_eq_getElem hlt)
    unfold RCo at hrx; subst hrx
    obtain ⟨x0, x1⟩ := At2 (hatI.ext hM1)
    obtain ⟨fa, fc, hfv⟩ := Acc_form hacc
    subst hfv
    simp +contextual only [go_sem, Rcb, Rbk, sevalprocAttr, hlv, ht, hlt, x0, x1]
    intro b9 T9 hb9 hap9 hT9 hTb9
    have hp9 : (¬ b9 = b7 ∧ ¬ b7 = b9) ∧ (¬ b9 = b6 ∧ ¬ b6 = b9) ∧ (¬ b9 = b4 ∧ ¬ b4 = b9) := hap9
    refine draw_all ?_
    simp +contextual only [go_sem, Rcb, Rbk, sevalprocAttr, hlv, ht, hlt, x0, x1, h2, hno1, hp7, hp9, hb9]
    intro bl hbl hapl
    have hpl' : (¬ bl = b9 ∧ ¬ b9 = bl) ∧ (¬ bl = b7 ∧ ¬ b7 = bl) ∧ (¬ bl = b6 ∧ ¬ b6 = bl) ∧ (¬ bl = b4 ∧ ¬ b4 = bl) := hapl
    have hsub := Sub_ML1 (T0 := T9) (T := T9) (R0 := R1) (R := R1) (cs := [st r.name, st r.cols[i].name]) (L := [(b9, [st r.cols[i].name, .int .i64 r.cols[i].ty]), (b7, [.slice fa (colR r (r.cols.take i)).length fc, .bool false, .slice none 0 0, .slice none 0 0]), (b6, [.int .i64 0]), (b4, z6)]) (Ext.rfl' (M := M1)) ⟨hb9, hno1.1, hno1.2.1, hno1.2.2, trivial⟩ ⟨hapl.1, hapl.2.1, hapl.2.2.1, hapl.2.2.2, trivial⟩
    refine ⟨hsub, ?_⟩
    have hcs : colR r (r.cols.take (i + 1)) = colR r (r.cols.take i) ++ [(r.name, r.cols[i].name)] := by
      unfold colR; rw [List.take_succ_eq_append_getElem hlt, List.map_append]; rfl
    refine app_acc (x := (r.name, r.cols[i].name)) Tryz.underlying112 row112 okt112 hacc rfl (fun _ _ => RCl_len) (RCl_oneC (c := (r.name, r.cols[i].name)) rfl) hbl (by omega) (by decide) ?_
    intro fv' R' hacc'
    rw [← hcs] at hacc'
    obtain ⟨fa', fc', rfl⟩ := Acc_form hacc'
    simp +contextual only [go_sem, Rcb, Rbk, sevalprocAttr, hlv, ht, hlt, h2, hno1, hp7, hp9, hb9, hpl', hbl]
    refine ⟨hsub, ?_⟩
    refine lp_close (Close_drop (Close_drop (Close_id ⟨r.cols.length - (i + 1), by omega, rfl, i + 1, by omega, rfl, ?_, ?_, T9, M1, R', _, hN1.trans hT9, hM1, h2, h3, hno1, hacc', rfl⟩)))
    · simp only [live, hlv, go_sem, Rcb, Rbk, sevalprocAttr]
    · simp only [ht, go_sem, Rcb, Rbk, sevalprocAttr, wrap_succ i (by omega)]
  · have : i = r.cols.length := by omega
    subst this
    rw [List.take_length] at hacc hlen
    obtain ⟨fa, fc, hfv⟩ := Acc_form hacc
    obtain ⟨y0, y1, y2, y3, y4, y5, y6⟩ := At7 (At_self h3)
    simp only [Nat.zero_add] at y0 y1 y2 y3 y4 y5 y6
    simp +contextual only [go_sem, Rcb, Rbk, sevalprocAttr, hlv, ht, hlt, y0, y1, y2, y3, y4, y5, y6]
    refine rCall_close (k := fun h' => ∃ M2, Ext M1 M2 ∧ RS M2 RCl 2 (colR r r.cols) fv ∧ M2 b7 = some [fv, .bool false, .slice none 0 0, .slice none 0 0] ∧ (M2 b4 = none ∧ M2 b6 = none) ∧ h' = ⟨N1, M2, [(b4, z6), (b6, [.int .i64 0])], []⟩)
      (Close_acc hacc (by omega) (by decide) ⟨hno1.1, hno1.2.1, hno1.2.2, trivial⟩ fun M2 hM2 hno2 hrs => Close_freeze fun he h7 hno3 => Close_perm (List.Perm.swap _ _ _) (Close_id ⟨_, hM2.trans he, RS_ext he (fun _ _ h => h) hrs, h7, ⟨hno3.2.1, hno3.1⟩, rfl⟩)) ?_ bod34
    rintro h' ⟨M2, hM2, hnv, h7, hno2, rfl⟩
    refine rCall_one [(b4, z6)] (exR (colR r r.cols) _ x (Nat.le_refl _) M2 N1 b7 b6 _ _ _ _ 0 hnv h7 (RX_ext (hM1.trans hM2) _ _ hx) hok) ?_ (fun _ _ _ _ _ _ h => h.elim)
    rintro v M3 L3 hM3 hk3 hno3 ⟨⟨ys, rfl, hye⟩, rfl, -⟩
    simp only [List.cons_append, List.nil_append, noneL, and_true] at hno3
    obtain ⟨s6, rfl, hs6, _⟩ := REx_form hye
    obtain ⟨Y, hY⟩ : ∃ Y, Y = exprR (colR r r.cols) x 0 := ⟨_, rfl⟩
    rw [← hY] at hye ⊢
    have hC : condR r x = if Y.2 = 0 then Y else (zeroE, Y.2) := by rw [hY]; rfl
    simp +contextual only [go_sem, Rcb, Rbk, sevalprocAttr, hlv, hs6, hno3]
    intro b10 T10 hb10 hap10 hT10 hTb10
    have hp10 : (¬ b10 = b4 ∧ ¬ b4 = b10) ∧ (¬ b10 = b6 ∧ ¬ b6 = b10) := hap10
    have hTT := (hT.trans hN1).trans hT10
    by_cases h0 : Y.2 = 0
    · rw [if_pos h0] at hC
      simp +contextual only [go_sem, Rcb, Rbk, sevalprocAttr, hlv, hno3, hp10, hp7, h0, hs6, hb10]
      exact Close_drop (Close_drop (Close_drop (end_none hTT ⟨_, by rw [hC, h0], by rw [hC]; exact hye⟩)))
    · rw [if_neg h0] at hC
      simp +contextual only [go_sem, Rcb, Rbk, sevalprocAttr, hlv, hno3, hp10, hp7, h0, hs6, hb10]
      refine draw_all ?_
      simp +contextual only [go_sem, Rcb, Rbk, sevalprocAttr, hlv, hno3, hp10, hp7, h0, hs6, hb10]
      refine ⟨fun _ _ h => h, ?_⟩
      exact Close_drop (Close_drop (Close_drop (end_none hTT ⟨_, by rw [hC], by rw [hC]; exact zeroE_R _⟩)))
def setR (op : Int) (a b : Pl) : Pl := if op = 1 then plan2 8 a b else if op = 2 then plan1 11 (plan2 8 a b) else if op = 3 then plan1 10 (plan2 9 a b) else plan1 10 (plan2 9 (plan1 11 a) (plan1 11 b))
def partsR (rels : List Rel) (ops : List Int) : Nat → Pl → List Bs → Int → List Se → (Pl × List Bs) × Int
  | _, p, names, e, [] => ((p, names), e)
  | i, p, names, e, s :: l => if i = 0 then partsR rels ops 1 (selR rels s e).1.1 (selR rels s e).1.2 (selR rels s e).2 l else partsR rels ops (i + 1) (setR (ops.getD (i - 1) 0) p (selR rels s e).1.1) names (selR rels s e).2 l
def topR (q : Q) (p : Pl) (names : List Bs) (e : Int) : Pl × Int := if 0 ≤ q.limit then (.mk 13 q.limit zeroE (exprsR (names.map fun n => ([], n)) q.order e).1 [] [p], (exprsR (names.map fun n => ([], n)) q.order e).2) else (p, e)
def queryR (rels : List Rel) (q : Q) : (Pl × List Bs) × Int := let r := partsR rels q.ops 0 zeroP [] 0 q.parts; (((topR q r.1.1 r.1.2 r.2).1, r.1.2), (topR q r.1.1 r.1.2 r.2).2)
def boundR (rels : List Rel) (q : Q) : (Pl × List Co) × Int := let r := queryR rels q
  if r.2 ≠ 0 then ((zeroP, []), r.2) else match colsT (tablesM rels) r.1.1 with
  | .error e => ((zeroP, []), e)
  | .ok t => ((r.1.1, zipC r.1.2 t), 0)
theorem calledL_len : ∀ (i : Nat) (l : List It), (calledL i l).length = l.length
  | i, [] => rfl
  | i, x :: l => by rw [calledL, List.length_cons, List.length_cons, calledL_len (i + 1) l]
theorem selR_nlen {rels : List Rel} {s : Se} (hc : ∀ r ∈ rels, r.cols.length ≤ 1048576) (hok : OkSe s) (e : Int) : (selR rels s e).1.2.length ≤ 16777216 := by
  have h1 := fromR_len hc s.src 0 zeroP [] [] e
  have h2 : s.src.length * 1048576 ≤ 16 * 1048576 := Nat.mul_le_mul_right _ hok.src
  simp only [List.length_nil] at h1
  unfold selR selR2 bodyR
  simp only
  cases hS : s.star with
  | true => simp only [if_true, List.length_map]; omega
  | false =>
    have h3 := (hok.its hS).1
    simp only [if_false, Bool.false_eq_true]
    split <;> (simp only [calledL_len]; omega)
set_option maxHeartbeats 4000000 in
theorem ct_QueryR {M : Mem} {rels : List Rel} {rv : Value} {q : Q} {cs : List Value} (hr : RS M (RRel M) 14 rels rv) (hq : RQ M q cs) (hlen : rels.length ≤ 1048576) (hcols : ∀ r ∈ rels, r.cols.length ≤ 1048576) (hok : ∀ s ∈ q.parts, OkSe s) (hnl : ∀ s ∈ q.parts, ∀ x ∈ s.src, (asOf x).length ≤ 1000)
    (hpar : q.parts.length ≤ q.ops.length + 1) (hpl : q.parts.length ≤ 1048576) (hord : 0 ≤ q.limit → q.order.length ≤ 1048576 ∧ ∀ x ∈ q.order, okX x) (hwid : ∀ t, (queryR rels q).2 = 0 → colsT (tablesM rels) (queryR rels q).1.1 = .ok t → t.length ≤ (queryR rels q).1.2.length) (T : Tm) :
    CtT Tryz.prog 11 [rv, .agg ⟨cs⟩] T M [] [] (fun r M' _ _ => ∃ ps cv, r = .tuple ⟨[.agg ⟨ps⟩, cv, .int .i64 (boundR rels q).2]⟩ ∧ RPl M' (boundR rels q).1.1 ps ∧ RS M' RCo 2 (boundR rels q).1.2 cv) noPan := by
  obtain ⟨_, ra, rc, rfl, _⟩ := RS_elim (by decide) (fun _ _ => RRel_len) hr
  obtain ⟨pv, ov, dv, hps, hos, hds, hcs⟩ := hq
  obtain ⟨hpb, pa, pc, rfl, hple, _, hpg⟩ := RS_elim (by decide) (fun _ _ => RSe_len) hps
  obtain ⟨_, oa, oc, rfl, _, _, hog⟩ := RS_elim (by decide) (fun _ _ => RI_len) hos
  obtain ⟨_, da, dc, rfl, _, _, hdg⟩ := RS_elim (by decide) (fun _ _ => RX_len) hds
  subst hcs
  obtain ⟨W, hW⟩ : ∃ W, W = partsR rels q.ops 0 zeroP [] 0 q.parts := ⟨_, rfl⟩
  refine ct_run mx bod11 Tryz.func11 rfl (by rw [nt11]; exact Nat.le_of_ble_eq_true rfl) (dr := dr11) (by kernel_rfl) rs11 ?_
  intro hno _
  simp +contextual only [go_sem, Rcb, Rbk, sevalprocAttr]
  intro b3 T3 hb3 hT3 hTb3 b4 T4 hb4 hap4 hT4 hTb4 b7 T7 hb7 hap7 hT7 hTb7 b8 T8 hb8 hap8 hT8 hTb8
  have hT := ((hT3.trans hT4).trans hT7).trans hT8
  have hpp : (¬ b8 = b7 ∧ ¬ b7 = b8) ∧ (¬ b8 = b4 ∧ ¬ b4 = b8) ∧ (¬ b7 = b4 ∧ ¬ b4 = b7) := ⟨hap8.1, hap8.2.1, hap7.1⟩
  refine loop_rangeC q.parts.length 30 [(0, .slice ra rels.length rc), (3, .pointer (some ⟨b3, 0, none⟩)), (4, .pointer (some ⟨b4, 0, none⟩)), (7, .pointer (some ⟨b7, 0, none⟩)), (8, .pointer (some ⟨b8, 0, none⟩)), (28, .slice pa q.parts.length pc), (29, .int .i64 (q.parts.length : Int))]
    (fun i e h => ∃ N' M' p names nv f c0 c1 c2 c3 c4 c5 c6 c7 c8 c9 c10, ExtT T8 N' ∧ Ext M M' ∧ M' b3 = some [.slice pa q.parts.length pc, .slice oa q.ops.length oc, .slice da q.order.length dc, .int .i64 q.limit] ∧ (M' b8 = none ∧ M' b4 = none ∧ M' b7 = none) ∧
      RPl M' p [c0, c1, c2, c3, c4, c5, c6, c7, c8, c9, c10] ∧ e 9 = nv ∧ RS M' RSt 1 names nv ∧ names.length ≤ 16777216 ∧ partsR rels q.ops i p names f (q.parts.drop i) = W ∧ h = ⟨N', M', [(b8, [c0, c1, c2, c3, c4, c5, c6, c7, c8, c9, c10]), (b4, z11), (b7, [.int .i64 f])], []⟩)
    0 (by omega) (by simp only [live, go_sem, Rcb, Rbk, sevalprocAttr]) (by simp only [go_sem, Rcb, Rbk, sevalprocAttr])
    (Close_perm (L' := [(b3, _), (b8, _), (b4, z11), (b7, _)]) (by
      refine (List.perm_append_comm (l₁ := [(b8, _), (b7, _), (b4, _)]) (l₂ := [(b3, _)])).trans ?_
      exact ((List.Perm.swap _ _ _).cons _).cons _) (Close_freeze fun he h3 hno1 => Close_id ⟨T8, _, zeroP, [], _, 0, _, _, _, _, _, _, _, _, _, _, _, ExtT.rfl', he, h3, ⟨hno1.1, hno1.2.1, hno1.2.2.1⟩, RPl_zero, by simp only [go_sem, Rcb, Rbk, sevalprocAttr], RS_nil, by simp, hW.symm, rfl⟩)) ?_
  rintro i e h hi hlv ht ⟨T9, M1, p, names, nv, f, c0, c1, c2, c3, c4, c5, c6, c7, c8, c9, c10, hT9, hM1, h3, hno1, hp, e9, hnv, hnlen, hres, rfl⟩
  simp only [live] at hlv
  have hc := RPl_one_cells hp
  by_cases hlt : i < q.parts.length
  · obtain ⟨b', o', cs', rfl, hat, hrx⟩ := hpg i q.parts[i] (List.getElem?_eq_getElem hlt)
    have hdrop : q.parts.drop i = q.parts[i] :: q.parts.drop (i + 1) := List.drop_eq_getElem_cons hlt
    rw [hdrop, partsR] at hres
    have hoki := hok q.parts[i] (List.getElem_mem hlt)
    have hrx1 := RSe_ext hM1 _ _ hrx
    obtain ⟨ai, aj, af, ag, aw, ah, ap, aq, rfl, h_i, h_f, h_w, h_v, h_gr, ow, ov⟩ := RSe_form hrx1
    have z := At21 (hat.ext hM1)
    simp +contextual only [go_sem, Rcb, Rbk, sevalprocAttr, hlv, ht, hlt, z, ow, ov]
    intro b11 T11 hb11 hap11 hT11 hTb11
    refine rCall_close (k := fun h' => h' = ⟨T11, M1, [(b8, [c0, c1, c2, c3, c4, c5, c6, c7, c8, c9, c10]), (b4, z11), (b7, [.int .i64 f])], []⟩) (Close_drop (Close_id rfl)) ?_ bod32
    rintro h' rfl
    refine rCall_one [(b8, _), (b4, _)] (ct_SelectR f (RS_ext hM1 (RRel_ext hM1) hr) hcols hrx1 hoki (hnl _ (List.getElem_mem hlt)) T11) ?_ (fun _ _ _ _ _ _ h => h.elim)
    obtain ⟨r, hr'⟩ : ∃ r, r = selR rels q.parts[i] f := ⟨_, rfl⟩
    have hrl := selR_nlen hcols hoki f
    rw [← hr'] at hres hrl ⊢
    rintro v M2 L2 hM2 hk2 hno2 ⟨⟨qs, rnv, rfl, hrp, hrn⟩, rfl, -⟩
    simp only [List.cons_append, List.nil_append, noneL, and_true] at hno2
    obtain ⟨d0, d1, d2, d3, d4, d5, d6, d7, d8, d9, d10, rfl, hd⟩ := RPl_cells hrp
    have hM12 := hM1.trans hM2
    replace h3 := hM2 _ _ h3
    have hTT := (hT.trans hT9).trans hT11
    rcases Nat.eq_zero_or_pos i with hi0 | hi0
    · subst hi0
      rw [if_pos rfl] at hres
      simp +contextual only [go_sem, Rcb, Rbk, sevalprocAttr, hlv, ht, hlt, hd, hpp, hno2]
      intro b12 T12 hb12 hap12 hT12 hTb12
      refine lp_close (Close_drop (Close_id ⟨q.parts.length - 1, by omega, rfl, 1, by omega, rfl, ?_, ?_, T12, M2, r.1.1, r.1.2, _, r.2, d0, d1, d2, d3, d4, d5, d6, d7, d8, d9, d10, hT9.trans (hT11.trans hT12), hM12, h3, hno2, hrp, ?_, hrn, hrl, hres, rfl⟩))
      · simp only [live, hlv, go_sem, Rcb, Rbk, sevalprocAttr]
      · simp only [ht, go_sem, Rcb, Rbk, sevalprocAttr]; rfl
      · simp only [go_sem, Rcb, Rbk, sevalprocAttr]
    · have hi1 : ¬ i = 0 := by omega
      have hi2 : ¬ ((i : Int) = 0) := by omega
      rw [if_neg hi1] at hres
      have hoi : i - 1 < q.ops.length := by omega
      obtain ⟨b2, o2, cs2, rfl, hat2, hrx2⟩ := hog (i - 1) q.ops[i - 1] (List.getElem?_eq_getElem hoi)
      unfold RI at hrx2; subst hrx2
      have z0 := At1 (hat2.ext hM12)
      rw [Nat.mul_one] at z0
      have hgd : q.ops.getD (i - 1) 0 = q.ops[i - 1] := by simp [List.getD, hoi]
      have hwi : IntKind.i64.wrap ((i : Int) - 1) = ((i - 1 : Nat) : Int) := by rw [wrap64 (by omega) (by omega)]; omega
      rw [hgd] at hres
      simp +contextual only [go_sem, sevalprocAttr, hlv, ht, hlt, hd, hno2, hi2, hwi, hoi, z0, mcell_some h3]
      intro b12 T12 hb12 hap12 hT12 hTb12
      have hp12 : (¬ b12 = b8 ∧ ¬ b8 = b12) ∧ (¬ b12 = b4 ∧ ¬ b4 = b12) ∧ (¬ b12 = b7 ∧ ¬ b7 = b12) := hap12
      obtain ⟨op, hop⟩ : ∃ op, op = q.ops[i - 1] := ⟨_, rfl⟩
      rw [← hop] at hres z0
      rw [rCond_bool, if_neg (by simpa using hi2)]
      by_cases ho1 : op = 1
      · have hset : ∀ z, z = plan2 8 p r.1.1 → z = setR op p r.1.1 := fun z h => by rw [h]; unfold setR; rw [if_pos ho1]
        simp +contextual only [go_sem, Rcb, Rbk, sevalprocAttr, hlv, ht, hlt, hd, hc, hno2, hpp, hp12, hi2, hwi, hoi, z0, mcell_some h3, hb12, ho1]
        intro bk hbk hapk
        refine rCall_frz bod33 fun M3 hM3 hk hno3 => ?_
        simp only [noneL, and_true] at hno3
        refine rCall_pure (ct_over 8 (RPl_two (cs := [c0, c1, c2, c3, c4, c5, c6, c7, c8, c9, c10]) (ds := [d0, d1, d2, d3, d4, d5, d6, d7, d8, d9, d10]) hk (RPl_ext (hM2.trans hM3) _ _ hp) (RPl_ext hM3 _ _ hrp)) T12) ?_ (fun _ _ _ _ h => h.elim)
        rintro v M4 hM4 hno4 ⟨gs, rfl, hg⟩
        simp only [noneL, and_true] at hno4
        obtain ⟨g0, g1, g2, g3, g4, g5, g6, g7, g8, g9, g10, rfl, hgc⟩ := RPl_cells hg
        have h24 := hM3.trans hM4
        simp +contextual only [go_sem, Rcb, Rbk, sevalprocAttr, hlv, ht, hno4, hpp, hp12, hgc]
        refine lp_close (Close_drop (Close_id ⟨q.parts.length - (i + 1), by omega, rfl, i + 1, by omega, rfl, ?_, ?_, T12, M4, _, names, _, r.2, _, _, _, _, _, _, _, _, _, _, _, hT9.trans (hT11.trans hT12), hM12.trans h24, h24 _ _ h3, ⟨hno4.2.1, hno4.2.2.1, hno4.2.2.2⟩, hset _ rfl ▸ hg, ?_, RS_ext (hM2.trans h24) (fun _ _ h => h) hnv, hnlen, hres, rfl⟩))
        · simp only [live, hlv, go_sem, Rcb, Rbk, sevalprocAttr]
        · simp only [ht, go_sem, Rcb, Rbk, sevalprocAttr, wrap_succ i (by omega)]
        · simp only [e9, go_sem, Rcb, Rbk, sevalprocAttr]
      by_cases ho2 : op = 2
      · have hset : ∀ z, z = plan1 11 (plan2 8 p r.1.1) → z = setR op p r.1.1 := fun z h => by rw [h]; unfold setR; rw [if_neg ho1, if_pos ho2]
        simp +contextual only [go_sem, Rcb, Rbk, sevalprocAttr, hlv, ht, hlt, hd, hc, hno2, hpp, hp12, hi2, hwi, hoi, z0, mcell_some h3, hb12, ho1, ho2]
        intro bk hbk hapk
        refine rCall_frz bod33 fun M3 hM3 hk hno3 => ?_
        simp only [noneL, and_true] at hno3
        refine rCall_pure (ct_over 8 (RPl_two (cs := [c0, c1, c2, c3, c4, c5, c6, c7, c8, c9, c10]) (ds := [d0, d1, d2, d3, d4, d5, d6, d7, d8, d9, d10]) hk (RPl_ext (hM2.trans hM3) _ _ hp) (RPl_ext hM3 _ _ hrp)) T12) ?_ (fun _ _ _ _ h => h.elim)
        rintro v M4 hM4 hno4 ⟨gs, rfl, hg⟩
        simp only [noneL, and_true] at hno4
        obtain ⟨g0, g1, g2, g3, g4, g5, g6, g7, g8, g9, g10, rfl, hgc⟩ := RPl_cells hg
        have h24 := hM3.trans hM4
        simp +contextual only [go_sem, Rcb, Rbk, sevalprocAttr, hlv, ht, hno4, hpp, hp12, hgc]
        intro bl hbl hapl
        refine rCall_frz bod33 fun M5 hM5 hl hno5 => ?_
        simp only [noneL, and_true] at hno5
        refine rCall_pure (ct_over 11 (RPl_one hl (RPl_ext hM5 _ _ hg)) T12) ?_ (fun _ _ _ _ h => h.elim)
        rintro v M6 hM6 hno6 ⟨ks, rfl, hk1⟩
        simp only [noneL, and_true] at hno6
        obtain ⟨k0, k1, k2, k3, k4, k5, k6, k7, k8, k9, k10, rfl, hkc⟩ := RPl_cells hk1
        have h26 := h24.trans (hM5.trans hM6)
        simp +contextual only [go_sem, Rcb, Rbk, sevalprocAttr, hlv, ht, hno6, hpp, hp12, hkc]
        refine lp_close (Close_drop (Close_id ⟨q.parts.length - (i + 1), by omega, rfl, i + 1, by omega, rfl, ?_, ?_, T12, M6, _, names, _, r.2, _, _, _, _, _, _, _, _, _, _, _, hT9.trans (hT11.trans hT12), hM12.trans h26, h26 _ _ h3, ⟨hno6.2.1, hno6.2.2.1, hno6.2.2.2⟩, hset _ rfl ▸ hk1, ?_, RS_ext (hM2.trans h26) (fun _ _ h => h) hnv, hnlen, hres, rfl⟩))
        · simp only [live, hlv, go_sem, Rcb, Rbk, sevalprocAttr]
        · simp only [ht, go_sem, Rcb, Rbk, sevalprocAttr, wrap_succ i (by omega)]
        · simp only [e9, go_sem, Rcb, Rbk, sevalprocAttr]
      by_cases ho3 : op = 3
      · have hset : ∀ z, z = plan1 10 (plan2 9 p r.1.1) → z = setR op p r.1.1 := fun z h => by rw [h]; unfold setR; rw [if_neg ho1, if_neg ho2, if_pos ho3]
        simp +contextual only [go_sem, Rcb, Rbk, sevalprocAttr, hlv, ht, hlt, hd, hc, hno2, hpp, hp12, hi2, hwi, hoi, z0, mcell_some h3, hb12, ho1, ho2, ho3]
        intro bk hbk hapk
        refine rCall_frz bod33 fun M3 hM3 hk hno3 => ?_
        simp only [noneL, and_true] at hno3
        refine rCall_pure (ct_over 9 (RPl_two (cs := [c0, c1, c2, c3, c4, c5, c6, c7, c8, c9, c10]) (ds := [d0, d1, d2, d3, d4, d5, d6, d7, d8, d9, d10]) hk (RPl_ext (hM2.trans hM3) _ _ hp) (RPl_ext hM3 _ _ hrp)) T12) ?_ (fun _ _ _ _ h => h.elim)
        rintro v M4 hM4 hno4 ⟨gs, rfl, hg⟩
        simp only [noneL, and_true] at hno4
        obtain ⟨g0, g1, g2, g3, g4, g5, g6, g7, g8, g9, g10, rfl, hgc⟩ := RPl_cells hg
        have h24 := hM3.trans hM4
        simp +contextual only [go_sem, Rcb, Rbk, sevalprocAttr, hlv, ht, hno4, hpp, hp12, hgc]
        intro bl hbl hapl
        refine rCall_frz bod33 fun M5 hM5 hl hno5 => ?_
        simp only [noneL, and_true] at hno5
        refine rCall_pure (ct_over 10 (RPl_one hl (RPl_ext hM5 _ _ hg)) T12) ?_ (fun _ _ _ _ h => h.elim)
        rintro v M6 hM6 hno6 ⟨ks, rfl, hk1⟩
        simp only [noneL, and_true] at hno6
        obtain ⟨k0, k1, k2, k3, k4, k5, k6, k7, k8, k9, k10, rfl, hkc⟩ := RPl_cells hk1
        have h26 := h24.trans (hM5.trans hM6)
        simp +contextual only [go_sem, Rcb, Rbk, sevalprocAttr, hlv, ht, hno6, hpp, hp12, hkc]
        refine lp_close (Close_drop (Close_id ⟨q.parts.length - (i + 1), by omega, rfl, i + 1, by omega, rfl, ?_, ?_, T12, M6, _, names, _, r.2, _, _, _, _, _, _, _, _, _, _, _, hT9.trans (hT11.trans hT12), hM12.trans h26, h26 _ _ h3, ⟨hno6.2.1, hno6.2.2.1, hno6.2.2.2⟩, hset _ rfl ▸ hk1, ?_, RS_ext (hM2.trans h26) (fun _ _ h => h) hnv, hnlen, hres, rfl⟩))
        · simp only [live, hlv, go_sem, Rcb, Rbk, sevalprocAttr]
        · simp only [ht, go_sem, Rcb, Rbk, sevalprocAttr, wrap_succ i (by omega)]
        · simp only [e9, go_sem, Rcb, Rbk, sevalprocAttr]
      · have hset : ∀ z, z = plan1 10 (plan2 9 (plan1 11 p) (plan1 11 r.1.1)) → z = setR op p r.1.1 := fun z h => by rw [h]; unfold setR; rw [if_neg ho1, if_neg ho2, if_neg ho3]
        simp +contextual only [go_sem, Rcb, Rbk, sevalprocAttr, hlv, ht, hlt, hd, hc, hno2, hpp, hp12, hi2, hwi, hoi, z0, mcell_some h3, hb12, ho1, ho2, ho3]
        refine draw_all ?_
        simp +contextual only [go_sem, Rcb, Rbk, sevalprocAttr, hlv, ht, hlt, hd, hc, hno2, hpp, hp12, hi2, hwi, hoi, z0, mcell_some h3, hb12]
        have hsub0 : ∀ {M' : Mem} {N0 : Tm} {R0 : RR}, Ext M2 M' → (M' b12 = none ∧ M' b8 = none ∧ M' b4 = none ∧ M' b7 = none) → Vc.Sub ⟨T12, M2, [(b12, [d0, d1, d2, d3, d4, d5, d6, d7, d8, d9, d10]), (b8, [c0, c1, c2, c3, c4, c5, c6, c7, c8, c9, c10]), (b4, z11), (b7, [.int .i64 r.2])], []⟩ ⟨N0, M', [(b12, [d0, d1, d2, d3, d4, d5, d6, d7, d8, d9, d10]), (b8, [c0, c1, c2, c3, c4, c5, c6, c7, c8, c9, c10]), (b4, z11), (b7, [.int .i64 r.2])], R0⟩ := fun he h => Sub_ML he ⟨h.1, h.2.1, h.2.2.1, h.2.2.2, trivial⟩
        have hsub1 : ∀ {M' : Mem} {N0 : Tm} {R0 : RR} {b : Nat} {cs : List Value}, Ext M2 M' → (M' b12 = none ∧ M' b8 = none ∧ M' b4 = none ∧ M' b7 = none) → ((¬ b = b12 ∧ ¬ b12 = b) ∧ (¬ b = b8 ∧ ¬ b8 = b) ∧ (¬ b = b4 ∧ ¬ b4 = b) ∧ (¬ b = b7 ∧ ¬ b7 = b)) → Vc.Sub ⟨T12, M2, [(b12, [d0, d1, d2, d3, d4, d5, d6, d7, d8, d9, d10]), (b8, [c0, c1, c2, c3, c4, c5, c6, c7, c8, c9, c10]), (b4, z11), (b7, [.int .i64 r.2])], []⟩ ⟨N0, M', (b, cs) :: [(b12, [d0, d1, d2, d3, d4, d5, d6, d7, d8, d9, d10]), (b8, [c0, c1, c2, c3, c4, c5, c6, c7, c8, c9, c10]), (b4, z11), (b7, [.int .i64 r.2])], R0⟩ := fun he h hb => Sub_ML1 he ⟨h.1, h.2.1, h.2.2.1, h.2.2.2, trivial⟩ ⟨hb.1, hb.2.1, hb.2.2.1, hb.2.2.2, trivial⟩
        refine ⟨?_, ?_⟩
        · intro bk hbk hapk
          refine ⟨hsub1 Ext.rfl' ⟨hb12, hno2⟩ hapk, ?_, ?_⟩
          · refine rCall_frz bod33 fun M3 hM3 hk hno3 => ?_
            simp only [noneL, and_true] at hno3
            refine rCall_pure (ct_over 11 (RPl_one hk (RPl_ext (hM2.trans hM3) _ _ hp)) T12) ?_ (fun _ _ _ _ h => h.elim)
            rintro v M4 hM4 hno4 ⟨gs, rfl, hg⟩
            simp only [noneL, and_true] at hno4
            obtain ⟨g0, g1, g2, g3, g4, g5, g6, g7, g8, g9, g10, rfl, hgc⟩ := RPl_cells hg
            have h24 := hM3.trans hM4
            simp +contextual only [go_sem, Rcb, Rbk, sevalprocAttr, hlv, ht, hpp, hp12, hd, hc, hno4, hgc]
            refine ⟨hsub0 h24 hno4, ?_⟩
            intro bq hbq hapq
            refine ⟨hsub1 h24 hno4 hapq, ?_⟩
            refine rCall_frz bod33 fun M5 hM5 hq5 hno5 => ?_
            simp only [noneL, and_true] at hno5
            have h45 := hM5
            have h25 := h24.trans hM5
            refine rCall_pure (ct_over 11 (RPl_one hq5 (RPl_ext h25 _ _ hrp)) T12) ?_ (fun _ _ _ _ h => h.elim)
            rintro v M6 hM6 hno6 ⟨ks, rfl, hk1⟩
            simp only [noneL, and_true] at hno6
            obtain ⟨k0, k1, k2, k3, k4, k5, k6, k7, k8, k9, k10, rfl, hkc⟩ := RPl_cells hk1
            have h26 := h25.trans hM6
            simp +contextual only [go_sem, Rcb, Rbk, sevalprocAttr, hlv, ht, hpp, hp12, hd, hc, hno6, hgc, hkc]
            refine ⟨hsub0 h26 hno6, ?_⟩
            intro bm hbm hapm
            refine ⟨hsub1 h26 hno6 hapm, ?_⟩
            refine rCall_frz bod33 fun M7 hM7 hm7 hno7 => ?_
            simp only [noneL, and_true] at hno7
            refine rCall_pure (ct_over 9 (RPl_two (cs := [g0, g1, g2, g3, g4, g5, g6, g7, g8, g9, g10]) (ds := [k0, k1, k2, k3, k4, k5, k6, k7, k8, k9, k10]) hm7 (RPl_ext ((h45.trans hM6).trans hM7) _ _ hg) (RPl_ext hM7 _ _ hk1)) T12) ?_ (fun _ _ _ _ h => h.elim)
            rintro v M8 hM8 hno8 ⟨ls, rfl, hl1⟩
            simp only [noneL, and_true] at hno8
            obtain ⟨l0, l1, l2, l3, l4, l5, l6, l7, l8, l9, l10, rfl, hlc⟩ := RPl_cells hl1
            have h28 := (h26.trans hM7).trans hM8
            simp +contextual only [go_sem, Rcb, Rbk, sevalprocAttr, hlv, ht, hpp, hp12, hd, hc, hno8, hlc]
            refine ⟨hsub0 h28 hno8, ?_⟩
            intro bx hbx hapx
            refine ⟨hsub1 h28 hno8 hapx, ?_⟩
            refine rCall_frz bod33 fun M9 hM9 hx9 hno9 => ?_
            simp only [noneL, and_true] at hno9
            refine rCall_pure (ct_over 10 (RPl_one hx9 (RPl_ext hM9 _ _ hl1)) T12) ?_ (fun _ _ _ _ h => h.elim)
            rintro v M10 hM10 hno10 ⟨ms, rfl, hm1⟩
            simp only [noneL, and_true] at hno10
            obtain ⟨m0, m1, m2, m3, m4, m5, m6, m7, m8, m9, m10, rfl, hmc⟩ := RPl_cells hm1
            have h2x := h28.trans (hM9.trans hM10)
            simp +contextual only [go_sem, Rcb, Rbk, sevalprocAttr, hlv, ht, hpp, hp12, hd, hc, hno10, hmc]
            repeat refine ⟨hsub0 h2x hno10, ?_⟩
            refine lp_close (Close_drop (Close_id ⟨q.parts.length - (i + 1), by omega, rfl, i + 1, by omega, rfl, ?_, ?_, T12, M10, _, names, _, r.2, _, _, _, _, _, _, _, _, _, _, _, hT9.trans (hT11.trans hT12), hM12.trans h2x, h2x _ _ h3, ⟨hno10.2.1, hno10.2.2.1, hno10.2.2.2⟩, hset _ rfl ▸ hm1, ?_, RS_ext (hM2.trans h2x) (fun _ _ h => h) hnv, hnlen, hres, rfl⟩))
            · simp only [live, hlv, go_sem, Rcb, Rbk, sevalprocAttr]
            · simp only [ht, go_sem, Rcb, Rbk, sevalprocAttr, wrap_succ i (by omega)]
            · simp only [e9, go_sem, Rcb, Rbk, sevalprocAttr]
          · intro bq hbq hapq
            refine ⟨Sub_trans' (hsub1 (N0 := T12) (R0 := []) (b := bk) Ext.rfl' ⟨hb12, hno2⟩ hapk) (Sub_ML1 Ext.rfl' ⟨hbk, hb12, hno2.1, hno2.2.1, hno2.2.2, trivial⟩ ⟨hapq.1, hapq.2.1, hapq.2.2.1, hapq.2.2.2.1, hapq.2.2.2.2, trivial⟩), ?_⟩
            refine rCall_close (k := fun h' => ∃ M3, Ext M2 M3 ∧ M3 bk = some [c0, c1, c2, c3, c4, c5, c6, c7, c8, c9, c10] ∧ M3 bq = some [d0, d1, d2, d3, d4, d5, d6, d7, d8, d9, d10] ∧ (M3 b12 = none ∧ M3 b8 = none ∧ M3 b4 = none ∧ M3 b7 = none) ∧ h' = ⟨T12, M3, [(b12, [d0, d1, d2, d3, d4, d5, d6, d7, d8, d9, d10]), (b8, [c0, c1, c2, c3, c4, c5, c6, c7, c8, c9, c10]), (b4, z11), (b7, [.int .i64 r.2])], []⟩) (Close_freeze fun he hq _ => Close_freeze fun he2 hk hno3 => Close_id ⟨_, he.trans he2, hk, he2 _ _ hq, ⟨hno3.1, hno3.2.1, hno3.2.2.1, hno3.2.2.2.1⟩, rfl⟩) ?_ bod33
            rintro h' ⟨M3, hM3, hk, hq3, hno3, rfl⟩
            refine rCall_pure (ct_over 11 (RPl_one hk (RPl_ext (hM2.trans hM3) _ _ hp)) T12) ?_ (fun _ _ _ _ h => h.elim)
            rintro v M4 hM4 hno4 ⟨gs, rfl, hg⟩
            simp only [noneL, and_true] at hno4
            obtain ⟨g0, g1, g2, g3, g4, g5, g6, g7, g8, g9, g10, rfl, hgc⟩ := RPl_cells hg
            have h24 := hM3.trans hM4
            simp +contextual only [go_sem, Rcb, Rbk, sevalprocAttr, hlv, ht, hpp, hp12, hd, hc, hno4, hgc]
            refine ⟨hsub0 h24 hno4, ?_⟩
            have hq5 := hM4 _ _ hq3
            have h45 : Ext M4 M4 := Ext.rfl'
            have h25 := h24
            refine rCall_pure (ct_over 11 (RPl_one hq5 (RPl_ext h25 _ _ hrp)) T12) ?_ (fun _ _ _ _ h => h.elim)
            rintro v M6 hM6 hno6 ⟨ks, rfl, hk1⟩
            simp only [noneL, and_true] at hno6
            obtain ⟨k0, k1, k2, k3, k4, k5, k6, k7, k8, k9, k10, rfl, hkc⟩ := RPl_cells hk1
            have h26 := h25.trans hM6
            simp +contextual only [go_sem, Rcb, Rbk, sevalprocAttr, hlv, ht, hpp, hp12, hd, hc, hno6, hgc, hkc]
            refine ⟨hsub0 h26 hno6, ?_⟩
            intro bm hbm hapm
            refine ⟨hsub1 h26 hno6 hapm, ?_⟩
            refine rCall_frz bod33 fun M7 hM7 hm7 hno7 => ?_
            simp only [noneL, and_true] at hno7
            refine rCall_pure (ct_over 9 (RPl_two (cs := [g0, g1, g2, g3, g4, g5, g6, g7, g8, g9, g10]) (ds := [k0, k1, k2, k3, k4, k5, k6, k7, k8, k9, k10]) hm7 (RPl_ext ((h45.trans hM6).trans hM7) _ _ hg) (RPl_ext hM7 _ _ hk1)) T12) ?_ (fun _ _ _ _ h => h.elim)
            rintro v M8 hM8 hno8 ⟨ls, rfl, hl1⟩
            simp only [noneL, and_true] at hno8
            obtain ⟨l0, l1, l2, l3, l4, l5, l6, l7, l8, l9, l10, rfl, hlc⟩ := RPl_cells hl1
            have h28 := (h26.trans hM7).trans hM8
            simp +contextual only [go_sem, Rcb, Rbk, sevalprocAttr, hlv, ht, hpp, hp12, hd, hc, hno8, hlc]
            refine ⟨hsub0 h28 hno8, ?_⟩
            intro bx hbx hapx
            refine ⟨hsub1 h28 hno8 hapx, ?_⟩
            refine rCall_frz bod33 fun M9 hM9 hx9 hno9 => ?_
            simp only [noneL, and_true] at hno9
            refine rCall_pure (ct_over 10 (RPl_one hx9 (RPl_ext hM9 _ _ hl1)) T12) ?_ (fun _ _ _ _ h => h.elim)
            rintro v M10 hM10 hno10 ⟨ms, rfl, hm1⟩
            simp only [noneL, and_true] at hno10
            obtain ⟨m0, m1, m2, m3, m4, m5, m6, m7, m8, m9, m10, rfl, hmc⟩ := RPl_cells hm1
            have h2x := h28.trans (hM9.trans hM10)
            simp +contextual only [go_sem, Rcb, Rbk, sevalprocAttr, hlv, ht, hpp, hp12, hd, hc, hno10, hmc]
            repeat refine ⟨hsub0 h2x hno10, ?_⟩
            refine lp_close (Close_drop (Close_id ⟨q.parts.length - (i + 1), by omega, rfl, i + 1, by omega, rfl, ?_, ?_, T12, M10, _, names, _, r.2, _, _, _, _, _, _, _, _, _, _, _, hT9.trans (hT11.trans hT12), hM12.trans h2x, h2x _ _ h3, ⟨hno10.2.1, hno10.2.2.1, hno10.2.2.2⟩, hset _ rfl ▸ hm1, ?_, RS_ext (hM2.trans h2x) (fun _ _ h => h) hnv, hnlen, hres, rfl⟩))
            · simp only [live, hlv, go_sem, Rcb, Rbk, sevalprocAttr]
            · simp only [ht, go_sem, Rcb, Rbk, sevalprocAttr, wrap_succ i (by omega)]
            · simp only [e9, go_sem, Rcb, Rbk, sevalprocAttr]
        · intro bq hbq hapq
          refine ⟨hsub1 Ext.rfl' ⟨hb12, hno2⟩ hapq, ?_⟩
          intro bk hbk hapk
          refine ⟨Sub_trans' (hsub1 (N0 := T12) (R0 := []) (b := bq) Ext.rfl' ⟨hb12, hno2⟩ hapq) (Sub_ML1 Ext.rfl' ⟨hbq, hb12, hno2.1, hno2.2.1, hno2.2.2, trivial⟩ ⟨hapk.1, hapk.2.1, hapk.2.2.1, hapk.2.2.2.1, hapk.2.2.2.2, trivial⟩), ?_⟩
          refine rCall_close (k := fun h' => ∃ M3, Ext M2 M3 ∧ M3 bk = some [c0, c1, c2, c3, c4, c5, c6, c7, c8, c9, c10] ∧ M3 bq = some [d0, d1, d2, d3, d4, d5, d6, d7, d8, d9, d10] ∧ (M3 b12 = none ∧ M3 b8 = none ∧ M3 b4 = none ∧ M3 b7 = none) ∧ h' = ⟨T12, M3, [(b12, [d0, d1, d2, d3, d4, d5, d6, d7, d8, d9, d10]), (b8, [c0, c1, c2, c3, c4, c5, c6, c7, c8, c9, c10]), (b4, z11), (b7, [.int .i64 r.2])], []⟩) (Close_freeze fun he hk _ => Close_freeze fun he2 hq hno3 => Close_id ⟨_, he.trans he2, he2 _ _ hk, hq, ⟨hno3.1, hno3.2.1, hno3.2.2.1, hno3.2.2.2.1⟩, rfl⟩) ?_ bod33
          rintro h' ⟨M3, hM3, hk, hq3, hno3, rfl⟩
          refine rCall_pure (ct_over 11 (RPl_one hk (RPl_ext (hM2.trans hM3) _ _ hp)) T12) ?_ (fun _ _ _ _ h => h.elim)
          rintro v M4 hM4 hno4 ⟨gs, rfl, hg⟩
          simp only [noneL, and_true] at hno4
          obtain ⟨g0, g1, g2, g3, g4, g5, g6, g7, g8, g9, g10, rfl, hgc⟩ := RPl_cells hg
          have h24 := hM3.trans hM4
          simp +contextual only [go_sem, Rcb, Rbk, sevalprocAttr, hlv, ht, hpp, hp12, hd, hc, hno4, hgc]
          refine ⟨hsub0 h24 hno4, ?_⟩
          have hq5 := hM4 _ _ hq3
          have h45 : Ext M4 M4 := Ext.rfl'
          have h25 := h24
          refine rCall_pure (ct_over 11 (RPl_one hq5 (RPl_ext h25 _ _ hrp)) T12) ?_ (fun _ _ _ _ h => h.elim)
          rintro v M6 hM6 hno6 ⟨ks, rfl, hk1⟩
          simp only [noneL, and_true] at hno6
          obtain ⟨k0, k1, k2, k3, k4, k5, k6, k7, k8, k9, k10, rfl, hkc⟩ := RPl_cells hk1
          have h26 := h25.trans hM6
          simp +contextual only [go_sem, Rcb, Rbk, sevalprocAttr, hlv, ht, hpp, hp12, hd, hc, hno6, hgc, hkc]
          refine ⟨hsub0 h26 hno6, ?_⟩
          intro bm hbm hapm
          refine ⟨hsub1 h26 hno6 hapm, ?_⟩
          refine rCall_frz bod33 fun M7 hM7 hm7 hno7 => ?_
          simp only [noneL, and_true] at hno7
          refine rCall_pure (ct_over 9 (RPl_two (cs := [g0, g1, g2, g3, g4, g5, g6, g7, g8, g9, g10]) (ds := [k0, k1, k2, k3, k4, k5, k6, k7, k8, k9, k10]) hm7 (RPl_ext ((h45.trans hM6).trans hM7) _ _ hg) (RPl_ext hM7 _ _ hk1)) T12) ?_ (fun _ _ _ _ h => h.elim)
          rintro v M8 hM8 hno8 ⟨ls, rfl, hl1⟩
          simp only [noneL, and_true] at hno8
          obtain ⟨l0, l1, l2, l3, l4, l5, l6, l7, l8, l9, l10, rfl, hlc⟩ := RPl_cells hl1
          have h28 := (h26.trans hM7).trans hM8
          simp +contextual only [go_sem, Rcb, Rbk, sevalprocAttr, hlv, ht, hpp, hp12, hd, hc, hno8, hlc]
          refine ⟨hsub0 h28 hno8, ?_⟩
          intro bx hbx hapx
          refine ⟨hsub1 h28 hno8 hapx, ?_⟩
          refine rCall_frz bod33 fun M9 hM9 hx9 hno9 => ?_
          simp only [noneL, and_true] at hno9
          refine rCall_pure (ct_over 10 (RPl_one hx9 (RPl_ext hM9 _ _ hl1)) T12) ?_ (fun _ _ _ _ h => h.elim)
          rintro v M10 hM10 hno10 ⟨ms, rfl, hm1⟩
          simp only [noneL, and_true] at hno10
          obtain ⟨m0, m1, m2, m3, m4, m5, m6, m7, m8, m9, m10, rfl, hmc⟩ := RPl_cells hm1
          have h2x := h28.trans (hM9.trans hM10)
          simp +contextual only [go_sem, Rcb, Rbk, sevalprocAttr, hlv, ht, hpp, hp12, hd, hc, hno10, hmc]
          repeat refine ⟨hsub0 h2x hno10, ?_⟩
          refine lp_close (Close_drop (Close_id ⟨q.parts.length - (i + 1), by omega, rfl, i + 1, by omega, rfl, ?_, ?_, T12, M10, _, names, _, r.2, _, _, _, _, _, _, _, _, _, _, _, hT9.trans (hT11.trans hT12), hM12.trans h2x, h2x _ _ h3, ⟨hno10.2.1, hno10.2.2.1, hno10.2.2.2⟩, hset _ rfl ▸ hm1, ?_, RS_ext (hM2.trans h2x) (fun _ _ h => h) hnv, hnlen, hres, rfl⟩))
          · simp only [live, hlv, go_sem, Rcb, Rbk, sevalprocAttr]
          · simp only [ht, go_sem, Rcb, Rbk, sevalprocAttr, wrap_succ i (by omega)]
          · simp only [e9, go_sem, Rcb, Rbk, sevalprocAttr]
  · have : i = q.parts.length := by omega
    subst this
    rw [List.drop_length, partsR] at hres
    obtain ⟨hnb, na, nc, rfl, _, _, hng⟩ := RS_elim (by decide) (fun _ _ => RSt_len) hnv
    have hqR : queryR rels q = (((topR q p names f).1, names), (topR q p names f).2) := by unfold queryR; simp only; rw [← hW, ← hres]
    have hTT := hT.trans hT9
    simp +contextual only [go_sem, sevalprocAttr, hlv, ht, hlt, mcell_some h3, e9]
    rw [rCond_bool]
    by_cases hl0 : 0 ≤ q.limit
    · have htop : topR q p names f = (.mk 13 q.limit zeroE (exprsR (names.map fun n => ([], n)) q.order f).1 [] [p], (exprsR (names.map fun n => ([], n)) q.order f).2) := by unfold topR; rw [if_pos hl0]
      simp +contextual only [go_sem, Rcb, Rbk, sevalprocAttr, hlv, ht, hlt, mcell_some h3, e9, hl0]
      intro b14 T14 hb14 hap14 hT14 hTb14
      have hp14 : (¬ b14 = b8 ∧ ¬ b8 = b14) ∧ (¬ b14 = b4 ∧ ¬ b4 = b14) ∧ (¬ b14 = b7 ∧ ¬ b7 = b14) := hap14
      refine loop_range names.length 92 [(0, .slice ra rels.length rc), (3, .pointer (some ⟨b3, 0, none⟩)), (4, .pointer (some ⟨b4, 0, none⟩)), (7, .pointer (some ⟨b7, 0, none⟩)), (8, .pointer (some ⟨b8, 0, none⟩)), (9, .slice na names.length nc), (14, .pointer (some ⟨b14, 0, none⟩)), (90, .slice na names.length nc), (91, .int .i64 (names.length : Int))]
        (fun j e h => ∃ R cv, Acc 116 2 RCl [] R cv ((names.take j).map fun n => ([], n)) ∧ h = ⟨T14, M1, [(b14, [cv, .bool false, .slice none 0 0, .slice none 0 0]), (b8, [c0, c1, c2, c3, c4, c5, c6, c7, c8, c9, c10]), (b4, z11), (b7, [.int .i64 f])], R⟩)
        0 (by omega) (by simp only [live, hlv, e9, go_sem, Rcb, Rbk, sevalprocAttr]) (by simp only [go_sem, Rcb, Rbk, sevalprocAttr]) ⟨[], _, Acc_nil, rfl⟩ ?_
      clear hlv ht e9 hlt hi e
      rintro j e h hj hlv ht ⟨R9, cv, hacc, rfl⟩
      simp only [live] at hlv
      have hl1 : ((names.take j).map fun n => (([] : Bs), n)).length = j := by rw [List.length_map, List.length_take]; omega
      by_cases hlt : j < names.length
      · obtain ⟨bn, on, cn, rfl, hatn, hrn⟩ := hng j names[j] (List.getElem?_eq_getElem hlt)
        unfold RSt at hrn; subst hrn
        have z0 := At1 hatn
        rw [Nat.mul_one] at z0
        obtain ⟨va, vc, rfl⟩ := Acc_form hacc
        simp +contextual only [go_sem, Rcb, Rbk, sevalprocAttr, hlv, ht, hlt, z0, hb14, hp14]
        intro b15 hb15 hap15
        have hp15 : (¬ b15 = b14 ∧ ¬ b14 = b15) ∧ (¬ b15 = b8 ∧ ¬ b8 = b15) ∧ (¬ b15 = b4 ∧ ¬ b4 = b15) ∧ (¬ b15 = b7 ∧ ¬ b7 = b15) := hap15
        refine app_acc (x := (([] : Bs), names[j])) Tryz.underlying112 row112 okt112 hacc rfl (fun _ _ => RCl_len) (RCl_oneC (c := (([] : Bs), names[j])) rfl) hb15 (by rw [hl1]; omega) (by decide) ?_
        intro fv' R' hacc'
        have hsucc : ((names.take (j + 1)).map fun n => (([] : Bs), n)) = ((names.take j).map fun n => (([] : Bs), n)) ++ [([], names[j])] := by
          rw [List.take_succ_eq_append_getElem hlt, List.map_append]; rfl
        rw [← hsucc] at hacc'
        obtain ⟨wa, wc, hfv⟩ := Acc_form hacc'
        subst hfv
        simp +contextual only [go_sem, Rcb, Rbk, sevalprocAttr, hlv, ht, hlt, hb14, hp14, hb15, hp15]
        refine lp_close (Close_drop (Close_id ⟨names.length - (j + 1), by omega, rfl, j + 1, by omega, rfl, ?_, ?_, R', _, hacc', rfl⟩))
        · simp only [live, hlv, go_sem, Rcb, Rbk, sevalprocAttr]
        · simp only [ht, go_sem, Rcb, Rbk, sevalprocAttr, wrap_succ j (by omega)]
      · have : j = names.length := by omega
        subst this
        rw [List.take_length] at hacc hl1
        simp +contextual only [go_sem, Rcb, Rbk, sevalprocAttr, hlv, ht, hlt, hc, hno1, hp14, hpp]
        intro bk hbk hapk
        refine rCall_close (k := fun h' => ∃ M2, Ext M1 M2 ∧ RS M2 RCl 2 (names.map fun n => ([], n)) cv ∧ M2 bk = some [c0, c1, c2, c3, c4, c5, c6, c7, c8, c9, c10] ∧ M2 b14 = some [cv, .bool false, .slice none 0 0, .slice none 0 0] ∧ (M2 b8 = none ∧ M2 b4 = none ∧ M2 b7 = none) ∧ h' = ⟨T14, M2, [(b8, [c0, c1, c2, c3, c4, c5, c6, c7, c8, c9, c10]), (b4, z11), (b7, [.int .i64 f])], []⟩)
          (Close_acc hacc (by omega) (by decide) ⟨hbk, hb14, hno1.1, hno1.2.1, hno1.2.2, trivial⟩ fun M2 hM2 hno2 hrs => Close_freeze fun he hk _ => Close_freeze fun he2 h14 hno3 => Close_id ⟨_, (hM2.trans he).trans he2, RS_ext (he.trans he2) (fun _ _ h => h) hrs, he2 _ _ hk, h14, ⟨hno3.1, hno3.2.1, hno3.2.2.1⟩, rfl⟩) ?_ bod33
        rintro h' ⟨M2, hM2, hnames, hk, h14, hno2, rfl⟩
        refine rCall_pure (ct_overX 13 T14) ?_ (fun _ _ _ _ h => h.elim)
        rintro v M3 hM3 hno3 rfl
        simp only [noneL, and_true] at hno3
        replace h3 := (hM2.trans hM3) _ _ h3
        replace hk := hM3 _ _ hk
        replace h14 := hM3 _ _ h14
        have hkids := RPl_one hk (RPl_ext (hM2.trans hM3) _ _ hp)
        have hM13 := hM1.trans (hM2.trans hM3)
        simp +contextual only [go_sem, Rcb, Rbk, sevalprocAttr, hlv, ht, hlt, mcell_some h3]
        intro b17 T17 hb17 hap17 hT17 hTb17
        have hp17 : (¬ b17 = b8 ∧ ¬ b8 = b17) ∧ (¬ b17 = b4 ∧ ¬ b4 = b17) ∧ (¬ b17 = b7 ∧ ¬ b7 = b17) := hap17
        have hob : q.order.length ≤ 1048576 := (hord hl0).1
        refine loop_range q.order.length 117 [(0, .slice ra rels.length rc), (3, .pointer (some ⟨b3, 0, none⟩)), (4, .pointer (some ⟨b4, 0, none⟩)), (7, .pointer (some ⟨b7, 0, none⟩)), (8, .pointer (some ⟨b8, 0, none⟩)), (9, .slice na names.length nc), (14, .pointer (some ⟨b14, 0, none⟩)), (17, .pointer (some ⟨b17, 0, none⟩)), (115, .slice da q.order.length dc), (116, .int .i64 (q.order.length : Int))]
          (fun i e h => ∃ N' M' R fv acc f4, ExtT T17 N' ∧ Ext M3 M' ∧ (M' b17 = none ∧ M' b8 = none ∧ M' b4 = none ∧ M' b7 = none) ∧ acc.length = i ∧ Acc 38 6 (REx M') [] R fv acc ∧ preR acc (exprsR (names.map fun n => ([], n)) (q.order.drop i) f4) = exprsR (names.map fun n => ([], n)) q.order f ∧
            h = ⟨N', M', [(b17, [.int .i64 13, .int .i64 q.limit, .int .i64 0, .int .i64 0, .int .i64 0, st [], .int .i64 0, .slice none 0 0, fv, .slice none 0 0, .slice (some ⟨bk, 0, none⟩) 1 1]), (b8, [c0, c1, c2, c3, c4, c5, c6, c7, c8, c9, c10]), (b4, z11), (b7, [.int .i64 f4])], R⟩)
          0 (by omega) (by simp only [live, hlv, go_sem, Rcb, Rbk, sevalprocAttr]) (by simp only [go_sem, Rcb, Rbk, sevalprocAttr]) ⟨T17, M3, [], _, [], f, ExtT.rfl', Ext.rfl', ⟨hb17, hno3⟩, rfl, Acc_nil, rfl, rfl⟩ ?_
        clear hlv ht hlt hj e
        rintro i e h hi hlv ht ⟨N7, M7, R7, fv, acc, f4, hN7, hM7, hno7, hacl, hacc7, hres7, rfl⟩
        simp only [live] at hlv
        obtain ⟨fa, fc, hfv⟩ := Acc_form hacc7
        have hMM := hM13.trans hM7
        by_cases hlt : i < q.order.length
        · obtain ⟨b', o', cs', rfl, hatI, hrx⟩ := hdg i q.order[i] (List.getElem?_eq_getElem hlt)
          obtain ⟨aw', rfl, h1', _⟩ := RX_form hrx
          obtain ⟨y0, y1, y2, y3, y4, y5, y6⟩ := At7 (hatI.ext hMM)
          have hdrop : q.order.drop i = q.order[i] :: q.order.drop (i + 1) := List.drop_eq_getElem_cons hlt
          rw [hdrop, preR_cons] at hres7
          subst hfv
          simp +contextual only [go_sem, Rcb, Rbk, sevalprocAttr, hlv, ht, hlt, y0, y1, y2, y3, y4, y5, y6, h1']
          intro b20 T20 hb20 hap20 hT20 hTb20
          have hap20' : (¬ b20 = b17 ∧ ¬ b17 = b20) ∧ (¬ b20 = b8 ∧ ¬ b8 = b20) ∧ (¬ b20 = b4 ∧ ¬ b4 = b20) ∧ (¬ b20 = b7 ∧ ¬ b7 = b20) := hap20
          refine draw_at ⟨T20, M7, [(b20, [.int .i64 q.order[i].k, .int .i64 q.order[i].v.k, .int .i64 q.order[i].v.n, st q.order[i].v.t, st q.order[i].tab, st q.order[i].name, aw']), (b17, [.int .i64 13, .int .i64 q.limit, .int .i64 0, .int .i64 0, .int .i64 0, st [], .int .i64 0, .slice none 0 0, .slice fa acc.length fc, .slice none 0 0, .slice (some ⟨bk, 0, none⟩) 1 1]), (b8, [c0, c1, c2, c3, c4, c5, c6, c7, c8, c9, c10]), (b4, z11)], []⟩ (Sub_preM (L2 := [(b7, [.int .i64 f4])]) Ext.rfl' ⟨hb20, hno7.1, hno7.2.1, hno7.2.2.1, trivial⟩) ?_
          simp +contextual only [go_sem, Rcb, Rbk, sevalprocAttr, hlv, ht, hlt, hno7, hap20', hp17, hb20]
          refine rCall_one [(b20, _), (b17, _), (b8, _), (b4, _)] (exR (names.map fun n => ([], n)) _ q.order[i] (Nat.le_refl _) M7 T20 b14 b7 _ _ _ _ f4 (RS_ext (hM3.trans hM7) (fun _ _ h => h) hnames) (hM7 _ _ h14) (RX_ext hMM _ _ hrx) ((hord hl0).2 _ (List.getElem_mem hlt))) ?_ (fun _ _ _ _ _ _ h => h.elim)
          rintro r M8 L8 hM8 hk8 hno8 ⟨⟨ys, rfl, hye⟩, rfl, -⟩
          simp only [List.cons_append, List.nil_append, noneL, and_true] at hno8
          obtain ⟨s6, rfl, hs6, _⟩ := REx_form hye
          simp +contextual only [go_sem, Rcb, Rbk, sevalprocAttr, hlv, ht, hno8, hap20', hp17, hs6]
          refine ⟨Sub_preM (L2 := [(b7, [.int .i64 (exprR (names.map fun n => ([], n)) q.order[i] f4).2])]) hM8 ⟨hno8.1, hno8.2.1, hno8.2.2.1, hno8.2.2.2.1, trivial⟩, ?_⟩
          intro bl hbl hapl
          refine ⟨Sub_trans' (Sub_preM (T := T20) (R := []) (L2 := [(b7, [.int .i64 (exprR (names.map fun n => ([], n)) q.order[i] f4).2])]) hM8 ⟨hno8.1, hno8.2.1, hno8.2.2.1, hno8.2.2.2.1, trivial⟩) (Sub_ML1 Ext.rfl' ⟨hno8.1, hno8.2.1, hno8.2.2.1, hno8.2.2.2.1, hno8.2.2.2.2, trivial⟩ ⟨hapl.1, hapl.2.1, hapl.2.2.1, hapl.2.2.2.1, hapl.2.2.2.2, trivial⟩), ?_⟩
          refine app_acc (Tryz.underlying36) row36 okt36 (Acc_mono (REx_ext hM8) hacc7) hye (fun _ _ => REx_len) (REx_oneC hye) hbl (by omega) (by decide) ?_
          intro fv' R' hacc'
          obtain ⟨fa', fc', rfl⟩ := Acc_form hacc'
          simp +contextual only [go_sem, Rcb, Rbk, sevalprocAttr, hlv, ht, hno8, hap20', hp17, hs6, hbl, hapl]
          refine ⟨Sub_trans' (Sub_preM (T := T20) (R := []) (L2 := [(b7, [.int .i64 (exprR (names.map fun n => ([], n)) q.order[i] f4).2])]) hM8 ⟨hno8.1, hno8.2.1, hno8.2.2.1, hno8.2.2.2.1, trivial⟩) (Sub_ML1 Ext.rfl' ⟨hno8.1, hno8.2.1, hno8.2.2.1, hno8.2.2.2.1, hno8.2.2.2.2, trivial⟩ ⟨hapl.1, hapl.2.1, hapl.2.2.1, hapl.2.2.2.1, hapl.2.2.2.2, trivial⟩), ?_⟩
          refine lp_close (Close_drop (Close_drop (Close_id ⟨q.order.length - (i + 1), by omega, rfl, i + 1, by omega, rfl, ?_, ?_, T20, M8, R', _, _, _, hN7.trans hT20, hM7.trans hM8, ⟨hno8.2.1, hno8.2.2.1, hno8.2.2.2.1, hno8.2.2.2.2⟩, ?_, hacc', hres7, rfl⟩)))
          · simp only [live, hlv, go_sem, Rcb, Rbk, sevalprocAttr]
          · simp only [ht, go_sem, Rcb, Rbk, sevalprocAttr, wrap_succ i (by omega)]
          · rw [List.length_append, hacl]; rfl
        · have : i = q.order.length := by omega
          subst this
          rw [List.drop_length, exprsR] at hres7
          simp only [preR, List.append_nil] at hres7
          rw [← hres7] at htop
          have hN := ((hTT.trans hT14).trans hT17).trans hN7
          obtain ⟨P, hP⟩ : ∃ P, P = Pl.mk 13 q.limit zeroE acc [] [p] := ⟨_, rfl⟩
          simp only [← hP] at htop
          subst hfv
          have hPc : ∀ {M' : Mem}, Ext M7 M' → RS M' (REx M') 6 acc (.slice fa acc.length fc) → RPl M' P [.int .i64 13, .int .i64 q.limit, .int .i64 0, .int .i64 0, .int .i64 0, st [], .int .i64 0, .slice none 0 0, .slice fa acc.length fc, .slice none 0 0, .slice (some ⟨bk, 0, none⟩) 1 1] := fun he hx => hP ▸ RPl_build hx RS_nil (RS_ext (hM7.trans he) (RPl_ext (hM7.trans he)) hkids)
          by_cases hf0 : f4 = 0
          rotate_left
          · have hB : boundR rels q = ((zeroP, []), f4) := by unfold boundR; rw [hqR, htop]; simp only; rw [if_pos hf0]
            simp +contextual only [go_sem, Rcb, Rbk, sevalprocAttr, hlv, ht, hlt, mcell_some h3, hl0, hno7, hpp, hp17, hf0]
            refine draw_all ?_
            simp +contextual only [go_sem, Rcb, Rbk, sevalprocAttr, hlv, ht, hlt, mcell_some h3, hl0, hno7, hpp, hp17, hf0]
            refine ⟨fun _ _ h => h, ?_⟩
            exact Close_dropAllR (Close_drop (Close_drop (Close_drop (Close_drop (end_none hN ⟨_, _, by rw [hB]; rfl, by rw [hB]; exact RPl_zero, by rw [hB]; exact RS_nil⟩)))))
          rw [htop] at hqR
          simp only at hqR
          rw [hf0] at hqR
          simp +contextual only [go_sem, Rcb, Rbk, sevalprocAttr, hlv, ht, hlt, mcell_some h3, hl0, hno7, hpp, hp17, hf0]
          refine draw_at ⟨N7, M7, [(b8, [.int .i64 13, .int .i64 q.limit, .int .i64 0, .int .i64 0, .int .i64 0, st [], .int .i64 0, .slice none 0 0, .slice fa acc.length fc, .slice none 0 0, .slice (some ⟨bk, 0, none⟩) 1 1])], []⟩ (by refine Sub_trans' (b := ⟨N7, M7, [(b8, [.int .i64 13, .int .i64 q.limit, .int .i64 0, .int .i64 0, .int .i64 0, st [], .int .i64 0, .slice none 0 0, .slice fa acc.length fc, .slice none 0 0, .slice (some ⟨bk, 0, none⟩) 1 1]), (b4, z11), (b7, [.int .i64 0])], []⟩) (Sub_preM (L1 := [(b8, [.int .i64 13, .int .i64 q.limit, .int .i64 0, .int .i64 0, .int .i64 0, st [], .int .i64 0, .slice none 0 0, .slice fa acc.length fc, .slice none 0 0, .slice (some ⟨bk, 0, none⟩) 1 1])]) Ext.rfl' ⟨hno7.2.1, trivial⟩) ?_; exact Sub_ML1 Ext.rfl' ⟨hno7.2.1, hno7.2.2.1, hno7.2.2.2, trivial⟩ ⟨hp17.1, hp17.2.1, hp17.2.2, trivial⟩) ?_
          simp +contextual only [go_sem, Rcb, Rbk, sevalprocAttr, hlv, ht, hlt, mcell_some h3, hl0, hno7, hpp, hp17, hf0]
          refine rCall_close (k := fun h' => ∃ Mz, Ext M7 Mz ∧ RPl Mz P [.int .i64 13, .int .i64 q.limit, .int .i64 0, .int .i64 0, .int .i64 0, st [], .int .i64 0, .slice none 0 0, .slice fa acc.length fc, .slice none 0 0, .slice (some ⟨bk, 0, none⟩) 1 1] ∧ (Mz b8 = none ∧ Mz b4 = none ∧ Mz b7 = none) ∧ h' = ⟨N7, Mz, [(b8, [.int .i64 13, .int .i64 q.limit, .int .i64 0, .int .i64 0, .int .i64 0, st [], .int .i64 0, .slice none 0 0, .slice fa acc.length fc, .slice none 0 0, .slice (some ⟨bk, 0, none⟩) 1 1]), (b4, z11), (b7, [.int .i64 0])], []⟩)
            (Close_acc hacc7 (by omega) (by decide) ⟨hno7.1, hno7.2.1, hno7.2.2.1, hno7.2.2.2, trivial⟩ fun Mz hMz hnoz hrs => Close_drop (Close_id ⟨Mz, hMz, hPc hMz (RS_ext Ext.rfl' (REx_ext hMz) hrs), ⟨hnoz.2.1, hnoz.2.2.1, hnoz.2.2.2.1⟩, rfl⟩)) ?_ bod27
          rintro h' ⟨Mz, hMz, hpz, hnoz, rfl⟩
          have hmz := hMM.trans hMz
          refine rCall_pure (ct_Tables12 (RS_ext hmz (RRel_ext hmz) hr) hlen hcols N7) ?_ (fun _ _ _ _ h => h.elim)
          rintro tv M20 hM20 hno20 htv
          simp only [noneL, and_true] at hno20
          obtain ⟨_, ta, tc, rfl, _⟩ := RS_elim (by decide) (fun _ _ => RTb_len) htv
          simp +contextual only [go_sem, Rcb, Rbk, sevalprocAttr, hlv, ht, hlt, mcell_some h3, hl0, hno7, hpp, hp17, hno20]
          refine ⟨Sub_preM (L1 := [(b8, [.int .i64 13, .int .i64 q.limit, .int .i64 0, .int .i64 0, .int .i64 0, st [], .int .i64 0, .slice none 0 0, .slice fa acc.length fc, .slice none 0 0, .slice (some ⟨bk, 0, none⟩) 1 1])]) (hMz.trans hM20) ⟨hno20.1, trivial⟩, ?_⟩
          refine rCall_pure (ct_Types5 htv (RPl_ext hM20 _ _ hpz) N7) ?_ (fun _ _ _ _ h => h.elim)
          rintro r M21 hM21 hno21 hr5
          obtain ⟨sv, er, rfl⟩ := tupL_form hr5
          simp only [noneL, and_true] at hno21
          cases hct : colsT (tablesM rels) P with
          | error er2 =>
            rw [hct] at hr5
            obtain ⟨hne2, sv2, hsv⟩ := hr5
            injection hsv with hsv
            simp only [Array.mk.injEq, List.cons.injEq, and_true, Value.int.injEq, true_and] at hsv
            obtain ⟨rfl, rfl⟩ := hsv
            have hB : boundR rels q = ((zeroP, []), er) := by unfold boundR; rw [hqR]; simp only; rw [if_neg (by simp), hct]
            simp +contextual only [go_sem, Rcb, Rbk, sevalprocAttr, hlv, ht, hlt, mcell_some h3, hl0, hno7, hpp, hp17, hno21, hne2]
            exact Close_drop (Close_drop (Close_drop (end_none hN ⟨_, _, by rw [hB]; rfl, by rw [hB]; exact RPl_zero, by rw [hB]; exact RS_nil⟩)))
          | ok t =>
            rw [hct] at hr5
            obtain ⟨sv2, hsv, hts⟩ := hr5
            injection hsv with hsv
            simp only [Array.mk.injEq, List.cons.injEq, and_true, Value.int.injEq, true_and] at hsv
            obtain ⟨rfl, rfl⟩ := hsv
            have hB : boundR rels q = ((P, zipC names t), 0) := by unfold boundR; rw [hqR]; simp only; rw [if_neg (by simp), hct]
            have htl : t.length ≤ names.length := by
              have := hwid t (by rw [hqR]) (by rw [hqR]; exact hct)
              rw [hqR] at this; exact this
            have hzl := zipC_len2 htl
            obtain ⟨htb, wa, wc, rfl, _, _, htg⟩ := RS_elim (by decide) (fun _ _ => RI_len) hts
            simp +contextual only [go_sem, Rcb, Rbk, sevalprocAttr, hlv, ht, hlt, mcell_some h3, hl0, hno7, hpp, hp17, hno21]
            have hz1 : Ext M1 M21 := ((hM2.trans hM3).trans hM7).trans ((hMz.trans hM20).trans hM21)
            have hpf := RPl_ext (hM20.trans hM21) _ _ hpz
            refine loop_range t.length 155 [(4, .pointer (some ⟨b4, 0, none⟩)), (8, .pointer (some ⟨b8, 0, none⟩)), (9, .slice na names.length nc), (153, .slice wa t.length wc), (154, .int .i64 (t.length : Int))]
              (fun i e h => ∃ R cv, e 22 = cv ∧ Acc 48 2 RCo [] R cv ((zipC names t).take i) ∧ h = ⟨N7, M21, [(b8, [.int .i64 13, .int .i64 q.limit, .int .i64 0, .int .i64 0, .int .i64 0, st [], .int .i64 0, .slice none 0 0, .slice fa acc.length fc, .slice none 0 0, .slice (some ⟨bk, 0, none⟩) 1 1]), (b4, z11), (b7, [.int .i64 0])], R⟩)
              0 (by omega) (by simp only [live, hlv, go_sem, Rcb, Rbk, sevalprocAttr]) (by simp only [go_sem, Rcb, Rbk, sevalprocAttr]) ⟨[], _, by simp only [go_sem, Rcb, Rbk, sevalprocAttr], Acc_nil, rfl⟩ ?_
            clear hlv ht hlt hi e
            rintro i e h hi hlv ht ⟨R22, cv, e22, hacc, rfl⟩
            simp only [live] at hlv
            by_cases hlt : i < t.length
            · have hzi : ((zipC names t).take i).length = i := by rw [List.length_take]; omega
              obtain ⟨bn, on, cn, rfl, hatn, hrn⟩ := hng i names[i] (List.getElem?_eq_getElem (by omega))
              unfold RSt at hrn; subst hrn
              have z0 := At1 (hatn.ext hz1)
              rw [Nat.mul_one] at z0
              obtain ⟨bt, ot, ct, rfl, hatt, hrt⟩ := htg i t[i] (List.getElem?_eq_getElem hlt)
              unfold RI at hrt; subst hrt
              have w0 := At1 hatt
              rw [Nat.mul_one] at w0
              have hin : i < names.length := by omega
              simp +contextual only [go_sem, Rcb, Rbk, sevalprocAttr, hlv, ht, hlt, z0, w0, hin, e22]
              intro bc hbc hapc
              refine app_acc (x := (⟨names[i], t[i]⟩ : Co)) Tryz.underlying43 row43 okt43 hacc rfl (fun _ _ => RCo_len) (RCo_oneB (c := ⟨names[i], t[i]⟩) rfl) hbc (by omega) (by decide) ?_
              intro fv' R' hacc'
              have hsucc : (zipC names t).take (i + 1) = (zipC names t).take i ++ [⟨names[i], t[i]⟩] := by
                rw [List.take_succ, zipC_get hlt htl]; rfl
              rw [← hsucc] at hacc'
              simp +contextual only [go_sem, Rcb, Rbk, sevalprocAttr, hlv, ht, hlt]
              refine lp_close (Close_drop (Close_id ⟨t.length - (i + 1), by omega, rfl, i + 1, by omega, rfl, ?_, ?_, R', _, ?_, hacc', rfl⟩))
              · simp only [live, hlv, go_sem, Rcb, Rbk, sevalprocAttr]
              · simp only [ht, go_sem, Rcb, Rbk, sevalprocAttr, wrap_succ i (by omega)]
              · simp only [go_sem, Rcb, Rbk, sevalprocAttr]
            · have : i = t.length := by omega
              subst this
              have hzt : (zipC names t).take t.length = zipC names t := List.take_of_length_le (by omega)
              rw [hzt] at hacc
              simp +contextual only [go_sem, Rcb, Rbk, sevalprocAttr, hlv, ht, hlt, e22, hno21, hpp, hpp]
              exact Close_acc hacc (by omega) (by decide) ⟨hno21.1, hno21.2.1, hno21.2.2, trivial⟩ fun M22 hM22 hno22 hrs => Close_drop (Close_drop (Close_drop (end_none hN ⟨_, _, by rw [hB]; rfl, by rw [hB]; exact RPl_ext hM22 _ _ hpf, by rw [hB]; exact hrs⟩)))
    · have htop : topR q p names f = (p, f) := by unfold topR; rw [if_neg hl0]
      by_cases hf0 : f = 0
      rotate_left
      · have hB : boundR rels q = ((zeroP, []), f) := by unfold boundR; rw [hqR, htop]; simp only; rw [if_pos hf0]
        simp +contextual only [go_sem, Rcb, Rbk, sevalprocAttr, hlv, ht, hlt, mcell_some h3, e9, hl0, hno1, hpp, hc, hf0]
        refine draw_all ?_
        simp +contextual only [go_sem, Rcb, Rbk, sevalprocAttr, hlv, ht, hlt, mcell_some h3, e9, hl0, hno1, hpp, hc, hf0]
        refine ⟨fun _ _ h => h, ?_⟩
        exact Close_drop (Close_drop (Close_drop (end_none hTT ⟨_, _, by rw [hB]; rfl, by rw [hB]; exact RPl_zero, by rw [hB]; exact RS_nil⟩)))
      rw [htop] at hqR
      simp only at hqR
      rw [hf0] at hqR
      simp +contextual only [go_sem, Rcb, Rbk, sevalprocAttr, hlv, ht, hlt, mcell_some h3, e9, hl0, hno1, hpp, hc, hf0]
      refine draw_at ⟨T9, M1, [(b8, [c0, c1, c2, c3, c4, c5, c6, c7, c8, c9, c10])], []⟩ (Sub_preM (L2 := [(b4, z11), (b7, [.int .i64 f])]) Ext.rfl' ⟨hno1.1, trivial⟩) ?_
      simp +contextual only [go_sem, Rcb, Rbk, sevalprocAttr, hlv, ht, hlt, mcell_some h3, e9, hl0, hno1, hpp, hc, hf0]
      have hMz : Ext M1 M1 := Ext.rfl'
      have hpz := hp
      have hmz : Ext M M1 := hM1
      refine rCall_pure (ct_Tables12 (RS_ext hmz (RRel_ext hmz) hr) hlen hcols T9) ?_ (fun _ _ _ _ h => h.elim)
      rintro tv M20 hM20 hno20 htv
      simp only [noneL, and_true] at hno20
      obtain ⟨_, ta, tc, rfl, _⟩ := RS_elim (by decide) (fun _ _ => RTb_len) htv
      simp +contextual only [go_sem, Rcb, Rbk, sevalprocAttr, hlv, ht, hlt, mcell_some h3, e9, hl0, hno1, hpp, hc, hno20]
      refine ⟨Sub_preM (L1 := [(b8, [c0, c1, c2, c3, c4, c5, c6, c7, c8, c9, c10])]) (hMz.trans hM20) ⟨hno20.1, trivial⟩, ?_⟩
      refine rCall_pure (ct_Types5 htv (RPl_ext hM20 _ _ hpz) T9) ?_ (fun _ _ _ _ h => h.elim)
      rintro r M21 hM21 hno21 hr5
      obtain ⟨sv, er, rfl⟩ := tupL_form hr5
      simp only [noneL, and_true] at hno21
      cases hct : colsT (tablesM rels) p with
      | error er2 =>
        rw [hct] at hr5
        obtain ⟨hne2, sv2, hsv⟩ := hr5
        injection hsv with hsv
        simp only [Array.mk.injEq, List.cons.injEq, and_true, Value.int.injEq, true_and] at hsv
        obtain ⟨rfl, rfl⟩ := hsv
        have hB : boundR rels q = ((zeroP, []), er) := by unfold boundR; rw [hqR]; simp only; rw [if_neg (by simp), hct]
        simp +contextual only [go_sem, Rcb, Rbk, sevalprocAttr, hlv, ht, hlt, mcell_some h3, e9, hl0, hno1, hpp, hc, hno21, hne2]
        exact Close_drop (Close_drop (Close_drop (end_none hTT ⟨_, _, by rw [hB]; rfl, by rw [hB]; exact RPl_zero, by rw [hB]; exact RS_nil⟩)))
      | ok t =>
        rw [hct] at hr5
        obtain ⟨sv2, hsv, hts⟩ := hr5
        injection hsv with hsv
        simp only [Array.mk.injEq, List.cons.injEq, and_true, Value.int.injEq, true_and] at hsv
        obtain ⟨rfl, rfl⟩ := hsv
        have hB : boundR rels q = ((p, zipC names t), 0) := by unfold boundR; rw [hqR]; simp only; rw [if_neg (by simp), hct]
        have htl : t.length ≤ names.length := by
          have := hwid t (by rw [hqR]) (by rw [hqR]; exact hct)
          rw [hqR] at this; exact this
        have hzl := zipC_len2 htl
        obtain ⟨htb, wa, wc, rfl, _, _, htg⟩ := RS_elim (by decide) (fun _ _ => RI_len) hts
        simp +contextual only [go_sem, Rcb, Rbk, sevalprocAttr, hlv, ht, hlt, mcell_some h3, e9, hl0, hno1, hpp, hc, hno21]
        have hz1 : Ext M1 M21 := (Ext.rfl').trans ((hMz.trans hM20).trans hM21)
        have hpf := RPl_ext (hM20.trans hM21) _ _ hpz
        refine loop_range t.length 155 [(4, .pointer (some ⟨b4, 0, none⟩)), (8, .pointer (some ⟨b8, 0, none⟩)), (9, .slice na names.length nc), (153, .slice wa t.length wc), (154, .int .i64 (t.length : Int))]
          (fun i e h => ∃ R cv, e 22 = cv ∧ Acc 48 2 RCo [] R cv ((zipC names t).take i) ∧ h = ⟨T9, M21, [(b8, [c0, c1, c2, c3, c4, c5, c6, c7, c8, c9, c10]), (b4, z11), (b7, [.int .i64 f])], R⟩)
          0 (by omega) (by simp only [live, hlv, e9, go_sem, Rcb, Rbk, sevalprocAttr]) (by simp only [go_sem, Rcb, Rbk, sevalprocAttr]) ⟨[], _, by simp only [go_sem, Rcb, Rbk, sevalprocAttr], Acc_nil, rfl⟩ ?_
        clear hlv ht e9 hlt hi e
        rintro i e h hi hlv ht ⟨R22, cv, e22, hacc, rfl⟩
        simp only [live] at hlv
        by_cases hlt : i < t.length
        · have hzi : ((zipC names t).take i).length = i := by rw [List.length_take]; omega
          obtain ⟨bn, on, cn, rfl, hatn, hrn⟩ := hng i names[i] (List.getElem?_eq_getElem (by omega))
          unfold RSt at hrn; subst hrn
          have z0 := At1 (hatn.ext hz1)
          rw [Nat.mul_one] at z0
          obtain ⟨bt, ot, ct, rfl, hatt, hrt⟩ := htg i t[i] (List.getElem?_eq_getElem hlt)
          unfold RI at hrt; subst hrt
          have w0 := At1 hatt
          rw [Nat.mul_one] at w0
          have hin : i < names.length := by omega
          simp +contextual only [go_sem, Rcb, Rbk, sevalprocAttr, hlv, ht, hlt, z0, w0, hin, e22]
          intro bc hbc hapc
          refine app_acc (x := (⟨names[i], t[i]⟩ : Co)) Tryz.underlying43 row43 okt43 hacc rfl (fun _ _ => RCo_len) (RCo_oneB (c := ⟨names[i], t[i]⟩) rfl) hbc (by omega) (by decide) ?_
          intro fv' R' hacc'
          have hsucc : (zipC names t).take (i + 1) = (zipC names t).take i ++ [⟨names[i], t[i]⟩] := by
            rw [List.take_succ, zipC_get hlt htl]; rfl
          rw [← hsucc] at hacc'
          simp +contextual only [go_sem, Rcb, Rbk, sevalprocAttr, hlv, ht, hlt]
          refine lp_close (Close_drop (Close_id ⟨t.length - (i + 1), by omega, rfl, i + 1, by omega, rfl, ?_, ?_, R', _, ?_, hacc', rfl⟩))
          · simp only [live, hlv, go_sem, Rcb, Rbk, sevalprocAttr]
          · simp only [ht, go_sem, Rcb, Rbk, sevalprocAttr, wrap_succ i (by omega)]
          · simp only [go_sem, Rcb, Rbk, sevalprocAttr]
        · have : i = t.length := by omega
          subst this
          have hzt : (zipC names t).take t.length = zipC names t := List.take_of_length_le (by omega)
          rw [hzt] at hacc
          simp +contextual only [go_sem, Rcb, Rbk, sevalprocAttr, hlv, ht, hlt, e22, hno21, hpp, hc]
          exact Close_acc hacc (by omega) (by decide) ⟨hno21.1, hno21.2.1, hno21.2.2, trivial⟩ fun M22 hM22 hno22 hrs => Close_drop (Close_drop (Close_drop (end_none hTT ⟨_, _, by rw [hB]; rfl, by rw [hB]; exact RPl_ext hM22 _ _ hpf, by rw [hB]; exact hrs⟩)))
set_option maxHeartbeats 4000000 in
theorem ct_SameX : ∀ (sz : Nat) (x : Ex), SizeOf.sizeOf x ≤ sz → ∀ {M : Mem} {cs cs' : List Value}, REx M x cs → REx M x cs' → ∀ (T : Tm), CtT Tryz.prog 15 [.agg ⟨cs⟩, .agg ⟨cs'⟩] T M [] [] (fun r _ _ _ => r = .bool true) noPan := by
  intro sz
  induction sz with
  | zero => intro x hx; cases x; simp at hx
  | succ sz ih =>
    intro x hsz M cs cs' hx hx' T
    obtain ⟨s, rfl, ks, hs⟩ := REx_form hx
    obtain ⟨s', rfl, ks', hs'⟩ := REx_form hx'
    obtain ⟨hbk, a, c, rfl, hle, _, hg⟩ := RS_elim (by decide) (fun _ _ => REx_len) hs
    obtain ⟨_, a', c', rfl, hle', _, hg'⟩ := RS_elim (by decide) (fun _ _ => REx_len) hs'
    refine ct_run mx bod15 Tryz.func15 rfl (by rw [nt15]; exact Nat.le_of_ble_eq_true rfl) (dr := dr15) (by kernel_rfl) rs15 ?_
    intro hno _
    simp +contextual only [go_sem, Rcb, Rbk, sevalprocAttr]
    intro b2 T2 hb2 hT2 hTb2 b3 T3 hb3 hap3 hT3 hTb3
    have hp3 : ¬ b3 = b2 ∧ ¬ b2 = b3 := hap3
    have hcase : (x.k = 2 ∧ ¬ x.k = 1) ∨ (x.k = 1 ∧ ¬ x.k = 2) ∨ (¬ x.k = 2 ∧ ¬ x.k = 1) := by omega
    have hsv : sameV ⟨x.v.k, x.v.n, x.v.t⟩ ⟨x.v.k, x.v.n, x.v.t⟩ = true := by simp [sameV]
    have hxk : x = .mk x.k x.v x.c x.kids := by cases x; rfl
    rcases hcase with ⟨h, h'⟩ | ⟨h, h'⟩ | ⟨h, h'⟩
    · simp +contextual only [go_sem, Rcb, Rbk, sevalprocAttr, hb2, hb3, hp3, h]
      refine loop_rangeC x.kids.length 47 [(2, .pointer (some ⟨b2, 0, none⟩)), (3, .pointer (some ⟨b3, 0, none⟩)), (46, .int .i64 (x.kids.length : Int))]
        (fun i e h => ∃ N' M', ExtT T3 N' ∧ Ext M M' ∧ M' b2 = some [.int .i64 x.k, .int .i64 x.v.k, .int .i64 x.v.n, st x.v.t, .int .i64 x.c, .slice a x.kids.length c] ∧ M' b3 = some [.int .i64 x.k, .int .i64 x.v.k, .int .i64 x.v.n, st x.v.t, .int .i64 x.c, .slice a' x.kids.length c'] ∧ h = ⟨N', M', [], []⟩)
        0 (by omega) (by simp only [live, go_sem, Rcb, Rbk, sevalprocAttr]) (by simp only [go_sem, Rcb, Rbk, sevalprocAttr]) (Close_freeze fun he h3 _ => Close_freeze fun he2 h2 _ => Close_id ⟨T3, _, ExtT.rfl', he.trans he2, h2, he2 _ _ h3, rfl⟩) ?_
      rintro i e h hi hlv ht ⟨N1, M1, hN1, hM1, h2, h3, rfl⟩
      simp only [live] at hlv
      by_cases hlt : i < x.kids.length
      · obtain ⟨b', o', xs, rfl, hat, hrx⟩ := hg i x.kids[i] (List.getElem?_eq_getElem hlt)
        obtain ⟨b'', o'', xs', rfl, hat', hrx'⟩ := hg' i x.kids[i] (List.getElem?_eq_getElem hlt)
        obtain ⟨s, rfl, kss, _⟩ := REx_form hrx
        obtain ⟨s', rfl, kss', _⟩ := REx_form hrx'
        have y := At6 (hat.ext hM1)
        have y' := At6 (hat'.ext hM1)
        have w2 := At6 (At_self h2)
        have w3 := At6 (At_self h3)
        simp only [Nat.zero_add] at w2 w3
        have hsz2 : SizeOf.sizeOf x.kids[i] ≤ sz := by
          have h4 := List.sizeOf_lt_of_mem (List.getElem_mem hlt)
          cases x with | mk k v c kids =>
          simp only [Ex.kids] at h4 ⊢
          simp only [Ex.mk.sizeOf_spec] at hsz
          omega
        simp +contextual only [go_sem, Rcb, Rbk, sevalprocAttr, hlv, ht, hlt]
        refine draw_all ?_
        simp +contextual only [go_sem, Rcb, Rbk, sevalprocAttr, hlv, ht, hlt, y, y', w2, w3, kss, kss']
        refine rCall_pure (ih x.kids[i] hsz2 (REx_ext hM1 _ _ hrx) (REx_ext hM1 _ _ hrx') N1) ?_ (fun _ _ _ _ h => h.elim)
        rintro r M2 hM2 hno2 rfl
        simp +contextual only [go_sem, Rcb, Rbk, sevalprocAttr, hlv, ht, hlt]
        repeat refine ⟨Sub_ML hM2 trivial, ?_⟩
        refine lp_close (Close_id ⟨x.kids.length - (i + 1), by omega, rfl, i + 1, by omega, rfl, ?_, ?_, N1, M2, hN1, hM1.trans hM2, hM2 _ _ h2, hM2 _ _ h3, rfl⟩)
        · simp only [live, hlv, go_sem, Rcb, Rbk, sevalprocAttr]
        · simp only [ht, go_sem, Rcb, Rbk, sevalprocAttr, wrap_succ i (by omega)]
      · simp +contextual only [go_sem, Rcb, Rbk, sevalprocAttr, hlv, ht, hlt]
        exact end_none ((hT2.trans hT3).trans hN1) rfl
    · simp +contextual only [go_sem, Rcb, Rbk, sevalprocAttr, hb2, hb3, hp3, h, neVal2, hsv]
      refine loop_rangeC x.kids.length 47 [(2, .pointer (some ⟨b2, 0, none⟩)), (3, .pointer (some ⟨b3, 0, none⟩)), (46, .int .i64 (x.kids.length : Int))]
        (fun i e h => ∃ N' M', ExtT T3 N' ∧ Ext M M' ∧ M' b2 = some [.int .i64 x.k, .int .i64 x.v.k, .int .i64 x.v.n, st x.v.t, .int .i64 x.c, .slice a x.kids.length c] ∧ M' b3 = some [.int .i64 x.k, .int .i64 x.v.k, .int .i64 x.v.n, st x.v.t, .int .i64 x.c, .slice a' x.kids.length c'] ∧ h = ⟨N', M', [], []⟩)
        0 (by omega) (by simp only [live, go_sem, Rcb, Rbk, sevalprocAttr]) (by simp only [go_sem, Rcb, Rbk, sevalprocAttr]) (Close_freeze fun he h3 _ => Close_freeze fun he2 h2 _ => Close_id ⟨T3, _, ExtT.rfl', he.trans he2, h2, he2 _ _ h3, rfl⟩) ?_
      rintro i e h hi hlv ht ⟨N1, M1, hN1, hM1, h2, h3, rfl⟩
      simp only [live] at hlv
      by_cases hlt : i < x.kids.length
      · obtain ⟨b', o', xs, rfl, hat, hrx⟩ := hg i x.kids[i] (List.getElem?_eq_getElem hlt)
        obtain ⟨b'', o'', xs', rfl, hat', hrx'⟩ := hg' i x.kids[i] (List.getElem?_eq_getElem hlt)
        obtain ⟨s, rfl, kss, _⟩ := REx_form hrx
        obtain ⟨s', rfl, kss', _⟩ := REx_form hrx'
        have y := At6 (hat.ext hM1)
        have y' := At6 (hat'.ext hM1)
        have w2 := At6 (At_self h2)
        have w3 := At6 (At_self h3)
        simp only [Nat.zero_add] at w2 w3
        have hsz2 : SizeOf.sizeOf x.kids[i] ≤ sz := by
          have h4 := List.sizeOf_lt_of_mem (List.getElem_mem hlt)
          cases x with | mk k v c kids =>
          simp only [Ex.kids] at h4 ⊢
          simp only [Ex.mk.sizeOf_spec] at hsz
          omega
        simp +contextual only [go_sem, Rcb, Rbk, sevalprocAttr, hlv, ht, hlt]
        refine draw_all ?_
        simp +contextual only [go_sem, Rcb, Rbk, sevalprocAttr, hlv, ht, hlt, y, y', w2, w3, kss, kss']
        refine rCall_pure (ih x.kids[i] hsz2 (REx_ext hM1 _ _ hrx) (REx_ext hM1 _ _ hrx') N1) ?_ (fun _ _ _ _ h => h.elim)
        rintro r M2 hM2 hno2 rfl
        simp +contextual only [go_sem, Rcb, Rbk, sevalprocAttr, hlv, ht, hlt]
        repeat refine ⟨Sub_ML hM2 trivial, ?_⟩
        refine lp_close (Close_id ⟨x.kids.length - (i + 1), by omega, rfl, i + 1, by omega, rfl, ?_, ?_, N1, M2, hN1, hM1.trans hM2, hM2 _ _ h2, hM2 _ _ h3, rfl⟩)
        · simp only [live, hlv, go_sem, Rcb, Rbk, sevalprocAttr]
        · simp only [ht, go_sem, Rcb, Rbk, sevalprocAttr, wrap_succ i (by omega)]
      · simp +contextual only [go_sem, Rcb, Rbk, sevalprocAttr, hlv, ht, hlt]
        exact end_none ((hT2.trans hT3).trans hN1) rfl
    · simp +contextual only [go_sem, Rcb, Rbk, sevalprocAttr, hb2, hb3, hp3, h, h']
      refine loop_rangeC x.kids.length 47 [(2, .pointer (some ⟨b2, 0, none⟩)), (3, .pointer (some ⟨b3, 0, none⟩)), (46, .int .i64 (x.kids.length : Int))]
        (fun i e h => ∃ N' M', ExtT T3 N' ∧ Ext M M' ∧ M' b2 = some [.int .i64 x.k, .int .i64 x.v.k, .int .i64 x.v.n, st x.v.t, .int .i64 x.c, .slice a x.kids.length c] ∧ M' b3 = some [.int .i64 x.k, .int .i64 x.v.k, .int .i64 x.v.n, st x.v.t, .int .i64 x.c, .slice a' x.kids.length c'] ∧ h = ⟨N', M', [], []⟩)
        0 (by omega) (by simp only [live, go_sem, Rcb, Rbk, sevalprocAttr]) (by simp only [go_sem, Rcb, Rbk, sevalprocAttr]) (Close_freeze fun he h3 _ => Close_freeze fun he2 h2 _ => Close_id ⟨T3, _, ExtT.rfl', he.trans he2, h2, he2 _ _ h3, rfl⟩) ?_
      rintro i e h hi hlv ht ⟨N1, M1, hN1, hM1, h2, h3, rfl⟩
      simp only [live] at hlv
      by_cases hlt : i < x.kids.length
      · obtain ⟨b', o', xs, rfl, hat, hrx⟩ := hg i x.kids[i] (List.getElem?_eq_getElem hlt)
        obtain ⟨b'', o'', xs', rfl, hat', hrx'⟩ := hg' i x.kids[i] (List.getElem?_eq_getElem hlt)
        obtain ⟨s, rfl, kss, _⟩ := REx_form hrx
        obtain ⟨s', rfl, kss', _⟩ := REx_form hrx'
        have y := At6 (hat.ext hM1)
        have y' := At6 (hat'.ext hM1)
        have w2 := At6 (At_self h2)
        have w3 := At6 (At_self h3)
        simp only [Nat.zero_add] at w2 w3
        have hsz2 : SizeOf.sizeOf x.kids[i] ≤ sz := by
          have h4 := List.sizeOf_lt_of_mem (List.getElem_mem hlt)
          cases x with | mk k v c kids =>
          simp only [Ex.kids] at h4 ⊢
          simp only [Ex.mk.sizeOf_spec] at hsz
          omega
        simp +contextual only [go_sem, Rcb, Rbk, sevalprocAttr, hlv, ht, hlt]
        refine draw_all ?_
        simp +contextual only [go_sem, Rcb, Rbk, sevalprocAttr, hlv, ht, hlt, y, y', w2, w3, kss, kss']
        refine rCall_pure (ih x.kids[i] hsz2 (REx_ext hM1 _ _ hrx) (REx_ext hM1 _ _ hrx') N1) ?_ (fun _ _ _ _ h => h.elim)
        rintro r M2 hM2 hno2 rfl
        simp +contextual only [go_sem, Rcb, Rbk, sevalprocAttr, hlv, ht, hlt]
        repeat refine ⟨Sub_ML hM2 trivial, ?_⟩
        refine lp_close (Close_id ⟨x.kids.length - (i + 1), by omega, rfl, i + 1, by omega, rfl, ?_, ?_, N1, M2, hN1, hM1.trans hM2, hM2 _ _ h2, hM2 _ _ h3, rfl⟩)
        · simp only [live, hlv, go_sem, Rcb, Rbk, sevalprocAttr]
        · simp only [ht, go_sem, Rcb, Rbk, sevalprocAttr, wrap_succ i (by omega)]
      · simp +contextual only [go_sem, Rcb, Rbk, sevalprocAttr, hlv, ht, hlt]
        exact end_none ((hT2.trans hT3).trans hN1) rfl
end Go.Proofs.YtmccpbcbofhmlaaGreatDoor

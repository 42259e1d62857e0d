import Derived.Test.YtoainkbcfnlkcaaGreatDoorA
set_option linter.all false
namespace Go.Proofs.YtoainkbcfnlkcaaGreatDoor
open Go Vc
set_option linter.unusedSimpArgs false
set_option linter.unusedVariables false
set_option maxRecDepth 10000

abbrev wCase : Bs := [99, 97, 115, 101]
abbrev wWhen : Bs := [119, 104, 101, 110]
abbrev wThen : Bs := [116, 104, 101, 110]
abbrev wElse : Bs := [101, 108, 115, 101]
abbrev wEnd : Bs := [101, 110, 100]
abbrev wCoal : Bs := [99, 111, 97, 108, 101, 115, 99, 101]
abbrev wCount : Bs := [99, 111, 117, 110, 116]
abbrev wSum : Bs := [115, 117, 109]
abbrev wMin : Bs := [109, 105, 110]
abbrev wMax : Bs := [109, 97, 120]
abbrev wNot : Bs := [110, 111, 116]
abbrev wIs : Bs := [105, 115]
abbrev sOpen : Bs := [40]
abbrev sClose : Bs := [41]
abbrev sComma : Bs := [44]
abbrev sStar : Bs := [42]
abbrev sDot : Bs := [46]
abbrev sSemi : Bs := [59]

def Rs.bind {α β : Type} (r : Rs α) (f : α → List Tk → Rs β) : Rs β := match r with
  | .ok a t => f a t
  | .err e a => .err e a
  | .out => .out
section
variable {α β : Type} {T N : Tm} {M : Mem} {R : RR} {dr : List (Nat × Sched)} {ts : List ResultVar} {post : PostP} {pb : Nat} {lv0 lv : Value} {en op0 op : Int} {d : Option Nat} {s : List Vc.Item} {e : Env} {toks : List Tk} {L1 : LL}
/-- a part of the parser, and what comes behind it -/
theorem part_b {f : FuncId} {args : List Value} {enc : α → Value → Mem → Prop} {res : Rs β} {g : Rs α} {Fk : α → List Tk → Rs β} (L1 : LL) (hT : ExtT T N) (hp : res = g.bind Fk) (hne : res ≠ .out)
    (hc : g ≠ .out → CtT Tryz.prog f args N M (pL pb lv en op) [] (postP pb en op enc g) (panP pb en g))
    (k : ∀ v M' a r lv', Ext M M' → noneL M' (L1 ++ pL pb lv' en op) → res = Fk a r → RS M' RTk 3 r lv' → enc a v M' →
      Run Tryz.prog (fi Tryz.prog T dr ts (keys (pL pb lv0 en op0)) 0 post (panP pb en res)) s (updo e d v) [] ⟨N, M', L1 ++ pL pb lv' en op, R⟩ ⟨⟩) :
    rCall Tryz.prog (fi Tryz.prog T dr ts (keys (pL pb lv0 en op0)) 0 post (panP pb en res)) f args d s e [] ⟨N, M, L1 ++ pL pb lv en op, R⟩ ⟨⟩ := by
  have hg : g ≠ .out := fun h => hne (by rw [hp, h]; rfl)
  refine part_p L1 (hc hg) (fun v M' a r lv' hM hno hres hr he => k v M' a r lv' hM hno (by rw [hp, hres]; rfl) hr he) ?_
  intro c a M' lv' op' hM hres
  exact pan_p L1 hT (by rw [hp, hres]; rfl)
theorem need_b {res : Rs β} {Fk : Unit → List Tk → Rs β} (L1 : LL) {x : Bs} {b : Nat} (hT : ExtT T N) (hp : res = (needM en [x] toks).bind Fk) (hl : RS M RTk 3 toks lv)
    (k : ∀ M' lv', Ext M M' → noneL M' (L1 ++ pL pb lv' en op) → res = Fk () toks.tail → RS M' RTk 3 toks.tail lv' →
      Run Tryz.prog (fi Tryz.prog T dr ts (keys (pL pb lv0 en op0)) 0 post (panP pb en res)) s (updo e d (.tuple #[])) [] ⟨N, M', L1 ++ pL pb lv' en op, R⟩ ⟨⟩) :
    rCall Tryz.prog (fi Tryz.prog T dr ts (keys (pL pb lv0 en op0)) 0 post (panP pb en res)) 31 [.pointer (some ⟨pb, 0, none⟩), .slice (some ⟨b, 0, none⟩) 1 1] d s e [] ⟨N, M, (b, [.string (bs x)]) :: (L1 ++ pL pb lv en op), R⟩ ⟨⟩ := by
  refine rCall_frz bod31 fun M1 hM1 hb hno1 => ?_
  have hl1 := RS_ext hM1 (fun _ _ h => h) hl
  have hs : RS M1 RSt 1 [x] (.slice (some ⟨b, 0, none⟩) 1 1) := RS_lit (fun _ _ => RSt_len) hb (RL_strs [x]) rfl (by decide)
  refine part_p L1 (ct_p_need hl1 hs N) ?_ ?_
  · rintro v M' a r lv' hM hno hres hr rfl
    have hr2 : r = toks.tail := by
      simp only [needM] at hres
      split at hres
      · injection hres with _ h; exact h.symm
      · cases hres
    subst hr2
    exact k M' lv' (hM1.trans hM) hno (by rw [hp, hres]; rfl) hr
  · intro c a M' lv' op' hM hres
    exact pan_p L1 hT (by rw [hp, hres]; rfl)
end
def litX (v : V) : X := .mk 1 v [] [] []
def pieceM (en : Int) (ex : List Tk → Rs X) (toks : List Tk) : Rs X :=
  (valueM en toks).bind fun v t => match v with
    | some v => .ok (litX v) t
    | none =>
      if seesM sOpen t = true then (ex t.tail).bind fun x t => (needM en [sClose] t).bind fun _ t => .ok x t
      else if seesM wCase t = true then (needM en [wWhen] t.tail).bind fun _ t => (ex t).bind fun a t => (needM en [wThen] t).bind fun _ t => (ex t).bind fun b t =>
        (needM en [wElse] t).bind fun _ t => (ex t).bind fun c t => (needM en [wEnd] t).bind fun _ t => .ok (mkX 17 [a, b, c]) t
      else if seesM wCoal t = true then (needM en [sOpen] t.tail).bind fun _ t => (ex t).bind fun a t => (needM en [sComma] t).bind fun _ t => (ex t).bind fun b t => (needM en [sClose] t).bind fun _ t => .ok (mkX 18 [a, b]) t
      else if seesM wCount t = true then (needM en [sOpen] t.tail).bind fun _ t =>
        if seesM sStar t = true then (needM en [sClose] t.tail).bind fun _ t => .ok (mkX 19 []) t
        else (ex t).bind fun a t => (needM en [sClose] t).bind fun _ t => .ok (mkX 20 [a]) t
      else match idxSign [wSum, wMin, wMax] t with
        | some i => (needM en [sOpen] t.tail).bind fun _ t => (ex t).bind fun a t => (needM en [sClose] t).bind fun _ t => .ok (mkX (21 + i) [a]) t
        | none => (nameM en t).bind fun n t => if seesM sDot t = true then (nameM en t.tail).bind fun m t => .ok (.mk 2 ⟨0, 0, []⟩ n m []) t else .ok (.mk 2 ⟨0, 0, []⟩ [] n []) t
/-- what an expression's part does -/
def ExC (en : Int) (pb : Nat) (ex : List Tk → Rs X) (op : Int) : Prop := ∀ (M : Mem) (toks : List Tk) (lv : Value) (T : Tm), Glob M → RS M RTk 3 toks lv → ex toks ≠ .out →
  CtT Tryz.prog 67 [.pointer (some ⟨pb, 0, none⟩)] T M (pL pb lv en op) [] (postP pb en op encX (ex toks)) (panP pb en (ex toks))
theorem RX_lit {M : Mem} (v : V) : RX M (litX v) [.int .i64 1, .int .i64 v.k, .int .i64 v.n, st v.t, st [], st [], .slice none 0 0] :=
  RX_iff.2 ⟨.slice none 0 0, rfl, Nat.zero_le _, [], .inl ⟨_, _, rfl, rfl, fun _ => rfl⟩, rfl⟩
theorem RX_oneC {M : Mem} {x : X} {cs : List Value} (h : RX M x cs) : ∀ u ∈ cs, u.oneCell' = true := by
  obtain ⟨s, rfl, h1, _⟩ := RX_form h
  intro u hu
  simp only [List.mem_cons, List.not_mem_nil, or_false] at hu
  rcases hu with rfl | rfl | rfl | rfl | rfl | rfl | rfl <;> first | rfl | exact h1
theorem len_le {a b : List Value} {n : Nat} (ha : a.length + b.length = n) (hn : n ≤ 4294967296) : a.length + b.length ≤ 4294967296 := by omega
theorem ct_piece {M : Mem} {pb : Nat} {toks : List Tk} {lv : Value} {en op : Int} {ex : List Tk → Rs X} (hg : Glob M) (hl : RS M RTk 3 toks lv) (hex : ExC en pb ex op) (hne : pieceM en ex toks ≠ .out) (T : Tm) :
    CtT Tryz.prog 145 [.pointer (some ⟨pb, 0, none⟩)] T M (pL pb lv en op) [] (postP pb en op encX (pieceM en ex toks)) (panP pb en (pieceM en ex toks)) := by
  refine ct_run mx bod145 Tryz.func145 rfl (by rw [nt145]; exact Nat.le_of_ble_eq_true rfl) (dr := dr145) (by kernel_rfl) rs145 ?_
  intro hno _
  simp only [noneL_pL] at hno
  simp +contextual only [go_sem, Rcb, Rbk, sevalprocAttr]
  intro b2 T2 hb2 hap2 hT2 hTb2
  refine part_b [(b2, _)] hT2 rfl hne (fun _ => ct_p_value hl T2) ?_
  intro v M1 o t lv1 hM1 hno1 hres hl1 hv
  have hg1 := hg.ext hM1
  simp only [List.cons_append, List.nil_append, noneL, noneL_pL] at hno1
  cases o with
  | some x =>
    simp only [encV] at hv; subst hv
    simp +contextual only [go_sem, Rcb, Rbk, sevalprocAttr, hno1, hap2, V.cs]
    intro b3 T3 hb3 hap3 hT3 hTb3
    refine Close_drop (Close_drop (end_id (hT2.trans hT3) rfl rfl ?_))
    exact ⟨litX x, t, lv1, hres, rfl, hl1, rfl, _, rfl, RX_lit x⟩
  | none =>
    simp only [encV] at hv; subst hv
    simp +contextual only [go_sem, Rcb, Rbk, sevalprocAttr, hno1, hap2, V.cs]
    intro b3 T3 hb3 hap3 hT3 hTb3
    simp only at hres
    have hT := hT2.trans hT3
    refine is_c [(b3, _), (b2, _)] sOpen hl1 (fun hs lv2 hl2 => ?_) (fun hs lv2 hl2 => ?_)
    · rw [if_pos hs] at hres
      simp +contextual only [go_sem, Rcb, Rbk, sevalprocAttr]
      refine part_b [(b3, _), (b2, _)] hT hres hne (fun h => hex M1 _ lv2 T3 hg1 hl2 h) ?_
      rintro v M2 x t2 lv3 hM2 hno2 hres hl3 ⟨cs, rfl, hx⟩
      obtain ⟨s, rfl, h1, _⟩ := RX_form hx
      simp only [List.cons_append, List.nil_append, noneL, noneL_pL] at hno2
      simp +contextual only [go_sem, Rcb, Rbk, sevalprocAttr, hno2, hap2, hap3, h1]
      intro b5 T5 hb5 hap5 hT5 hTb5 b6 hb6 hap6
      refine need_b [(b5, _), (b3, _), (b2, _)] (hT.trans hT5) hres hl3 ?_
      intro M3 lv4 hM3 hno3 hres hl4
      simp only [List.cons_append, List.nil_append, noneL, noneL_pL] at hno3
      simp +contextual only [go_sem, Rcb, Rbk, sevalprocAttr, hno3, hap2, hap3, hap5, h1]
      refine Close_drop (Close_drop (Close_drop (end_id (hT.trans hT5) rfl rfl ?_)))
      exact ⟨x, _, lv4, hres, rfl, hl4, rfl, _, rfl, RX_ext hM3 _ _ hx⟩
    rw [if_neg (by simp [hs])] at hres
    clear hs
    simp +contextual only [go_sem, Rcb, Rbk, sevalprocAttr]
    refine is_c [(b3, _), (b2, _)] wCase hl2 (fun hs lv3 hl3 => ?_) (fun hs lv3 hl3 => ?_)
    · rw [if_pos hs] at hres
      simp +contextual only [go_sem, Rcb, Rbk, sevalprocAttr]
      intro b4 hb4 hap4
      refine need_b [(b3, _), (b2, _)] hT hres hl3 ?_
      intro M2 lv4 hM2 hno2 hres hl4
      simp +contextual only [go_sem, Rcb, Rbk, sevalprocAttr]
      refine part_b [(b3, _), (b2, _)] hT hres hne (fun h => hex M2 _ lv4 T3 (hg1.ext hM2) hl4 h) ?_
      rintro v M3 x t2 lv5 hM3 hno3 hres hl5 ⟨cs, rfl, hx⟩
      obtain ⟨s, rfl, h1, _⟩ := RX_form hx
      simp only [List.cons_append, List.nil_append, noneL, noneL_pL] at hno3
      simp +contextual only [go_sem, Rcb, Rbk, sevalprocAttr, hno3, hap2, hap3, h1]
      intro bk hbk hapk b6 T6 hb6 hap6 hT6 hTb6 b7 hb7 hap7
      refine need_b [(b6, _), (bk, _), (b3, _), (b2, _)] (hT.trans hT6) hres hl5 ?_
      intro M4 lv6 hM4 hno4 hres hl6
      simp only [List.cons_append, List.nil_append, noneL, noneL_pL] at hno4
      simp +contextual only [go_sem, Rcb, Rbk, sevalprocAttr, hno4, hap2, hap3, hapk, hap6, h1]
      refine draw_at ⟨T, fun _ => none, [(b6, _)], []⟩ (Sub_hd hno4.1) ?_
      simp +contextual only [go_sem, Rcb, Rbk, sevalprocAttr, hno4, hap2, hap3, hapk, hap6, h1]
      refine part_b [(b6, _), (bk, _), (b3, _), (b2, _)] (hT.trans hT6) hres hne (fun h => hex M4 _ lv6 T6 (((hg1.ext hM2).ext hM3).ext hM4) hl6 h) ?_
      rintro v M5 y t3 lv7 hM5 hno5 hres hl7 ⟨cs, rfl, hy⟩
      obtain ⟨s', rfl, h1', _⟩ := RX_form hy
      simp only [List.cons_append, List.nil_append, noneL, noneL_pL] at hno5
      simp +contextual only [go_sem, Rcb, Rbk, sevalprocAttr, hno5, hap2, hap3, hapk, hap6, h1']
      refine ⟨Sub_hd hno5.1, ?_⟩
      intro b8 hb8 hap8
      refine ⟨Sub_hd2 hno5.1 (fun h => hap8.1.2 h), ?_⟩
      refine app_read row58 okt58 (.slice _ 1 _ _ _ Tryz.underlying58 (cells_own [] hb8 trivial rfl) (RX_oneC hy)) (cells_own [(b8, _), (b6, _)] hno5.2.1 ⟨⟨hap8.2.1.2, hap8.2.1.1⟩, ⟨hap6.1.2, hap6.1.1⟩, trivial⟩ rfl) (Nat.zero_lt_succ _) (len_le (n := 14) rfl (by decide)) ?_
      intro ra rm rc hrm
      have hb8' := hb8
      simp +contextual only [go_sem, Rcb, Rbk, sevalprocAttr, hno5, hap2, hap3, hapk, hap6, hap8]
      intro b9 hb9 hap9
      refine need_b [(b8, _), (b6, _), (bk, _), (b3, _), (b2, _)] (hT.trans hT6) hres hl7 ?_
      intro M6 lv8 hM6 hno6 hres hl8
      simp only [List.cons_append, List.nil_append, noneL, noneL_pL] at hno6
      simp +contextual only [go_sem, Rcb, Rbk, sevalprocAttr, hno6, hap2, hap3, hapk, hap6, hap8]
      refine draw_at ⟨T, fun _ => none, [(b6, _)], []⟩ (Sub_hd2 hno6.2.1 (fun h => hap8.1.2 h)) ?_
      simp +contextual only [go_sem, Rcb, Rbk, sevalprocAttr, hno6, hap2, hap3, hapk, hap6, hap8]
      refine part_b [(b8, _), (b6, _), (bk, _), (b3, _), (b2, _)] (hT.trans hT6) hres hne (fun h => hex M6 _ lv8 T6 ((((hg1.ext hM2).ext hM3).ext hM4).ext hM5 |>.ext hM6) hl8 h) ?_
      rintro v M7 z t4 lv9 hM7 hno7 hres hl9 ⟨cs, rfl, hz⟩
      obtain ⟨s'', rfl, h1'', _⟩ := RX_form hz
      simp only [List.cons_append, List.nil_append, noneL, noneL_pL] at hno7
      simp +contextual only [go_sem, Rcb, Rbk, sevalprocAttr, hno7, hap2, hap3, hapk, hap6, hap8, h1'']
      refine ⟨Sub_own [(b8, _)] hno7.2.1 ⟨⟨hap8.1.2, hap8.1.1⟩, trivial⟩, ?_⟩
      intro ba hba hapa
      refine ⟨Sub_own [(ba, _), (b8, _)] hno7.2.1 ⟨⟨hapa.2.1.2, hapa.2.1.1⟩, ⟨hap8.1.2, hap8.1.1⟩, trivial⟩, ?_⟩
      refine app_row row58 okt58 (.slice _ 1 _ _ _ Tryz.underlying58 (cells_own [] hba trivial rfl) (RX_oneC hz)) (len_le (n := 21) rfl (by decide)) ?_
      intro ra' rm' rc' hrm'
      simp +contextual only [go_sem, Rcb, Rbk, sevalprocAttr, hno7, hap2, hap3, hapk, hap6, hap8, hapa]
      intro bb hbb hapb
      refine need_b [(ba, _), (b8, _), (b6, _), (bk, _), (b3, _), (b2, _)] (hT.trans hT6) hres hl9 ?_
      intro M8 lva hM8 hno8 hres hla
      simp only [List.cons_append, List.nil_append, noneL, noneL_pL] at hno8
      simp +contextual only [go_sem, Rcb, Rbk, sevalprocAttr, hno8, hap2, hap3, hapk, hap6, hap8, hapa]
      refine Close_row fun M9 hM9 hno9 hsl => ?_
      refine Close_drop (Close_drop (Close_drop (Close_drop (Close_drop (Close_drop (end_id (hT.trans hT6) rfl rfl ?_))))))
      have hx9 := RX_ext (((((hM4.trans hM5).trans hM6).trans hM7).trans hM8).trans hM9) _ _ hx
      have hy9 := RX_ext (((hM6.trans hM7).trans hM8).trans hM9) _ _ hy
      have hz9 := RX_ext (hM8.trans hM9) _ _ hz
      refine ⟨mkX 17 [x, y, z], _, lva, hres, rfl, RS_ext hM9 (fun _ _ h => h) hla, rfl, _, rfl, RX_mk ⟨by simp, _, hsl, ?_⟩⟩
      exact RL_append (RL_one hx9) (RL_append (RL_one hy9) (RL_one hz9))
    rw [if_neg (by simp [hs])] at hres
    clear hs
    simp +contextual only [go_sem, Rcb, Rbk, sevalprocAttr]
    refine is_c [(b3, _), (b2, _)] wCoal hl3 (fun hs lv4 hl4 => ?_) (fun hs lv4 hl4 => ?_)
    · rw [if_pos hs] at hres
      simp +contextual only [go_sem, Rcb, Rbk, sevalprocAttr]
      intro b4 hb4 hap4
      refine need_b [(b3, _), (b2, _)] hT hres hl4 ?_
      intro M2 lv5 hM2 hno2 hres hl5
      simp +contextual only [go_sem, Rcb, Rbk, sevalprocAttr]
      refine part_b [(b3, _), (b2, _)] hT hres hne (fun h => hex M2 _ lv5 T3 (hg1.ext hM2) hl5 h) ?_
      rintro v M3 x t2 lv6 hM3 hno3 hres hl6 ⟨cs, rfl, hx⟩
      obtain ⟨s, rfl, h1, _⟩ := RX_form hx
      simp only [List.cons_append, List.nil_append, noneL, noneL_pL] at hno3
      simp +contextual only [go_sem, Rcb, Rbk, sevalprocAttr, hno3, hap2, hap3, h1]
      intro b7 T7 hb7 hap7 hT7 hTb7 b6 hb6 hap6
      refine need_b [(b7, _), (b3, _), (b2, _)] (hT.trans hT7) hres hl6 ?_
      intro M4 lv7 hM4 hno4 hres hl7
      simp +contextual only [go_sem, Rcb, Rbk, sevalprocAttr]
      refine part_b [(b7, _), (b3, _), (b2, _)] (hT.trans hT7) hres hne (fun h => hex M4 _ lv7 T7 (((hg1.ext hM2).ext hM3).ext hM4) hl7 h) ?_
      rintro v M5 y t3 lv8 hM5 hno5 hres hl8 ⟨cs, rfl, hy⟩
      obtain ⟨s', rfl, h1', _⟩ := RX_form hy
      simp only [List.cons_append, List.nil_append, noneL, noneL_pL] at hno5
      simp +contextual only [go_sem, Rcb, Rbk, sevalprocAttr, hno5, hap2, hap3, hap7, h1']
      intro b8 T8 hb8 hap8 hT8 hTb8 b9 hb9 hap9
      refine need_b [(b8, _), (b7, _), (b3, _), (b2, _)] ((hT.trans hT7).trans hT8) hres hl8 ?_
      intro M6 lv9 hM6 hno6 hres hl9
      simp only [List.cons_append, List.nil_append, noneL, noneL_pL] at hno6
      simp +contextual only [go_sem, Rcb, Rbk, sevalprocAttr, hno6, hap2, hap3, hap7, hap8, h1']
      refine rCall_pure (ct_two 18 (RX_ext ((hM4.trans hM5).trans hM6) _ _ hx) (RX_ext hM6 _ _ hy) T8) ?_ (fun _ _ _ _ h => h.elim)
      rintro v M7 hM7 hno7 ⟨cs, rfl, hxy⟩
      obtain ⟨s'', rfl, h1'', _⟩ := RX_form hxy
      simp only [List.cons_append, List.nil_append, noneL, noneL_pL] at hno7
      simp +contextual only [go_sem, Rcb, Rbk, sevalprocAttr, hno7, hap2, hap3, hap7, hap8, h1'']
      refine Close_drop (Close_drop (Close_drop (Close_drop (end_id ((hT.trans hT7).trans hT8) rfl rfl ?_))))
      exact ⟨_, _, lv9, hres, rfl, RS_ext hM7 (fun _ _ h => h) hl9, rfl, _, rfl, hxy⟩
    rw [if_neg (by simp [hs])] at hres
    clear hs
    simp +contextual only [go_sem, Rcb, Rbk, sevalprocAttr]
    refine is_c [(b3, _), (b2, _)] wCount hl4 (fun hs lv5 hl5 => ?_) (fun hs lv5 hl5 => ?_)
    · rw [if_pos hs] at hres
      simp +contextual only [go_sem, Rcb, Rbk, sevalprocAttr]
      intro b4 hb4 hap4
      refine need_b [(b3, _), (b2, _)] hT hres hl5 ?_
      intro M2 lv6 hM2 hno2 hres hl6
      simp +contextual only [go_sem, Rcb, Rbk, sevalprocAttr]
      refine is_c [(b3, _), (b2, _)] sStar hl6 (fun hs2 lv7 hl7 => ?_) (fun hs2 lv7 hl7 => ?_)
      · rw [if_pos hs2] at hres
        simp +contextual only [go_sem, Rcb, Rbk, sevalprocAttr]
        intro b5 hb5 hap5
        refine need_b [(b3, _), (b2, _)] hT hres hl7 ?_
        intro M3 lv8 hM3 hno3 hres hl8
        simp only [List.cons_append, List.nil_append, noneL, noneL_pL] at hno3
        simp +contextual only [go_sem, Rcb, Rbk, sevalprocAttr, hno3, hap2, hap3]
        refine Close_drop (Close_drop (end_id hT rfl rfl ?_))
        exact ⟨_, _, lv8, hres, rfl, hl8, rfl, _, rfl, RX_mk ⟨Nat.zero_le _, [], .inl ⟨_, _, rfl, rfl, fun _ => rfl⟩, rfl⟩⟩
      · rw [if_neg (by simp [hs2])] at hres
        simp +contextual only [go_sem, Rcb, Rbk, sevalprocAttr]
        refine part_b [(b3, _), (b2, _)] hT hres hne (fun h => hex M2 _ lv7 T3 (hg1.ext hM2) hl7 h) ?_
        rintro v M3 x t2 lv8 hM3 hno3 hres hl8 ⟨cs, rfl, hx⟩
        simp +contextual only [go_sem, Rcb, Rbk, sevalprocAttr]
        refine rCall_pure (ct_of 20 hx T3) ?_ (fun _ _ _ _ h => h.elim)
        rintro v M4 hM4 hno4 ⟨cs', rfl, hx4⟩
        obtain ⟨s, rfl, h1, _⟩ := RX_form hx4
        simp only [List.cons_append, List.nil_append, noneL, noneL_pL] at hno4
        simp +contextual only [go_sem, Rcb, Rbk, sevalprocAttr, hno4, hap2, hap3, h1]
        intro b7 T7 hb7 hap7 hT7 hTb7 b6 hb6 hap6
        refine need_b [(b7, _), (b3, _), (b2, _)] (hT.trans hT7) hres (RS_ext hM4 (fun _ _ h => h) hl8) ?_
        intro M5 lv9 hM5 hno5 hres hl9
        simp only [List.cons_append, List.nil_append, noneL, noneL_pL] at hno5
        simp +contextual only [go_sem, Rcb, Rbk, sevalprocAttr, hno5, hap2, hap3, hap7, h1]
        refine Close_drop (Close_drop (Close_drop (end_id (hT.trans hT7) rfl rfl ?_)))
        exact ⟨_, _, lv9, hres, rfl, hl9, rfl, _, rfl, RX_ext hM5 _ _ hx4⟩
    rw [if_neg (by simp [hs])] at hres
    clear hs
    simp +contextual only [go_sem, Rcb, Rbk, sevalprocAttr]
    intro b4 hb4 hap4
    refine loop_rangeC 3 105 [(0, .pointer (some ⟨pb, 0, none⟩)), (2, .pointer (some ⟨b2, 0, none⟩)), (103, .slice (some ⟨b4, 0, none⟩) 3 3), (104, .int .i64 3)]
      (fun i e h => (∃ M' lv' cs3 cs2, Ext M1 M' ∧ h = ⟨T3, M', (b3, cs3) :: (b2, cs2) :: pL pb lv' en op, []⟩ ∧ cs2.length = 7 ∧ M' b4 = some ([wSum, wMin, wMax].map st) ∧ RS M' RTk 3 t lv' ∧ M' b3 = none ∧ M' b2 = none ∧ M' pb = none) ∧ idxSign [wSum, wMin, wMax] t = (idxSign ([wSum, wMin, wMax].drop i) t).map (· + i))
      0 (by omega) (by simp only [live, go_sem, Rcb, Rbk, sevalprocAttr]) (by simp only [go_sem, Rcb, Rbk, sevalprocAttr]) (Close_freeze fun he hb hno => Close_id ⟨⟨_, lv5, _, _, he, rfl, rfl, hb, RS_ext he (fun _ _ h => h) hl5, hno.1, hno.2.1, by simpa only [noneL_pL] using hno.2.2⟩, by simp⟩) ?_
    rintro i e h hi hlv ht ⟨⟨M2, lv6, cs3, cs2, hM2, rfl, hcs2, hw, hl6, hn3, hn2, hnp⟩, hidx⟩
    simp only [live] at hlv
    obtain ⟨q0, q1, q2, q3, q4, q5, q6, rfl⟩ := cells7 hcs2
    have hg2 := hg1.ext hM2
    by_cases hlt : i < 3
    · have hdrop : [wSum, wMin, wMax].drop i = [wSum, wMin, wMax][i] :: [wSum, wMin, wMax].drop (i + 1) := List.drop_eq_getElem_cons hlt
      rw [hdrop] at hidx
      have hx : mcell M2 ⟨b4, i, none⟩ = some (st [wSum, wMin, wMax][i]) := by
        rw [mcell_some hw, List.getElem?_map, List.getElem?_eq_getElem hlt]
        rfl
      have hi3 : (i : Int) < 3 := by omega
      simp +contextual only [go_sem, Rcb, Rbk, sevalprocAttr, hlv, ht, hlt, hi3, hx]
      refine is_c [(b3, _), (b2, _)] [wSum, wMin, wMax][i] hl6 (fun hs lv7 hl7 => ?_) (fun hs lv7 hl7 => ?_)
      · have hix : idxSign [wSum, wMin, wMax] t = some i := by rw [hidx]; simp [idxSign, hs]
        rw [hix] at hres
        simp only at hres
        simp +contextual only [go_sem, Rcb, Rbk, sevalprocAttr, hlv, ht]
        intro b5 hb5 hap5
        refine need_b [(b3, _), (b2, _)] hT hres hl7 ?_
        intro M3 lv8 hM3 hno3 hres hl8
        simp +contextual only [go_sem, Rcb, Rbk, sevalprocAttr, hlv, ht]
        refine part_b [(b3, _), (b2, _)] hT hres hne (fun h => hex M3 _ lv8 T3 (hg2.ext hM3) hl8 h) ?_
        rintro v M4 x t2 lv9 hM4 hno4 hres hl9 ⟨cs, rfl, hx⟩
        have hw21 : IntKind.i64.wrap (21 + (i : Int)) = 21 + (i : Int) := wrap64 (by omega) (by omega)
        simp +contextual only [go_sem, Rcb, Rbk, sevalprocAttr, hw21]
        refine rCall_pure (ct_of (21 + (i : Int)) hx T3) ?_ (fun _ _ _ _ h => h.elim)
        rintro v M5 hM5 hno5 ⟨cs', rfl, hx5⟩
        obtain ⟨s, rfl, h1, _⟩ := RX_form hx5
        simp only [List.cons_append, List.nil_append, noneL, noneL_pL] at hno5
        simp +contextual only [go_sem, Rcb, Rbk, sevalprocAttr, hno5, hap2, hap3, h1, hlv]
        intro b7 T7 hb7 hap7 hT7 hTb7 b6 hb6 hap6
        refine need_b [(b7, _), (b3, _), (b2, _)] (hT.trans hT7) hres (RS_ext hM5 (fun _ _ h => h) hl9) ?_
        intro M6 lva hM6 hno6 hres hla
        simp only [List.cons_append, List.nil_append, noneL, noneL_pL] at hno6
        simp +contextual only [go_sem, Rcb, Rbk, sevalprocAttr, hno6, hap2, hap3, hap7, h1, hlv]
        refine Close_drop (Close_drop (Close_drop (end_id (hT.trans hT7) rfl rfl ?_)))
        exact ⟨_, _, lva, hres, rfl, hla, rfl, _, rfl, RX_ext hM6 _ _ hx5⟩
      · simp +contextual only [go_sem, Rcb, Rbk, sevalprocAttr, hlv, ht]
        refine lp_range hlt ?_ ?_ ⟨⟨M2, lv7, cs3, _, hM2, rfl, rfl, hw, hl7, hn3, hn2, hnp⟩, ?_⟩
        · simp only [live, hlv, go_sem, Rcb, Rbk, sevalprocAttr]
        · simp only [ht, go_sem, Rcb, Rbk, sevalprocAttr, wrap_succ i (by omega)]
        · rw [hidx]
          simp only [idxSign, hs, Bool.false_eq_true, if_false, Option.map_map]
          congr 1
          funext n
          simp only [Function.comp]; omega
    · have : i = 3 := by omega
      subst this
      have hix : idxSign [wSum, wMin, wMax] t = none := by rw [hidx]; rfl
      rw [hix] at hres
      simp only at hres
      have h33 : ¬ ((3 : Nat) : Int) < 3 := by omega
      simp +contextual only [go_sem, Rcb, Rbk, sevalprocAttr, hlv, ht, h33]
      refine part_b [(b3, _), (b2, _)] hT hres hne (fun _ => ct_p_name hg2 hl6 T3) ?_
      rintro v M3 n t2 lv7 hM3 hno3 hres hl7 rfl
      simp +contextual only [go_sem, Rcb, Rbk, sevalprocAttr, hlv]
      refine is_c [(b3, _), (b2, _)] sDot hl7 (fun hs lv8 hl8 => ?_) (fun hs lv8 hl8 => ?_)
      · rw [if_pos hs] at hres
        simp +contextual only [go_sem, Rcb, Rbk, sevalprocAttr, hlv]
        refine part_b [(b3, _), (b2, _)] hT hres hne (fun _ => ct_p_name (hg2.ext hM3) hl8 T3) ?_
        rintro v M4 m t3 lv9 hM4 hno4 hres hl9 rfl
        simp only [List.cons_append, List.nil_append, noneL, noneL_pL] at hno4
        simp +contextual only [go_sem, Rcb, Rbk, sevalprocAttr, hno4, hlv, hap2, hap3]
        refine Close_drop (Close_drop (end_id hT rfl rfl ?_))
        exact ⟨_, _, lv9, hres, rfl, hl9, rfl, _, rfl, RX_iff.2 ⟨_, rfl, Nat.zero_le _, [], .inl ⟨_, _, rfl, rfl, fun _ => rfl⟩, rfl⟩⟩
      · rw [if_neg (by simp [hs])] at hres
        simp only [List.cons_append, List.nil_append, noneL, noneL_pL] at hno3
        simp +contextual only [go_sem, Rcb, Rbk, sevalprocAttr, hno3, hlv, hap2, hap3]
        refine Close_drop (Close_drop (end_id hT rfl rfl ?_))
        exact ⟨_, _, lv8, hres, rfl, hl8, rfl, _, rfl, RX_iff.2 ⟨_, rfl, Nat.zero_le _, [], .inl ⟨_, _, rfl, rfl, fun _ => rfl⟩, rfl⟩⟩
end Go.Proofs.YtoainkbcfnlkcaaGreatDoor

namespace Go.Proofs.YtoainkbcfnlkcaaGreatDoor
open Go Vc
set_option linter.unusedSimpArgs false
set_option linter.unusedVariables false
set_option maxRecDepth 10000

def lvlAt (n : Nat) : Lvl := levelsL.getD n ⟨[], 0, false⟩
def loopM (g : List Tk → Rs X) (l : Lvl) : Nat → X → List Tk → Rs X
  | 0, _, _ => .out
  | k + 1, x, t => match idxSign l.signs t with
    | none => .ok x t
    | some j => (g t.tail).bind fun y t' => if l.once = true then .ok (mkX (l.kind + j) [x, y]) t' else loopM g l k (mkX (l.kind + j) [x, y]) t'
def isM (en : Int) (x : X) (t : List Tk) : Rs X := (needM en [wNull] (if seesM wNot t.tail = true then t.tail.tail else t.tail)).bind fun _ t' => .ok (if seesM wNot t.tail = true then mkX 3 [mkX 16 [x]] else mkX 16 [x]) t'
def binM (en : Int) : Nat → Nat → Int → List Tk → Rs X
  | 0, _, _, _ => .out
  | f + 1, n, op, t =>
    if n = 7 then pieceM en (fun t => if op + 1 > 100 then .err 4 (atM en t) else binM en f 0 (op + 1) t) t
    else if n = 2 then
      if seesM wNot t = true then (if op + 1 > 100 then .err 4 (atM en t.tail) else (binM en f 2 (op + 1) t.tail).bind fun x t => .ok (mkX 3 [x]) t)
      else binM en f 3 op t
    else (binM en f (n + 1) op t).bind fun x t =>
      if n = 3 ∧ seesM wIs t = true then isM en x t
      else loopM (binM en f (n + 1) op) (lvlAt n) (t.length + 1) x t
def exprM (en : Int) (f : Nat) (op : Int) (t : List Tk) : Rs X := if op + 1 > 100 then .err 4 (atM en t) else binM en f 0 (op + 1) t
def BinC (en : Int) (pb : Nat) (f : Nat) : Prop := ∀ (n : Nat) (op : Int) (M : Mem) (t : List Tk) (lv : Value) (T : Tm), n ≤ 7 → 0 ≤ op → op ≤ 100 → Glob M → RS M RTk 3 t lv → binM en f n op t ≠ .out →
  CtT Tryz.prog 109 [.pointer (some ⟨pb, 0, none⟩), .int .i64 (n : Int)] T M (pL pb lv en op) [] (postP pb en op encX (binM en f n op t)) (panP pb en (binM en f n op t))
theorem defs_into {M : Mem} {N : Tm} {R : RR} {pb b : Nat} {lv : Value} {en op : Int} (L1 : LL) (hb : M b = some [.pointer (some ⟨pb, 0, none⟩)]) {args : Array Value} (ha : args.toList = []) {k : Sh → Prop} (hk : k ⟨N, M, L1 ++ pL pb lv en (IntKind.i64.wrap (op - 1)), R⟩) :
    defsL Tryz.prog [{ target := .fn (.func 143) ⟨[.pointer (some ⟨b, 0, none⟩)]⟩, args := args }] ⟨N, M, L1 ++ pL pb lv en op, R⟩ k := by
  have hd : dFn { target := .fn (.func 143) ⟨[.pointer (some ⟨b, 0, none⟩)]⟩, args := args } = some (143, [.pointer (some ⟨b, 0, none⟩)]) := by simp [dFn, ha]
  unfold defsL
  rw [hd]
  refine xDefL_of L1 (ctd_into1 hb N) fun v M' L' hM hk' hno h => ?_
  obtain ⟨rfl, rfl⟩ := h
  exact hk
theorem wrap_back {op : Int} (h0 : 0 ≤ op) (h1 : op ≤ 1000) : IntKind.i64.wrap (op + 1 - 1) = op := by
  rw [show op + 1 - 1 = op from by omega]
  exact wrap64 (by omega) (by omega)
theorem calm_oops (e a : Int) : calm (oopsV e a) = true := rfl
theorem ct_expr {en : Int} {pb f : Nat} {op : Int} (hb : BinC en pb f) (h0 : 0 ≤ op) (h1 : op ≤ 100) : ExC en pb (exprM en f op) op := by
  intro M toks lv T hg hl hne
  refine ct_runD mx bod67 Tryz.func67 rfl (by rw [nt67]; exact Nat.le_of_ble_eq_true rfl) (dr := dr67) (by kernel_rfl) rs67 ?_
  intro hno _
  simp only [noneL_pL] at hno
  simp +contextual only [go_sem, Rcb, Rbk, sevalprocAttr]
  intro b2 T2 hb2 hap2 hT2 hTb2
  refine rCall_one [(b2, _)] (ct_into hl h0 (by omega) T2) ?_ ?_
  · rintro v M1 L1 hM1 hk1 hno1 ⟨hop, rfl, b, rfl, hbm⟩
    have hex : exprM en f op toks = binM en f 0 (op + 1) toks := by unfold exprM; rw [if_neg (by omega)]
    rw [hex] at hne ⊢
    have hl1 := RS_ext hM1 (fun _ _ h => h) hl
    simp only [List.cons_append, List.nil_append, noneL, noneL_pL] at hno1
    simp +contextual only [go_sem, Rcb, Rbk, sevalprocAttr]
    refine rCall_one [(b2, _)] (hb 0 (op + 1) M1 toks lv T2 (by omega) (by omega) hop (hg.ext hM1) hl1 hne) ?_ ?_
    · rintro v M2 L2 hM2 hk2 hno2 ⟨x, r, lv2, hres, rfl, hl2, -, cs, rfl, hx⟩
      obtain ⟨s, rfl, h1', _⟩ := RX_form hx
      simp only [List.cons_append, List.nil_append, noneL, noneL_pL] at hno2
      simp +contextual only [go_sem, Rcb, Rbk, sevalprocAttr, hno2, hap2, h1']
      refine defs_into [(b2, _)] (hM2 _ _ hbm) rfl ?_
      rw [wrap_back h0 (by omega)]
      simp +contextual only [go_sem, Rcb, Rbk, sevalprocAttr, hno2, hap2, h1']
      refine Close_drop (end_id hT2 rfl rfl ?_)
      exact ⟨x, r, lv2, hres, rfl, hl2, rfl, _, rfl, hx⟩
    · rintro ch M2 L2 hM2 hk2 hno2 ⟨c, a, lv2, op2, hres, rfl, rfl, -⟩
      rw [fiD_pan]
      refine ⟨calm_oops _ _, ?_⟩
      refine defs_into [(b2, _)] (hM2 _ _ hbm) rfl ?_
      refine Close_drop (end_id hT2 rfl rfl ?_)
      exact ⟨c, a, lv2, _, hres, rfl, rfl, rfl⟩
  · rintro ch M1 L1 hM1 hk1 hno1 ⟨hop, rfl, op', rfl⟩
    have hex : exprM en f op toks = .err 4 (atM en toks) := by unfold exprM; rw [if_pos (by omega)]
    rw [hex]
    refine ⟨calm_oops _ _, ?_⟩
    refine Close_drop (end_id hT2 rfl rfl ?_)
    exact ⟨4, _, lv, op', rfl, rfl, rfl, rfl⟩
theorem RLvl_at {M : Mem} {b o : Nat} {l : Lvl} {cs : List Value} (h : RLvl M l cs) (ha : At M b o cs) : ∃ s, mcell M ⟨b, o, none⟩ = some s ∧ mcell M ⟨b, o + 1, none⟩ = some (.int .i64 l.kind) ∧ mcell M ⟨b, o + 2, none⟩ = some (.bool l.once) ∧
    RS M RSt 1 l.signs s ∧ (l.signs = [] → s = .slice none 0 0) ∧ (l.signs ≠ [] → ∃ b n, s = .slice (some ⟨b, 0, none⟩) n n) := by
  obtain ⟨s, h1, h2, h3, rfl⟩ := h
  exact ⟨s, ha.1, ha.2.1, ha.2.2.1, h1, h2, h3⟩
theorem lvl_get {n : Nat} (h : n < 7) : levelsL[n]? = some (lvlAt n) := by
  have : n < levelsL.length := h
  rw [List.getElem?_eq_getElem this]
  simp [lvlAt, List.getD_eq_getElem?_getD, List.getElem?_eq_getElem this]
section
variable {α β : Type} {T N : Tm} {M : Mem} {R : RR} {dr : List (Nat × Sched)} {ts : List ResultVar} {post : PostP} {pb : Nat} {lv0 lv : Value} {en op0 op : Int} {d : Option Nat} {s : List Vc.Item} {e : Env} {toks : List Tk} {L1 : LL}
theorem pan_pD {res : Rs α} {c a : Int} (L1 : LL) (hT : ExtT T N) (h : res = .err c a) : (fiD Tryz.prog T dr ts (keys (pL pb lv0 en op0)) 0 post (panP pb en res)).pan (oopsV c a) e [] ⟨N, M, L1 ++ pL pb lv en op, R⟩ := by
  rw [fiD_pan]
  exact ⟨calm_oops c a, Close_dropL L1 (Close_dropAllR (end_id hT rfl rfl ⟨c, a, lv, op, h, rfl, rfl, rfl⟩))⟩
theorem part_bD {f : FuncId} {args : List Value} {enc : α → Value → Mem → Prop} {res : Rs β} {g : Rs α} {Fk : α → List Tk → Rs β} (L1 : LL) (hT : ExtT T N) (hp : res = g.bind Fk) (hne : res ≠ .out)
    (hc : g ≠ .out → CtT Tryz.prog f args N M (pL pb lv en op) [] (postP pb en op enc g) (panP pb en g))
    (k : ∀ v M' a r lv', Ext M M' → noneL M' (L1 ++ pL pb lv' en op) → res = Fk a r → RS M' RTk 3 r lv' → enc a v M' →
      Run Tryz.prog (fiD Tryz.prog T dr ts (keys (pL pb lv0 en op0)) 0 post (panP pb en res)) s (updo e d v) [] ⟨N, M', L1 ++ pL pb lv' en op, R⟩ ⟨⟩) :
    rCall Tryz.prog (fiD Tryz.prog T dr ts (keys (pL pb lv0 en op0)) 0 post (panP pb en res)) f args d s e [] ⟨N, M, L1 ++ pL pb lv en op, R⟩ ⟨⟩ := by
  have hg : g ≠ .out := fun h => hne (by rw [hp, h]; rfl)
  refine part_p L1 (hc hg) (fun v M' a r lv' hM hno hres hr he => k v M' a r lv' hM hno (by rw [hp, hres]; rfl) hr he) ?_
  intro c a M' lv' op' hM hres
  exact pan_pD L1 hT (by rw [hp, hres]; rfl)
theorem need_bD {res : Rs β} {Fk : Unit → List Tk → Rs β} (L1 : LL) {x : Bs} {b : Nat} (hT : ExtT T N) (hp : res = (needM en [x] toks).bind Fk) (hl : RS M RTk 3 toks lv)
    (k : ∀ M' lv', Ext M M' → noneL M' (L1 ++ pL pb lv' en op) → res = Fk () toks.tail → RS M' RTk 3 toks.tail lv' →
      Run Tryz.prog (fiD Tryz.prog T dr ts (keys (pL pb lv0 en op0)) 0 post (panP pb en res)) s (updo e d (.tuple #[])) [] ⟨N, M', L1 ++ pL pb lv' en op, R⟩ ⟨⟩) :
    rCall Tryz.prog (fiD Tryz.prog T dr ts (keys (pL pb lv0 en op0)) 0 post (panP pb en res)) 31 [.pointer (some ⟨pb, 0, none⟩), .slice (some ⟨b, 0, none⟩) 1 1] d s e [] ⟨N, M, (b, [.string (bs x)]) :: (L1 ++ pL pb lv en op), R⟩ ⟨⟩ := by
  refine rCall_frz bod31 fun M1 hM1 hb hno1 => ?_
  have hl1 := RS_ext hM1 (fun _ _ h => h) hl
  have hs : RS M1 RSt 1 [x] (.slice (some ⟨b, 0, none⟩) 1 1) := RS_lit (fun _ _ => RSt_len) hb (RL_strs [x]) rfl (by decide)
  refine part_p L1 (ct_p_need hl1 hs N) ?_ ?_
  · rintro v M' a r lv' hM hno hres hr rfl
    have hr2 : r = toks.tail := by
      simp only [needM] at hres
      split at hres
      · injection hres with _ h; exact h.symm
      · cases hres
    subst hr2
    exact k M' lv' (hM1.trans hM) hno (by rw [hp, hres]; rfl) hr
  · intro c a M' lv' op' hM hres
    exact pan_pD L1 hT (by rw [hp, hres]; rfl)
end
theorem Rs.bind_ok {α : Type} (g : Rs α) : g = g.bind fun a t => .ok a t := by cases g <;> rfl
theorem idxSign_lt {l : List Bs} {t : List Tk} : ∀ {j : Nat}, idxSign l t = some j → j < l.length := by
  induction l with
  | nil => intro j h; cases h
  | cons s l ih =>
    intro j h
    simp only [idxSign] at h
    split at h
    · injection h with h; subst h; simp
    · obtain ⟨k, hk, rfl⟩ := Option.map_eq_some_iff.1 h
      have := ih hk
      simp only [List.length_cons]; omega
theorem lvl_facts : ∀ n, n < 7 → 0 ≤ (lvlAt n).kind ∧ (lvlAt n).kind ≤ 15 ∧ (lvlAt n).signs.length ≤ 6 ∧ ((lvlAt n).once = decide (n = 3)) ∧ (n ≠ 2 → (lvlAt n).signs ≠ []) := by decide
theorem ct_binary {en : Int} {pb : Nat} : ∀ f, BinC en pb f := by
  intro f
  induction f with
  | zero => intro n op M t lv T hn h0 h1 hg hl hne; exact (hne rfl).elim
  | succ f ih =>
    intro n op M t lv T hn h0 h1 hg hl hne
    refine ct_runD mx bod109 Tryz.func109 rfl (by rw [nt109]; exact Nat.le_of_ble_eq_true rfl) (dr := dr109) (by kernel_rfl) rs109 ?_
    intro hno _
    simp only [noneL_pL] at hno
    simp +contextual only [go_sem, Rcb, Rbk, sevalprocAttr]
    intro b4 T4 hb4 hap4 hT4 hTb4
    refine rCall_pure (ct_levels T4) ?_ (fun _ _ _ _ h => h.elim)
    rintro v M1 hM1 hno1 hlv
    have hl1 := RS_ext hM1 (fun _ _ h => h) hl
    have hg1 := hg.ext hM1
    simp only [List.cons_append, List.nil_append, noneL, noneL_pL] at hno1
    obtain ⟨_, la, lc, rfl, hlc, _, hget⟩ := RS_elim (by decide) (fun _ _ h => RLvl_len h) hlv
    have hlen7 : levelsL.length = 7 := rfl
    simp +contextual only [go_sem, Rcb, Rbk, sevalprocAttr, hlen7]
    by_cases hn7 : n = 7
    · subst hn7
      simp +contextual only [go_sem, Rcb, Rbk, sevalprocAttr]
      have hbin : binM en (f + 1) 7 op t = pieceM en (exprM en f op) t := rfl
      refine part_bD [(b4, _)] hT4 (hbin.trans (Rs.bind_ok _)) hne (fun h => ct_piece hg1 hl1 (ct_expr ih h0 h1) h T4) ?_
      rintro v M2 x r lv2 hM2 hno2 hres hl2 ⟨cs, rfl, hx⟩
      obtain ⟨s, rfl, h1', _⟩ := RX_form hx
      simp only [List.cons_append, List.nil_append, noneL, noneL_pL] at hno2
      simp +contextual only [go_sem, Rcb, Rbk, sevalprocAttr, hno2, hap4, h1']
      refine Close_drop (end_id hT4 rfl rfl ?_)
      exact ⟨x, r, lv2, hres, rfl, hl2, rfl, _, rfl, hx⟩
    have hlt7 : n < 7 := by omega
    obtain ⟨lb, lo, cs, rfl, hat, hrl⟩ := hget n _ (lvl_get hlt7)
    obtain ⟨sg, g0, g1, g2, hsg, hnil, hcons⟩ := RLvl_at hrl hat
    have hn7' : ¬ (n : Int) = 7 := by omega
    have hidx : (n : Int) < 7 := by omega
    by_cases hn2 : n = 2
    · subst hn2
      have hs0 := hnil rfl
      subst hs0
      simp +contextual only [go_sem, Rcb, Rbk, sevalprocAttr, hno1, hap4, g0, g1, g2]
      have hbin : binM en (f + 1) 2 op t = if seesM wNot t = true then (if op + 1 > 100 then .err 4 (atM en t.tail) else (binM en f 2 (op + 1) t.tail).bind fun x t => .ok (mkX 3 [x]) t) else binM en f 3 op t := rfl
      refine is_c [(b4, _)] wNot hl1 (fun hs lv2 hl2 => ?_) (fun hs lv2 hl2 => ?_)
      · rw [if_pos hs] at hbin
        simp +contextual only [go_sem, Rcb, Rbk, sevalprocAttr]
        refine rCall_one [(b4, _)] (ct_into hl2 h0 (by omega) T4) ?_ ?_
        · rintro v M2 L2 hM2 hk2 hno2 ⟨hop, rfl, b, rfl, hbm⟩
          rw [if_neg (by omega)] at hbin
          have hl3 := RS_ext hM2 (fun _ _ h => h) hl2
          simp only [List.cons_append, List.nil_append, noneL, noneL_pL] at hno2
          simp +contextual only [go_sem, Rcb, Rbk, sevalprocAttr]
          have hne2 : binM en f 2 (op + 1) t.tail ≠ .out := fun h => hne (by rw [hbin, h]; rfl)
          refine rCall_one [(b4, _)] (ih 2 (op + 1) M2 t.tail lv2 T4 (by omega) (by omega) hop (hg1.ext hM2) hl3 hne2) ?_ ?_
          · rintro v M3 L3 hM3 hk3 hno3 ⟨x, r, lv3, hres, rfl, hl3, -, cs3, rfl, hx⟩
            simp +contextual only [go_sem, Rcb, Rbk, sevalprocAttr]
            refine rCall_pure (ct_of 3 hx T4) ?_ (fun _ _ _ _ h => h.elim)
            rintro v M5 hM5 hno5 ⟨cs', rfl, hx5⟩
            obtain ⟨s, rfl, h1', _⟩ := RX_form hx5
            simp only [List.cons_append, List.nil_append, noneL, noneL_pL] at hno5
            simp +contextual only [go_sem, Rcb, Rbk, sevalprocAttr, hno5, hap4, h1']
            refine defs_into [(b4, _)] ((hM3.trans hM5) _ _ hbm) rfl ?_
            rw [wrap_back h0 (by omega)]
            simp +contextual only [go_sem, Rcb, Rbk, sevalprocAttr, hno5, hap4, h1']
            refine Close_drop (end_id hT4 rfl rfl ?_)
            exact ⟨_, r, lv3, by rw [hbin, hres]; rfl, rfl, RS_ext hM5 (fun _ _ h => h) hl3, rfl, _, rfl, hx5⟩
          · rintro ch M3 L3 hM3 hk3 hno3 ⟨c, a, lv3, op3, hres, rfl, rfl, -⟩
            rw [fiD_pan]
            refine ⟨calm_oops _ _, ?_⟩
            refine defs_into [(b4, _)] (hM3 _ _ hbm) rfl ?_
            refine Close_drop (end_id hT4 rfl rfl ?_)
            exact ⟨c, a, lv3, _, by rw [hbin, hres]; rfl, rfl, rfl, rfl⟩
        · rintro ch M2 L2 hM2 hk2 hno2 ⟨hop, rfl, op', rfl⟩
          rw [if_pos (by omega)] at hbin
          exact pan_pD [(b4, _)] hT4 hbin
      · rw [if_neg (by simp [hs])] at hbin
        simp +contextual only [go_sem, Rcb, Rbk, sevalprocAttr]
        refine part_bD [(b4, _)] hT4 (hbin.trans (Rs.bind_ok _)) hne (fun h => ih 3 op M1 t lv2 T4 (by omega) h0 h1 hg1 hl2 h) ?_
        rintro v M2 x r lv2 hM2 hno2 hres hl2 ⟨cs, rfl, hx⟩
        obtain ⟨s, rfl, h1', _⟩ := RX_form hx
        simp only [List.cons_append, List.nil_append, noneL, noneL_pL] at hno2
        simp +contextual only [go_sem, Rcb, Rbk, sevalprocAttr, hno2, hap4, h1']
        refine Close_drop (end_id hT4 rfl rfl ?_)
        exact ⟨x, r, lv2, hres, rfl, hl2, rfl, _, rfl, hx⟩
    · obtain ⟨hk0, hk15, hsl, honce, hsne⟩ := lvl_facts n hlt7
      obtain ⟨sb, sn, rfl⟩ := hcons (hsne hn2)
      have hbin : binM en (f + 1) n op t = (binM en f (n + 1) op t).bind fun x t => if n = 3 ∧ seesM wIs t = true then isM en x t else loopM (binM en f (n + 1) op) (lvlAt n) (t.length + 1) x t := by
        conv => lhs; unfold binM
        rw [if_neg hn7, if_neg hn2]
      simp +contextual only [go_sem, Rcb, Rbk, sevalprocAttr, hno1, hap4, g0, g1, g2, hn7', hidx, wrap_succ n (by omega)]
      refine part_bD [(b4, _)] hT4 hbin hne (fun h => ih (n + 1) op M1 t lv T4 (by omega) h0 h1 hg1 hl1 h) ?_
      rintro v M2 x r lv2 hM2 hno2 hres hl2 ⟨cs2, rfl, hx⟩
      obtain ⟨s, rfl, h1', _⟩ := RX_form hx
      have g2' := mcell_ext hM2 g2
      simp only [List.cons_append, List.nil_append, noneL, noneL_pL] at hno2
      simp +contextual only [go_sem, Rcb, Rbk, sevalprocAttr, hno2, hap4, h1', hidx, g2']
      intro b6 T6 hb6 hap6 hT6 hTb6
      have hT6' := hT4.trans hT6
      rw [honce]
      by_cases hn3 : n = 3
      · subst hn3
        simp +contextual only [go_sem, Rcb, Rbk, sevalprocAttr]
        refine is_c [(b6, _), (b4, _)] wIs hl2 (fun hs lv3 hl3 => ?_) (fun hs lv3 hl3 => ?_)
        · rw [if_pos ⟨rfl, hs⟩] at hres
          unfold isM at hres
          simp +contextual only [go_sem, Rcb, Rbk, sevalprocAttr]
          refine is_c [(b6, _), (b4, _)] wNot hl3 (fun hs2 lv4 hl4 => ?_) (fun hs2 lv4 hl4 => ?_)
          · rw [if_pos hs2] at hres
            simp +contextual only [go_sem, Rcb, Rbk, sevalprocAttr]
            intro b7 hb7 hap7
            refine need_bD [(b6, _), (b4, _)] hT6' hres hl4 ?_
            intro M3 lv5 hM3 hno3 hres hl5
            simp only [List.cons_append, List.nil_append, noneL, noneL_pL] at hno3
            simp +contextual only [go_sem, Rcb, Rbk, sevalprocAttr, hno3, hap4, hap6, h1']
            refine rCall_pure (ct_of 16 (RX_ext hM3 _ _ hx) T6) ?_ (fun _ _ _ _ h => h.elim)
            rintro v M5 hM5 hno5 ⟨cs5, rfl, hx5⟩
            obtain ⟨s5, rfl, h15, _⟩ := RX_form hx5
            simp only [List.cons_append, List.nil_append, noneL, noneL_pL] at hno5
            simp +contextual only [go_sem, Rcb, Rbk, sevalprocAttr, hno5, hap4, hap6, h15]
            refine rCall_pure (ct_of 3 hx5 T6) ?_ (fun _ _ _ _ h => h.elim)
            rintro v M6 hM6 hno6 ⟨cs6, rfl, hx6⟩
            obtain ⟨s6, rfl, h16, _⟩ := RX_form hx6
            simp only [List.cons_append, List.nil_append, noneL, noneL_pL] at hno6
            simp +contextual only [go_sem, Rcb, Rbk, sevalprocAttr, hno6, hap4, hap6, h16]
            refine Close_drop (Close_drop (end_id hT6' rfl rfl ?_))
            exact ⟨_, _, lv5, hres, rfl, RS_ext (hM5.trans hM6) (fun _ _ h => h) hl5, rfl, _, rfl, by rw [if_pos hs2]; exact hx6⟩
          · rw [if_neg (by simp [hs2])] at hres
            simp +contextual only [go_sem, Rcb, Rbk, sevalprocAttr]
            intro b7 hb7 hap7
            refine need_bD [(b6, _), (b4, _)] hT6' hres hl4 ?_
            intro M3 lv5 hM3 hno3 hres hl5
            simp only [List.cons_append, List.nil_append, noneL, noneL_pL] at hno3
            simp +contextual only [go_sem, Rcb, Rbk, sevalprocAttr, hno3, hap4, hap6, h1']
            refine rCall_pure (ct_of 16 (RX_ext hM3 _ _ hx) T6) ?_ (fun _ _ _ _ h => h.elim)
            rintro v M5 hM5 hno5 ⟨cs5, rfl, hx5⟩
            obtain ⟨s5, rfl, h15, _⟩ := RX_form hx5
            simp only [List.cons_append, List.nil_append, noneL, noneL_pL] at hno5
            simp +contextual only [go_sem, Rcb, Rbk, sevalprocAttr, hno5, hap4, hap6, h15]
            refine Close_drop (Close_drop (end_id hT6' rfl rfl ?_))
            exact ⟨_, _, lv5, hres, rfl, RS_ext hM5 (fun _ _ h => h) hl5, rfl, _, rfl, by rw [if_neg (by simp [hs2])]; exact hx5⟩
        · rw [if_neg (by simp [hs])] at hres
          simp +contextual only [go_sem, Rcb, Rbk, sevalprocAttr]
          refine loop_rule (fun m e ds h => ds = [] ∧ e 0 = .pointer (some ⟨pb, 0, none⟩) ∧ e 1 = .int .i64 ((3 : Nat) : Int) ∧ e 4 = .pointer (some ⟨b4, 0, none⟩) ∧ e 5 = .slice (some ⟨lb, lo, none⟩) 7 lc ∧ e 6 = .pointer (some ⟨b6, 0, none⟩) ∧
            ∃ M' x' t' lv' c6 c4, Ext M2 M' ∧ h = ⟨T6, M', (b6, c6) :: (b4, c4) :: pL pb lv' en op, []⟩ ∧ c4.length = 7 ∧ RX M' x' c6 ∧ RS M' RTk 3 t' lv' ∧ M' b6 = none ∧ M' b4 = none ∧ M' pb = none ∧ binM en (f + 1) 3 op t = loopM (binM en f (3 + 1) op) (lvlAt 3) m x' t')
            ⟨r.length + 1, rfl, by simp only [go_sem, Rcb, Rbk, sevalprocAttr], by simp only [go_sem, Rcb, Rbk, sevalprocAttr], by simp only [go_sem, Rcb, Rbk, sevalprocAttr], by simp only [go_sem, Rcb, Rbk, sevalprocAttr], by simp only [go_sem, Rcb, Rbk, sevalprocAttr], M2, x, r, lv3, _, _, Ext.rfl', rfl, rfl, hx, hl3, hb6, hno2.1, hno2.2, hres⟩ ?_
          rintro m e ds h ⟨rfl, e0, e1, e4, e5, e6, M3, x', t', lv', c6, c4, hM3, rfl, hc4, hx', hl', n6, n4, np, hres⟩
          obtain ⟨s', rfl, h1', _⟩ := RX_form hx'
          obtain ⟨q0, q1, q2, q3, q4, q5, q6, rfl⟩ := cells7 hc4
          have k0 := mcell_ext (hM2.trans hM3) g0
          have k1 := mcell_ext (hM2.trans hM3) g1
          have k2 := mcell_ext (hM2.trans hM3) g2
          have hsg3 := RS_ext (hM2.trans hM3) (fun _ _ h => h) hsg
          cases m with
          | zero => exact (hne (hres.trans rfl)).elim
          | succ m =>
            simp only [loopM] at hres
            simp +contextual only [go_sem, Rcb, Rbk, sevalprocAttr, e0, e1, e4, e5, e6, hidx, k0, k1, k2, n6, n4, np, hap4, hap6, h1']
            refine rCall_one [(b6, _), (b4, _)] (ct_IndexFunc hl' hsg3 T6) ?_ (fun _ _ _ _ _ _ h => h.elim)
            rintro v M4 L4 hM4 hk4 hno4 ⟨rfl, rfl, lv5, rfl, hl5⟩
            cases hj : idxSign (lvlAt 3).signs t' with
            | none =>
              rw [hj] at hres hl5
              simp only [signI, signT] at hres hl5 ⊢
              simp +contextual only [go_sem, Rcb, Rbk, sevalprocAttr, e0, e1, e4, e5, e6, hidx, k0, k1, k2, n6, n4, np, hap4, hap6, h1', signI]
              refine Close_drop (Close_drop (end_id hT6' rfl rfl ?_))
              exact ⟨x', t', lv5, hres, rfl, hl5, rfl, _, rfl, hx'⟩
            | some j =>
              rw [hj] at hres hl5
              simp only [signI, signT] at hres hl5 ⊢
              have hjlt := idxSign_lt hj
              have hj0 : ¬ (j : Int) < 0 := by omega
              have hwk : IntKind.i64.wrap ((lvlAt 3).kind + (j : Int)) = (lvlAt 3).kind + (j : Int) := wrap64 (by omega) (by omega)
              simp +contextual only [go_sem, Rcb, Rbk, sevalprocAttr, e0, e1, e4, e5, e6, hidx, k0, k1, k2, n6, n4, np, hap4, hap6, h1', hj0]
              refine draw_at ⟨T, M4, [(b6, _)], []⟩ (Sub_memL [] Ext.rfl' n6 trivial) ?_
              simp +contextual only [go_sem, Rcb, Rbk, sevalprocAttr, e0, e1, e4, e5, e6, hidx, k0, k1, k2, n6, n4, np, hap4, hap6, h1', hj0, hwk, wrap_succ 3 (by omega)]
              refine part_bD [(b6, _), (b4, _)] hT6' hres hne (fun h => ih (3 + 1) op M4 t'.tail lv5 T6 (by omega) h0 h1 ((hg1.ext hM2).ext hM3) hl5 h) ?_
              rintro v M5 y r5 lv6 hM5 hno5 hres hl6 ⟨cs5, rfl, hy⟩
              simp only [List.cons_append, List.nil_append, noneL, noneL_pL] at hno5
              simp +contextual only [go_sem, Rcb, Rbk, sevalprocAttr]
              refine ⟨Sub_memL [] hM5 hno5.1 trivial, ?_⟩
              refine rCall_pure (ct_two ((lvlAt 3).kind + (j : Int)) (RX_ext hM5 _ _ hx') hy T6) ?_ (fun _ _ _ _ h => h.elim)
              rintro v M6 hM6 hno6 ⟨cs6, rfl, hxy⟩
              obtain ⟨s6, rfl, h16, _⟩ := RX_form hxy
              simp only [List.cons_append, List.nil_append, noneL, noneL_pL] at hno6
              have k2' := mcell_ext (hM5.trans hM6) k2
              simp +contextual only [go_sem, Rcb, Rbk, sevalprocAttr]
              refine ⟨Sub_memL [] (hM5.trans hM6) hno6.1 trivial, ?_⟩
              simp +contextual only [go_sem, Rcb, Rbk, sevalprocAttr, e0, e1, e4, e5, e6, hidx, hno6, hap4, hap6, h16, k2']
              by_cases ho : (lvlAt 3).once = true
              · rw [if_pos ho] at hres
                simp +contextual only [go_sem, Rcb, Rbk, sevalprocAttr, e0, e1, e4, e5, e6, hidx, hno6, hap4, hap6, h16, k2', ho]
                refine Close_drop (Close_drop (end_id hT6' rfl rfl ?_))
                exact ⟨_, r5, lv6, hres, rfl, RS_ext hM6 (fun _ _ h => h) hl6, rfl, _, rfl, hxy⟩
              · rw [if_neg ho] at hres
                simp +contextual only [go_sem, Rcb, Rbk, sevalprocAttr, e0, e1, e4, e5, e6, hidx, hno6, hap4, hap6, h16, k2', ho]
                rw [Run_lp]
                refine Close_id ⟨m, by omega, rfl, ?_, ?_, ?_, ?_, ?_, M6, _, r5, lv6, _, _, (hM3.trans hM5).trans hM6, rfl, rfl, hxy, RS_ext hM6 (fun _ _ h => h) hl6, hno6.1, hno6.2.1, hno6.2.2, hres⟩
                all_goals simp only [e0, e1, e4, e5, e6, go_sem, Rcb, Rbk, sevalprocAttr]
      · rw [if_neg (fun h => hn3 h.1)] at hres
        simp +contextual only [go_sem, Rcb, Rbk, sevalprocAttr, hn3]
        refine loop_rule (fun m e ds h => ds = [] ∧ e 0 = .pointer (some ⟨pb, 0, none⟩) ∧ e 1 = .int .i64 (n : Int) ∧ e 4 = .pointer (some ⟨b4, 0, none⟩) ∧ e 5 = .slice (some ⟨lb, lo, none⟩) 7 lc ∧ e 6 = .pointer (some ⟨b6, 0, none⟩) ∧
          ∃ M' x' t' lv' c6 c4, Ext M2 M' ∧ h = ⟨T6, M', (b6, c6) :: (b4, c4) :: pL pb lv' en op, []⟩ ∧ c4.length = 7 ∧ RX M' x' c6 ∧ RS M' RTk 3 t' lv' ∧ M' b6 = none ∧ M' b4 = none ∧ M' pb = none ∧ binM en (f + 1) n op t = loopM (binM en f (n + 1) op) (lvlAt n) m x' t')
          ⟨r.length + 1, rfl, by simp only [go_sem, Rcb, Rbk, sevalprocAttr], by simp only [go_sem, Rcb, Rbk, sevalprocAttr], by simp only [go_sem, Rcb, Rbk, sevalprocAttr], by simp only [go_sem, Rcb, Rbk, sevalprocAttr], by simp only [go_sem, Rcb, Rbk, sevalprocAttr], M2, x, r, lv2, _, _, Ext.rfl', rfl, rfl, hx, hl2, hb6, hno2.1, hno2.2, hres⟩ ?_
        rintro m e ds h ⟨rfl, e0, e1, e4, e5, e6, M3, x', t', lv', c6, c4, hM3, rfl, hc4, hx', hl', n6, n4, np, hres⟩
        obtain ⟨s', rfl, h1', _⟩ := RX_form hx'
        obtain ⟨q0, q1, q2, q3, q4, q5, q6, rfl⟩ := cells7 hc4
        have k0 := mcell_ext (hM2.trans hM3) g0
        have k1 := mcell_ext (hM2.trans hM3) g1
        have k2 := mcell_ext (hM2.trans hM3) g2
        have hsg3 := RS_ext (hM2.trans hM3) (fun _ _ h => h) hsg
        cases m with
        | zero => exact (hne (hres.trans rfl)).elim
        | succ m =>
          simp only [loopM] at hres
          simp +contextual only [go_sem, Rcb, Rbk, sevalprocAttr, e0, e1, e4, e5, e6, hidx, k0, k1, k2, n6, n4, np, hap4, hap6, h1']
          refine rCall_one [(b6, _), (b4, _)] (ct_IndexFunc hl' hsg3 T6) ?_ (fun _ _ _ _ _ _ h => h.elim)
          rintro v M4 L4 hM4 hk4 hno4 ⟨rfl, rfl, lv5, rfl, hl5⟩
          cases hj : idxSign (lvlAt n).signs t' with
          | none =>
            rw [hj] at hres hl5
            simp only [signI, signT] at hres hl5 ⊢
            simp +contextual only [go_sem, Rcb, Rbk, sevalprocAttr, e0, e1, e4, e5, e6, hidx, k0, k1, k2, n6, n4, np, hap4, hap6, h1', signI]
            refine Close_drop (Close_drop (end_id hT6' rfl rfl ?_))
            exact ⟨x', t', lv5, hres, rfl, hl5, rfl, _, rfl, hx'⟩
          | some j =>
            rw [hj] at hres hl5
            simp only [signI, signT] at hres hl5 ⊢
            have hjlt := idxSign_lt hj
            have hj0 : ¬ (j : Int) < 0 := by omega
            have hwk : IntKind.i64.wrap ((lvlAt n).kind + (j : Int)) = (lvlAt n).kind + (j : Int) := wrap64 (by omega) (by omega)
            simp +contextual only [go_sem, Rcb, Rbk, sevalprocAttr, e0, e1, e4, e5, e6, hidx, k0, k1, k2, n6, n4, np, hap4, hap6, h1', hj0]
            refine draw_at ⟨T, M4, [(b6, _)], []⟩ (Sub_memL [] Ext.rfl' n6 trivial) ?_
            simp +contextual only [go_sem, Rcb, Rbk, sevalprocAttr, e0, e1, e4, e5, e6, hidx, k0, k1, k2, n6, n4, np, hap4, hap6, h1', hj0, hwk, wrap_succ n (by omega)]
            refine part_bD [(b6, _), (b4, _)] hT6' hres hne (fun h => ih (n + 1) op M4 t'.tail lv5 T6 (by omega) h0 h1 ((hg1.ext hM2).ext hM3) hl5 h) ?_
            rintro v M5 y r5 lv6 hM5 hno5 hres hl6 ⟨cs5, rfl, hy⟩
            simp only [List.cons_append, List.nil_append, noneL, noneL_pL] at hno5
            simp +contextual only [go_sem, Rcb, Rbk, sevalprocAttr]
            refine ⟨Sub_memL [] hM5 hno5.1 trivial, ?_⟩
            refine rCall_pure (ct_two ((lvlAt n).kind + (j : Int)) (RX_ext hM5 _ _ hx') hy T6) ?_ (fun _ _ _ _ h => h.elim)
            rintro v M6 hM6 hno6 ⟨cs6, rfl, hxy⟩
            obtain ⟨s6, rfl, h16, _⟩ := RX_form hxy
            simp only [List.cons_append, List.nil_append, noneL, noneL_pL] at hno6
            have k2' := mcell_ext (hM5.trans hM6) k2
            simp +contextual only [go_sem, Rcb, Rbk, sevalprocAttr]
            refine ⟨Sub_memL [] (hM5.trans hM6) hno6.1 trivial, ?_⟩
            simp +contextual only [go_sem, Rcb, Rbk, sevalprocAttr, e0, e1, e4, e5, e6, hidx, hno6, hap4, hap6, h16, k2']
            by_cases ho : (lvlAt n).once = true
            · rw [if_pos ho] at hres
              simp +contextual only [go_sem, Rcb, Rbk, sevalprocAttr, e0, e1, e4, e5, e6, hidx, hno6, hap4, hap6, h16, k2', ho]
              refine Close_drop (Close_drop (end_id hT6' rfl rfl ?_))
              exact ⟨_, r5, lv6, hres, rfl, RS_ext hM6 (fun _ _ h => h) hl6, rfl, _, rfl, hxy⟩
            · rw [if_neg ho] at hres
              simp +contextual only [go_sem, Rcb, Rbk, sevalprocAttr, e0, e1, e4, e5, e6, hidx, hno6, hap4, hap6, h16, k2', ho]
              rw [Run_lp]
              refine Close_id ⟨m, by omega, rfl, ?_, ?_, ?_, ?_, ?_, M6, _, r5, lv6, _, _, (hM3.trans hM5).trans hM6, rfl, rfl, hxy, RS_ext hM6 (fun _ _ h => h) hl6, hno6.1, hno6.2.1, hno6.2.2, hres⟩
              all_goals simp only [e0, e1, e4, e5, e6, go_sem, Rcb, Rbk, sevalprocAttr]
end Go.Proofs.YtoainkbcfnlkcaaGreatDoor

namespace Go.Proofs.YtoainkbcfnlkcaaGreatDoor
open Go Vc
set_option linter.unusedSimpArgs false
set_option linter.unusedVariables false
set_option maxRecDepth 10000

abbrev wAs : Bs := [97, 115]
abbrev wOn : Bs := [111, 110]
abbrev wJoin : Bs := [106, 111, 105, 110]
abbrev wSemi : Bs := [115, 101, 109, 105]
abbrev wAnti : Bs := [97, 110, 116, 105]
abbrev wLeft : Bs := [108, 101, 102, 116]
abbrev wUnion : Bs := [117, 110, 105, 111, 110]
abbrev wExcept : Bs := [101, 120, 99, 101, 112, 116]
abbrev wAll : Bs := [97, 108, 108]
abbrev wBool : Bs := [98, 111, 111, 108]
abbrev wInt : Bs := [105, 110, 116]
abbrev wText : Bs := [116, 101, 120, 116]

def zeroX : X := mkX 0 []
theorem RX_zero {M : Mem} : RX M zeroX [.int .i64 0, .int .i64 0, .int .i64 0, st [], st [], st [], .slice none 0 0] := RX_mk ⟨Nat.zero_le _, [], .inl ⟨_, _, rfl, rfl, fun _ => rfl⟩, rfl⟩
def asM (en : Int) (t : List Tk) : Rs Bs := if seesM wAs t = true then nameM en t.tail else .ok [] t
def itemM (en : Int) (ex : List Tk → Rs X) (t : List Tk) : Rs It := (ex t).bind fun x t => if seesM wAs t = true then (nameM en t.tail).bind fun n t => .ok ⟨x, n⟩ t else .ok ⟨x, []⟩ t
def encIt (i : It) (v : Value) (M : Mem) : Prop := ∃ cs, v = .agg ⟨cs⟩ ∧ RIt M i cs
theorem ct_item {M : Mem} {pb : Nat} {toks : List Tk} {lv : Value} {en op : Int} {ex : List Tk → Rs X} (hg : Glob M) (hl : RS M RTk 3 toks lv) (hex : ExC en pb ex op) (hne : itemM en ex toks ≠ .out) (T : Tm) :
    CtT Tryz.prog 139 [.pointer (some ⟨pb, 0, none⟩)] T M (pL pb lv en op) [] (postP pb en op encIt (itemM en ex toks)) (panP pb en (itemM en ex toks)) := by
  refine ct_run mx bod139 Tryz.func139 rfl (by rw [nt139]; exact Nat.le_of_ble_eq_true rfl) (dr := dr139) (by kernel_rfl) rs139 ?_
  intro hno _
  simp only [noneL_pL] at hno
  simp +contextual only [go_sem, Rcb, Rbk, sevalprocAttr]
  intro b2 T2 hb2 hap2 hT2 hTb2
  refine part_b [(b2, _)] hT2 rfl hne (fun h => hex M _ lv T2 hg hl h) ?_
  rintro v M1 x t lv1 hM1 hno1 hres hl1 ⟨cs, rfl, hx⟩
  obtain ⟨s, rfl, h1, _⟩ := RX_form hx
  simp only [List.cons_append, List.nil_append, noneL, noneL_pL] at hno1
  simp +contextual only [go_sem, Rcb, Rbk, sevalprocAttr, hno1, hap2, h1]
  intro b3 T3 hb3 hap3 hT3 hTb3
  have hT := hT2.trans hT3
  refine is_c [(b3, _), (b2, _)] wAs hl1 (fun hs lv2 hl2 => ?_) (fun hs lv2 hl2 => ?_)
  · rw [if_pos hs] at hres
    simp +contextual only [go_sem, Rcb, Rbk, sevalprocAttr]
    refine part_b [(b3, _), (b2, _)] hT hres hne (fun _ => ct_p_name (hg.ext hM1) hl2 T3) ?_
    rintro v M2 n t2 lv3 hM2 hno2 hres hl3 rfl
    simp only [List.cons_append, List.nil_append, noneL, noneL_pL] at hno2
    simp +contextual only [go_sem, Rcb, Rbk, sevalprocAttr, hno2, hap2, hap3, h1]
    refine Close_drop (Close_drop (end_id hT rfl rfl ?_))
    exact ⟨_, _, lv3, hres, rfl, hl3, rfl, _, rfl, _, RX_ext hM2 _ _ hx, rfl⟩
  · rw [if_neg (by simp [hs])] at hres
    simp +contextual only [go_sem, Rcb, Rbk, sevalprocAttr, hno1, hb3, hap2, hap3, h1]
    refine Close_drop (Close_drop (end_id hT rfl rfl ?_))
    exact ⟨_, _, lv2, hres, rfl, hl2, rfl, _, rfl, _, hx, rfl⟩
def sourceM (en : Int) (ex : List Tk → Rs X) (k : Int) (t : List Tk) : Rs So := (nameM en t).bind fun n t => (asM en t).bind fun a t =>
  if k ≠ 1 then (needM en [wOn] t).bind fun _ t => (ex t).bind fun x t => .ok ⟨k, n, a, x⟩ t else .ok ⟨k, n, a, zeroX⟩ t
def encSo (i : So) (v : Value) (M : Mem) : Prop := ∃ cs, v = .agg ⟨cs⟩ ∧ RSo M i cs
theorem ct_psource {M : Mem} {pb : Nat} {toks : List Tk} {lv : Value} {en op k : Int} {ex : List Tk → Rs X} (hg : Glob M) (hl : RS M RTk 3 toks lv) (hex : ExC en pb ex op) (hne : sourceM en ex k toks ≠ .out) (T : Tm) :
    CtT Tryz.prog 140 [.pointer (some ⟨pb, 0, none⟩), .int .i64 k] T M (pL pb lv en op) [] (postP pb en op encSo (sourceM en ex k toks)) (panP pb en (sourceM en ex k toks)) := by
  refine ct_run mx bod140 Tryz.func140 rfl (by rw [nt140]; exact Nat.le_of_ble_eq_true rfl) (dr := dr140) (by kernel_rfl) rs140 ?_
  intro hno _
  simp only [noneL_pL] at hno
  simp +contextual only [go_sem, Rcb, Rbk, sevalprocAttr]
  intro b2 T2 hb2 hap2 hT2 hTb2
  refine part_b [(b2, _)] hT2 rfl hne (fun _ => ct_p_name hg hl T2) ?_
  rintro v M1 n t lv1 hM1 hno1 hres hl1 rfl
  simp only [List.cons_append, List.nil_append, noneL, noneL_pL] at hno1
  simp +contextual only [go_sem, Rcb, Rbk, sevalprocAttr, hno1, hap2]
  intro b3 T3 hb3 hap3 hT3 hTb3
  have hT := hT2.trans hT3
  refine is_c [(b3, _), (b2, _)] wAs hl1 (fun hs lv2 hl2 => ?_) (fun hs lv2 hl2 => ?_)
  · unfold asM at hres
    rw [if_pos hs] at hres
    simp +contextual only [go_sem, Rcb, Rbk, sevalprocAttr]
    refine part_b [(b3, _), (b2, _)] hT hres hne (fun _ => ct_p_name (hg.ext hM1) hl2 T3) ?_
    rintro v M2 a t2 lv3 hM2 hno2 hres hl3 rfl
    simp only [List.cons_append, List.nil_append, noneL, noneL_pL] at hno2
    by_cases hk : k = 1
    · subst hk
      rw [if_neg (fun h => h rfl)] at hres
      simp +contextual only [go_sem, Rcb, Rbk, sevalprocAttr, hno2, hap2, hap3]
      refine Close_drop (Close_drop (end_id hT rfl rfl ?_))
      exact ⟨_, _, lv3, hres, rfl, hl3, rfl, _, rfl, _, RX_zero, rfl⟩
    · rw [if_pos hk] at hres
      simp +contextual only [go_sem, Rcb, Rbk, sevalprocAttr, hno2, hap2, hap3, hk]
      intro b4 hb4 hap4
      refine need_b [(b3, _), (b2, _)] hT hres hl3 ?_
      intro M3 lv4 hM3 hno3 hres hl4
      simp +contextual only [go_sem, Rcb, Rbk, sevalprocAttr]
      refine part_b [(b3, _), (b2, _)] hT hres hne (fun h => hex M3 _ lv4 T3 (((hg.ext hM1).ext hM2).ext hM3) hl4 h) ?_
      rintro v M4 x t4 lv5 hM4 hno4 hres hl5 ⟨cs, rfl, hx⟩
      obtain ⟨s, rfl, h1, _⟩ := RX_form hx
      simp only [List.cons_append, List.nil_append, noneL, noneL_pL] at hno4
      simp +contextual only [go_sem, Rcb, Rbk, sevalprocAttr, hno4, hap2, hap3, h1]
      refine Close_drop (Close_drop (end_id hT rfl rfl ?_))
      exact ⟨_, _, lv5, hres, rfl, hl5, rfl, _, rfl, _, hx, rfl⟩
  · unfold asM at hres
    rw [if_neg (by simp [hs])] at hres
    by_cases hk : k = 1
    · subst hk
      simp only [Rs.bind] at hres
      rw [if_neg (fun h => h rfl)] at hres
      simp +contextual only [go_sem, Rcb, Rbk, sevalprocAttr, hno1, hb3, hap2, hap3]
      refine Close_drop (Close_drop (end_id hT rfl rfl ?_))
      exact ⟨_, _, lv2, hres, rfl, hl2, rfl, _, rfl, _, RX_zero, rfl⟩
    · have hres : sourceM en ex k toks = (needM en [wOn] t).bind fun _ t => (ex t).bind fun x t => .ok ⟨k, n, [], x⟩ t := hres.trans (if_pos hk)
      simp +contextual only [go_sem, Rcb, Rbk, sevalprocAttr, hno1, hb3, hap2, hap3, hk]
      intro b4 hb4 hap4
      refine need_b [(b3, _), (b2, _)] hT hres hl2 ?_
      intro M3 lv4 hM3 hno3 hres hl4
      simp +contextual only [go_sem, Rcb, Rbk, sevalprocAttr]
      refine part_b [(b3, _), (b2, _)] hT hres hne (fun h => hex M3 _ lv4 T3 ((hg.ext hM1).ext hM3) hl4 h) ?_
      rintro v M4 x t4 lv5 hM4 hno4 hres hl5 ⟨cs, rfl, hx⟩
      obtain ⟨s, rfl, h1, _⟩ := RX_form hx
      simp only [List.cons_append, List.nil_append, noneL, noneL_pL] at hno4
      simp +contextual only [go_sem, Rcb, Rbk, sevalprocAttr, hno4, hap2, hap3, h1]
      refine Close_drop (Close_drop (end_id hT rfl rfl ?_))
      exact ⟨_, _, lv5, hres, rfl, hl5, rfl, _, rfl, _, hx, rfl⟩
/-! words of a list, one by one -/
def joinW : List Bs := [wJoin, wSemi, wAnti, wLeft]
def joinM (en : Int) (t : List Tk) : Rs Int := match idxSign joinW t with
  | none => .ok 0 t
  | some j => if j = 0 then .ok 2 t.tail else (needM en [wJoin] t.tail).bind fun _ t => .ok (2 + j) t
theorem needM_ne {en : Int} {l : List Bs} {t : List Tk} : needM en l t ≠ .out := by
  induction l generalizing t with
  | nil => simp [needM]
  | cons s l ih =>
    simp only [needM]
    split
    · exact ih
    · simp
theorem joinM_ne {en : Int} {t : List Tk} : joinM en t ≠ .out := by
  unfold joinM
  split
  · simp
  · split
    · simp
    · intro h
      cases hn : needM en [wJoin] t.tail with
      | out => exact needM_ne hn
      | ok a r => rw [hn] at h; cases h
      | err e a => rw [hn] at h; cases h
theorem ct_join {M : Mem} {pb : Nat} {toks : List Tk} {lv : Value} {en op : Int} (hl : RS M RTk 3 toks lv) (T : Tm) :
    CtT Tryz.prog 141 [.pointer (some ⟨pb, 0, none⟩)] T M (pL pb lv en op) [] (postP pb en op (fun k v _ => v = .int .i64 k) (joinM en toks)) (panP pb en (joinM en toks)) := by
  refine ct_run mx bod141 Tryz.func141 rfl (by rw [nt141]; exact Nat.le_of_ble_eq_true rfl) (dr := dr141) (by kernel_rfl) rs141 ?_
  intro hno _
  simp only [noneL_pL] at hno
  simp +contextual only [go_sem, Rcb, Rbk, sevalprocAttr]
  intro b4 hb4 hap4
  refine loop_rangeC 4 7 [(0, .pointer (some ⟨pb, 0, none⟩)), (5, .slice (some ⟨b4, 0, none⟩) 4 4), (6, .int .i64 4)]
    (fun i e h => (∃ M' lv', Ext M M' ∧ h = ⟨T, M', pL pb lv' en op, []⟩ ∧ M' b4 = some (joinW.map st) ∧ RS M' RTk 3 toks lv' ∧ M' pb = none) ∧ idxSign joinW toks = (idxSign (joinW.drop i) toks).map (· + i))
    0 (by omega) (by simp only [live, go_sem, Rcb, Rbk, sevalprocAttr]) (by simp only [go_sem, Rcb, Rbk, sevalprocAttr]) (Close_freeze fun he hb hno => Close_id ⟨⟨_, lv, he, rfl, hb, RS_ext he (fun _ _ h => h) hl, by simpa only [noneL_pL] using hno⟩, by simp⟩) ?_
  rintro i e h hi hlv ht ⟨⟨M2, lv6, hM2, rfl, hw, hl6, hnp⟩, hidx⟩
  simp only [live] at hlv
  by_cases hlt : i < 4
  · have hlt' : i < joinW.length := hlt
    have hdrop : joinW.drop i = joinW[i] :: joinW.drop (i + 1) := List.drop_eq_getElem_cons hlt'
    rw [hdrop] at hidx
    have hx : mcell M2 ⟨b4, i, none⟩ = some (st joinW[i]) := by
      rw [mcell_some hw, List.getElem?_map, List.getElem?_eq_getElem hlt']
      rfl
    have hi3 : (i : Int) < 4 := by omega
    simp +contextual only [go_sem, Rcb, Rbk, sevalprocAttr, hlv, ht, hlt, hi3, hx]
    refine is_c [] joinW[i] hl6 (fun hs lv7 hl7 => ?_) (fun hs lv7 hl7 => ?_)
    · have hix : idxSign joinW toks = some i := by rw [hidx]; simp [idxSign, hs]
      have hw21 : IntKind.i64.wrap (2 + (i : Int)) = 2 + (i : Int) := wrap64 (by omega) (by omega)
      have hj : joinM en toks = if i = 0 then .ok 2 toks.tail else (needM en [wJoin] toks.tail).bind fun _ t => .ok (2 + (i : Int)) t := by unfold joinM; rw [hix]
      have hjw : (joinW[i] = wJoin) ↔ i = 0 := by
        have : ∀ i (h : i < 4), (joinW[i]'h = wJoin) ↔ i = 0 := by decide
        exact this i hlt
      by_cases h0 : i = 0
      · rw [if_pos h0] at hj
        have hj0 := hjw.2 h0
        simp +contextual only [go_sem, Rcb, Rbk, sevalprocAttr, hlv, ht, hj0, hw21]
        refine end_id ExtT.rfl' rfl rfl ?_
        exact ⟨_, _, lv7, hj, rfl, hl7, rfl, by simp [h0]⟩
      · rw [if_neg h0] at hj
        have hj0 : ¬ joinW[i] = [106, 111, 105, 110] := fun h => h0 (hjw.1 h)
        simp +contextual only [go_sem, Rcb, Rbk, sevalprocAttr, hlv, ht, hj0, hw21]
        intro b5 hb5 hap5
        refine need_b [] ExtT.rfl' hj hl7 ?_
        intro M3 lv8 hM3 hno3 hres hl8
        simp +contextual only [go_sem, Rcb, Rbk, sevalprocAttr, hlv, ht, hw21]
        refine end_id ExtT.rfl' rfl rfl ?_
        exact ⟨_, _, lv8, hres, rfl, hl8, rfl, rfl⟩
    · simp +contextual only [go_sem, Rcb, Rbk, sevalprocAttr, hlv, ht]
      refine lp_range hlt ?_ ?_ ⟨⟨M2, lv7, hM2, rfl, hw, hl7, hnp⟩, ?_⟩
      · simp only [live, hlv, go_sem, Rcb, Rbk, sevalprocAttr]
      · simp only [ht, go_sem, Rcb, Rbk, sevalprocAttr, wrap_succ i (by omega)]
      · rw [hidx]
        simp only [idxSign, hs, Bool.false_eq_true, if_false, Option.map_map]
        congr 1
        funext n
        simp only [Function.comp]; omega
  · have : i = 4 := by omega
    subst this
    have hix : idxSign joinW toks = none := by rw [hidx]; rfl
    have h33 : ¬ ((4 : Nat) : Int) < 4 := by omega
    simp +contextual only [go_sem, Rcb, Rbk, sevalprocAttr, hlv, ht, h33]
    refine end_id ExtT.rfl' rfl rfl ?_
    exact ⟨0, toks, lv6, by unfold joinM; rw [hix], rfl, hl6, rfl, rfl⟩
def setW : List Bs := [wUnion, wExcept]
def setM (t : List Tk) : Rs Int := match idxSign setW t with
  | none => .ok 0 t
  | some k => if seesM wAll t.tail = true then .ok (2 * k + 1) t.tail.tail else .ok (2 * k + 2) t.tail
theorem setM_ne {t : List Tk} : setM t ≠ .out := by
  unfold setM
  split
  · simp
  · split <;> simp
theorem ct_set {M : Mem} {pb : Nat} {toks : List Tk} {lv : Value} {en op : Int} (hl : RS M RTk 3 toks lv) (T : Tm) :
    CtT Tryz.prog 102 [.pointer (some ⟨pb, 0, none⟩)] T M (pL pb lv en op) [] (postP pb en op (fun k v _ => v = .int .i64 k) (setM toks)) (panP pb en (setM toks)) := by
  refine ct_run mx bod102 Tryz.func102 rfl (by rw [nt102]; exact Nat.le_of_ble_eq_true rfl) (dr := dr102) (by kernel_rfl) rs102 ?_
  intro hno _
  simp only [noneL_pL] at hno
  simp +contextual only [go_sem, Rcb, Rbk, sevalprocAttr]
  intro b4 hb4 hap4
  refine loop_rangeC 2 7 [(0, .pointer (some ⟨pb, 0, none⟩)), (5, .slice (some ⟨b4, 0, none⟩) 2 2), (6, .int .i64 2)]
    (fun i e h => (∃ M' lv', Ext M M' ∧ h = ⟨T, M', pL pb lv' en op, []⟩ ∧ M' b4 = some (setW.map st) ∧ RS M' RTk 3 toks lv' ∧ M' pb = none) ∧ idxSign setW toks = (idxSign (setW.drop i) toks).map (· + i))
    0 (by omega) (by simp only [live, go_sem, Rcb, Rbk, sevalprocAttr]) (by simp only [go_sem, Rcb, Rbk, sevalprocAttr]) (Close_freeze fun he hb hno => Close_id ⟨⟨_, lv, he, rfl, hb, RS_ext he (fun _ _ h => h) hl, by simpa only [noneL_pL] using hno⟩, by simp⟩) ?_
  rintro i e h hi hlv ht ⟨⟨M2, lv6, hM2, rfl, hw, hl6, hnp⟩, hidx⟩
  simp only [live] at hlv
  by_cases hlt : i < 2
  · have hlt' : i < setW.length := hlt
    have hdrop : setW.drop i = setW[i] :: setW.drop (i + 1) := List.drop_eq_getElem_cons hlt'
    rw [hdrop] at hidx
    have hx : mcell M2 ⟨b4, i, none⟩ = some (st setW[i]) := by
      rw [mcell_some hw, List.getElem?_map, List.getElem?_eq_getElem hlt']
      rfl
    have hi3 : (i : Int) < 2 := by omega
    simp +contextual only [go_sem, Rcb, Rbk, sevalprocAttr, hlv, ht, hlt, hi3, hx]
    refine is_c [] setW[i] hl6 (fun hs lv7 hl7 => ?_) (fun hs lv7 hl7 => ?_)
    · have hix : idxSign setW toks = some i := by rw [hidx]; simp [idxSign, hs]
      have hw1 : IntKind.i64.wrap (2 * (i : Int)) = 2 * (i : Int) := wrap64 (by omega) (by omega)
      have hw2 : IntKind.i64.wrap (2 * (i : Int) + 1) = 2 * (i : Int) + 1 := wrap64 (by omega) (by omega)
      have hw3 : IntKind.i64.wrap (2 * (i : Int) + 2) = 2 * (i : Int) + 2 := wrap64 (by omega) (by omega)
      have hj : setM toks = if seesM wAll toks.tail = true then .ok (2 * (i : Int) + 1) toks.tail.tail else .ok (2 * (i : Int) + 2) toks.tail := by unfold setM; rw [hix]
      simp +contextual only [go_sem, Rcb, Rbk, sevalprocAttr, hlv, ht]
      refine is_c [] wAll hl7 (fun hs2 lv8 hl8 => ?_) (fun hs2 lv8 hl8 => ?_)
      · rw [if_pos hs2] at hj
        simp +contextual only [go_sem, Rcb, Rbk, sevalprocAttr, hlv, ht, hw1, hw2, hw3]
        refine end_id ExtT.rfl' rfl rfl ?_
        exact ⟨_, _, lv8, hj, rfl, hl8, rfl, rfl⟩
      · rw [if_neg (by simp [hs2])] at hj
        simp +contextual only [go_sem, Rcb, Rbk, sevalprocAttr, hlv, ht, hw1, hw2, hw3]
        refine end_id ExtT.rfl' rfl rfl ?_
        exact ⟨_, _, lv8, hj, rfl, hl8, rfl, rfl⟩
    · simp +contextual only [go_sem, Rcb, Rbk, sevalprocAttr, hlv, ht]
      refine lp_range hlt ?_ ?_ ⟨⟨M2, lv7, hM2, rfl, hw, hl7, hnp⟩, ?_⟩
      · simp only [live, hlv, go_sem, Rcb, Rbk, sevalprocAttr]
      · simp only [ht, go_sem, Rcb, Rbk, sevalprocAttr, wrap_succ i (by omega)]
      · rw [hidx]
        simp only [idxSign, hs, Bool.false_eq_true, if_false, Option.map_map]
        congr 1
        funext n
        simp only [Function.comp]; omega
  · have : i = 2 := by omega
    subst this
    have hix : idxSign setW toks = none := by rw [hidx]; rfl
    have h33 : ¬ ((2 : Nat) : Int) < 2 := by omega
    simp +contextual only [go_sem, Rcb, Rbk, sevalprocAttr, hlv, ht, h33]
    refine end_id ExtT.rfl' rfl rfl ?_
    exact ⟨0, toks, lv6, by unfold setM; rw [hix], rfl, hl6, rfl, rfl⟩
def typeW : List Bs := [wBool, wInt, wText]
def columnM (en : Int) (t : List Tk) : Rs Co := (nameM en t).bind fun n t => match idxSign typeW t with
  | none => .err 2 (atM en t)
  | some k => .ok ⟨n, 2 + k⟩ t.tail
theorem nameM_ne {en : Int} {t : List Tk} : nameM en t ≠ .out := by
  cases t with
  | nil => simp [nameM]
  | cons t r =>
    simp only [nameM]
    split
    · split <;> simp
    · simp
theorem columnM_ne {en : Int} {t : List Tk} : columnM en t ≠ .out := by
  unfold columnM
  cases hn : nameM en t with
  | out => exact (nameM_ne hn).elim
  | ok a r => simp only [Rs.bind]; split <;> simp
  | err e a => simp [Rs.bind]
def encCo (i : Co) (v : Value) (M : Mem) : Prop := ∃ cs, v = .agg ⟨cs⟩ ∧ RCo i cs
theorem ct_column {M : Mem} {pb : Nat} {toks : List Tk} {lv : Value} {en op : Int} (hg : Glob M) (hl : RS M RTk 3 toks lv) (T : Tm) :
    CtT Tryz.prog 64 [.pointer (some ⟨pb, 0, none⟩)] T M (pL pb lv en op) [] (postP pb en op encCo (columnM en toks)) (panP pb en (columnM en toks)) := by
  refine ct_run mx bod64 Tryz.func64 rfl (by rw [nt64]; exact Nat.le_of_ble_eq_true rfl) (dr := dr64) (by kernel_rfl) rs64 ?_
  intro hno _
  simp only [noneL_pL] at hno
  simp +contextual only [go_sem, Rcb, Rbk, sevalprocAttr]
  intro b2 T2 hb2 hap2 hT2 hTb2
  refine part_b [(b2, _)] hT2 rfl columnM_ne (fun _ => ct_p_name hg hl T2) ?_
  rintro v M1 n t lv1 hM1 hno1 hres hl1 rfl
  simp only [List.cons_append, List.nil_append, noneL, noneL_pL] at hno1
  simp +contextual only [go_sem, Rcb, Rbk, sevalprocAttr, hno1, hap2]
  intro b3 T3 hb3 hap3 hT3 hTb3 b4 hb4 hap4
  have hT := hT2.trans hT3
  refine loop_rangeC 3 11 [(0, .pointer (some ⟨pb, 0, none⟩)), (2, .pointer (some ⟨b2, 0, none⟩)), (3, .pointer (some ⟨b3, 0, none⟩)), (9, .slice (some ⟨b4, 0, none⟩) 3 3), (10, .int .i64 3)]
    (fun i e h => (∃ M' lv', Ext M1 M' ∧ h = ⟨T3, M', (b3, [.string (bs n), .int .i64 0]) :: (b2, [.string (bs []), .int .i64 0]) :: pL pb lv' en op, []⟩ ∧ M' b4 = some (typeW.map st) ∧ RS M' RTk 3 t lv' ∧ M' b3 = none ∧ M' b2 = none ∧ M' pb = none) ∧ idxSign typeW t = (idxSign (typeW.drop i) t).map (· + i))
    0 (by omega) (by simp only [live, go_sem, Rcb, Rbk, sevalprocAttr]) (by simp only [go_sem, Rcb, Rbk, sevalprocAttr]) (Close_freeze fun he hb hno => Close_id ⟨⟨_, lv1, he, rfl, hb, RS_ext he (fun _ _ h => h) hl1, hno.1, hno.2.1, by simpa only [noneL_pL] using hno.2.2⟩, by simp⟩) ?_
  rintro i e h hi hlv ht ⟨⟨M2, lv6, hM2, rfl, hw, hl6, hn3, hn2, hnp⟩, hidx⟩
  simp only [live] at hlv
  by_cases hlt : i < 3
  · have hlt' : i < typeW.length := hlt
    have hdrop : typeW.drop i = typeW[i] :: typeW.drop (i + 1) := List.drop_eq_getElem_cons hlt'
    rw [hdrop] at hidx
    have hx : mcell M2 ⟨b4, i, none⟩ = some (st typeW[i]) := by
      rw [mcell_some hw, List.getElem?_map, List.getElem?_eq_getElem hlt']
      rfl
    have hi3 : (i : Int) < 3 := by omega
    simp +contextual only [go_sem, Rcb, Rbk, sevalprocAttr, hlv, ht, hlt, hi3, hx]
    refine is_c [(b3, _), (b2, _)] typeW[i] hl6 (fun hs lv7 hl7 => ?_) (fun hs lv7 hl7 => ?_)
    · have hix : idxSign typeW t = some i := by rw [hidx]; simp [idxSign, hs]
      have hw21 : IntKind.i64.wrap (2 + (i : Int)) = 2 + (i : Int) := wrap64 (by omega) (by omega)
      rw [hix] at hres
      simp +contextual only [go_sem, Rcb, Rbk, sevalprocAttr, hlv, ht, hw21, hn3, hn2, hnp, hap2, hap3]
      refine Close_drop (Close_drop (end_id hT rfl rfl ?_))
      exact ⟨_, _, lv7, hres, rfl, hl7, rfl, _, rfl, rfl⟩
    · simp +contextual only [go_sem, Rcb, Rbk, sevalprocAttr, hlv, ht]
      refine lp_range hlt ?_ ?_ ⟨⟨M2, lv7, hM2, rfl, hw, hl7, hn3, hn2, hnp⟩, ?_⟩
      · simp only [live, hlv, go_sem, Rcb, Rbk, sevalprocAttr]
      · simp only [ht, go_sem, Rcb, Rbk, sevalprocAttr, wrap_succ i (by omega)]
      · rw [hidx]
        simp only [idxSign, hs, Bool.false_eq_true, if_false, Option.map_map]
        congr 1
        funext n
        simp only [Function.comp]; omega
  · have : i = 3 := by omega
    subst this
    have hix : idxSign typeW t = none := by rw [hidx]; rfl
    rw [hix] at hres
    have h33 : ¬ ((3 : Nat) : Int) < 3 := by omega
    simp +contextual only [go_sem, Rcb, Rbk, sevalprocAttr, hlv, ht, h33]
    refine at_p [(b3, _), (b2, _)] hl6 ?_
    simp +contextual only [go_sem, Rcb, Rbk, sevalprocAttr]
    exact fail_p [(b3, _), (b2, _)] hT hres
end Go.Proofs.YtoainkbcfnlkcaaGreatDoor


import Derived.Test.YtmccpbcbofhmlaaGreatDoorC
import Derived.Shelf.Strings.Builder1
import Derived.Test.YtmccpbcbofhmlaaGreatDoorB
import Derived.Recover
import Derived.Laws.Pointers
set_option linter.all false
namespace Go.Proofs.YtmccpbcbofhmlaaGreatDoor
open Go Vc
set_option maxRecDepth 10000
def lvlAt (n : Nat) : Lvl := levelsL.getD n ⟨[], 0, false⟩
def loopM (g : List Tk → Rs X) (l : Lvl) : Nat → X → List Tk → Rs X
  | 0, _, _ => .out
  | k + 1, x, t => match idxSign l.signs t with
    | none => .ok x t
    | some j => (g t.tail).bind fun y t' => if l.once = true then .ok (mkX (l.kind + j) [x, y]) t' else loopM g l k (mkX (l.kind + j) [x, y]) t'
def isM (en : Int) (x : X) (t : List Tk) : Rs X := (needM en [wNull] (if seesM wNot t.tail = true then t.tail.tail else t.tail)).bind fun _ t' => .ok (if seesM wNot t.tail = true then mkX 3 [mkX 16 [x]] else mkX 16 [x]) t'
def binM (en : Int) : Nat → Nat → Int → List Tk → Rs X
  | 0, _, _, _ => .out
  | f + 1, n, op, t =>
    if n = 7 then pieceM en (fun t => if op + 1 > 100 then .err 4 (atM en t) else binM en f 0 (op + 1) t) t
    else if n = 2 then
      if seesM wNot t = true then (if op + 1 > 100 then .err 4 (atM en t.tail) else (binM en f 2 (op + 1) t.tail).bind fun x t => .ok (mkX 3 [x]) t)
      else binM en f 3 op t
    else (binM en f (n + 1) op t).bind fun x t =>
      if n = 3 ∧ seesM wIs t = true then isM en x t
      else loopM (binM en f (n + 1) op) (lvlAt n) (t.length + 1) x t
def exprM (en : Int) (f : Nat) (op : Int) (t : List Tk) : Rs X := if op + 1 > 100 then .err 4 (atM en t) else binM en f 0 (op + 1) t
def BinC (en : Int) (pb : Nat) (f : Nat) : Prop := ∀ (n : Nat) (op : Int) (M : Mem) (t : List Tk) (lv : Value) (T : Tm), n ≤ 7 → 0 ≤ op → op ≤ 100 → Glob M → RS M RTk 3 t lv → binM en f n op t ≠ .out →
  CtT Tryz.prog 153 [.pointer (some ⟨pb, 0, none⟩), .int .i64 (n : Int)] T M (pL pb lv en op) [] (postP pb en op encX (binM en f n op t)) (panP pb en (binM en f n op t))
theorem defs_into {M : Mem} {N : Tm} {R : RR} {pb b : Nat} {lv : Value} {en op : Int} (L1 : LL) (hb : M b = some [.pointer (some ⟨pb, 0, none⟩)]) {args : Array Value} (ha : args.toList = []) {k : Sh → Prop} (hk : k ⟨N, M, L1 ++ pL pb lv en (IntKind.i64.wrap (op - 1)), R⟩) :
    defsL Tryz.prog [{ target := .fn (.func 189) ⟨[.pointer (some ⟨b, 0, none⟩)]⟩, args := args }] ⟨N, M, L1 ++ pL pb lv en op, R⟩ k := by
  have hd : dFn { target := .fn (.func 189) ⟨[.pointer (some ⟨b, 0, none⟩)]⟩, args := args } = some (189, [.pointer (some ⟨b, 0, none⟩)]) := by simp [dFn, ha]
  unfold defsL
  rw [hd]
  refine xDefL_of L1 (ctd_into1 hb N) fun v M' L' hM hk' hno h => ?_
  obtain ⟨rfl, rfl⟩ := h
  exact hk
theorem wrap_back {op : Int} (h0 : 0 ≤ op) (h1 : op ≤ 1000) : IntKind.i64.wrap (op + 1 - 1) = op := by
  rw [show op + 1 - 1 = op from by omega]
  exact wrap64 (by omega) (by omega)
theorem calm_oops (e a : Int) : calm (oopsV e a) = true := rfl
theorem ct_expr {en : Int} {pb f : Nat} {op : Int} (hb : BinC en pb f) (h0 : 0 ≤ op) (h1 : op ≤ 100) : ExC en pb (exprM en f op) op := by
  intro M toks lv T hg hl hne
  refine ct_runD mx bod101 Tryz.func101 rfl (by rw [nt101]; exact Nat.le_of_ble_eq_true rfl) (dr := dr101) (by kernel_rfl) rs101 ?_
  intro hno _
  simp only [noneL_pL] at hno
  simp +contextual only [go_sem, Rcb, Rbk, sevalprocAttr]
  intro b2 T2 hb2 hap2 hT2 hTb2
  refine rCall_one [(b2, _)] (ct_into hl h0 (by omega) T2) ?_ ?_
  · rintro v M1 L1 hM1 hk1 hno1 ⟨hop, rfl, b, rfl, hbm⟩
    have hex : exprM en f op toks = binM en f 0 (op + 1) toks := by unfold exprM; rw [if_neg (by omega)]
    rw [hex] at hne ⊢
    have hl1 := RS_ext hM1 (fun _ _ h => h) hl
    simp only [List.cons_append, List.nil_append, noneL, noneL_pL] at hno1
    simp +contextual only [go_sem, Rcb, Rbk, sevalprocAttr]
    refine rCall_one [(b2, _)] (hb 0 (op + 1) M1 toks lv T2 (by omega) (by omega) hop (hg.ext hM1) hl1 hne) ?_ ?_
    · rintro v M2 L2 hM2 hk2 hno2 ⟨x, r, lv2, hres, rfl, hl2, -, cs, rfl, hx⟩
      obtain ⟨s, rfl, h1', _⟩ := RX_form hx
      simp only [List.cons_append, List.nil_append, noneL, noneL_pL] at hno2
      simp +contextual only [go_sem, Rcb, Rbk, sevalprocAttr, hno2, hap2, h1']
      refine defs_into [(b2, _)] (hM2 _ _ hbm) rfl ?_
      rw [wrap_back h0 (by omega)]
      simp +contextual only [go_sem, Rcb, Rbk, sevalprocAttr, hno2, hap2, h1']
      refine Close_drop (end_id hT2 rfl rfl ?_)
      exact ⟨x, r, lv2, hres, rfl, hl2, rfl, _, rfl, hx⟩
    · rintro ch M2 L2 hM2 hk2 hno2 ⟨c, a, lv2, op2, hres, rfl, rfl, -⟩
      rw [fiD_pan]
      refine ⟨calm_oops _ _, ?_⟩
      refine defs_into [(b2, _)] (hM2 _ _ hbm) rfl ?_
      refine Close_drop (end_id hT2 rfl rfl ?_)
      exact ⟨c, a, lv2, _, hres, rfl, rfl, rfl⟩
  · rintro ch M1 L1 hM1 hk1 hno1 ⟨hop, rfl, op', rfl⟩
    have hex : exprM en f op toks = .err 4 (atM en toks) := by unfold exprM; rw [if_pos (by omega)]
    rw [hex]
    refine ⟨calm_oops _ _, ?_⟩
    refine Close_drop (end_id hT2 rfl rfl ?_)
    exact ⟨4, _, lv, op', rfl, rfl, rfl, rfl⟩
theorem RLvl_at {M : Mem} {b o : Nat} {l : Lvl} {cs : List Value} (h : RLvl M l cs) (ha : At M b o cs) : ∃ s, mcell M ⟨b, o, none⟩ = some s ∧ mcell M ⟨b, o + 1, none⟩ = some (.int .i64 l.kind) ∧ mcell M ⟨b, o + 2, none⟩ = some (.bool l.once) ∧
    RS M RSt 1 l.signs s ∧ (l.signs = [] → s = .slice none 0 0) ∧ (l.signs ≠ [] → ∃ b n, s = .slice (some ⟨b, 0, none⟩) n n) := by
  obtain ⟨s, h1, h2, h3, rfl⟩ := h
  exact ⟨s, ha.1, ha.2.1, ha.2.2.1, h1, h2, h3⟩
theorem lvl_get {n : Nat} (h : n < 7) : levelsL[n]? = some (lvlAt n) := by
  have : n < levelsL.length := h
  rw [List.getElem?_eq_getElem this]
  simp [lvlAt, List.getD_eq_getElem?_getD, List.getElem?_eq_getElem this]
section
variable {α β : Type} {T N : Tm} {M : Mem} {R : RR} {dr : List (Nat × Sched)} {ts : List ResultVar} {post : PostP} {pb : Nat} {lv0 lv : Value} {en op0 op : Int} {d : Option Nat} {s : List Vc.Item} {e : Env} {toks : List Tk} {L1 : LL}
theorem pan_pD {res : Rs α} {c a : Int} (L1 : LL) (hT : ExtT T N) (h : res = .err c a) : (fiD Tryz.prog T dr ts (keys (pL pb lv0 en op0)) 0 post (panP pb en res)).pan (oopsV c a) e [] ⟨N, M, L1 ++ pL pb lv en op, R⟩ := by
  rw [fiD_pan]
  exact ⟨calm_oops c a, Close_dropL L1 (Close_dropAllR (end_id hT rfl rfl ⟨c, a, lv, op, h, rfl, rfl, rfl⟩))⟩
theorem part_bD {f : FuncId} {args : List Value} {enc : α → Value → Mem → Prop} {res : Rs β} {g : Rs α} {Fk : α → List Tk → Rs β} (L1 : LL) (hT : ExtT T N) (hp : res = g.bind Fk) (hne : res ≠ .out)
    (hc : g ≠ .out → CtT Tryz.prog f args N M (pL pb lv en op) [] (postP pb en op enc g) (panP pb en g))
    (k : ∀ v M' a r lv', Ext M M' → noneL M' (L1 ++ pL pb lv' en op) → res = Fk a r → RS M' RTk 3 r lv' → enc a v M' →
      Run Tryz.prog (fiD Tryz.prog T dr ts (keys (pL pb lv0 en op0)) 0 post (panP pb en res)) s (updo e d v) [] ⟨N, M', L1 ++ pL pb lv' en op, R⟩ ⟨⟩) :
    rCall Tryz.prog (fiD Tryz.prog T dr ts (keys (pL pb lv0 en op0)) 0 post (panP pb en res)) f args d s e [] ⟨N, M, L1 ++ pL pb lv en op, R⟩ ⟨⟩ := by
  have hg : g ≠ .out := fun h => hne (by rw [hp, h]; rfl)
  refine part_p L1 (hc hg) (fun v M' a r lv' hM hno hres hr he => k v M' a r lv' hM hno (by rw [hp, hres]; rfl) hr he) ?_
  intro c a M' lv' op' hM hres
  exact pan_pD L1 hT (by rw [hp, hres]; rfl)
theorem need_bD {res : Rs β} {Fk : Unit → List Tk → Rs β} (L1 : LL) {x : Bs} {b : Nat} (hT : ExtT T N) (hp : res = (needM en [x] toks).bind Fk) (hl : RS M RTk 3 toks lv)
    (k : ∀ M' lv', Ext M M' → noneL M' (L1 ++ pL pb lv' en op) → res = Fk () toks.tail → RS M' RTk 3 toks.tail lv' →
      Run Tryz.prog (fiD Tryz.prog T dr ts (keys (pL pb lv0 en op0)) 0 post (panP pb en res)) s (updo e d (.tuple #[])) [] ⟨N, M', L1 ++ pL pb lv' en op, R⟩ ⟨⟩) :
    rCall Tryz.prog (fiD Tryz.prog T dr ts (keys (pL pb lv0 en op0)) 0 post (panP pb en res)) 51 [.pointer (some ⟨pb, 0, none⟩), .slice (some ⟨b, 0, none⟩) 1 1] d s e [] ⟨N, M, (b, [.string (bs x)]) :: (L1 ++ pL pb lv en op), R⟩ ⟨⟩ := by
  refine rCall_frz bod51 fun M1 hM1 hb hno1 => ?_
  have hl1 := RS_ext hM1 (fun _ _ h => h) hl
  have hs : RS M1 RSt 1 [x] (.slice (some ⟨b, 0, none⟩) 1 1) := RS_lit (fun _ _ => RSt_len) hb (RL_strs [x]) rfl (by decide)
  refine part_p L1 (ct_p_need hl1 hs N) ?_ ?_
  · rintro v M' a r lv' hM hno hres hr rfl
    have hr2 : r = toks.tail := by
      simp only [needM] at hres
      split at hres
      · injection hres with _ h; exact h.symm
      · cases hres
    subst hr2
    exact k M' lv' (hM1.trans hM) hno (by rw [hp, hres]; rfl) hr
  · intro c a M' lv' op' hM hres
    exact pan_pD L1 hT (by rw [hp, hres]; rfl)
end
theorem Rs.bind_ok {α : Type} (g : Rs α) : g = g.bind fun a t => .ok a t := by cases g <;> rfl
theorem idxSign_lt {l : List Bs} {t : List Tk} : ∀ {j : Nat}, idxSign l t = some j → j < l.length := by
  induction l with
  | nil => intro j h; cases h
  | cons s l ih =>
    intro j h
    simp only [idxSign] at h
    split at h
    · injection h with h; subst h; simp
    · obtain ⟨k, hk, rfl⟩ := Option.map_eq_some_iff.1 h
      have := ih hk
      simp only [List.length_cons]; omega
theorem lvl_facts : ∀ n, n < 7 → 0 ≤ (lvlAt n).kind ∧ (lvlAt n).kind ≤ 15 ∧ (lvlAt n).signs.length ≤ 6 ∧ ((lvlAt n).once = decide (n = 3)) ∧ (n ≠ 2 → (lvlAt n).signs ≠ []) := by decide
theorem ct_binary {en : Int} {pb : Nat} : ∀ f, BinC en pb f := by
  intro f
  induction f with
  | zero => intro n op M t lv T hn h0 h1 hg hl hne; exact (hne rfl).elim
  | succ f ih =>
    intro n op M t lv T hn h0 h1 hg hl hne
    refine ct_runD mx bod153 Tryz.func153 rfl (by rw [nt153]; exact Nat.le_of_ble_eq_true rfl) (dr := dr153) (by kernel_rfl) rs153 ?_
    intro hno _
    simp only [noneL_pL] at hno
    simp +contextual only [go_sem, Rcb, Rbk, sevalprocAttr]
    intro b4 T4 hb4 hap4 hT4 hTb4
    refine rCall_pure (ct_levels T4) ?_ (fun _ _ _ _ h => h.elim)
    rintro v M1 hM1 hno1 hlv
    have hl1 := RS_ext hM1 (fun _ _ h => h) hl
    have hg1 := hg.ext hM1
    simp only [List.cons_append, List.nil_append, noneL, noneL_pL] at hno1
    obtain ⟨_, la, lc, rfl, hlc, _, hget⟩ := RS_elim (by decide) (fun _ _ h => RLvl_len h) hlv
    have hlen7 : levelsL.length = 7 := rfl
    simp +contextual only [go_sem, Rcb, Rbk, sevalprocAttr, hlen7]
    by_cases hn7 : n = 7
    · subst hn7
      simp +contextual only [go_sem, Rcb, Rbk, sevalprocAttr]
      have hbin : binM en (f + 1) 7 op t = pieceM en (exprM en f op) t := rfl
      refine part_bD [(b4, _)] hT4 (hbin.trans (Rs.bind_ok _)) hne (fun h => ct_piece hg1 hl1 (ct_expr ih h0 h1) h T4) ?_
      rintro v M2 x r lv2 hM2 hno2 hres hl2 ⟨cs, rfl, hx⟩
      obtain ⟨s, rfl, h1', _⟩ := RX_form hx
      simp only [List.cons_append, List.nil_append, noneL, noneL_pL] at hno2
      simp +contextual only [go_sem, Rcb, Rbk, sevalprocAttr, hno2, hap4, h1']
      refine Close_drop (end_id hT4 rfl rfl ?_)
      exact ⟨x, r, lv2, hres, rfl, hl2, rfl, _, rfl, hx⟩
    have hlt7 : n < 7 := by omega
    obtain ⟨lb, lo, cs, rfl, hat, hrl⟩ := hget n _ (lvl_get hlt7)
    obtain ⟨sg, g0, g1, g2, hsg, hnil, hcons⟩ := RLvl_at hrl hat
    have hn7' : ¬ (n : Int) = 7 := by omega
    have hidx : (n : Int) < 7 := by omega
    by_cases hn2 : n = 2
    · subst hn2
      have hs0 := hnil rfl
      subst hs0
      simp +contextual only [go_sem, Rcb, Rbk, sevalprocAttr, hno1, hap4, g0, g1, g2]
      have hbin : binM en (f + 1) 2 op t = if seesM wNot t = true then (if op + 1 > 100 then .err 4 (atM en t.tail) else (binM en f 2 (op + 1) t.tail).bind fun x t => .ok (mkX 3 [x]) t) else binM en f 3 op t := rfl
      refine is_c [(b4, _)] wNot hl1 (fun hs lv2 hl2 => ?_) (fun hs lv2 hl2 => ?_)
      · rw [if_pos hs] at hbin
        simp +contextual only [go_sem, Rcb, Rbk, sevalprocAttr]
        refine rCall_one [(b4, _)] (ct_into hl2 h0 (by omega) T4) ?_ ?_
        · rintro v M2 L2 hM2 hk2 hno2 ⟨hop, rfl, b, rfl, hbm⟩
          rw [if_neg (by omega)] at hbin
          have hl3 := RS_ext hM2 (fun _ _ h => h) hl2
          simp only [List.cons_append, List.nil_append, noneL, noneL_pL] at hno2
          simp +contextual only [go_sem, Rcb, Rbk, sevalprocAttr]
          have hne2 : binM en f 2 (op + 1) t.tail ≠ .out := fun h => hne (by rw [hbin, h]; rfl)
          refine rCall_one [(b4, _)] (ih 2 (op + 1) M2 t.tail lv2 T4 (by omega) (by omega) hop (hg1.ext hM2) hl3 hne2) ?_ ?_
          · rintro v M3 L3 hM3 hk3 hno3 ⟨x, r, lv3, hres, rfl, hl3, -, cs3, rfl, hx⟩
            simp +contextual only [go_sem, Rcb, Rbk, sevalprocAttr]
            refine rCall_pure (ct_of 3 hx T4) ?_ (fun _ _ _ _ h => h.elim)
            rintro v M5 hM5 hno5 ⟨cs', rfl, hx5⟩
            obtain ⟨s, rfl, h1', _⟩ := RX_form hx5
            simp only [List.cons_append, List.nil_append, noneL, noneL_pL] at hno5
            simp +contextual only [go_sem, Rcb, Rbk, sevalprocAttr, hno5, hap4, h1']
            refine defs_into [(b4, _)] ((hM3.trans hM5) _ _ hbm) rfl ?_
            rw [wrap_back h0 (by omega)]
            simp +contextual only [go_sem, Rcb, Rbk, sevalprocAttr, hno5, hap4, h1']
            refine Close_drop (end_id hT4 rfl rfl ?_)
            exact ⟨_, r, lv3, by rw [hbin, hres]; rfl, rfl, RS_ext hM5 (fun _ _ h => h) hl3, rfl, _, rfl, hx5⟩
          · rintro ch M3 L3 hM3 hk3 hno3 ⟨c, a, lv3, op3, hres, rfl, rfl, -⟩
            rw [fiD_pan]
            refine ⟨calm_oops _ _, ?_⟩
            refine defs_into [(b4, _)] (hM3 _ _ hbm) rfl ?_
            refine Close_drop (end_id hT4 rfl rfl ?_)
            exact ⟨c, a, lv3, _, by rw [hbin, hres]; rfl, rfl, rfl, rfl⟩
        · rintro ch M2 L2 hM2 hk2 hno2 ⟨hop, rfl, op', rfl⟩
          rw [if_pos (by omega)] at hbin
          exact pan_pD [(b4, _)] hT4 hbin
      · rw [if_neg (by simp [hs])] at hbin
        simp +contextual only [go_sem, Rcb, Rbk, sevalprocAttr]
        refine part_bD [(b4, _)] hT4 (hbin.trans (Rs.bind_ok _)) hne (fun h => ih 3 op M1 t lv2 T4 (by omega) h0 h1 hg1 hl2 h) ?_
        rintro v M2 x r lv2 hM2 hno2 hres hl2 ⟨cs, rfl, hx⟩
        obtain ⟨s, rfl, h1', _⟩ := RX_form hx
        simp only [List.cons_append, List.nil_append, noneL, noneL_pL] at hno2
        simp +contextual only [go_sem, Rcb, Rbk, sevalprocAttr, hno2, hap4, h1']
        refine Close_drop (end_id hT4 rfl rfl ?_)
        exact ⟨x, r, lv2, hres, rfl, hl2, rfl, _, rfl, hx⟩
    · obtain ⟨hk0, hk15, hsl, honce, hsne⟩ := lvl_facts n hlt7
      obtain ⟨sb, sn, rfl⟩ := hcons (hsne hn2)
      have hbin : binM en (f + 1) n op t = (binM en f (n + 1) op t).bind fun x t => if n = 3 ∧ seesM wIs t = true then isM en x t else loopM (binM en f (n + 1) op) (lvlAt n) (t.length + 1) x t := by
        conv => lhs; unfold binM
        rw [if_neg hn7, if_neg hn2]
      simp +contextual only [go_sem, Rcb, Rbk, sevalprocAttr, hno1, hap4, g0, g1, g2, hn7', hidx, wrap_succ n (by omega)]
      refine part_bD [(b4, _)] hT4 hbin hne (fun h => ih (n + 1) op M1 t lv T4 (by omega) h0 h1 hg1 hl1 h) ?_
      rintro v M2 x r lv2 hM2 hno2 hres hl2 ⟨cs2, rfl, hx⟩
      obtain ⟨s, rfl, h1', _⟩ := RX_form hx
      have g2' := mcell_ext hM2 g2
      simp only [List.cons_append, List.nil_append, noneL, noneL_pL] at hno2
      simp +contextual only [go_sem, Rcb, Rbk, sevalprocAttr, hno2, hap4, h1', hidx, g2']
      intro b6 T6 hb6 hap6 hT6 hTb6
      have hT6' := hT4.trans hT6
      rw [honce]
      by_cases hn3 : n = 3
      · subst hn3
        simp +contextual only [go_sem, Rcb, Rbk, sevalprocAttr]
        refine is_c [(b6, _), (b4, _)] wIs hl2 (fun hs lv3 hl3 => ?_) (fun hs lv3 hl3 => ?_)
        · rw [if_pos ⟨rfl, hs⟩] at hres
          unfold isM at hres
          simp +contextual only [go_sem, Rcb, Rbk, sevalprocAttr]
          refine is_c [(b6, _), (b4, _)] wNot hl3 (fun hs2 lv4 hl4 => ?_) (fun hs2 lv4 hl4 => ?_)
          · rw [if_pos hs2] at hres
            simp +contextual only [go_sem, Rcb, Rbk, sevalprocAttr]
            intro b7 hb7 hap7
            refine need_bD [(b6, _), (b4, _)] hT6' hres hl4 ?_
            intro M3 lv5 hM3 hno3 hres hl5
            simp only [List.cons_append, List.nil_append, noneL, noneL_pL] at hno3
            simp +contextual only [go_sem, Rcb, Rbk, sevalprocAttr, hno3, hap4, hap6, h1']
            refine rCall_pure (ct_of 16 (RX_ext hM3 _ _ hx) T6) ?_ (fun _ _ _ _ h => h.elim)
            rintro v M5 hM5 hno5 ⟨cs5, rfl, hx5⟩
            obtain ⟨s5, rfl, h15, _⟩ := RX_form hx5
            simp only [List.cons_append, List.nil_append, noneL, noneL_pL] at hno5
            simp +contextual only [go_sem, Rcb, Rbk, sevalprocAttr, hno5, hap4, hap6, h15]
            refine rCall_pure (ct_of 3 hx5 T6) ?_ (fun _ _ _ _ h => h.elim)
            rintro v M6 hM6 hno6 ⟨cs6, rfl, hx6⟩
            obtain ⟨s6, rfl, h16, _⟩ := RX_form hx6
            simp only [List.cons_append, List.nil_append, noneL, noneL_pL] at hno6
            simp +contextual only [go_sem, Rcb, Rbk, sevalprocAttr, hno6, hap4, hap6, h16]
            refine Close_drop (Close_drop (end_id hT6' rfl rfl ?_))
            exact ⟨_, _, lv5, hres, rfl, RS_ext (hM5.trans hM6) (fun _ _ h => h) hl5, rfl, _, rfl, by rw [if_pos hs2]; exact hx6⟩
          · rw [if_neg (by simp [hs2])] at hres
            simp +contextual only [go_sem, Rcb, Rbk, sevalprocAttr]
            intro b7 hb7 hap7
            refine need_bD [(b6, _), (b4, _)] hT6' hres hl4 ?_
            intro M3 lv5 hM3 hno3 hres hl5
            simp only [List.cons_append, List.nil_append, noneL, noneL_pL] at hno3
            simp +contextual only [go_sem, Rcb, Rbk, sevalprocAttr, hno3, hap4, hap6, h1']
            refine rCall_pure (ct_of 16 (RX_ext hM3 _ _ hx) T6) ?_ (fun _ _ _ _ h => h.elim)
            rintro v M5 hM5 hno5 ⟨cs5, rfl, hx5⟩
            obtain ⟨s5, rfl, h15, _⟩ := RX_form hx5
            simp only [List.cons_append, List.nil_append, noneL, noneL_pL] at hno5
            simp +contextual only [go_sem, Rcb, Rbk, sevalprocAttr, hno5, hap4, hap6, h15]
            refine Close_drop (Close_drop (end_id hT6' rfl rfl ?_))
            exact ⟨_, _, lv5, hres, rfl, RS_ext hM5 (fun _ _ h => h) hl5, rfl, _, rfl, by rw [if_neg (by simp [hs2])]; exact hx5⟩
        · rw [if_neg (by simp [hs])] at hres
          simp +contextual only [go_sem, Rcb, Rbk, sevalprocAttr]
          refine loop_rule (fun m e ds h => ds = [] ∧ e 0 = .pointer (some ⟨pb, 0, none⟩) ∧ e 1 = .int .i64 ((3 : Nat) : Int) ∧ e 4 = .pointer (some ⟨b4, 0, none⟩) ∧ e 5 = .slice (some ⟨lb, lo, none⟩) 7 lc ∧ e 6 = .pointer (some ⟨b6, 0, none⟩) ∧
            ∃ M' x' t' lv' c6 c4, Ext M2 M' ∧ h = ⟨T6, M', (b6, c6) :: (b4, c4) :: pL pb lv' en op, []⟩ ∧ c4.length = 7 ∧ RX M' x' c6 ∧ RS M' RTk 3 t' lv' ∧ M' b6 = none ∧ M' b4 = none ∧ M' pb = none ∧ binM en (f + 1) 3 op t = loopM (binM en f (3 + 1) op) (lvlAt 3) m x' t')
            ⟨r.length + 1, rfl, by simp only [go_sem, Rcb, Rbk, sevalprocAttr], by simp only [go_sem, Rcb, Rbk, sevalprocAttr], by simp only [go_sem, Rcb, Rbk, sevalprocAttr], by simp only [go_sem, Rcb, Rbk, sevalprocAttr], by simp only [go_sem, Rcb, Rbk, sevalprocAttr], M2, x, r, lv3, _, _, Ext.rfl', rfl, rfl, hx, hl3, hb6, hno2.1, hno2.2, hres⟩ ?_
          rintro m e ds h ⟨rfl, e0, e1, e4, e5, e6, M3, x', t', lv', c6, c4, hM3, rfl, hc4, hx', hl', n6, n4, np, hres⟩
          obtain ⟨s', rfl, h1', _⟩ := RX_form hx'
          obtain ⟨q0, q1, q2, q3, q4, q5, q6, rfl⟩ := cells7 hc4
          have k0 := mcell_ext (hM2.trans hM3) g0
          have k1 := mcell_ext (hM2.trans hM3) g1
          have k2 := mcell_ext (hM2.trans hM3) g2
          have hsg3 := RS_ext (hM2.trans hM3) (fun _ _ h => h) hsg
          cases m with
          | zero => exact (hne (hres.trans rfl)).elim
          | succ m =>
            simp only [loopM] at hres
            simp +contextual only [go_sem, Rcb, Rbk, sevalprocAttr, e0, e1, e4, e5, e6, hidx, k0, k1, k2, n6, n4, np, hap4, hap6, h1']
            refine rCall_one [(b6, _), (b4, _)] (ct_IndexFunc hl' hsg3 T6) ?_ (fun _ _ _ _ _ _ h => h.elim)
            rintro v M4 L4 hM4 hk4 hno4 ⟨rfl, rfl, lv5, rfl, hl5⟩
            cases hj : idxSign (lvlAt 3).signs t' with
            | none =>
              rw [hj] at hres hl5
              simp only [signI, signT] at hres hl5 ⊢
              simp +contextual only [go_sem, Rcb, Rbk, sevalprocAttr, e0, e1, e4, e5, e6, hidx, k0, k1, k2, n6, n4, np, hap4, hap6, h1', signI]
              refine Close_drop (Close_drop (end_id hT6' rfl rfl ?_))
              exact ⟨x', t', lv5, hres, rfl, hl5, rfl, _, rfl, hx'⟩
            | some j =>
              rw [hj] at hres hl5
              simp only [signI, signT] at hres hl5 ⊢
              have hjlt := idxSign_lt hj
              have hj0 : ¬ (j : Int) < 0 := by omega
              have hwk : IntKind.i64.wrap ((lvlAt 3).kind + (j : Int)) = (lvlAt 3).kind + (j : Int) := wrap64 (by omega) (by omega)
              simp +contextual only [go_sem, Rcb, Rbk, sevalprocAttr, e0, e1, e4, e5, e6, hidx, k0, k1, k2, n6, n4, np, hap4, hap6, h1', hj0]
              refine draw_at ⟨T, M4, [(b6, _)], []⟩ (Sub_memL [] Ext.rfl' n6 trivial) ?_
              simp +contextual only [go_sem, Rcb, Rbk, sevalprocAttr, e0, e1, e4, e5, e6, hidx, k0, k1, k2, n6, n4, np, hap4, hap6, h1', hj0, hwk, wrap_succ 3 (by omega)]
              refine part_bD [(b6, _), (b4, _)] hT6' hres hne (fun h => ih (3 + 1) op M4 t'.tail lv5 T6 (by omega) h0 h1 ((hg1.ext hM2).ext hM3) hl5 h) ?_
              rintro v M5 y r5 lv6 hM5 hno5 hres hl6 ⟨cs5, rfl, hy⟩
              simp only [List.cons_append, List.nil_append, noneL, noneL_pL] at hno5
              simp +contextual only [go_sem, Rcb, Rbk, sevalprocAttr]
              refine ⟨Sub_memL [] hM5 hno5.1 trivial, ?_⟩
              refine rCall_pure (ct_two ((lvlAt 3).kind + (j : Int)) (RX_ext hM5 _ _ hx') hy T6) ?_ (fun _ _ _ _ h => h.elim)
              rintro v M6 hM6 hno6 ⟨cs6, rfl, hxy⟩
              obtain ⟨s6, rfl, h16, _⟩ := RX_form hxy
              simp only [List.cons_append, List.nil_append, noneL, noneL_pL] at hno6
              have k2' := mcell_ext (hM5.trans hM6) k2
              simp +contextual only [go_sem, Rcb, Rbk, sevalprocAttr]
              refine ⟨Sub_memL [] (hM5.trans hM6) hno6.1 trivial, ?_⟩
              simp +contextual only [go_sem, Rcb, Rbk, sevalprocAttr, e0, e1, e4, e5, e6, hidx, hno6, hap4, hap6, h16, k2']
              by_cases ho : (lvlAt 3).once = true
              · rw [if_pos ho] at hres
                simp +contextual only [go_sem, Rcb, Rbk, sevalprocAttr, e0, e1, e4, e5, e6, hidx, hno6, hap4, hap6, h16, k2', ho]
                refine Close_drop (Close_drop (end_id hT6' rfl rfl ?_))
                exact ⟨_, r5, lv6, hres, rfl, RS_ext hM6 (fun _ _ h => h) hl6, rfl, _, rfl, hxy⟩
              · rw [if_neg ho] at hres
                simp +contextual only [go_sem, Rcb, Rbk, sevalprocAttr, e0, e1, e4, e5, e6, hidx, hno6, hap4, hap6, h16, k2', ho]
                rw [Run_lp]
                refine Close_id ⟨m, by omega, rfl, ?_, ?_, ?_, ?_, ?_, M6, _, r5, lv6, _, _, (hM3.trans hM5).trans hM6, rfl, rfl, hxy, RS_ext hM6 (fun _ _ h => h) hl6, hno6.1, hno6.2.1, hno6.2.2, hres⟩
                all_goals simp only [e0, e1, e4, e5, e6, go_sem, Rcb, Rbk, sevalprocAttr]
      · rw [if_neg (fun h => hn3 h.1)] at hres
        simp +contextual only [go_sem, Rcb, Rbk, sevalprocAttr, hn3]
        refine loop_rule (fun m e ds h => ds = [] ∧ e 0 = .pointer (some ⟨pb, 0, none⟩) ∧ e 1 = .int .i64 (n : Int) ∧ e 4 = .pointer (some ⟨b4, 0, none⟩) ∧ e 5 = .slice (some ⟨lb, lo, none⟩) 7 lc ∧ e 6 = .pointer (some ⟨b6, 0, none⟩) ∧
          ∃ M' x' t' lv' c6 c4, Ext M2 M' ∧ h = ⟨T6, M', (b6, c6) :: (b4, c4) :: pL pb lv' en op, []⟩ ∧ c4.length = 7 ∧ RX M' x' c6 ∧ RS M' RTk 3 t' lv' ∧ M' b6 = none ∧ M' b4 = none ∧ M' pb = none ∧ binM en (f + 1) n op t = loopM (binM en f (n + 1) op) (lvlAt n) m x' t')
          ⟨r.length + 1, rfl, by simp only [go_sem, Rcb, Rbk, sevalprocAttr], by simp only [go_sem, Rcb, Rbk, sevalprocAttr], by simp only [go_sem, Rcb, Rbk, sevalprocAttr], by simp only [go_sem, Rcb, Rbk, sevalprocAttr], by simp only [go_sem, Rcb, Rbk, sevalprocAttr], M2, x, r, lv2, _, _, Ext.rfl', rfl, rfl, hx, hl2, hb6, hno2.1, hno2.2, hres⟩ ?_
        rintro m e ds h ⟨rfl, e0, e1, e4, e5, e6, M3, x', t', lv', c6, c4, hM3, rfl, hc4, hx', hl', n6, n4, np, hres⟩
        obtain ⟨s', rfl, h1', _⟩ := RX_form hx'
        obtain ⟨q0, q1, q2, q3, q4, q5, q6, rfl⟩ := cells7 hc4
        have k0 := mcell_ext (hM2.trans hM3) g0
        have k1 := mcell_ext (hM2.trans hM3) g1
        have k2 := mcell_ext (hM2.trans hM3) g2
        have hsg3 := RS_ext (hM2.trans hM3) (fun _ _ h => h) hsg
        cases m with
        | zero => exact (hne (hres.trans rfl)).elim
        | succ m =>
          simp only [loopM] at hres
          simp +contextual only [go_sem, Rcb, Rbk, sevalprocAttr, e0, e1, e4, e5, e6, hidx, k0, k1, k2, n6, n4, np, hap4, hap6, h1']
          refine rCall_one [(b6, _), (b4, _)] (ct_IndexFunc hl' hsg3 T6) ?_ (fun _ _ _ _ _ _ h => h.elim)
          rintro v M4 L4 hM4 hk4 hno4 ⟨rfl, rfl, lv5, rfl, hl5⟩
          cases hj : idxSign (lvlAt n).signs t' with
          | none =>
            rw [hj] at hres hl5
            simp only [signI, signT] at hres hl5 ⊢
            simp +contextual only [go_sem, Rcb, Rbk, sevalprocAttr, e0, e1, e4, e5, e6, hidx, k0, k1, k2, n6, n4, np, hap4, hap6, h1', signI]
            refine Close_drop (Close_drop (end_id hT6' rfl rfl ?_))
            exact ⟨x', t', lv5, hres, rfl, hl5, rfl, _, rfl, hx'⟩
          | some j =>
            rw [hj] at hres hl5
            simp only [signI, signT] at hres hl5 ⊢
            have hjlt := idxSign_lt hj
            have hj0 : ¬ (j : Int) < 0 := by omega
            have hwk : IntKind.i64.wrap ((lvlAt n).kind + (j : Int)) = (lvlAt n).kind + (j : Int) := wrap64 (by omega) (by omega)
            simp +contextual only [go_sem, Rcb, Rbk, sevalprocAttr, e0, e1, e4, e5, e6, hidx, k0, k1, k2, n6, n4, np, hap4, hap6, h1', hj0]
            refine draw_at ⟨T, M4, [(b6, _)], []⟩ (Sub_memL [] Ext.rfl' n6 trivial) ?_
            simp +contextual only [go_sem, Rcb, Rbk, sevalprocAttr, e0, e1, e4, e5, e6, hidx, k0, k1, k2, n6, n4, np, hap4, hap6, h1', hj0, hwk, wrap_succ n (by omega)]
            refine part_bD [(b6, _), (b4, _)] hT6' hres hne (fun h => ih (n + 1) op M4 t'.tail lv5 T6 (by omega) h0 h1 ((hg1.ext hM2).ext hM3) hl5 h) ?_
            rintro v M5 y r5 lv6 hM5 hno5 hres hl6 ⟨cs5, rfl, hy⟩
            simp only [List.cons_append, List.nil_append, noneL, noneL_pL] at hno5
            simp +contextual only [go_sem, Rcb, Rbk, sevalprocAttr]
            refine ⟨Sub_memL [] hM5 hno5.1 trivial, ?_⟩
            refine rCall_pure (ct_two ((lvlAt n).kind + (j : Int)) (RX_ext hM5 _ _ hx') hy T6) ?_ (fun _ _ _ _ h => h.elim)
            rintro v M6 hM6 hno6 ⟨cs6, rfl, hxy⟩
            obtain ⟨s6, rfl, h16, _⟩ := RX_form hxy
            simp only [List.cons_append, List.nil_append, noneL, noneL_pL] at hno6
            have k2' := mcell_ext (hM5.trans hM6) k2
            simp +contextual only [go_sem, Rcb, Rbk, sevalprocAttr]
            refine ⟨Sub_memL [] (hM5.trans hM6) hno6.1 trivial, ?_⟩
            simp +contextual only [go_sem, Rcb, Rbk, sevalprocAttr, e0, e1, e4, e5, e6, hidx, hno6, hap4, hap6, h16, k2']
            by_cases ho : (lvlAt n).once = true
            · rw [if_pos ho] at hres
              simp +contextual only [go_sem, Rcb, Rbk, sevalprocAttr, e0, e1, e4, e5, e6, hidx, hno6, hap4, hap6, h16, k2', ho]
              refine Close_drop (Close_drop (end_id hT6' rfl rfl ?_))
              exact ⟨_, r5, lv6, hres, rfl, RS_ext hM6 (fun _ _ h => h) hl6, rfl, _, rfl, hxy⟩
            · rw [if_neg ho] at hres
              simp +contextual only [go_sem, Rcb, Rbk, sevalprocAttr, e0, e1, e4, e5, e6, hidx, hno6, hap4, hap6, h16, k2', ho]
              rw [Run_lp]
              refine Close_id ⟨m, by omega, rfl, ?_, ?_, ?_, ?_, ?_, M6, _, r5, lv6, _, _, (hM3.trans hM5).trans hM6, rfl, rfl, hxy, RS_ext hM6 (fun _ _ h => h) hl6, hno6.1, hno6.2.1, hno6.2.2, hres⟩
              all_goals simp only [e0, e1, e4, e5, e6, go_sem, Rcb, Rbk, sevalprocAttr]
abbrev wAs : Bs := [97, 115]
abbrev wOn : Bs := [111, 110]
abbrev wJoin : Bs := [106, 111, 105, 110]
abbrev wSemi : Bs := [115, 101, 109, 105]
abbrev wAnti : Bs := [97, 110, 116, 105]
abbrev wLeft : Bs := [108, 101, 102, 116]
abbrev wUnion : Bs := [117, 110, 105, 111, 110]
abbrev wExcept : Bs := [101, 120, 99, 101, 112, 116]
abbrev wAll : Bs := [97, 108, 108]
abbrev wBool : Bs := [98, 111, 111, 108]
abbrev wInt : Bs := [105, 110, 116]
abbrev wText : Bs := [116, 101, 120, 116]
def zeroX : X := mkX 0 []
theorem RX_zero {M : Mem} : RX M zeroX [.int .i64 0, .int .i64 0, .int .i64 0, st [], st [], st [], .slice none 0 0] := RX_mk ⟨Nat.zero_le _, [], .inl ⟨_, _, rfl, rfl, fun _ => rfl⟩, rfl⟩
def asM (en : Int) (t : List Tk) : Rs Bs := if seesM wAs t = true then nameM en t.tail else .ok [] t
def itemM (en : Int) (ex : List Tk → Rs X) (t : List Tk) : Rs It := (ex t).bind fun x t => if seesM wAs t = true then (nameM en t.tail).bind fun n t => .ok ⟨x, n⟩ t else .ok ⟨x, []⟩ t
def encIt (i : It) (v : Value) (M : Mem) : Prop := ∃ cs, v = .agg ⟨cs⟩ ∧ RIt M i cs
theorem ct_item {M : Mem} {pb : Nat} {toks : List Tk} {lv : Value} {en op : Int} {ex : List Tk → Rs X} (hg : Glob M) (hl : RS M RTk 3 toks lv) (hex : ExC en pb ex op) (hne : itemM en ex toks ≠ .out) (T : Tm) :
    CtT Tryz.prog 185 [.pointer (some ⟨pb, 0, none⟩)] T M (pL pb lv en op) [] (postP pb en op encIt (itemM en ex toks)) (panP pb en (itemM en ex toks)) := by
  refine ct_run mx bod185 Tryz.func185 rfl (by rw [nt185]; exact Nat.le_of_ble_eq_true rfl) (dr := dr185) (by kernel_rfl) rs185 ?_
  intro hno _
  simp only [noneL_pL] at hno
  simp +contextual only [go_sem, Rcb, Rbk, sevalprocAttr]
  intro b2 T2 hb2 hap2 hT2 hTb2
  refine part_b [(b2, _)] hT2 rfl hne (fun h => hex M _ lv T2 hg hl h) ?_
  rintro v M1 x t lv1 hM1 hno1 hres hl1 ⟨cs, rfl, hx⟩
  obtain ⟨s, rfl, h1, _⟩ := RX_form hx
  simp only [List.cons_append, List.nil_append, noneL, noneL_pL] at hno1
  simp +contextual only [go_sem, Rcb, Rbk, sevalprocAttr, hno1, hap2, h1]
  intro b3 T3 hb3 hap3 hT3 hTb3
  have hT := hT2.trans hT3
  refine is_c [(b3, _), (b2, _)] wAs hl1 (fun hs lv2 hl2 => ?_) (fun hs lv2 hl2 => ?_)
  · rw [if_pos hs] at hres
    simp +contextual only [go_sem, Rcb, Rbk, sevalprocAttr]
    refine part_b [(b3, _), (b2, _)] hT hres hne (fun _ => ct_p_name (hg.ext hM1) hl2 T3) ?_
    rintro v M2 n t2 lv3 hM2 hno2 hres hl3 rfl
    simp only [List.cons_append, List.nil_append, noneL, noneL_pL] at hno2
    simp +contextual only [go_sem, Rcb, Rbk, sevalprocAttr, hno2, hap2, hap3, h1]
    refine Close_drop (Close_drop (end_id hT rfl rfl ?_))
    exact ⟨_, _, lv3, hres, rfl, hl3, rfl, _, rfl, _, RX_ext hM2 _ _ hx, rfl⟩
  · rw [if_neg (by simp [hs])] at hres
    simp +contextual only [go_sem, Rcb, Rbk, sevalprocAttr, hno1, hb3, hap2, hap3, h1]
    refine Close_drop (Close_drop (end_id hT rfl rfl ?_))
    exact ⟨_, _, lv2, hres, rfl, hl2, rfl, _, rfl, _, hx, rfl⟩
def sourceM (en : Int) (ex : List Tk → Rs X) (k : Int) (t : List Tk) : Rs So := (nameM en t).bind fun n t => (asM en t).bind fun a t =>
  if k ≠ 1 then (needM en [wOn] t).bind fun _ t => (ex t).bind fun x t => .ok ⟨k, n, a, x⟩ t else .ok ⟨k, n, a, zeroX⟩ t
def encSo (i : So) (v : Value) (M : Mem) : Prop := ∃ cs, v = .agg ⟨cs⟩ ∧ RSo M i cs
theorem ct_psource {M : Mem} {pb : Nat} {toks : List Tk} {lv : Value} {en op k : Int} {ex : List Tk → Rs X} (hg : Glob M) (hl : RS M RTk 3 toks lv) (hex : ExC en pb ex op) (hne : sourceM en ex k toks ≠ .out) (T : Tm) :
    CtT Tryz.prog 186 [.pointer (some ⟨pb, 0, none⟩), .int .i64 k] T M (pL pb lv en op) [] (postP pb en op encSo (sourceM en ex k toks)) (panP pb en (sourceM en ex k toks)) := by
  refine ct_run mx bod186 Tryz.func186 rfl (by rw [nt186]; exact Nat.le_of_ble_eq_true rfl) (dr := dr186) (by kernel_rfl) rs186 ?_
  intro hno _
  simp only [noneL_pL] at hno
  simp +contextual only [go_sem, Rcb, Rbk, sevalprocAttr]
  intro b2 T2 hb2 hap2 hT2 hTb2
  refine part_b [(b2, _)] hT2 rfl hne (fun _ => ct_p_name hg hl T2) ?_
  rintro v M1 n t lv1 hM1 hno1 hres hl1 rfl
  simp only [List.cons_append, List.nil_append, noneL, noneL_pL] at hno1
  simp +contextual only [go_sem, Rcb, Rbk, sevalprocAttr, hno1, hap2]
  intro b3 T3 hb3 hap3 hT3 hTb3
  have hT := hT2.trans hT3
  refine is_c [(b3, _), (b2, _)] wAs hl1 (fun hs lv2 hl2 => ?_) (fun hs lv2 hl2 => ?_)
  · unfold asM at hres
    rw [if_pos hs] at hres
    simp +contextual only [go_sem, Rcb, Rbk, sevalprocAttr]
    refine part_b [(b3, _), (b2, _)] hT hres hne (fun _ => ct_p_name (hg.ext hM1) hl2 T3) ?_
    rintro v M2 a t2 lv3 hM2 hno2 hres hl3 rfl
    simp only [List.cons_append, List.nil_append, noneL, noneL_pL] at hno2
    by_cases hk : k = 1
    · subst hk
      rw [if_neg (fun h => h rfl)] at hres
      simp +contextual only [go_sem, Rcb, Rbk, sevalprocAttr, hno2, hap2, hap3]
      refine Close_drop (Close_drop (end_id hT rfl rfl ?_))
      exact ⟨_, _, lv3, hres, rfl, hl3, rfl, _, rfl, _, RX_zero, rfl⟩
    · rw [if_pos hk] at hres
      simp +contextual only [go_sem, Rcb, Rbk, sevalprocAttr, hno2, hap2, hap3, hk]
      intro b4 hb4 hap4
      refine need_b [(b3, _), (b2, _)] hT hres hl3 ?_
      intro M3 lv4 hM3 hno3 hres hl4
      simp +contextual only [go_sem, Rcb, Rbk, sevalprocAttr]
      refine part_b [(b3, _), (b2, _)] hT hres hne (fun h => hex M3 _ lv4 T3 (((hg.ext hM1).ext hM2).ext hM3) hl4 h) ?_
      rintro v M4 x t4 lv5 hM4 hno4 hres hl5 ⟨cs, rfl, hx⟩
      obtain ⟨s, rfl, h1, _⟩ := RX_form hx
      simp only [List.cons_append, List.nil_append, noneL, noneL_pL] at hno4
      simp +contextual only [go_sem, Rcb, Rbk, sevalprocAttr, hno4, hap2, hap3, h1]
      refine Close_drop (Close_drop (end_id hT rfl rfl ?_))
      exact ⟨_, _, lv5, hres, rfl, hl5, rfl, _, rfl, _, hx, rfl⟩
  · unfold asM at hres
    rw [if_neg (by simp [hs])] at hres
    by_cases hk : k = 1
    · subst hk
      simp only [Rs.bind] at hres
      rw [if_neg (fun h => h rfl)] at hres
      simp +contextual only [go_sem, Rcb, Rbk, sevalprocAttr, hno1, hb3, hap2, hap3]
      refine Close_drop (Close_drop (end_id hT rfl rfl ?_))
      exact ⟨_, _, lv2, hres, rfl, hl2, rfl, _, rfl, _, RX_zero, rfl⟩
    · have hres : sourceM en ex k toks = (needM en [wOn] t).bind fun _ t => (ex t).bind fun x t => .ok ⟨k, n, [], x⟩ t := hres.trans (if_pos hk)
      simp +contextual only [go_sem, Rcb, Rbk, sevalprocAttr, hno1, hb3, hap2, hap3, hk]
      intro b4 hb4 hap4
      refine need_b [(b3, _), (b2, _)] hT hres hl2 ?_
      intro M3 lv4 hM3 hno3 hres hl4
      simp +contextual only [go_sem, Rcb, Rbk, sevalprocAttr]
      refine part_b [(b3, _), (b2, _)] hT hres hne (fun h => hex M3 _ lv4 T3 ((hg.ext hM1).ext hM3) hl4 h) ?_
      rintro v M4 x t4 lv5 hM4 hno4 hres hl5 ⟨cs, rfl, hx⟩
      obtain ⟨s, rfl, h1, _⟩ := RX_form hx
      simp only [List.cons_append, List.nil_append, noneL, noneL_pL] at hno4
      simp +contextual only [go_sem, Rcb, Rbk, sevalprocAttr, hno4, hap2, hap3, h1]
      refine Close_drop (Close_drop (end_id hT rfl rfl ?_))
      exact ⟨_, _, lv5, hres, rfl, hl5, rfl, _, rfl, _, hx, rfl⟩
def joinW : List Bs := [wJoin, wSemi, wAnti, wLeft]
def joinM (en : Int) (t : List Tk) : Rs Int := match idxSign joinW t with
  | none => .ok 0 t
  | some j => if j = 0 then .ok 2 t.tail else (needM en [wJoin] t.tail).bind fun _ t => .ok (2 + j) t
theorem needM_ne {en : Int} {l : List Bs} {t : List Tk} : needM en l t ≠ .out := by
  induction l generalizing t with
  | nil => simp [needM]
  | cons s l ih =>
    simp only [needM]
    split
    · exact ih
    · simp
theorem joinM_ne {en : Int} {t : List Tk} : joinM en t ≠ .out := by
  unfold joinM
  split
  · simp
  · split
    · simp
    · intro h
      cases hn : needM en [wJoin] t.tail with
      | out => exact needM_ne hn
      | ok a r => rw [hn] at h; cases h
      | err e a => rw [hn] at h; cases h
theorem ct_join {M : Mem} {pb : Nat} {toks : List Tk} {lv : Value} {en op : Int} (hl : RS M RTk 3 toks lv) (T : Tm) :
    CtT Tryz.prog 187 [.pointer (some ⟨pb, 0, none⟩)] T M (pL pb lv en op) [] (postP pb en op (fun k v _ => v = .int .i64 k) (joinM en toks)) (panP pb en (joinM en toks)) := by
  refine ct_run mx bod187 Tryz.func187 rfl (by rw [nt187]; exact Nat.le_of_ble_eq_true rfl) (dr := dr187) (by kernel_rfl) rs187 ?_
  intro hno _
  simp only [noneL_pL] at hno
  simp +contextual only [go_sem, Rcb, Rbk, sevalprocAttr]
  intro b4 hb4 hap4
  refine loop_rangeC 4 7 [(0, .pointer (some ⟨pb, 0, none⟩)), (5, .slice (some ⟨b4, 0, none⟩) 4 4), (6, .int .i64 4)]
    (fun i e h => (∃ M' lv', Ext M M' ∧ h = ⟨T, M', pL pb lv' en op, []⟩ ∧ M' b4 = some (joinW.map st) ∧ RS M' RTk 3 toks lv' ∧ M' pb = none) ∧ idxSign joinW toks = (idxSign (joinW.drop i) toks).map (· + i))
    0 (by omega) (by simp only [live, go_sem, Rcb, Rbk, sevalprocAttr]) (by simp only [go_sem, Rcb, Rbk, sevalprocAttr]) (Close_freeze fun he hb hno => Close_id ⟨⟨_, lv, he, rfl, hb, RS_ext he (fun _ _ h => h) hl, by simpa only [noneL_pL] using hno⟩, by simp⟩) ?_
  rintro i e h hi hlv ht ⟨⟨M2, lv6, hM2, rfl, hw, hl6, hnp⟩, hidx⟩
  simp only [live] at hlv
  by_cases hlt : i < 4
  · have hlt' : i < joinW.length := hlt
    have hdrop : joinW.drop i = joinW[i] :: joinW.drop (i + 1) := List.drop_eq_getElem_cons hlt'
    rw [hdrop] at hidx
    have hx : mcell M2 ⟨b4, i, none⟩ = some (st joinW[i]) := by
      rw [mcell_some hw, List.getElem?_map, List.getElem?_eq_getElem hlt']
      rfl
    have hi3 : (i : Int) < 4 := by omega
    simp +contextual only [go_sem, Rcb, Rbk, sevalprocAttr, hlv, ht, hlt, hi3, hx]
    refine is_c [] joinW[i] hl6 (fun hs lv7 hl7 => ?_) (fun hs lv7 hl7 => ?_)
    · have hix : idxSign joinW toks = some i := by rw [hidx]; simp [idxSign, hs]
      have hw21 : IntKind.i64.wrap (2 + (i : Int)) = 2 + (i : Int) := wrap64 (by omega) (by omega)
      have hj : joinM en toks = if i = 0 then .ok 2 toks.tail else (needM en [wJoin] toks.tail).bind fun _ t => .ok (2 + (i : Int)) t := by unfold joinM; rw [hix]
      have hjw : (joinW[i] = wJoin) ↔ i = 0 := by
        have : ∀ i (h : i < 4), (joinW[i]'h = wJoin) ↔ i = 0 := by decide
        exact this i hlt
      by_cases h0 : i = 0
      · rw [if_pos h0] at hj
        have hj0 := hjw.2 h0
        simp +contextual only [go_sem, Rcb, Rbk, sevalprocAttr, hlv, ht, hj0, hw21]
        refine end_id ExtT.rfl' rfl rfl ?_
        exact ⟨_, _, lv7, hj, rfl, hl7, rfl, by simp [h0]⟩
      · rw [if_neg h0] at hj
        have hj0 : ¬ joinW[i] = [106, 111, 105, 110] := fun h => h0 (hjw.1 h)
        simp +contextual only [go_sem, Rcb, Rbk, sevalprocAttr, hlv, ht, hj0, hw21]
        intro b5 hb5 hap5
        refine need_b [] ExtT.rfl' hj hl7 ?_
        intro M3 lv8 hM3 hno3 hres hl8
        simp +contextual only [go_sem, Rcb, Rbk, sevalprocAttr, hlv, ht, hw21]
        refine end_id ExtT.rfl' rfl rfl ?_
        exact ⟨_, _, lv8, hres, rfl, hl8, rfl, rfl⟩
    · simp +contextual only [go_sem, Rcb, Rbk, sevalprocAttr, hlv, ht]
      refine lp_range hlt ?_ ?_ ⟨⟨M2, lv7, hM2, rfl, hw, hl7, hnp⟩, ?_⟩
      · simp only [live, hlv, go_sem, Rcb, Rbk, sevalprocAttr]
      · simp only [ht, go_sem, Rcb, Rbk, sevalprocAttr, wrap_succ i (by omega)]
      · rw [hidx]
        simp only [idxSign, hs, Bool.false_eq_true, if_false, Option.map_map]
        congr 1
        funext n
        simp only [Function.comp]; omega
  · have : i = 4 := by omega
    subst this
    have hix : idxSign joinW toks = none := by rw [hidx]; rfl
    have h33 : ¬ ((4 : Nat) : Int) < 4 := by omega
    simp +contextual only [go_sem, Rcb, Rbk, sevalprocAttr, hlv, ht, h33]
    refine end_id ExtT.rfl' rfl rfl ?_
    exact ⟨0, toks, lv6, by unfold joinM; rw [hix], rfl, hl6, rfl, rfl⟩
def setW : List Bs := [wUnion, wExcept]
def setM (t : List Tk) : Rs Int := match idxSign setW t with
  | none => .ok 0 t
  | some k => if seesM wAll t.tail = true then .ok (2 * k + 1) t.tail.tail else .ok (2 * k + 2) t.tail
theorem setM_ne {t : List Tk} : setM t ≠ .out := by
  unfold setM
  split
  · simp
  · split <;> simp
theorem ct_set {M : Mem} {pb : Nat} {toks : List Tk} {lv : Value} {en op : Int} (hl : RS M RTk 3 toks lv) (T : Tm) :
    CtT Tryz.prog 146 [.pointer (some ⟨pb, 0, none⟩)] T M (pL pb lv en op) [] (postP pb en op (fun k v _ => v = .int .i64 k) (setM toks)) (panP pb en (setM toks)) := by
  refine ct_run mx bod146 Tryz.func146 rfl (by rw [nt146]; exact Nat.le_of_ble_eq_true rfl) (dr := dr146) (by kernel_rfl) rs146 ?_
  intro hno _
  simp only [noneL_pL] at hno
  simp +contextual only [go_sem, Rcb, Rbk, sevalprocAttr]
  intro b4 hb4 hap4
  refine loop_rangeC 2 7 [(0, .pointer (some ⟨pb, 0, none⟩)), (5, .slice (some ⟨b4, 0, none⟩) 2 2), (6, .int .i64 2)]
    (fun i e h => (∃ M' lv', Ext M M' ∧ h = ⟨T, M', pL pb lv' en op, []⟩ ∧ M' b4 = some (setW.map st) ∧ RS M' RTk 3 toks lv' ∧ M' pb = none) ∧ idxSign setW toks = (idxSign (setW.drop i) toks).map (· + i))
    0 (by omega) (by simp only [live, go_sem, Rcb, Rbk, sevalprocAttr]) (by simp only [go_sem, Rcb, Rbk, sevalprocAttr]) (Close_freeze fun he hb hno => Close_id ⟨⟨_, lv, he, rfl, hb, RS_ext he (fun _ _ h => h) hl, by simpa only [noneL_pL] using hno⟩, by simp⟩) ?_
  rintro i e h hi hlv ht ⟨⟨M2, lv6, hM2, rfl, hw, hl6, hnp⟩, hidx⟩
  simp only [live] at hlv
  by_cases hlt : i < 2
  · have hlt' : i < setW.length := hlt
    have hdrop : setW.drop i = setW[i] :: setW.drop (i + 1) := List.drop_eq_getElem_cons hlt'
    rw [hdrop] at hidx
    have hx : mcell M2 ⟨b4, i, none⟩ = some (st setW[i]) := by
      rw [mcell_some hw, List.getElem?_map, List.getElem?_eq_getElem hlt']
      rfl
    have hi3 : (i : Int) < 2 := by omega
    simp +contextual only [go_sem, Rcb, Rbk, sevalprocAttr, hlv, ht, hlt, hi3, hx]
    refine is_c [] setW[i] hl6 (fun hs lv7 hl7 => ?_) (fun hs lv7 hl7 => ?_)
    · have hix : idxSign setW toks = some i := by rw [hidx]; simp [idxSign, hs]
      have hw1 : IntKind.i64.wrap (2 * (i : Int)) = 2 * (i : Int) := wrap64 (by omega) (by omega)
      have hw2 : IntKind.i64.wrap (2 * (i : Int) + 1) = 2 * (i : Int) + 1 := wrap64 (by omega) (by omega)
      have hw3 : IntKind.i64.wrap (2 * (i : Int) + 2) = 2 * (i : Int) + 2 := wrap64 (by omega) (by omega)
      have hj : setM toks = if seesM wAll toks.tail = true then .ok (2 * (i : Int) + 1) toks.tail.tail else .ok (2 * (i : Int) + 2) toks.tail := by unfold setM; rw [hix]
      simp +contextual only [go_sem, Rcb, Rbk, sevalprocAttr, hlv, ht]
      refine is_c [] wAll hl7 (fun hs2 lv8 hl8 => ?_) (fun hs2 lv8 hl8 => ?_)
      · rw [if_pos hs2] at hj
        simp +contextual only [go_sem, Rcb, Rbk, sevalprocAttr, hlv, ht, hw1, hw2, hw3]
        refine end_id ExtT.rfl' rfl rfl ?_
        exact ⟨_, _, lv8, hj, rfl, hl8, rfl, rfl⟩
      · rw [if_neg (by simp [hs2])] at hj
        simp +contextual only [go_sem, Rcb, Rbk, sevalprocAttr, hlv, ht, hw1, hw2, hw3]
        refine end_id ExtT.rfl' rfl rfl ?_
        exact ⟨_, _, lv8, hj, rfl, hl8, rfl, rfl⟩
    · simp +contextual only [go_sem, Rcb, Rbk, sevalprocAttr, hlv, ht]
      refine lp_range hlt ?_ ?_ ⟨⟨M2, lv7, hM2, rfl, hw, hl7, hnp⟩, ?_⟩
      · simp only [live, hlv, go_sem, Rcb, Rbk, sevalprocAttr]
      · simp only [ht, go_sem, Rcb, Rbk, sevalprocAttr, wrap_succ i (by omega)]
      · rw [hidx]
        simp only [idxSign, hs, Bool.false_eq_true, if_false, Option.map_map]
        congr 1
        funext n
        simp only [Function.comp]; omega
  · have : i = 2 := by omega
    subst this
    have hix : idxSign setW toks = none := by rw [hidx]; rfl
    have h33 : ¬ ((2 : Nat) : Int) < 2 := by omega
    simp +contextual only [go_sem, Rcb, Rbk, sevalprocAttr, hlv, ht, h33]
    refine end_id ExtT.rfl' rfl rfl ?_
    exact ⟨0, toks, lv6, by unfold setM; rw [hix], rfl, hl6, rfl, rfl⟩
def typeW : List Bs := [wBool, wInt, wText]
def columnM (en : Int) (t : List Tk) : Rs Co := (nameM en t).bind fun n t => match idxSign typeW t with
  | none => .err 2 (atM en t)
  | some k => .ok ⟨n, 2 + k⟩ t.tail
theorem nameM_ne {en : Int} {t : List Tk} : nameM en t ≠ .out := by
  cases t with
  | nil => simp [nameM]
  | cons t r =>
    simp only [nameM]
    split
    · split <;> simp
    · simp
theorem columnM_ne {en : Int} {t : List Tk} : columnM en t ≠ .out := by
  unfold columnM
  cases hn : nameM en t with
  | out => exact (nameM_ne hn).elim
  | ok a r => simp only [Rs.bind]; split <;> simp
  | err e a => simp [Rs.bind]
def encCo (i : Co) (v : Value) (M : Mem) : Prop := ∃ cs, v = .agg ⟨cs⟩ ∧ RCo i cs
theorem ct_column {M : Mem} {pb : Nat} {toks : List Tk} {lv : Value} {en op : Int} (hg : Glob M) (hl : RS M RTk 3 toks lv) (T : Tm) :
    CtT Tryz.prog 98 [.pointer (some ⟨pb, 0, none⟩)] T M (pL pb lv en op) [] (postP pb en op encCo (columnM en toks)) (panP pb en (columnM en toks)) := by
  refine ct_run mx bod98 Tryz.func98 rfl (by rw [nt98]; exact Nat.le_of_ble_eq_true rfl) (dr := dr98) (by kernel_rfl) rs98 ?_
  intro hno _
  simp only [noneL_pL] at hno
  simp +contextual only [go_sem, Rcb, Rbk, sevalprocAttr]
  intro b2 T2 hb2 hap2 hT2 hTb2
  refine part_b [(b2, _)] hT2 rfl columnM_ne (fun _ => ct_p_name hg hl T2) ?_
  rintro v M1 n t lv1 hM1 hno1 hres hl1 rfl
  simp only [List.cons_append, List.nil_append, noneL, noneL_pL] at hno1
  simp +contextual only [go_sem, Rcb, Rbk, sevalprocAttr, hno1, hap2]
  intro b3 T3 hb3 hap3 hT3 hTb3 b4 hb4 hap4
  have hT := hT2.trans hT3
  refine loop_rangeC 3 11 [(0, .pointer (some ⟨pb, 0, none⟩)), (2, .pointer (some ⟨b2, 0, none⟩)), (3, .pointer (some ⟨b3, 0, none⟩)), (9, .slice (some ⟨b4, 0, none⟩) 3 3), (10, .int .i64 3)]
    (fun i e h => (∃ M' lv', Ext M1 M' ∧ h = ⟨T3, M', (b3, [.string (bs n), .int .i64 0]) :: (b2, [.string (bs []), .int .i64 0]) :: pL pb lv' en op, []⟩ ∧ M' b4 = some (typeW.map st) ∧ RS M' RTk 3 t lv' ∧ M' b3 = none ∧ M' b2 = none ∧ M' pb = none) ∧ idxSign typeW t = (idxSign (typeW.drop i) t).map (· + i))
    0 (by omega) (by simp only [live, go_sem, Rcb, Rbk, sevalprocAttr]) (by simp only [go_sem, Rcb, Rbk, sevalprocAttr]) (Close_freeze fun he hb hno => Close_id ⟨⟨_, lv1, he, rfl, hb, RS_ext he (fun _ _ h => h) hl1, hno.1, hno.2.1, by simpa only [noneL_pL] using hno.2.2⟩, by simp⟩) ?_
  rintro i e h hi hlv ht ⟨⟨M2, lv6, hM2, rfl, hw, hl6, hn3, hn2, hnp⟩, hidx⟩
  simp only [live] at hlv
  by_cases hlt : i < 3
  · have hlt' : i < typeW.length := hlt
    have hdrop : typeW.drop i = typeW[i] :: typeW.drop (i + 1) := List.drop_eq_getElem_cons hlt'
    rw [hdrop] at hidx
    have hx : mcell M2 ⟨b4, i, none⟩ = some (st typeW[i]) := by
      rw [mcell_some hw, List.getElem?_map, List.getElem?_eq_getElem hlt']
      rfl
    have hi3 : (i : Int) < 3 := by omega
    simp +contextual only [go_sem, Rcb, Rbk, sevalprocAttr, hlv, ht, hlt, hi3, hx]
    refine is_c [(b3, _), (b2, _)] typeW[i] hl6 (fun hs lv7 hl7 => ?_) (fun hs lv7 hl7 => ?_)
    · have hix : idxSign typeW t = some i := by rw [hidx]; simp [idxSign, hs]
      have hw21 : IntKind.i64.wrap (2 + (i : Int)) = 2 + (i : Int) := wrap64 (by omega) (by omega)
      rw [hix] at hres
      simp +contextual only [go_sem, Rcb, Rbk, sevalprocAttr, hlv, ht, hw21, hn3, hn2, hnp, hap2, hap3]
      refine Close_drop (Close_drop (end_id hT rfl rfl ?_))
      exact ⟨_, _, lv7, hres, rfl, hl7, rfl, _, rfl, rfl⟩
    · simp +contextual only [go_sem, Rcb, Rbk, sevalprocAttr, hlv, ht]
      refine lp_range hlt ?_ ?_ ⟨⟨M2, lv7, hM2, rfl, hw, hl7, hn3, hn2, hnp⟩, ?_⟩
      · simp only [live, hlv, go_sem, Rcb, Rbk, sevalprocAttr]
      · simp only [ht, go_sem, Rcb, Rbk, sevalprocAttr, wrap_succ i (by omega)]
      · rw [hidx]
        simp only [idxSign, hs, Bool.false_eq_true, if_false, Option.map_map]
        congr 1
        funext n
        simp only [Function.comp]; omega
  · have : i = 3 := by omega
    subst this
    have hix : idxSign typeW t = none := by rw [hidx]; rfl
    rw [hix] at hres
    have h33 : ¬ ((3 : Nat) : Int) < 3 := by omega
    simp +contextual only [go_sem, Rcb, Rbk, sevalprocAttr, hlv, ht, h33]
    refine at_p [(b3, _), (b2, _)] hl6 ?_
    simp +contextual only [go_sem, Rcb, Rbk, sevalprocAttr]
    exact fail_p [(b3, _), (b2, _)] hT hres
def someM {α : Type} (en : Int) (g : List Tk → Rs α) : Nat → List Tk → Rs (List α)
  | 0, t => .err 5 (atM en t)
  | k + 1, t => (g t).bind fun a t => if seesM sComma t = true then (someM en g k t.tail).bind fun l t => .ok (a :: l) t else .ok [a] t
theorem Rs.bind_assoc {α β γ : Type} (r : Rs α) (f : α → List Tk → Rs β) (g : β → List Tk → Rs γ) : (r.bind f).bind g = r.bind fun a t => (f a t).bind g := by cases r <;> rfl
theorem ct_some_X {α : Type} {M : Mem} {pb gf : Nat} {toks : List Tk} {lv : Value} {en op : Int} {fa fc : List Value} {g : List Tk → Rs α} {r : Mem → α → List Value → Prop} {enc : α → Value → Mem → Prop} {C : Mem → Prop} (most : Nat)
    (hgc : ∀ (M : Mem) (t : List Tk) (lv : Value) (T : Tm), Glob M → C M → RS M RTk 3 t lv → g t ≠ .out → CtT Tryz.prog gf (fa ++ fc) T M (pL pb lv en op) [] (postP pb en op enc (g t)) (panP pb en (g t)))
    (hE : ∀ x v M, enc x v M → ∃ cs, v.cells.toList = cs ∧ r M x cs) (hsz : ∀ M x cs, r M x cs → cs.length = 7) (hone : ∀ M x cs, r M x cs → ∀ u ∈ cs, u.oneCell' = true) (hext : ∀ M M' x cs, Ext M M' → r M x cs → r M' x cs)
    (hC : ∀ M M', Ext M M' → C M → C M') (hC0 : C M) (hmost : most ≤ 400) (hg : Glob M) (hl : RS M RTk 3 toks lv) (hne : someM en g most toks ≠ .out) (T : Tm) :
    CtT Tryz.prog 147 [.pointer (some ⟨pb, 0, none⟩), .int .i64 (most : Int), .func (.func gf) ⟨fa⟩ ⟨fc⟩] T M (pL pb lv en op) [] (postP pb en op (fun l v M => RS M (r M) 7 l v) (someM en g most toks)) (panP pb en (someM en g most toks)) := by
  refine ct_run mx bod147 Tryz.func147 rfl (by rw [nt147]; exact Nat.le_of_ble_eq_true rfl) (dr := dr147) (by kernel_rfl) rs147 ?_
  intro hno _
  simp only [noneL_pL] at hno
  simp +contextual only [go_sem, Rcb, Rbk, sevalprocAttr]
  refine loop_rule (fun m e ds h => ds = [] ∧ e 0 = .pointer (some ⟨pb, 0, none⟩) ∧ e 1 = .int .i64 (most : Int) ∧ e 2 = .func (.func gf) ⟨fa⟩ ⟨fc⟩ ∧
    ∃ M' t' lv' acc, m + acc.length = most ∧ Ext M M' ∧ M' pb = none ∧ RS M' RTk 3 t' lv' ∧ someM en g most toks = (someM en g m t').bind (fun l t => .ok (acc ++ l) t) ∧
      ((acc = [] ∧ e 7 = .slice none 0 0 ∧ h = ⟨T, M', pL pb lv' en op, []⟩) ∨ ∃ ra rc xs, e 7 = .slice ra acc.length rc ∧ RL (r M') acc xs ∧ h = ⟨T, M', pL pb lv' en op, [(.slice ra acc.length rc, 31, 7, xs)]⟩))
    ⟨most, rfl, by simp only [go_sem, Rcb, Rbk, sevalprocAttr], by simp only [go_sem, Rcb, Rbk, sevalprocAttr], by simp only [go_sem, Rcb, Rbk, sevalprocAttr], M, toks, lv, [], by simp, Ext.rfl', hno, hl, by cases someM en g most toks <;> rfl, .inl ⟨rfl, by simp only [go_sem, Rcb, Rbk, sevalprocAttr], rfl⟩⟩ ?_
  rintro m e ds h ⟨rfl, e0, e1, e2, M1, t1, lv1, acc, hm, hM1, np, hl1, hres, hcase⟩
  have hg1 := hg.ext hM1
  cases m with
  | zero =>
    have hlen : (acc.length : Int) = (most : Int) := by omega
    have herr : someM en g most toks = .err 5 (atM en t1) := hres
    rcases hcase with ⟨rfl, e7, rfl⟩ | ⟨ra, rc, xs, e7, hxs, rfl⟩
    · have hlen : (0 : Int) = (most : Int) := by simpa using hlen
      simp +contextual only [go_sem, Rcb, Rbk, sevalprocAttr, e0, e1, e2, e7, hlen]
      refine at_p [] hl1 ?_
      simp +contextual only [go_sem, Rcb, Rbk, sevalprocAttr]
      exact fail_p [] ExtT.rfl' herr
    · simp +contextual only [go_sem, Rcb, Rbk, sevalprocAttr, e0, e1, e2, e7, hlen]
      refine at_p [] hl1 ?_
      simp +contextual only [go_sem, Rcb, Rbk, sevalprocAttr]
      exact fail_p [] ExtT.rfl' herr
  | succ m =>
    have hlen : ¬ (acc.length : Int) = (most : Int) := by omega
    simp only [someM, Rs.bind_assoc] at hres
    rcases hcase with ⟨rfl, e7, rfl⟩ | ⟨ra, rc, xs, e7, hxs, rfl⟩
    · have hlen : ¬ (0 : Int) = (most : Int) := by simpa using hlen
      simp +contextual only [go_sem, Rcb, Rbk, sevalprocAttr, e0, e1, e2, e7, hlen]
      refine part_b [] ExtT.rfl' hres hne (fun h => hgc M1 t1 lv1 T hg1 (hC _ _ hM1 hC0) hl1 h) ?_
      rintro v M2 a t2 lv2 hM2 hno2 hres hl2 hv
      obtain ⟨cs, hcs, hr⟩ := hE _ _ _ hv
      have hcl := hsz _ _ _ hr
      simp only [List.cons_append, List.nil_append, noneL, noneL_pL] at hno2
      have hcs2 := hcs
      simp only [Value.cells] at hcs2
      simp +contextual only [go_sem, Rcb, Rbk, sevalprocAttr, e0, e1, e2, e7, hcs, hcs2, hcl, hno2]
      intro b hb hapb
      refine app_nil row25 okt25 (.slice _ 1 _ _ _ Tryz.underlying25 (cells_own [] hb trivial (by rw [hcl])) (hone _ _ _ hr)) (by rw [hcl]; decide) ?_
      intro ra rm rc hrm
      have hrm1 : rm = 1 := by rw [hcl] at hrm; omega
      subst hrm1
      simp +contextual only [go_sem, Rcb, Rbk, sevalprocAttr, e0, e1, e2]
      refine is_c [(b, _)] sComma hl2 (fun hs lv3 hl3 => ?_) (fun hs lv3 hl3 => ?_)
      · rw [if_pos hs, Rs.bind_assoc] at hres
        simp +contextual only [go_sem, Rcb, Rbk, sevalprocAttr, e0, e1, e2]
        rw [Run_lp]
        refine Close_drop (Close_id ⟨m, by omega, rfl, ?_, ?_, ?_, M2, t2.tail, lv3, [a], by simp only [List.length_cons, List.length_nil] at hm ⊢; omega, hM1.trans hM2, hno2, hl3, hres, .inr ⟨ra, rc, cs, ?_, RL_one hr, rfl⟩⟩)
        all_goals simp only [e0, e1, e2, go_sem, Rcb, Rbk, sevalprocAttr]
      · rw [if_neg (by simp [hs])] at hres
        simp +contextual only [go_sem, Rcb, Rbk, sevalprocAttr, e0, e1, e2]
        refine Close_drop (Close_row fun M3 hM3 hno3 hsl => end_id ExtT.rfl' rfl rfl ?_)
        exact ⟨[a], t2, lv3, hres, rfl, RS_ext hM3 (fun _ _ h => h) hl3, rfl, ⟨by simp, cs, hsl, RL_one (hext _ _ _ _ hM3 hr)⟩⟩
    · simp +contextual only [go_sem, Rcb, Rbk, sevalprocAttr, e0, e1, e2, e7, hlen]
      refine part_b [] ExtT.rfl' hres hne (fun h => hgc M1 t1 lv1 T hg1 (hC _ _ hM1 hC0) hl1 h) ?_
      rintro v M2 a t2 lv2 hM2 hno2 hres hl2 hv
      obtain ⟨cs, hcs, hr⟩ := hE _ _ _ hv
      have hcl := hsz _ _ _ hr
      have hxl := RL_len (hsz M1) hxs
      have hxs2 : RL (r M2) acc xs := RL_mono (fun x cs h => hext _ _ _ _ hM2 h) hxs
      simp only [List.cons_append, List.nil_append, noneL, noneL_pL] at hno2
      have hcs2 := hcs
      simp only [Value.cells] at hcs2
      simp +contextual only [go_sem, Rcb, Rbk, sevalprocAttr, e0, e1, e2, e7, hcs, hcs2, hcl, hno2]
      intro b hb hapb
      refine app_row row25 okt25 (.slice _ 1 _ _ _ Tryz.underlying25 (cells_own [] hb trivial (by rw [hcl])) (hone _ _ _ hr)) (by rw [hcl, hxl]; omega) ?_
      intro ra' rm rc' hrm
      have hrm1 : rm = (acc ++ [a]).length := by
        rw [hcl, hxl] at hrm
        rw [List.length_append, List.length_cons, List.length_nil]
        omega
      subst hrm1
      have hacc := RL_append hxs2 (RL_one hr)
      simp +contextual only [go_sem, Rcb, Rbk, sevalprocAttr, e0, e1, e2]
      refine is_c [(b, _)] sComma hl2 (fun hs lv3 hl3 => ?_) (fun hs lv3 hl3 => ?_)
      · rw [if_pos hs, Rs.bind_assoc] at hres
        simp +contextual only [go_sem, Rcb, Rbk, sevalprocAttr, e0, e1, e2]
        rw [Run_lp]
        refine Close_drop (Close_id ⟨m, by omega, rfl, ?_, ?_, ?_, M2, t2.tail, lv3, acc ++ [a], by rw [List.length_append]; simp only [List.length_cons, List.length_nil]; omega, hM1.trans hM2, hno2, hl3, ?_, .inr ⟨ra', rc', xs ++ cs, ?_, hacc, rfl⟩⟩)
        · simp only [e0, e1, e2, go_sem, Rcb, Rbk, sevalprocAttr]
        · simp only [e0, e1, e2, go_sem, Rcb, Rbk, sevalprocAttr]
        · simp only [e0, e1, e2, go_sem, Rcb, Rbk, sevalprocAttr]
        · rw [hres]
          congr 1
          funext l t
          simp [Rs.bind]
        · simp only [updo_get, go_sem, Rcb, Rbk, sevalprocAttr]
      · rw [if_neg (by simp [hs])] at hres
        simp +contextual only [go_sem, Rcb, Rbk, sevalprocAttr, e0, e1, e2]
        refine Close_drop (Close_row fun M3 hM3 hno3 hsl => end_id ExtT.rfl' rfl rfl ?_)
        exact ⟨acc ++ [a], t2, lv3, hres, rfl, RS_ext hM3 (fun _ _ h => h) hl3, rfl, ⟨by rw [List.length_append]; simp only [List.length_cons, List.length_nil]; omega, xs ++ cs, hsl, RL_mono (fun x cs h => hext _ _ _ _ hM3 h) hacc⟩⟩
theorem ct_some_Co {α : Type} {M : Mem} {pb gf : Nat} {toks : List Tk} {lv : Value} {en op : Int} {fa fc : List Value} {g : List Tk → Rs α} {r : Mem → α → List Value → Prop} {enc : α → Value → Mem → Prop} {C : Mem → Prop} (most : Nat)
    (hgc : ∀ (M : Mem) (t : List Tk) (lv : Value) (T : Tm), Glob M → C M → RS M RTk 3 t lv → g t ≠ .out → CtT Tryz.prog gf (fa ++ fc) T M (pL pb lv en op) [] (postP pb en op enc (g t)) (panP pb en (g t)))
    (hE : ∀ x v M, enc x v M → ∃ cs, v.cells.toList = cs ∧ r M x cs) (hsz : ∀ M x cs, r M x cs → cs.length = 2) (hone : ∀ M x cs, r M x cs → ∀ u ∈ cs, u.oneCell' = true) (hext : ∀ M M' x cs, Ext M M' → r M x cs → r M' x cs)
    (hC : ∀ M M', Ext M M' → C M → C M') (hC0 : C M) (hmost : most ≤ 400) (hg : Glob M) (hl : RS M RTk 3 toks lv) (hne : someM en g most toks ≠ .out) (T : Tm) :
    CtT Tryz.prog 97 [.pointer (some ⟨pb, 0, none⟩), .int .i64 (most : Int), .func (.func gf) ⟨fa⟩ ⟨fc⟩] T M (pL pb lv en op) [] (postP pb en op (fun l v M => RS M (r M) 2 l v) (someM en g most toks)) (panP pb en (someM en g most toks)) := by
  refine ct_run mx bod97 Tryz.func97 rfl (by rw [nt97]; exact Nat.le_of_ble_eq_true rfl) (dr := dr97) (by kernel_rfl) rs97 ?_
  intro hno _
  simp only [noneL_pL] at hno
  simp +contextual only [go_sem, Rcb, Rbk, sevalprocAttr]
  refine loop_rule (fun m e ds h => ds = [] ∧ e 0 = .pointer (some ⟨pb, 0, none⟩) ∧ e 1 = .int .i64 (most : Int) ∧ e 2 = .func (.func gf) ⟨fa⟩ ⟨fc⟩ ∧
    ∃ M' t' lv' acc, m + acc.length = most ∧ Ext M M' ∧ M' pb = none ∧ RS M' RTk 3 t' lv' ∧ someM en g most toks = (someM en g m t').bind (fun l t => .ok (acc ++ l) t) ∧
      ((acc = [] ∧ e 7 = .slice none 0 0 ∧ h = ⟨T, M', pL pb lv' en op, []⟩) ∨ ∃ ra rc xs, e 7 = .slice ra acc.length rc ∧ RL (r M') acc xs ∧ h = ⟨T, M', pL pb lv' en op, [(.slice ra acc.length rc, 48, 2, xs)]⟩))
    ⟨most, rfl, by simp only [go_sem, Rcb, Rbk, sevalprocAttr], by simp only [go_sem, Rcb, Rbk, sevalprocAttr], by simp only [go_sem, Rcb, Rbk, sevalprocAttr], M, toks, lv, [], by simp, Ext.rfl', hno, hl, by cases someM en g most toks <;> rfl, .inl ⟨rfl, by simp only [go_sem, Rcb, Rbk, sevalprocAttr], rfl⟩⟩ ?_
  rintro m e ds h ⟨rfl, e0, e1, e2, M1, t1, lv1, acc, hm, hM1, np, hl1, hres, hcase⟩
  have hg1 := hg.ext hM1
  cases m with
  | zero =>
    have hlen : (acc.length : Int) = (most : Int) := by omega
    have herr : someM en g most toks = .err 5 (atM en t1) := hres
    rcases hcase with ⟨rfl, e7, rfl⟩ | ⟨ra, rc, xs, e7, hxs, rfl⟩
    · have hlen : (0 : Int) = (most : Int) := by simpa using hlen
      simp +contextual only [go_sem, Rcb, Rbk, sevalprocAttr, e0, e1, e2, e7, hlen]
      refine at_p [] hl1 ?_
      simp +contextual only [go_sem, Rcb, Rbk, sevalprocAttr]
      exact fail_p [] ExtT.rfl' herr
    · simp +contextual only [go_sem, Rcb, Rbk, sevalprocAttr, e0, e1, e2, e7, hlen]
      refine at_p [] hl1 ?_
      simp +contextual only [go_sem, Rcb, Rbk, sevalprocAttr]
      exact fail_p [] ExtT.rfl' herr
  | succ m =>
    have hlen : ¬ (acc.length : Int) = (most : Int) := by omega
    simp only [someM, Rs.bind_assoc] at hres
    rcases hcase with ⟨rfl, e7, rfl⟩ | ⟨ra, rc, xs, e7, hxs, rfl⟩
    · have hlen : ¬ (0 : Int) = (most : Int) := by simpa using hlen
      simp +contextual only [go_sem, Rcb, Rbk, sevalprocAttr, e0, e1, e2, e7, hlen]
      refine part_b [] ExtT.rfl' hres hne (fun h => hgc M1 t1 lv1 T hg1 (hC _ _ hM1 hC0) hl1 h) ?_
      rintro v M2 a t2 lv2 hM2 hno2 hres hl2 hv
      obtain ⟨cs, hcs, hr⟩ := hE _ _ _ hv
      have hcl := hsz _ _ _ hr
      simp only [List.cons_append, List.nil_append, noneL, noneL_pL] at hno2
      have hcs2 := hcs
      simp only [Value.cells] at hcs2
      simp +contextual only [go_sem, Rcb, Rbk, sevalprocAttr, e0, e1, e2, e7, hcs, hcs2, hcl, hno2]
      intro b hb hapb
      refine app_nil row43 okt43 (.slice _ 1 _ _ _ Tryz.underlying43 (cells_own [] hb trivial (by rw [hcl])) (hone _ _ _ hr)) (by rw [hcl]; decide) ?_
      intro ra rm rc hrm
      have hrm1 : rm = 1 := by rw [hcl] at hrm; omega
      subst hrm1
      simp +contextual only [go_sem, Rcb, Rbk, sevalprocAttr, e0, e1, e2]
      refine is_c [(b, _)] sComma hl2 (fun hs lv3 hl3 => ?_) (fun hs lv3 hl3 => ?_)
      · rw [if_pos hs, Rs.bind_assoc] at hres
        simp +contextual only [go_sem, Rcb, Rbk, sevalprocAttr, e0, e1, e2]
        rw [Run_lp]
        refine Close_drop (Close_id ⟨m, by omega, rfl, ?_, ?_, ?_, M2, t2.tail, lv3, [a], by simp only [List.length_cons, List.length_nil] at hm ⊢; omega, hM1.trans hM2, hno2, hl3, hres, .inr ⟨ra, rc, cs, ?_, RL_one hr, rfl⟩⟩)
        all_goals simp only [e0, e1, e2, go_sem, Rcb, Rbk, sevalprocAttr]
      · rw [if_neg (by simp [hs])] at hres
        simp +contextual only [go_sem, Rcb, Rbk, sevalprocAttr, e0, e1, e2]
        refine Close_drop (Close_row fun M3 hM3 hno3 hsl => end_id ExtT.rfl' rfl rfl ?_)
        exact ⟨[a], t2, lv3, hres, rfl, RS_ext hM3 (fun _ _ h => h) hl3, rfl, ⟨by simp, cs, hsl, RL_one (hext _ _ _ _ hM3 hr)⟩⟩
    · simp +contextual only [go_sem, Rcb, Rbk, sevalprocAttr, e0, e1, e2, e7, hlen]
      refine part_b [] ExtT.rfl' hres hne (fun h => hgc M1 t1 lv1 T hg1 (hC _ _ hM1 hC0) hl1 h) ?_
      rintro v M2 a t2 lv2 hM2 hno2 hres hl2 hv
      obtain ⟨cs, hcs, hr⟩ := hE _ _ _ hv
      have hcl := hsz _ _ _ hr
      have hxl := RL_len (hsz M1) hxs
      have hxs2 : RL (r M2) acc xs := RL_mono (fun x cs h => hext _ _ _ _ hM2 h) hxs
      simp only [List.cons_append, List.nil_append, noneL, noneL_pL] at hno2
      have hcs2 := hcs
      simp only [Value.cells] at hcs2
      simp +contextual only [go_sem, Rcb, Rbk, sevalprocAttr, e0, e1, e2, e7, hcs, hcs2, hcl, hno2]
      intro b hb hapb
      refine app_row row43 okt43 (.slice _ 1 _ _ _ Tryz.underlying43 (cells_own [] hb trivial (by rw [hcl])) (hone _ _ _ hr)) (by rw [hcl, hxl]; omega) ?_
      intro ra' rm rc' hrm
      have hrm1 : rm = (acc ++ [a]).length := by
        rw [hcl, hxl] at hrm
        rw [List.length_append, List.length_cons, List.length_nil]
        omega
      subst hrm1
      have hacc := RL_append hxs2 (RL_one hr)
      simp +contextual only [go_sem, Rcb, Rbk, sevalprocAttr, e0, e1, e2]
      refine is_c [(b, _)] sComma hl2 (fun hs lv3 hl3 => ?_) (fun hs lv3 hl3 => ?_)
      · rw [if_pos hs, Rs.bind_assoc] at hres
        simp +contextual only [go_sem, Rcb, Rbk, sevalprocAttr, e0, e1, e2]
        rw [Run_lp]
        refine Close_drop (Close_id ⟨m, by omega, rfl, ?_, ?_, ?_, M2, t2.tail, lv3, acc ++ [a], by rw [List.length_append]; simp only [List.length_cons, List.length_nil]; omega, hM1.trans hM2, hno2, hl3, ?_, .inr ⟨ra', rc', xs ++ cs, ?_, hacc, rfl⟩⟩)
        · simp only [e0, e1, e2, go_sem, Rcb, Rbk, sevalprocAttr]
        · simp only [e0, e1, e2, go_sem, Rcb, Rbk, sevalprocAttr]
        · simp only [e0, e1, e2, go_sem, Rcb, Rbk, sevalprocAttr]
        · rw [hres]
          congr 1
          funext l t
          simp [Rs.bind]
        · simp only [updo_get, go_sem, Rcb, Rbk, sevalprocAttr]
      · rw [if_neg (by simp [hs])] at hres
        simp +contextual only [go_sem, Rcb, Rbk, sevalprocAttr, e0, e1, e2]
        refine Close_drop (Close_row fun M3 hM3 hno3 hsl => end_id ExtT.rfl' rfl rfl ?_)
        exact ⟨acc ++ [a], t2, lv3, hres, rfl, RS_ext hM3 (fun _ _ h => h) hl3, rfl, ⟨by rw [List.length_append]; simp only [List.length_cons, List.length_nil]; omega, xs ++ cs, hsl, RL_mono (fun x cs h => hext _ _ _ _ hM3 h) hacc⟩⟩
theorem ct_some_Vs {α : Type} {M : Mem} {pb gf : Nat} {toks : List Tk} {lv : Value} {en op : Int} {fa fc : List Value} {g : List Tk → Rs α} {r : Mem → α → List Value → Prop} {enc : α → Value → Mem → Prop} {C : Mem → Prop} (most : Nat)
    (hgc : ∀ (M : Mem) (t : List Tk) (lv : Value) (T : Tm), Glob M → C M → RS M RTk 3 t lv → g t ≠ .out → CtT Tryz.prog gf (fa ++ fc) T M (pL pb lv en op) [] (postP pb en op enc (g t)) (panP pb en (g t)))
    (hE : ∀ x v M, enc x v M → ∃ cs, v.cells.toList = cs ∧ r M x cs) (hsz : ∀ M x cs, r M x cs → cs.length = 1) (hone : ∀ M x cs, r M x cs → ∀ u ∈ cs, u.oneCell' = true) (hext : ∀ M M' x cs, Ext M M' → r M x cs → r M' x cs)
    (hC : ∀ M M', Ext M M' → C M → C M') (hC0 : C M) (hmost : most ≤ 400) (hg : Glob M) (hl : RS M RTk 3 toks lv) (hne : someM en g most toks ≠ .out) (T : Tm) :
    CtT Tryz.prog 99 [.pointer (some ⟨pb, 0, none⟩), .int .i64 (most : Int), .func (.func gf) ⟨fa⟩ ⟨fc⟩] T M (pL pb lv en op) [] (postP pb en op (fun l v M => RS M (r M) 1 l v) (someM en g most toks)) (panP pb en (someM en g most toks)) := by
  refine ct_run mx bod99 Tryz.func99 rfl (by rw [nt99]; exact Nat.le_of_ble_eq_true rfl) (dr := dr99) (by kernel_rfl) rs99 ?_
  intro hno _
  simp only [noneL_pL] at hno
  simp +contextual only [go_sem, Rcb, Rbk, sevalprocAttr]
  refine loop_rule (fun m e ds h => ds = [] ∧ e 0 = .pointer (some ⟨pb, 0, none⟩) ∧ e 1 = .int .i64 (most : Int) ∧ e 2 = .func (.func gf) ⟨fa⟩ ⟨fc⟩ ∧
    ∃ M' t' lv' acc, m + acc.length = most ∧ Ext M M' ∧ M' pb = none ∧ RS M' RTk 3 t' lv' ∧ someM en g most toks = (someM en g m t').bind (fun l t => .ok (acc ++ l) t) ∧
      ((acc = [] ∧ e 7 = .slice none 0 0 ∧ h = ⟨T, M', pL pb lv' en op, []⟩) ∨ ∃ ra rc xs, e 7 = .slice ra acc.length rc ∧ RL (r M') acc xs ∧ h = ⟨T, M', pL pb lv' en op, [(.slice ra acc.length rc, 157, 1, xs)]⟩))
    ⟨most, rfl, by simp only [go_sem, Rcb, Rbk, sevalprocAttr], by simp only [go_sem, Rcb, Rbk, sevalprocAttr], by simp only [go_sem, Rcb, Rbk, sevalprocAttr], M, toks, lv, [], by simp, Ext.rfl', hno, hl, by cases someM en g most toks <;> rfl, .inl ⟨rfl, by simp only [go_sem, Rcb, Rbk, sevalprocAttr], rfl⟩⟩ ?_
  rintro m e ds h ⟨rfl, e0, e1, e2, M1, t1, lv1, acc, hm, hM1, np, hl1, hres, hcase⟩
  have hg1 := hg.ext hM1
  cases m with
  | zero =>
    have hlen : (acc.length : Int) = (most : Int) := by omega
    have herr : someM en g most toks = .err 5 (atM en t1) := hres
    rcases hcase with ⟨rfl, e7, rfl⟩ | ⟨ra, rc, xs, e7, hxs, rfl⟩
    · have hlen : (0 : Int) = (most : Int) := by simpa using hlen
      simp +contextual only [go_sem, Rcb, Rbk, sevalprocAttr, e0, e1, e2, e7, hlen]
      refine at_p [] hl1 ?_
      simp +contextual only [go_sem, Rcb, Rbk, sevalprocAttr]
      exact fail_p [] ExtT.rfl' herr
    · simp +contextual only [go_sem, Rcb, Rbk, sevalprocAttr, e0, e1, e2, e7, hlen]
      refine at_p [] hl1 ?_
      simp +contextual only [go_sem, Rcb, Rbk, sevalprocAttr]
      exact fail_p [] ExtT.rfl' herr
  | succ m =>
    have hlen : ¬ (acc.length : Int) = (most : Int) := by omega
    simp only [someM, Rs.bind_assoc] at hres
    rcases hcase with ⟨rfl, e7, rfl⟩ | ⟨ra, rc, xs, e7, hxs, rfl⟩
    · have hlen : ¬ (0 : Int) = (most : Int) := by simpa using hlen
      simp +contextual only [go_sem, Rcb, Rbk, sevalprocAttr, e0, e1, e2, e7, hlen]
      refine part_b [] ExtT.rfl' hres hne (fun h => hgc M1 t1 lv1 T hg1 (hC _ _ hM1 hC0) hl1 h) ?_
      rintro v M2 a t2 lv2 hM2 hno2 hres hl2 hv
      obtain ⟨cs, hcs, hr⟩ := hE _ _ _ hv
      have hcl := hsz _ _ _ hr
      simp only [List.cons_append, List.nil_append, noneL, noneL_pL] at hno2
      have hcs2 := hcs
      simp only [Value.cells] at hcs2
      simp +contextual only [go_sem, Rcb, Rbk, sevalprocAttr, e0, e1, e2, e7, hcs, hcs2, hcl, hno2]
      intro b hb hapb
      refine app_nil row65 okt65 (.slice _ 1 _ _ _ Tryz.underlying65 (cells_own [] hb trivial (by rw [hcl])) (hone _ _ _ hr)) (by rw [hcl]; decide) ?_
      intro ra rm rc hrm
      have hrm1 : rm = 1 := by rw [hcl] at hrm; omega
      subst hrm1
      simp +contextual only [go_sem, Rcb, Rbk, sevalprocAttr, e0, e1, e2]
      refine is_c [(b, _)] sComma hl2 (fun hs lv3 hl3 => ?_) (fun hs lv3 hl3 => ?_)
      · rw [if_pos hs, Rs.bind_assoc] at hres
        simp +contextual only [go_sem, Rcb, Rbk, sevalprocAttr, e0, e1, e2]
        rw [Run_lp]
        refine Close_drop (Close_id ⟨m, by omega, rfl, ?_, ?_, ?_, M2, t2.tail, lv3, [a], by simp only [List.length_cons, List.length_nil] at hm ⊢; omega, hM1.trans hM2, hno2, hl3, hres, .inr ⟨ra, rc, cs, ?_, RL_one hr, rfl⟩⟩)
        all_goals simp only [e0, e1, e2, go_sem, Rcb, Rbk, sevalprocAttr]
      · rw [if_neg (by simp [hs])] at hres
        simp +contextual only [go_sem, Rcb, Rbk, sevalprocAttr, e0, e1, e2]
        refine Close_drop (Close_row fun M3 hM3 hno3 hsl => end_id ExtT.rfl' rfl rfl ?_)
        exact ⟨[a], t2, lv3, hres, rfl, RS_ext hM3 (fun _ _ h => h) hl3, rfl, ⟨by simp, cs, hsl, RL_one (hext _ _ _ _ hM3 hr)⟩⟩
    · simp +contextual only [go_sem, Rcb, Rbk, sevalprocAttr, e0, e1, e2, e7, hlen]
      refine part_b [] ExtT.rfl' hres hne (fun h => hgc M1 t1 lv1 T hg1 (hC _ _ hM1 hC0) hl1 h) ?_
      rintro v M2 a t2 lv2 hM2 hno2 hres hl2 hv
      obtain ⟨cs, hcs, hr⟩ := hE _ _ _ hv
      have hcl := hsz _ _ _ hr
      have hxl := RL_len (hsz M1) hxs
      have hxs2 : RL (r M2) acc xs := RL_mono (fun x cs h => hext _ _ _ _ hM2 h) hxs
      simp only [List.cons_append, List.nil_append, noneL, noneL_pL] at hno2
      have hcs2 := hcs
      simp only [Value.cells] at hcs2
      simp +contextual only [go_sem, Rcb, Rbk, sevalprocAttr, e0, e1, e2, e7, hcs, hcs2, hcl, hno2]
      intro b hb hapb
      refine app_row row65 okt65 (.slice _ 1 _ _ _ Tryz.underlying65 (cells_own [] hb trivial (by rw [hcl])) (hone _ _ _ hr)) (by rw [hcl, hxl]; omega) ?_
      intro ra' rm rc' hrm
      have hrm1 : rm = (acc ++ [a]).length := by
        rw [hcl, hxl] at hrm
        rw [List.length_append, List.length_cons, List.length_nil]
        omega
      subst hrm1
      have hacc := RL_append hxs2 (RL_one hr)
      simp +contextual only [go_sem, Rcb, Rbk, sevalprocAttr, e0, e1, e2]
      refine is_c [(b, _)] sComma hl2 (fun hs lv3 hl3 => ?_) (fun hs lv3 hl3 => ?_)
      · rw [if_pos hs, Rs.bind_assoc] at hres
        simp +contextual only [go_sem, Rcb, Rbk, sevalprocAttr, e0, e1, e2]
        rw [Run_lp]
        refine Close_drop (Close_id ⟨m, by omega, rfl, ?_, ?_, ?_, M2, t2.tail, lv3, acc ++ [a], by rw [List.length_append]; simp only [List.length_cons, List.length_nil]; omega, hM1.trans hM2, hno2, hl3, ?_, .inr ⟨ra', rc', xs ++ cs, ?_, hacc, rfl⟩⟩)
        · simp only [e0, e1, e2, go_sem, Rcb, Rbk, sevalprocAttr]
        · simp only [e0, e1, e2, go_sem, Rcb, Rbk, sevalprocAttr]
        · simp only [e0, e1, e2, go_sem, Rcb, Rbk, sevalprocAttr]
        · rw [hres]
          congr 1
          funext l t
          simp [Rs.bind]
        · simp only [updo_get, go_sem, Rcb, Rbk, sevalprocAttr]
      · rw [if_neg (by simp [hs])] at hres
        simp +contextual only [go_sem, Rcb, Rbk, sevalprocAttr, e0, e1, e2]
        refine Close_drop (Close_row fun M3 hM3 hno3 hsl => end_id ExtT.rfl' rfl rfl ?_)
        exact ⟨acc ++ [a], t2, lv3, hres, rfl, RS_ext hM3 (fun _ _ h => h) hl3, rfl, ⟨by rw [List.length_append]; simp only [List.length_cons, List.length_nil]; omega, xs ++ cs, hsl, RL_mono (fun x cs h => hext _ _ _ _ hM3 h) hacc⟩⟩
theorem ct_some_V {α : Type} {M : Mem} {pb gf : Nat} {toks : List Tk} {lv : Value} {en op : Int} {fa fc : List Value} {g : List Tk → Rs α} {r : Mem → α → List Value → Prop} {enc : α → Value → Mem → Prop} {C : Mem → Prop} (most : Nat)
    (hgc : ∀ (M : Mem) (t : List Tk) (lv : Value) (T : Tm), Glob M → C M → RS M RTk 3 t lv → g t ≠ .out → CtT Tryz.prog gf (fa ++ fc) T M (pL pb lv en op) [] (postP pb en op enc (g t)) (panP pb en (g t)))
    (hE : ∀ x v M, enc x v M → ∃ cs, v.cells.toList = cs ∧ r M x cs) (hsz : ∀ M x cs, r M x cs → cs.length = 3) (hone : ∀ M x cs, r M x cs → ∀ u ∈ cs, u.oneCell' = true) (hext : ∀ M M' x cs, Ext M M' → r M x cs → r M' x cs)
    (hC : ∀ M M', Ext M M' → C M → C M') (hC0 : C M) (hmost : most ≤ 400) (hg : Glob M) (hl : RS M RTk 3 toks lv) (hne : someM en g most toks ≠ .out) (T : Tm) :
    CtT Tryz.prog 149 [.pointer (some ⟨pb, 0, none⟩), .int .i64 (most : Int), .func (.func gf) ⟨fa⟩ ⟨fc⟩] T M (pL pb lv en op) [] (postP pb en op (fun l v M => RS M (r M) 3 l v) (someM en g most toks)) (panP pb en (someM en g most toks)) := by
  refine ct_run mx bod149 Tryz.func149 rfl (by rw [nt149]; exact Nat.le_of_ble_eq_true rfl) (dr := dr149) (by kernel_rfl) rs149 ?_
  intro hno _
  simp only [noneL_pL] at hno
  simp +contextual only [go_sem, Rcb, Rbk, sevalprocAttr]
  refine loop_rule (fun m e ds h => ds = [] ∧ e 0 = .pointer (some ⟨pb, 0, none⟩) ∧ e 1 = .int .i64 (most : Int) ∧ e 2 = .func (.func gf) ⟨fa⟩ ⟨fc⟩ ∧
    ∃ M' t' lv' acc, m + acc.length = most ∧ Ext M M' ∧ M' pb = none ∧ RS M' RTk 3 t' lv' ∧ someM en g most toks = (someM en g m t').bind (fun l t => .ok (acc ++ l) t) ∧
      ((acc = [] ∧ e 7 = .slice none 0 0 ∧ h = ⟨T, M', pL pb lv' en op, []⟩) ∨ ∃ ra rc xs, e 7 = .slice ra acc.length rc ∧ RL (r M') acc xs ∧ h = ⟨T, M', pL pb lv' en op, [(.slice ra acc.length rc, 29, 3, xs)]⟩))
    ⟨most, rfl, by simp only [go_sem, Rcb, Rbk, sevalprocAttr], by simp only [go_sem, Rcb, Rbk, sevalprocAttr], by simp only [go_sem, Rcb, Rbk, sevalprocAttr], M, toks, lv, [], by simp, Ext.rfl', hno, hl, by cases someM en g most toks <;> rfl, .inl ⟨rfl, by simp only [go_sem, Rcb, Rbk, sevalprocAttr], rfl⟩⟩ ?_
  rintro m e ds h ⟨rfl, e0, e1, e2, M1, t1, lv1, acc, hm, hM1, np, hl1, hres, hcase⟩
  have hg1 := hg.ext hM1
  cases m with
  | zero =>
    have hlen : (acc.length : Int) = (most : Int) := by omega
    have herr : someM en g most toks = .err 5 (atM en t1) := hres
    rcases hcase with ⟨rfl, e7, rfl⟩ | ⟨ra, rc, xs, e7, hxs, rfl⟩
    · have hlen : (0 : Int) = (most : Int) := by simpa using hlen
      simp +contextual only [go_sem, Rcb, Rbk, sevalprocAttr, e0, e1, e2, e7, hlen]
      refine at_p [] hl1 ?_
      simp +contextual only [go_sem, Rcb, Rbk, sevalprocAttr]
      exact fail_p [] ExtT.rfl' herr
    · simp +contextual only [go_sem, Rcb, Rbk, sevalprocAttr, e0, e1, e2, e7, hlen]
      refine at_p [] hl1 ?_
      simp +contextual only [go_sem, Rcb, Rbk, sevalprocAttr]
      exact fail_p [] ExtT.rfl' herr
  | succ m =>
    have hlen : ¬ (acc.length : Int) = (most : Int) := by omega
    simp only [someM, Rs.bind_assoc] at hres
    rcases hcase with ⟨rfl, e7, rfl⟩ | ⟨ra, rc, xs, e7, hxs, rfl⟩
    · have hlen : ¬ (0 : Int) = (most : Int) := by simpa using hlen
      simp +contextual only [go_sem, Rcb, Rbk, sevalprocAttr, e0, e1, e2, e7, hlen]
      refine part_b [] ExtT.rfl' hres hne (fun h => hgc M1 t1 lv1 T hg1 (hC _ _ hM1 hC0) hl1 h) ?_
      rintro v M2 a t2 lv2 hM2 hno2 hres hl2 hv
      obtain ⟨cs, hcs, hr⟩ := hE _ _ _ hv
      have hcl := hsz _ _ _ hr
      simp only [List.cons_append, List.nil_append, noneL, noneL_pL] at hno2
      have hcs2 := hcs
      simp only [Value.cells] at hcs2
      simp +contextual only [go_sem, Rcb, Rbk, sevalprocAttr, e0, e1, e2, e7, hcs, hcs2, hcl, hno2]
      intro b hb hapb
      refine app_nil row157 okt157 (.slice _ 1 _ _ _ Tryz.underlying157 (cells_own [] hb trivial (by rw [hcl])) (hone _ _ _ hr)) (by rw [hcl]; decide) ?_
      intro ra rm rc hrm
      have hrm1 : rm = 1 := by rw [hcl] at hrm; omega
      subst hrm1
      simp +contextual only [go_sem, Rcb, Rbk, sevalprocAttr, e0, e1, e2]
      refine is_c [(b, _)] sComma hl2 (fun hs lv3 hl3 => ?_) (fun hs lv3 hl3 => ?_)
      · rw [if_pos hs, Rs.bind_assoc] at hres
        simp +contextual only [go_sem, Rcb, Rbk, sevalprocAttr, e0, e1, e2]
        rw [Run_lp]
        refine Close_drop (Close_id ⟨m, by omega, rfl, ?_, ?_, ?_, M2, t2.tail, lv3, [a], by simp only [List.length_cons, List.length_nil] at hm ⊢; omega, hM1.trans hM2, hno2, hl3, hres, .inr ⟨ra, rc, cs, ?_, RL_one hr, rfl⟩⟩)
        all_goals simp only [e0, e1, e2, go_sem, Rcb, Rbk, sevalprocAttr]
      · rw [if_neg (by simp [hs])] at hres
        simp +contextual only [go_sem, Rcb, Rbk, sevalprocAttr, e0, e1, e2]
        refine Close_drop (Close_row fun M3 hM3 hno3 hsl => end_id ExtT.rfl' rfl rfl ?_)
        exact ⟨[a], t2, lv3, hres, rfl, RS_ext hM3 (fun _ _ h => h) hl3, rfl, ⟨by simp, cs, hsl, RL_one (hext _ _ _ _ hM3 hr)⟩⟩
    · simp +contextual only [go_sem, Rcb, Rbk, sevalprocAttr, e0, e1, e2, e7, hlen]
      refine part_b [] ExtT.rfl' hres hne (fun h => hgc M1 t1 lv1 T hg1 (hC _ _ hM1 hC0) hl1 h) ?_
      rintro v M2 a t2 lv2 hM2 hno2 hres hl2 hv
      obtain ⟨cs, hcs, hr⟩ := hE _ _ _ hv
      have hcl := hsz _ _ _ hr
      have hxl := RL_len (hsz M1) hxs
      have hxs2 : RL (r M2) acc xs := RL_mono (fun x cs h => hext _ _ _ _ hM2 h) hxs
      simp only [List.cons_append, List.nil_append, noneL, noneL_pL] at hno2
      have hcs2 := hcs
      simp only [Value.cells] at hcs2
      simp +contextual only [go_sem, Rcb, Rbk, sevalprocAttr, e0, e1, e2, e7, hcs, hcs2, hcl, hno2]
      intro b hb hapb
      refine app_row row157 okt157 (.slice _ 1 _ _ _ Tryz.underlying157 (cells_own [] hb trivial (by rw [hcl])) (hone _ _ _ hr)) (by rw [hcl, hxl]; omega) ?_
      intro ra' rm rc' hrm
      have hrm1 : rm = (acc ++ [a]).length := by
        rw [hcl, hxl] at hrm
        rw [List.length_append, List.length_cons, List.length_nil]
        omega
      subst hrm1
      have hacc := RL_append hxs2 (RL_one hr)
      simp +contextual only [go_sem, Rcb, Rbk, sevalprocAttr, e0, e1, e2]
      refine is_c [(b, _)] sComma hl2 (fun hs lv3 hl3 => ?_) (fun hs lv3 hl3 => ?_)
      · rw [if_pos hs, Rs.bind_assoc] at hres
        simp +contextual only [go_sem, Rcb, Rbk, sevalprocAttr, e0, e1, e2]
        rw [Run_lp]
        refine Close_drop (Close_id ⟨m, by omega, rfl, ?_, ?_, ?_, M2, t2.tail, lv3, acc ++ [a], by rw [List.length_append]; simp only [List.length_cons, List.length_nil]; omega, hM1.trans hM2, hno2, hl3, ?_, .inr ⟨ra', rc', xs ++ cs, ?_, hacc, rfl⟩⟩)
        · simp only [e0, e1, e2, go_sem, Rcb, Rbk, sevalprocAttr]
        · simp only [e0, e1, e2, go_sem, Rcb, Rbk, sevalprocAttr]
        · simp only [e0, e1, e2, go_sem, Rcb, Rbk, sevalprocAttr]
        · rw [hres]
          congr 1
          funext l t
          simp [Rs.bind]
        · simp only [updo_get, go_sem, Rcb, Rbk, sevalprocAttr]
      · rw [if_neg (by simp [hs])] at hres
        simp +contextual only [go_sem, Rcb, Rbk, sevalprocAttr, e0, e1, e2]
        refine Close_drop (Close_row fun M3 hM3 hno3 hsl => end_id ExtT.rfl' rfl rfl ?_)
        exact ⟨acc ++ [a], t2, lv3, hres, rfl, RS_ext hM3 (fun _ _ h => h) hl3, rfl, ⟨by rw [List.length_append]; simp only [List.length_cons, List.length_nil]; omega, xs ++ cs, hsl, RL_mono (fun x cs h => hext _ _ _ _ hM3 h) hacc⟩⟩
theorem ct_some_It {α : Type} {M : Mem} {pb gf : Nat} {toks : List Tk} {lv : Value} {en op : Int} {fa fc : List Value} {g : List Tk → Rs α} {r : Mem → α → List Value → Prop} {enc : α → Value → Mem → Prop} {C : Mem → Prop} (most : Nat)
    (hgc : ∀ (M : Mem) (t : List Tk) (lv : Value) (T : Tm), Glob M → C M → RS M RTk 3 t lv → g t ≠ .out → CtT Tryz.prog gf (fa ++ fc) T M (pL pb lv en op) [] (postP pb en op enc (g t)) (panP pb en (g t)))
    (hE : ∀ x v M, enc x v M → ∃ cs, v.cells.toList = cs ∧ r M x cs) (hsz : ∀ M x cs, r M x cs → cs.length = 8) (hone : ∀ M x cs, r M x cs → ∀ u ∈ cs, u.oneCell' = true) (hext : ∀ M M' x cs, Ext M M' → r M x cs → r M' x cs)
    (hC : ∀ M M', Ext M M' → C M → C M') (hC0 : C M) (hmost : most ≤ 400) (hg : Glob M) (hl : RS M RTk 3 toks lv) (hne : someM en g most toks ≠ .out) (T : Tm) :
    CtT Tryz.prog 184 [.pointer (some ⟨pb, 0, none⟩), .int .i64 (most : Int), .func (.func gf) ⟨fa⟩ ⟨fc⟩] T M (pL pb lv en op) [] (postP pb en op (fun l v M => RS M (r M) 8 l v) (someM en g most toks)) (panP pb en (someM en g most toks)) := by
  refine ct_run mx bod184 Tryz.func184 rfl (by rw [nt184]; exact Nat.le_of_ble_eq_true rfl) (dr := dr184) (by kernel_rfl) rs184 ?_
  intro hno _
  simp only [noneL_pL] at hno
  simp +contextual only [go_sem, Rcb, Rbk, sevalprocAttr]
  refine loop_rule (fun m e ds h => ds = [] ∧ e 0 = .pointer (some ⟨pb, 0, none⟩) ∧ e 1 = .int .i64 (most : Int) ∧ e 2 = .func (.func gf) ⟨fa⟩ ⟨fc⟩ ∧
    ∃ M' t' lv' acc, m + acc.length = most ∧ Ext M M' ∧ M' pb = none ∧ RS M' RTk 3 t' lv' ∧ someM en g most toks = (someM en g m t').bind (fun l t => .ok (acc ++ l) t) ∧
      ((acc = [] ∧ e 7 = .slice none 0 0 ∧ h = ⟨T, M', pL pb lv' en op, []⟩) ∨ ∃ ra rc xs, e 7 = .slice ra acc.length rc ∧ RL (r M') acc xs ∧ h = ⟨T, M', pL pb lv' en op, [(.slice ra acc.length rc, 161, 8, xs)]⟩))
    ⟨most, rfl, by simp only [go_sem, Rcb, Rbk, sevalprocAttr], by simp only [go_sem, Rcb, Rbk, sevalprocAttr], by simp only [go_sem, Rcb, Rbk, sevalprocAttr], M, toks, lv, [], by simp, Ext.rfl', hno, hl, by cases someM en g most toks <;> rfl, .inl ⟨rfl, by simp only [go_sem, Rcb, Rbk, sevalprocAttr], rfl⟩⟩ ?_
  rintro m e ds h ⟨rfl, e0, e1, e2, M1, t1, lv1, acc, hm, hM1, np, hl1, hres, hcase⟩
  have hg1 := hg.ext hM1
  cases m with
  | zero =>
    have hlen : (acc.length : Int) = (most : Int) := by omega
    have herr : someM en g most toks = .err 5 (atM en t1) := hres
    rcases hcase with ⟨rfl, e7, rfl⟩ | ⟨ra, rc, xs, e7, hxs, rfl⟩
    · have hlen : (0 : Int) = (most : Int) := by simpa using hlen
      simp +contextual only [go_sem, Rcb, Rbk, sevalprocAttr, e0, e1, e2, e7, hlen]
      refine at_p [] hl1 ?_
      simp +contextual only [go_sem, Rcb, Rbk, sevalprocAttr]
      exact fail_p [] ExtT.rfl' herr
    · simp +contextual only [go_sem, Rcb, Rbk, sevalprocAttr, e0, e1, e2, e7, hlen]
      refine at_p [] hl1 ?_
      simp +contextual only [go_sem, Rcb, Rbk, sevalprocAttr]
      exact fail_p [] ExtT.rfl' herr
  | succ m =>
    have hlen : ¬ (acc.length : Int) = (most : Int) := by omega
    simp only [someM, Rs.bind_assoc] at hres
    rcases hcase with ⟨rfl, e7, rfl⟩ | ⟨ra, rc, xs, e7, hxs, rfl⟩
    · have hlen : ¬ (0 : Int) = (most : Int) := by simpa using hlen
      simp +contextual only [go_sem, Rcb, Rbk, sevalprocAttr, e0, e1, e2, e7, hlen]
      refine part_b [] ExtT.rfl' hres hne (fun h => hgc M1 t1 lv1 T hg1 (hC _ _ hM1 hC0) hl1 h) ?_
      rintro v M2 a t2 lv2 hM2 hno2 hres hl2 hv
      obtain ⟨cs, hcs, hr⟩ := hE _ _ _ hv
      have hcl := hsz _ _ _ hr
      simp only [List.cons_append, List.nil_append, noneL, noneL_pL] at hno2
      have hcs2 := hcs
      simp only [Value.cells] at hcs2
      simp +contextual only [go_sem, Rcb, Rbk, sevalprocAttr, e0, e1, e2, e7, hcs, hcs2, hcl, hno2]
      intro b hb hapb
      refine app_nil row77 okt77 (.slice _ 1 _ _ _ Tryz.underlying77 (cells_own [] hb trivial (by rw [hcl])) (hone _ _ _ hr)) (by rw [hcl]; decide) ?_
      intro ra rm rc hrm
      have hrm1 : rm = 1 := by rw [hcl] at hrm; omega
      subst hrm1
      simp +contextual only [go_sem, Rcb, Rbk, sevalprocAttr, e0, e1, e2]
      refine is_c [(b, _)] sComma hl2 (fun hs lv3 hl3 => ?_) (fun hs lv3 hl3 => ?_)
      · rw [if_pos hs, Rs.bind_assoc] at hres
        simp +contextual only [go_sem, Rcb, Rbk, sevalprocAttr, e0, e1, e2]
        rw [Run_lp]
        refine Close_drop (Close_id ⟨m, by omega, rfl, ?_, ?_, ?_, M2, t2.tail, lv3, [a], by simp only [List.length_cons, List.length_nil] at hm ⊢; omega, hM1.trans hM2, hno2, hl3, hres, .inr ⟨ra, rc, cs, ?_, RL_one hr, rfl⟩⟩)
        all_goals simp only [e0, e1, e2, go_sem, Rcb, Rbk, sevalprocAttr]
      · rw [if_neg (by simp [hs])] at hres
        simp +contextual only [go_sem, Rcb, Rbk, sevalprocAttr, e0, e1, e2]
        refine Close_drop (Close_row fun M3 hM3 hno3 hsl => end_id ExtT.rfl' rfl rfl ?_)
        exact ⟨[a], t2, lv3, hres, rfl, RS_ext hM3 (fun _ _ h => h) hl3, rfl, ⟨by simp, cs, hsl, RL_one (hext _ _ _ _ hM3 hr)⟩⟩
    · simp +contextual only [go_sem, Rcb, Rbk, sevalprocAttr, e0, e1, e2, e7, hlen]
      refine part_b [] ExtT.rfl' hres hne (fun h => hgc M1 t1 lv1 T hg1 (hC _ _ hM1 hC0) hl1 h) ?_
      rintro v M2 a t2 lv2 hM2 hno2 hres hl2 hv
      obtain ⟨cs, hcs, hr⟩ := hE _ _ _ hv
      have hcl := hsz _ _ _ hr
      have hxl := RL_len (hsz M1) hxs
      have hxs2 : RL (r M2) acc xs := RL_mono (fun x cs h => hext _ _ _ _ hM2 h) hxs
      simp only [List.cons_append, List.nil_append, noneL, noneL_pL] at hno2
      have hcs2 := hcs
      simp only [Value.cells] at hcs2
      simp +contextual only [go_sem, Rcb, Rbk, sevalprocAttr, e0, e1, e2, e7, hcs, hcs2, hcl, hno2]
      intro b hb hapb
      refine app_row row77 okt77 (.slice _ 1 _ _ _ Tryz.underlying77 (cells_own [] hb trivial (by rw [hcl])) (hone _ _ _ hr)) (by rw [hcl, hxl]; omega) ?_
      intro ra' rm rc' hrm
      have hrm1 : rm = (acc ++ [a]).length := by
        rw [hcl, hxl] at hrm
        rw [List.length_append, List.length_cons, List.length_nil]
        omega
      subst hrm1
      have hacc := RL_append hxs2 (RL_one hr)
      simp +contextual only [go_sem, Rcb, Rbk, sevalprocAttr, e0, e1, e2]
      refine is_c [(b, _)] sComma hl2 (fun hs lv3 hl3 => ?_) (fun hs lv3 hl3 => ?_)
      · rw [if_pos hs, Rs.bind_assoc] at hres
        simp +contextual only [go_sem, Rcb, Rbk, sevalprocAttr, e0, e1, e2]
        rw [Run_lp]
        refine Close_drop (Close_id ⟨m, by omega, rfl, ?_, ?_, ?_, M2, t2.tail, lv3, acc ++ [a], by rw [List.length_append]; simp only [List.length_cons, List.length_nil]; omega, hM1.trans hM2, hno2, hl3, ?_, .inr ⟨ra', rc', xs ++ cs, ?_, hacc, rfl⟩⟩)
        · simp only [e0, e1, e2, go_sem, Rcb, Rbk, sevalprocAttr]
        · simp only [e0, e1, e2, go_sem, Rcb, Rbk, sevalprocAttr]
        · simp only [e0, e1, e2, go_sem, Rcb, Rbk, sevalprocAttr]
        · rw [hres]
          congr 1
          funext l t
          simp [Rs.bind]
        · simp only [updo_get, go_sem, Rcb, Rbk, sevalprocAttr]
      · rw [if_neg (by simp [hs])] at hres
        simp +contextual only [go_sem, Rcb, Rbk, sevalprocAttr, e0, e1, e2]
        refine Close_drop (Close_row fun M3 hM3 hno3 hsl => end_id ExtT.rfl' rfl rfl ?_)
        exact ⟨acc ++ [a], t2, lv3, hres, rfl, RS_ext hM3 (fun _ _ h => h) hl3, rfl, ⟨by rw [List.length_append]; simp only [List.length_cons, List.length_nil]; omega, xs ++ cs, hsl, RL_mono (fun x cs h => hext _ _ _ _ hM3 h) hacc⟩⟩
def valM (en : Int) (t : List Tk) : Rs V := (valueM en t).bind fun o t => match o with
  | some v => .ok v t
  | none => .err 2 (atM en t)
theorem intM_ne {en : Int} {t : List Tk} : intM en t ≠ .out := by
  unfold intM
  generalize (if seesM minus t = true then t.tail else t) = u
  cases u with
  | nil => simp [intT]
  | cons t r =>
    simp only [intT]
    split
    · split <;> simp
    · simp
theorem valueM_ne {en : Int} {t : List Tk} : valueM en t ≠ .out := by
  unfold valueM
  repeat' split
  all_goals first | simp | skip
  intro h
  cases hn : intM en t with
  | out => exact intM_ne hn
  | ok a r => rw [hn] at h; cases h
  | err e a => rw [hn] at h; cases h
theorem valM_ne {en : Int} {t : List Tk} : valM en t ≠ .out := by
  unfold valM
  cases hn : valueM en t with
  | out => exact (valueM_ne hn).elim
  | ok a r => simp only [Rs.bind]; split <;> simp
  | err e a => simp [Rs.bind]
def encVal (x : V) (v : Value) (_ : Mem) : Prop := v = .agg ⟨x.cs⟩
theorem ct_row1 {M : Mem} {pb bc : Nat} {toks : List Tk} {lv : Value} {en op : Int} (hc : M bc = some [.pointer (some ⟨pb, 0, none⟩)]) (hl : RS M RTk 3 toks lv) (T : Tm) :
    CtT Tryz.prog 150 [.pointer (some ⟨bc, 0, none⟩)] T M (pL pb lv en op) [] (postP pb en op encVal (valM en toks)) (panP pb en (valM en toks)) := by
  refine ct_run mx bod150 Tryz.func150 rfl (by rw [nt150]; exact Nat.le_of_ble_eq_true rfl) (dr := dr150) (by kernel_rfl) rs150 ?_
  intro hno _
  simp only [noneL_pL] at hno
  simp +contextual only [go_sem, Rcb, Rbk, sevalprocAttr, mcell_some hc]
  intro b2 T2 hb2 hap2 hT2 hTb2
  refine part_b [(b2, _)] hT2 rfl valM_ne (fun _ => ct_p_value hl T2) ?_
  rintro v M1 o t lv1 hM1 hno1 hres hl1 hv
  have hc1 := hM1 _ _ hc
  simp only [List.cons_append, List.nil_append, noneL, noneL_pL] at hno1
  cases o with
  | some x =>
    simp only [encV] at hv; subst hv
    simp +contextual only [go_sem, Rcb, Rbk, sevalprocAttr, hno1, hap2, V.cs]
    intro b3 T3 hb3 hap3 hT3 hTb3
    refine Close_drop (Close_drop (end_id (hT2.trans hT3) rfl rfl ?_))
    exact ⟨x, t, lv1, hres, rfl, hl1, rfl, rfl⟩
  | none =>
    simp only [encV] at hv; subst hv
    simp +contextual only [go_sem, Rcb, Rbk, sevalprocAttr, hno1, hap2, V.cs, mcell_some hc1]
    intro b3 T3 hb3 hap3 hT3 hTb3
    refine at_p [(b3, _), (b2, _)] hl1 ?_
    simp +contextual only [go_sem, Rcb, Rbk, sevalprocAttr]
    exact fail_p [(b3, _), (b2, _)] (hT2.trans hT3) hres
def rowM (en : Int) (t : List Tk) : Rs (List V) := (needM en [sOpen] t).bind fun _ t => (someM en (valM en) 8 t).bind fun l t => (needM en [sClose] t).bind fun _ t => .ok l t
theorem bind_ne {α β : Type} {g : Rs α} {f : α → List Tk → Rs β} (hg : g ≠ .out) (hf : ∀ a t, f a t ≠ .out) : g.bind f ≠ .out := by
  cases g with
  | out => exact (hg rfl).elim
  | ok a t => exact hf a t
  | err e a => simp [Rs.bind]
theorem someM_ne {α : Type} {en : Int} {g : List Tk → Rs α} (hg : ∀ t, g t ≠ .out) : ∀ {n t}, someM en g n t ≠ .out := by
  intro n
  induction n with
  | zero => intro t; simp [someM]
  | succ n ih =>
    intro t
    refine bind_ne (hg t) fun a t => ?_
    split
    · exact bind_ne ih fun _ _ => by simp
    · simp
theorem rowM_ne {en : Int} {t : List Tk} : rowM en t ≠ .out := bind_ne needM_ne fun _ _ => bind_ne (someM_ne fun _ => valM_ne) fun _ _ => bind_ne needM_ne fun _ _ => by simp
def encRow (l : List V) (v : Value) (M : Mem) : Prop := RS M RV 3 l v
theorem RV_len {v : V} {cs} (h : RV v cs) : cs.length = 3 := by unfold RV at h; subst h; rfl
theorem ct_row {M : Mem} {pb : Nat} {toks : List Tk} {lv : Value} {en op : Int} (hg : Glob M) (hl : RS M RTk 3 toks lv) (T : Tm) :
    CtT Tryz.prog 100 [.pointer (some ⟨pb, 0, none⟩)] T M (pL pb lv en op) [] (postP pb en op encRow (rowM en toks)) (panP pb en (rowM en toks)) := by
  refine ct_run mx bod100 Tryz.func100 rfl (by rw [nt100]; exact Nat.le_of_ble_eq_true rfl) (dr := dr100) (by kernel_rfl) rs100 ?_
  intro hno _
  simp only [noneL_pL] at hno
  simp +contextual only [go_sem, Rcb, Rbk, sevalprocAttr]
  intro b1 T1 hb1 hap1 hT1 hTb1 b5 hb5 hap5
  refine need_b [(b1, _)] hT1 rfl hl ?_
  intro M2 lv2 hM2 hno2 hres hl2
  simp only [List.cons_append, List.nil_append, noneL, noneL_pL] at hno2
  simp +contextual only [go_sem, Rcb, Rbk, sevalprocAttr, hno2, hap1]
  refine rCall_frz bod149 fun M3 hM3 hb3 hno3 => ?_
  have hl3 := RS_ext hM3 (fun _ _ h => h) hl2
  have hne := rowM_ne (en := en) (t := toks)
  refine part_b [] hT1 hres hne (fun h => ct_some_V (fa := []) (fc := [.pointer (some ⟨b1, 0, none⟩)]) (C := fun M => M b1 = some [.pointer (some ⟨pb, 0, none⟩)]) (r := fun _ => RV) 8
    (fun M t lv T _ hc hl _ => ct_row1 hc hl T) (fun x v M h => ⟨x.cs, by unfold encVal at h; subst h; rfl, rfl⟩) (fun _ _ _ h => RV_len h) (fun _ x _ h => by unfold RV at h; subst h; intro u hu; simp only [V.cs, List.mem_cons, List.not_mem_nil, or_false] at hu; rcases hu with rfl | rfl | rfl <;> rfl)
    (fun _ _ _ _ _ h => h) (fun M M' he h => he _ _ h) hb3 (by decide) ((hg.ext hM2).ext hM3) hl3 h T1) ?_
  rintro v M4 l t lv4 hM4 hno4 hres hl4 hv
  have hc4 := hM4 _ _ hb3
  simp only [List.cons_append, List.nil_append, noneL, noneL_pL] at hno4
  simp +contextual only [go_sem, Rcb, Rbk, sevalprocAttr, mcell_some hc4]
  intro b6 hb6 hap6
  refine need_b [] hT1 hres hl4 ?_
  intro M5 lv5 hM5 hno5 hres hl5
  simp +contextual only [go_sem, Rcb, Rbk, sevalprocAttr]
  refine end_id hT1 rfl rfl ?_
  exact ⟨l, _, lv5, hres, rfl, hl5, rfl, RS_ext hM5 (fun _ _ h => h) hv⟩
abbrev wSelect : Bs := [115, 101, 108, 101, 99, 116]
abbrev wDistinct : Bs := [100, 105, 115, 116, 105, 110, 99, 116]
abbrev wFrom : Bs := [102, 114, 111, 109]
abbrev wWhere : Bs := [119, 104, 101, 114, 101]
abbrev wGroup : Bs := [103, 114, 111, 117, 112]
abbrev wBy : Bs := [98, 121]
abbrev wHaving : Bs := [104, 97, 118, 105, 110, 103]
abbrev wOrder : Bs := [111, 114, 100, 101, 114]
abbrev wLimit : Bs := [108, 105, 109, 105, 116]
abbrev wCreate : Bs := [99, 114, 101, 97, 116, 101]
abbrev wView : Bs := [118, 105, 101, 119]
abbrev wTable : Bs := [116, 97, 98, 108, 101]
abbrev wInsert : Bs := [105, 110, 115, 101, 114, 116]
abbrev wInto : Bs := [105, 110, 116, 111]
abbrev wValues : Bs := [118, 97, 108, 117, 101, 115]
abbrev wDelete : Bs := [100, 101, 108, 101, 116, 101]
abbrev wShow : Bs := [115, 104, 111, 119]
def joinsM (en : Int) (ex : List Tk → Rs X) : Nat → List Tk → Rs (List So)
  | room, t => (joinM en t).bind fun k t => if 0 < k then (match room with
      | 0 => .err 5 (atM en t)
      | r + 1 => (sourceM en ex k t).bind fun s t => (joinsM en ex r t).bind fun l t => .ok (s :: l) t) else .ok [] t
def joinsB (en : Int) (ex : List Tk → Rs X) (room : Nat) (k : Int) (t : List Tk) : Rs (List So) := if 0 < k then (match room with
      | 0 => .err 5 (atM en t)
      | r + 1 => (sourceM en ex k t).bind fun s t => (joinsM en ex r t).bind fun l t => .ok (s :: l) t) else .ok [] t
theorem joinsM_eq (en : Int) (ex : List Tk → Rs X) (room : Nat) (t : List Tk) : joinsM en ex room t = (joinM en t).bind (joinsB en ex room) := by
  cases room <;> rfl
def tl (b : Bool) (t : List Tk) : List Tk := if b = true then t.tail else t
def optX (ex : List Tk → Rs X) (w : Bs) (t : List Tk) : Rs X := if seesM w t = true then ex t.tail else .ok zeroX t
def optG (en : Int) (ex : List Tk → Rs X) (t : List Tk) : Rs (List X) := if seesM wGroup t = true then (needM en [wBy] t.tail).bind fun _ t => someM en ex 8 t else .ok [] t
def selK4 (ex : List Tk → Rs X) (d s : Bool) (items : List It) (src : List So) (w : Bool) (wh : X) (group : List X) (t : List Tk) : Rs Se :=
  (optX ex wHaving t).bind fun hv t' => .ok ⟨d, s, items, src, w, seesM wHaving t, wh, hv, group⟩ t'
def selK3 (en : Int) (ex : List Tk → Rs X) (d s : Bool) (items : List It) (src : List So) (w : Bool) (wh : X) (t : List Tk) : Rs Se :=
  (optG en ex t).bind fun group t => selK4 ex d s items src w wh group t
def selK2 (en : Int) (ex : List Tk → Rs X) (d s : Bool) (items : List It) (src : List So) (t : List Tk) : Rs Se :=
  (optX ex wWhere t).bind fun wh t' => selK3 en ex d s items src (seesM wWhere t) wh t'
def selK1 (en : Int) (ex : List Tk → Rs X) (d s : Bool) (items : List It) (t : List Tk) : Rs Se :=
  (needM en [wFrom] t).bind fun _ t => (sourceM en ex 1 t).bind fun s0 t => (joinsM en ex 3 t).bind fun src t => selK2 en ex d s items (s0 :: src) t
def selM (en : Int) (ex : List Tk → Rs X) (t : List Tk) : Rs Se :=
  (needM en [wSelect] t).bind fun _ t0 =>
  (if seesM sStar (tl (seesM wDistinct t0) t0) = true then .ok [] (tl (seesM wDistinct t0) t0).tail else someM en (itemM en ex) 8 (tl (seesM wDistinct t0) t0)).bind fun items t =>
  selK1 en ex (seesM wDistinct t0) (seesM sStar (tl (seesM wDistinct t0) t0)) items t
def encSe (i : Se) (v : Value) (M : Mem) : Prop := ∃ cs, v = .agg ⟨cs⟩ ∧ RSe M i cs
theorem RIt_oneC {M : Mem} {x : It} {cs : List Value} (h : RIt M x cs) : ∀ u ∈ cs, u.oneCell' = true := by
  obtain ⟨c, hx, rfl⟩ := h
  intro u hu
  rcases List.mem_append.1 hu with hu | hu
  · exact RX_oneC hx u hu
  · simp only [List.mem_singleton] at hu; subst hu; rfl
theorem RSo_oneC {M : Mem} {x : So} {cs : List Value} (h : RSo M x cs) : ∀ u ∈ cs, u.oneCell' = true := by
  obtain ⟨c, hx, rfl⟩ := h
  intro u hu
  rcases List.mem_append.1 hu with hu | hu
  · simp only [List.mem_cons, List.not_mem_nil, or_false] at hu
    rcases hu with rfl | rfl | rfl <;> rfl
  · exact RX_oneC hx u hu
theorem RS_one {α : Type} {r : α → List Value → Prop} {sz : Nat} {M : Mem} {l : List α} {v : Value} (h : RS M r sz l v) : v.oneCell' = true ∧ v.cells.toList = [v] := by
  obtain ⟨_, _, h2, _⟩ := h
  rcases h2 with ⟨_, _, rfl, _⟩ | ⟨b, o, n, c, rfl, _⟩ <;> exact ⟨rfl, rfl⟩
theorem RS_nil {α : Type} {r : α → List Value → Prop} {sz : Nat} {M : Mem} : RS M r sz [] (.slice none 0 0) := ⟨Nat.zero_le _, [], .inl ⟨_, _, rfl, rfl, fun _ => rfl⟩, rfl⟩
theorem RSo_form {M : Mem} {x : So} {cs : List Value} (h : RSo M x cs) : ∃ a1 a2 a3 a4 a5 a6 a7, cs = [.int .i64 x.k, st x.name, st x.as, a1, a2, a3, a4, a5, a6, a7] := by
  obtain ⟨c, hx, rfl⟩ := h
  obtain ⟨a1, a2, a3, a4, a5, a6, a7, rfl⟩ := cells7 (RX_len hx)
  exact ⟨a1, a2, a3, a4, a5, a6, a7, rfl⟩
def FromOk (M : Mem) (R : RR) (fv : Value) (acc : List So) : Prop :=
  (∃ bF xs, R = [] ∧ fv = .slice (some ⟨bF, 0, none⟩) 1 1 ∧ acc.length = 1 ∧ M bF = some xs ∧ RL (RSo M) acc xs) ∨
  (∃ ra rc xs, R = [(.slice ra acc.length rc, 75, 10, xs)] ∧ fv = .slice ra acc.length rc ∧ RL (RSo M) acc xs)
theorem FromOk_form {M : Mem} {R : RR} {fv : Value} {acc : List So} (h : FromOk M R fv acc) : ∃ a c, fv = .slice a acc.length c := by
  rcases h with ⟨bF, xs, _, rfl, h, _⟩ | ⟨ra, rc, xs, _, rfl, _⟩
  · exact ⟨_, _, by rw [h]⟩
  · exact ⟨_, _, rfl⟩
theorem FromOk_ext {M M' : Mem} {R : RR} {fv : Value} {acc : List So} (hM : Ext M M') (h : FromOk M R fv acc) : FromOk M' R fv acc := by
  rcases h with ⟨bF, xs, h1, h2, h3, h4, h5⟩ | ⟨ra, rc, xs, h1, h2, h3⟩
  · exact .inl ⟨bF, xs, h1, h2, h3, hM _ _ h4, RL_mono (fun x cs h => RSo_ext hM _ _ h) h5⟩
  · exact .inr ⟨ra, rc, xs, h1, h2, RL_mono (fun x cs h => RSo_ext hM _ _ h) h3⟩
theorem Close_from {N M L R fv acc} {k : Sh → Prop} (h : FromOk M R fv acc) (hb : acc.length ≤ 400) (hk : ∀ M', Ext M M' → noneL M' L → RS M' (RSo M') 10 acc fv → Close ⟨N, M', L, []⟩ k) (hno : noneL M L) : Close ⟨N, M, L, R⟩ k := by
  rcases h with ⟨bF, xs, rfl, rfl, h3, h4, h5⟩ | ⟨ra, rc, xs, rfl, rfl, h3⟩
  · exact hk M Ext.rfl' hno (RS_lit (fun _ _ => RSo_len) h4 h5 h3 (by decide))
  · exact Close_row fun M' hM hno' hsl => hk M' hM hno' ⟨by omega, xs, hsl, RL_mono (fun x cs h => RSo_ext hM _ _ h) h3⟩
theorem app_from {F : Fi} {s : List Vc.Item} {e : Env} {ds : List Deferred} {dd : Option Nat} {T : Tm} {M : Mem} {L : LL} {R : RR} {b a n c} {acc : List So} {x : So} {cs : List Value} (hf : FromOk M R (.slice a n c) acc) (hx : RSo M x cs) (hb : M b = none) (hlen : acc.length ≤ 400)
    (k : ∀ a' c' R', FromOk M R' (.slice a' (acc.length + 1) c') (acc ++ [x]) → Run Tryz.prog F s (updo e dd (.slice a' (acc.length + 1) c')) ds ⟨T, M, (b, cs) :: L, R'⟩ ⟨⟩) :
    rApp Tryz.prog F 76 76 (.slice a n c) (.slice (some ⟨b, 0, none⟩) 1 1) dd s e ds ⟨T, M, (b, cs) :: L, R⟩ ⟨⟩ := by
  have hcl := RSo_len hx
  rcases hf with ⟨bF, xs, rfl, h2, h3, h4, h5⟩ | ⟨ra, rc, xs, rfl, h2, h3⟩
  · injection h2 with h2 h2' h2''; subst h2 h2' h2''
    have hxl := RL_len (fun _ _ => RSo_len) h5
    rw [h3] at hxl
    refine app_read row76 okt76 (.slice _ 1 _ _ _ Tryz.underlying76 (cells_own [] hb trivial (by rw [hcl])) (RSo_oneC hx)) (xs := xs) ?_ (by rw [hcl]; decide) (by rw [hcl, hxl]; decide) ?_
    · have := cells_of (h := ⟨T, M, (b, cs) :: L, []⟩) (b := bF) (cs := xs) (fun o v hv => by
        have : mcell M ⟨bF, o, none⟩ = some v := by rw [mcell_some h4]; exact hv
        simp only [Sh.cell, this]) 10 0 (by omega)
      simpa using this
    · intro ra rm rc hrm
      have : rm = acc.length + 1 := by rw [hcl, hxl] at hrm; omega
      subst this
      exact k _ _ _ (.inr ⟨_, _, _, by rw [List.length_append]; rfl, by rw [List.length_append]; rfl, RL_append h5 (RL_one hx)⟩)
  · injection h2 with h2 h2' h2''; subst h2 h2' h2''
    have hxl := RL_len (fun _ _ => RSo_len) h3
    refine app_row row76 okt76 (.slice _ 1 _ _ _ Tryz.underlying76 (cells_own [] hb trivial (by rw [hcl])) (RSo_oneC hx)) (by rw [hcl, hxl]; omega) ?_
    intro ra rm rc hrm
    have : rm = acc.length + 1 := by rw [hcl, hxl] at hrm; omega
    subst this
    exact k _ _ _ (.inr ⟨_, _, _, by rw [List.length_append]; rfl, by rw [List.length_append]; rfl, RL_append h3 (RL_one hx)⟩)
theorem ct_sel {M : Mem} {pb : Nat} {toks : List Tk} {lv : Value} {en op : Int} {ex : List Tk → Rs X} (hg : Glob M) (hl : RS M RTk 3 toks lv) (hex : ExC en pb ex op) (hne : selM en ex toks ≠ .out) (T : Tm) :
    CtT Tryz.prog 145 [.pointer (some ⟨pb, 0, none⟩)] T M (pL pb lv en op) [] (postP pb en op encSe (selM en ex toks)) (panP pb en (selM en ex toks)) := by
  refine ct_run mx bod145 Tryz.func145 rfl (by rw [nt145]; exact Nat.le_of_ble_eq_true rfl) (dr := dr145) (by kernel_rfl) rs145 ?_
  intro hno _
  simp only [noneL_pL] at hno
  simp +contextual only [go_sem, Rcb, Rbk, sevalprocAttr]
  intro b2 T2 hb2 hap2 hT2 hTb2 b5 hb5 hap5
  refine need_b [(b2, _)] hT2 rfl hl ?_
  intro M1 lv1 hM1 hno1 hres hl1
  simp only [List.cons_append, List.nil_append, noneL, noneL_pL] at hno1
  simp +contextual only [go_sem, Rcb, Rbk, sevalprocAttr, hno1, hap2]
  refine is_p [(b2, _)] wDistinct hl1 ?_
  intro lv2 hl2
  change RS M1 RTk 3 (tl (seesM wDistinct toks.tail) toks.tail) lv2 at hl2
  simp +contextual only [go_sem, Rcb, Rbk, sevalprocAttr, hno1, hap2]
  intro b3 T3 hb3 hap3 hT3 hTb3
  have hT := hT2.trans hT3
  generalize seesM wDistinct toks.tail = d at hres hl2 ⊢
  generalize tl d toks.tail = t0 at hres hl2 ⊢
  refine is_p [(b3, _), (b2, _)] sStar hl2 ?_
  intro lv3 hl3
  generalize seesM sStar t0 = sb at hres hl3 ⊢
  simp +contextual only [go_sem, sevalprocAttr, hno1, hap2, hap3, hb3]
  refine cond_cut (fun e ds h => ds = [] ∧ e 0 = .pointer (some ⟨pb, 0, none⟩) ∧ e 2 = .pointer (some ⟨b2, 0, none⟩) ∧ e 3 = .pointer (some ⟨b3, 0, none⟩) ∧
    ∃ M' t lv' items iv, Ext M1 M' ∧ M' b3 = none ∧ M' b2 = none ∧ M' pb = none ∧ RS M' RTk 3 t lv' ∧ RS M' (RIt M') 8 items iv ∧ selM en ex toks = selK1 en ex d sb items t ∧
      h = ⟨T3, M', (b3, [.bool d, .bool sb, iv, .slice none 0 0, .bool false, .bool false, .int .i64 0, .int .i64 0, .int .i64 0, st [], st [], st [], .slice none 0 0, .int .i64 0, .int .i64 0, .int .i64 0, st [], st [], st [], .slice none 0 0, .slice none 0 0]) :: (b2, [.bool false, .bool false, .slice none 0 0, .slice none 0 0, .bool false, .bool false, .int .i64 0, .int .i64 0, .int .i64 0, st [], st [], st [], .slice none 0 0, .int .i64 0, .int .i64 0, .int .i64 0, st [], st [], st [], .slice none 0 0, .slice none 0 0]) :: pL pb lv' en op, []⟩) (fun S' hS' => ?_) ?_
  · cases sb with
    | true =>
      simp only [if_true] at hres hl3
      simp +contextual only [go_sem, Rcb, Rbk, sevalprocAttr]
      refine hS' _ _ _ ⟨rfl, ?_, ?_, ?_, M1, _, lv3, [], _, Ext.rfl', hb3, hno1.1, hno1.2, hl3, RS_nil, hres, rfl⟩
      all_goals simp only [go_sem, Rcb, Rbk, sevalprocAttr]
    | false =>
      simp only [if_false, Bool.false_eq_true] at hres hl3
      simp +contextual only [go_sem, Rcb, Rbk, sevalprocAttr]
      refine part_b [(b3, _), (b2, _)] hT hres hne (fun h => ct_some_It (fa := [.pointer (some ⟨pb, 0, none⟩)]) (fc := []) (C := fun _ => True) (r := RIt) (enc := encIt) (g := itemM en ex) 8
        (fun M t lv T hg _ hl hne => ct_item hg hl hex hne T) (fun x v M h => by obtain ⟨cs, rfl, h⟩ := h; exact ⟨cs, rfl, h⟩) (fun _ _ _ h => RIt_len h) (fun _ _ _ h => RIt_oneC h) (fun _ _ _ _ he h => RIt_ext he _ _ h)
        (fun _ _ _ h => h) trivial (by decide) (hg.ext hM1) hl3 h T3) ?_
      rintro v M2 items t lv4 hM2 hno2 hres hl4 hv
      obtain ⟨hv1, hv2⟩ := RS_one hv
      have hv3 := hv2
      simp only [Value.cells] at hv3
      simp only [List.cons_append, List.nil_append, noneL, noneL_pL] at hno2
      simp +contextual only [go_sem, Rcb, Rbk, sevalprocAttr, hno2, hap2, hap3, hv1, hv2, hv3]
      refine hS' _ _ _ ⟨rfl, ?_, ?_, ?_, M2, _, lv4, items, _, hM2, hno2.1, hno2.2.1, hno2.2.2, hl4, hv, hres, rfl⟩
      all_goals simp only [go_sem, Rcb, Rbk, sevalprocAttr]
  clear hres hl1 hl2 hl3
  rintro e ds h ⟨rfl, e0, e2, e3, M2, t, lv4, items, iv, hM2, n3, n2, np, hl4, hiv, hres, rfl⟩
  simp +contextual only [go_sem, Rcb, Rbk, sevalprocAttr, e0, e2, e3]
  intro b4 hb4 hap4
  refine need_b [(b3, _), (b2, _)] hT hres hl4 ?_
  intro M3 lv5 hM3 hno3 hres hl5
  simp +contextual only [go_sem, Rcb, Rbk, sevalprocAttr, e0, e2, e3]
  have hg3 := (hg.ext hM1).ext (hM2.trans hM3)
  refine part_b [(b3, _), (b2, _)] hT hres hne (fun h => ct_psource hg3 hl5 hex h T3) ?_
  rintro v M4 s0 t4 lv6 hM4 hno4 hres hl6 ⟨cs, rfl, hso⟩
  obtain ⟨a1, a2, a3, a4, a5, a6, a7, rfl⟩ := RSo_form hso
  simp only [List.cons_append, List.nil_append, noneL, noneL_pL] at hno4
  simp +contextual only [go_sem, Rcb, Rbk, sevalprocAttr, hno4, hap2, hap3, e0, e2, e3]
  intro bF hbF hapF
  refine rCall_frz bod187 fun M5 hM5 hbF' hno5 => ?_
  simp only [List.cons_append, List.nil_append, noneL, noneL_pL] at hno5
  rw [joinsM_eq, Rs.bind_assoc] at hres
  refine part_b [(b3, _), (b2, _)] hT hres hne (fun _ => ct_join (RS_ext hM5 (fun _ _ h => h) hl6) T3) ?_
  rintro v M6 k t5 lv7 hM6 hno6 hres hl7 rfl
  simp only [List.cons_append, List.nil_append, noneL, noneL_pL] at hno6
  have hfrom : FromOk M6 [] (.slice (some ⟨bF, 0, none⟩) 1 1) [s0] := .inl ⟨bF, _, rfl, rfl, rfl, hM6 _ _ hbF', RL_one (RSo_ext (hM5.trans hM6) _ _ hso)⟩
  simp +contextual only [go_sem, sevalprocAttr, e0, e2, e3]
  refine run_cut (fun e ds h => ds = [] ∧ e 0 = .pointer (some ⟨pb, 0, none⟩) ∧ e 2 = .pointer (some ⟨b2, 0, none⟩) ∧ e 3 = .pointer (some ⟨b3, 0, none⟩) ∧
    ∃ M' t lv' src fv R, Ext M2 M' ∧ M' b3 = none ∧ M' b2 = none ∧ M' pb = none ∧ RS M' RTk 3 t lv' ∧ src.length ≤ 4 ∧ FromOk M' R fv src ∧ selM en ex toks = selK2 en ex d sb items src t ∧
      h = ⟨T3, M', (b3, [.bool d, .bool sb, iv, fv, .bool false, .bool false, .int .i64 0, .int .i64 0, .int .i64 0, st [], st [], st [], .slice none 0 0, .int .i64 0, .int .i64 0, .int .i64 0, st [], st [], st [], .slice none 0 0, .slice none 0 0]) :: (b2, [.bool false, .bool false, .slice none 0 0, .slice none 0 0, .bool false, .bool false, .int .i64 0, .int .i64 0, .int .i64 0, st [], st [], st [], .slice none 0 0, .int .i64 0, .int .i64 0, .int .i64 0, st [], st [], st [], .slice none 0 0, .slice none 0 0]) :: pL pb lv' en op, R⟩) (fun S' hS' => ?_) ?_
  · clear hl5 hl6 hl4
    simp +contextual only [go_sem, Rcb, Rbk, sevalprocAttr, e0, e2, e3]
    refine loop_rule (fun m e ds h => ds = [] ∧ e 0 = .pointer (some ⟨pb, 0, none⟩) ∧ e 2 = .pointer (some ⟨b2, 0, none⟩) ∧ e 3 = .pointer (some ⟨b3, 0, none⟩) ∧
      ∃ M' t lv' k src fv R, e 4 = .int .i64 k ∧ m + src.length = 4 ∧ Ext M6 M' ∧ M' b3 = none ∧ M' b2 = none ∧ M' pb = none ∧ RS M' RTk 3 t lv' ∧ FromOk M' R fv src ∧
        selM en ex toks = (joinsB en ex m k t).bind (fun l t => selK2 en ex d sb items (src ++ l) t) ∧
        h = ⟨T3, M', (b3, [.bool d, .bool sb, iv, fv, .bool false, .bool false, .int .i64 0, .int .i64 0, .int .i64 0, st [], st [], st [], .slice none 0 0, .int .i64 0, .int .i64 0, .int .i64 0, st [], st [], st [], .slice none 0 0, .slice none 0 0]) :: (b2, [.bool false, .bool false, .slice none 0 0, .slice none 0 0, .bool false, .bool false, .int .i64 0, .int .i64 0, .int .i64 0, st [], st [], st [], .slice none 0 0, .int .i64 0, .int .i64 0, .int .i64 0, st [], st [], st [], .slice none 0 0, .slice none 0 0]) :: pL pb lv' en op, R⟩)
      ⟨3, rfl, ?_, ?_, ?_, M6, t5, lv7, k, [s0], _, [], ?_, rfl, Ext.rfl', hno6.1, hno6.2.1, hno6.2.2, hl7, hfrom, hres, rfl⟩ ?_
    all_goals first | (simp only [e0, e2, e3, go_sem, Rcb, Rbk, sevalprocAttr]; done) | skip
    clear hres e0 e2 e3 hl7 hfrom
    rintro m e ds h ⟨rfl, e0, e2, e3, M7, t7, lv8, k, src, fv, R, e4, hm, hM7, n3, n2, np, hl8, hfrom, hres, rfl⟩
    by_cases hk : 0 < k
    · obtain ⟨fa, fc, rfl⟩ := FromOk_form hfrom
      unfold joinsB at hres
      rw [if_pos hk] at hres
      cases m with
      | zero =>
        have hlen : (src.length : Int) = 4 := by omega
        simp +contextual only [go_sem, Rcb, Rbk, sevalprocAttr, e0, e2, e3, e4, hk, n3, n2, np, hap2, hap3, hlen]
        refine at_p [(b3, _), (b2, _)] hl8 ?_
        simp +contextual only [go_sem, Rcb, Rbk, sevalprocAttr]
        exact fail_p [(b3, _), (b2, _)] hT hres
      | succ m =>
        have hlen : ¬ (src.length : Int) = 4 := by omega
        simp only [Rs.bind_assoc] at hres
        simp +contextual only [go_sem, Rcb, Rbk, sevalprocAttr, e0, e2, e3, e4, hk, n3, n2, np, hap2, hap3, hlen]
        refine draw_at ⟨T, fun _ => none, [(b3, _)], []⟩ (Sub_hd n3) ?_
        simp +contextual only [go_sem, Rcb, Rbk, sevalprocAttr, e0, e2, e3, e4, hk, n3, n2, np, hap2, hap3, hlen]
        have hg7 := (hg.ext hM1).ext ((((hM2.trans hM3).trans hM4).trans hM5).trans (hM6.trans hM7))
        refine part_b [(b3, _), (b2, _)] hT hres hne (fun h => ct_psource hg7 hl8 hex h T3) ?_
        rintro v M8 so t8 lv9 hM8 hno8 hres hl9 ⟨cs, rfl, hso⟩
        obtain ⟨a1, a2, a3, a4, a5, a6, a7, rfl⟩ := RSo_form hso
        simp only [List.cons_append, List.nil_append, noneL, noneL_pL] at hno8
        simp +contextual only [go_sem, Rcb, Rbk, sevalprocAttr, hno8, hap2, hap3, e0, e2, e3]
        refine ⟨Sub_hd hno8.1, ?_⟩
        intro b8 hb8 hap8
        refine ⟨Sub_hd2 hno8.1 (fun h => hap8.1.2 h), ?_⟩
        refine app_from (FromOk_ext hM8 hfrom) hso hb8 (by omega) ?_
        intro fa' fc' R' hfrom'
        simp +contextual only [go_sem, Rcb, Rbk, sevalprocAttr, hno8, hap2, hap3, hap8, hb8, e0, e2, e3]
        rw [joinsM_eq, Rs.bind_assoc] at hres
        refine part_b [(b8, _), (b3, _), (b2, _)] hT hres hne (fun _ => ct_join hl9 T3) ?_
        rintro v M9 k' t9 lva hM9 hno9 hres hla rfl
        simp only [List.cons_append, List.nil_append, noneL, noneL_pL] at hno9
        simp +contextual only [go_sem, Rcb, Rbk, sevalprocAttr, e0, e2, e3]
        rw [Run_lp]
        refine Close_drop (Close_id ⟨m, by omega, rfl, ?_, ?_, ?_, M9, t9, lva, k', src ++ [so], _, R', ?_, ?_, (hM7.trans hM8).trans hM9, hno9.2.1, hno9.2.2.1, hno9.2.2.2, hla, FromOk_ext hM9 hfrom', ?_, rfl⟩)
        · simp only [e0, go_sem, Rcb, Rbk, sevalprocAttr]
        · simp only [e2, go_sem, Rcb, Rbk, sevalprocAttr]
        · simp only [e3, go_sem, Rcb, Rbk, sevalprocAttr]
        · simp only [go_sem, Rcb, Rbk, sevalprocAttr]
        · rw [List.length_append]; simp only [List.length_cons, List.length_nil]; omega
        · rw [hres]; congr 1; funext l t; simp [Rs.bind]
    · unfold joinsB at hres
      rw [if_neg hk] at hres
      simp +contextual only [go_sem, Rcb, Rbk, sevalprocAttr, e0, e2, e3, e4, hk]
      refine hS' _ _ _ ⟨rfl, ?_, ?_, ?_, M7, _, lv8, src, fv, R, ?_, n3, n2, np, hl8, by omega, hfrom, ?_, rfl⟩
      · simp only [e0, go_sem, Rcb, Rbk, sevalprocAttr]
      · simp only [e2, go_sem, Rcb, Rbk, sevalprocAttr]
      · simp only [e3, go_sem, Rcb, Rbk, sevalprocAttr]
      · exact ((hM3.trans hM4).trans hM5).trans (hM6.trans hM7)
      · rw [hres]; simp [Rs.bind]
  clear hres hno6 hl7 hfrom e0 e2 e3 hl4 hl5 hl6 hso hno4 hno3
  rintro e ds h ⟨rfl, e0, e2, e3, M3, t, lv4, src, fv, R, hM3, n3, n2, np, hl4, hsl, hfrom, hres, rfl⟩
  simp +contextual only [go_sem, Rcb, Rbk, sevalprocAttr, e0, e2, e3]
  refine is_p [(b3, _), (b2, _)] wWhere hl4 ?_
  intro lv5 hl5
  unfold selK2 optX at hres
  generalize seesM wWhere t = hw at hres hl5 ⊢
  simp +contextual only [go_sem, sevalprocAttr, n3, n2, np, hap2, hap3, e0, e2, e3]
  have hg3 := (hg.ext hM1).ext (hM2.trans hM3)
  refine cond_cut (fun e ds h => ds = [] ∧ e 0 = .pointer (some ⟨pb, 0, none⟩) ∧ e 2 = .pointer (some ⟨b2, 0, none⟩) ∧ e 3 = .pointer (some ⟨b3, 0, none⟩) ∧
    ∃ M' t lv' hw wh w1 w2 w3 w4 w5 w6 w7, Ext M3 M' ∧ M' b3 = none ∧ M' b2 = none ∧ M' pb = none ∧ RS M' RTk 3 t lv' ∧ RX M' wh [w1, w2, w3, w4, w5, w6, w7] ∧ selM en ex toks = selK3 en ex d sb items src hw wh t ∧
      h = ⟨T3, M', (b3, [.bool d, .bool sb, iv, fv, .bool hw, .bool false, w1, w2, w3, w4, w5, w6, w7, .int .i64 0, .int .i64 0, .int .i64 0, st [], st [], st [], .slice none 0 0, .slice none 0 0]) :: (b2, [.bool false, .bool false, .slice none 0 0, .slice none 0 0, .bool false, .bool false, .int .i64 0, .int .i64 0, .int .i64 0, st [], st [], st [], .slice none 0 0, .int .i64 0, .int .i64 0, .int .i64 0, st [], st [], st [], .slice none 0 0, .slice none 0 0]) :: pL pb lv' en op, R⟩) (fun S' hS' => ?_) ?_
  · cases hw with
    | false =>
      simp only [if_false, Bool.false_eq_true] at hres hl5
      simp +contextual only [go_sem, Rcb, Rbk, sevalprocAttr]
      refine hS' _ _ _ ⟨rfl, ?_, ?_, ?_, M3, _, lv5, _, _, _, _, _, _, _, _, _, Ext.rfl', n3, n2, np, hl5, RX_zero, hres, rfl⟩
      all_goals simp only [e0, e2, e3, go_sem, Rcb, Rbk, sevalprocAttr]
    | true =>
      simp only [if_true] at hres hl5
      simp +contextual only [go_sem, Rcb, Rbk, sevalprocAttr, e0, e2, e3]
      refine part_b [(b3, _), (b2, _)] hT hres hne (fun h => hex M3 _ lv5 T3 hg3 hl5 h) ?_
      rintro v M4 x t2 lv6 hM4 hno4 hres hl6 ⟨cs, rfl, hx⟩
      obtain ⟨s, rfl, h1, _⟩ := RX_form hx
      simp only [List.cons_append, List.nil_append, noneL, noneL_pL] at hno4
      simp +contextual only [go_sem, Rcb, Rbk, sevalprocAttr, hno4, hap2, hap3, h1, e0, e2, e3]
      refine hS' _ _ _ ⟨rfl, ?_, ?_, ?_, M4, _, lv6, _, _, _, _, _, _, _, _, _, hM4, hno4.1, hno4.2.1, hno4.2.2, hl6, hx, hres, rfl⟩
      all_goals simp only [e0, e2, e3, go_sem, Rcb, Rbk, sevalprocAttr]
  clear hres n3 n2 np hl4 hl5 e0 e2 e3
  rintro e ds h ⟨rfl, e0, e2, e3, M4, t, lv4, hw, wh, w1, w2, w3, w4, w5, w6, w7, hM4, n3, n2, np, hl4, hwh, hres, rfl⟩
  simp +contextual only [go_sem, Rcb, Rbk, sevalprocAttr, e0, e2, e3]
  refine is_p [(b3, _), (b2, _)] wGroup hl4 ?_
  intro lv5 hl5
  unfold selK3 optG at hres
  generalize seesM wGroup t = gw at hres hl5 ⊢
  simp +contextual only [go_sem, sevalprocAttr, n3, n2, np, hap2, hap3, e0, e2, e3]
  refine cond_cut (fun e ds h => ds = [] ∧ e 0 = .pointer (some ⟨pb, 0, none⟩) ∧ e 2 = .pointer (some ⟨b2, 0, none⟩) ∧ e 3 = .pointer (some ⟨b3, 0, none⟩) ∧
    ∃ M' t lv' group gv, Ext M4 M' ∧ M' b3 = none ∧ M' b2 = none ∧ M' pb = none ∧ RS M' RTk 3 t lv' ∧ RS M' (RX M') 7 group gv ∧ selM en ex toks = selK4 ex d sb items src hw wh group t ∧
      h = ⟨T3, M', (b3, [.bool d, .bool sb, iv, fv, .bool hw, .bool false, w1, w2, w3, w4, w5, w6, w7, .int .i64 0, .int .i64 0, .int .i64 0, st [], st [], st [], .slice none 0 0, gv]) :: (b2, [.bool false, .bool false, .slice none 0 0, .slice none 0 0, .bool false, .bool false, .int .i64 0, .int .i64 0, .int .i64 0, st [], st [], st [], .slice none 0 0, .int .i64 0, .int .i64 0, .int .i64 0, st [], st [], st [], .slice none 0 0, .slice none 0 0]) :: pL pb lv' en op, R⟩) (fun S' hS' => ?_) ?_
  · cases gw with
    | false =>
      simp only [if_false, Bool.false_eq_true] at hres hl5
      simp +contextual only [go_sem, Rcb, Rbk, sevalprocAttr]
      refine hS' _ _ _ ⟨rfl, ?_, ?_, ?_, M4, _, lv5, [], _, Ext.rfl', n3, n2, np, hl5, RS_nil, hres, rfl⟩
      all_goals simp only [e0, e2, e3, go_sem, Rcb, Rbk, sevalprocAttr]
    | true =>
      simp only [if_true, Rs.bind_assoc] at hres hl5
      simp +contextual only [go_sem, Rcb, Rbk, sevalprocAttr, e0, e2, e3]
      intro b5 hb5 hap5
      refine need_b [(b3, _), (b2, _)] hT hres hl5 ?_
      intro M5 lv6 hM5 hno5 hres hl6
      simp +contextual only [go_sem, Rcb, Rbk, sevalprocAttr, e0, e2, e3]
      refine part_b [(b3, _), (b2, _)] hT hres hne (fun h => ct_some_X (fa := [.pointer (some ⟨pb, 0, none⟩)]) (fc := []) (C := fun _ => True) (r := RX) (enc := encX) (g := ex) 8
        (fun M t lv T hg _ hl hne => hex M t lv T hg hl hne) (fun x v M h => by obtain ⟨cs, rfl, h⟩ := h; exact ⟨cs, rfl, h⟩) (fun _ _ _ h => RX_len h) (fun _ _ _ h => RX_oneC h) (fun _ _ _ _ he h => RX_ext he _ _ h)
        (fun _ _ _ h => h) trivial (by decide) (hg3.ext (hM4.trans hM5)) hl6 h T3) ?_
      rintro v M6 group t2 lv7 hM6 hno6 hres hl7 hv
      obtain ⟨hv1, hv2⟩ := RS_one hv
      have hv3 := hv2
      simp only [Value.cells] at hv3
      simp only [List.cons_append, List.nil_append, noneL, noneL_pL] at hno6
      simp +contextual only [go_sem, Rcb, Rbk, sevalprocAttr, hno6, hap2, hap3, hv1, hv2, hv3, e0, e2, e3]
      refine hS' _ _ _ ⟨rfl, ?_, ?_, ?_, M6, _, lv7, group, _, hM5.trans hM6, hno6.1, hno6.2.1, hno6.2.2, hl7, hv, hres, rfl⟩
      all_goals simp only [e0, e2, e3, go_sem, Rcb, Rbk, sevalprocAttr]
  clear hres n3 n2 np hl4 hl5 e0 e2 e3
  rintro e ds h ⟨rfl, e0, e2, e3, M5, t, lv4, group, gv, hM5, n3, n2, np, hl4, hgv, hres, rfl⟩
  simp +contextual only [go_sem, Rcb, Rbk, sevalprocAttr, e0, e2, e3]
  refine is_p [(b3, _), (b2, _)] wHaving hl4 ?_
  intro lv5 hl5
  unfold selK4 optX at hres
  generalize seesM wHaving t = hh at hres hl5 ⊢
  simp +contextual only [go_sem, sevalprocAttr, n3, n2, np, hap2, hap3, e0, e2, e3]
  refine cond_cut (fun e ds h => ds = [] ∧ e 0 = .pointer (some ⟨pb, 0, none⟩) ∧ e 2 = .pointer (some ⟨b2, 0, none⟩) ∧ e 3 = .pointer (some ⟨b3, 0, none⟩) ∧
    ∃ M' t lv' hh hv v1 v2 v3 v4 v5 v6 v7, Ext M5 M' ∧ M' b3 = none ∧ M' b2 = none ∧ M' pb = none ∧ RS M' RTk 3 t lv' ∧ RX M' hv [v1, v2, v3, v4, v5, v6, v7] ∧ selM en ex toks = .ok ⟨d, sb, items, src, hw, hh, wh, hv, group⟩ t ∧
      h = ⟨T3, M', (b3, [.bool d, .bool sb, iv, fv, .bool hw, .bool hh, w1, w2, w3, w4, w5, w6, w7, v1, v2, v3, v4, v5, v6, v7, gv]) :: (b2, [.bool false, .bool false, .slice none 0 0, .slice none 0 0, .bool false, .bool false, .int .i64 0, .int .i64 0, .int .i64 0, st [], st [], st [], .slice none 0 0, .int .i64 0, .int .i64 0, .int .i64 0, st [], st [], st [], .slice none 0 0, .slice none 0 0]) :: pL pb lv' en op, R⟩) (fun S' hS' => ?_) ?_
  · cases hh with
    | false =>
      simp only [if_false, Bool.false_eq_true] at hres hl5
      simp +contextual only [go_sem, Rcb, Rbk, sevalprocAttr]
      refine hS' _ _ _ ⟨rfl, ?_, ?_, ?_, M5, _, lv5, _, _, _, _, _, _, _, _, _, Ext.rfl', n3, n2, np, hl5, RX_zero, hres, rfl⟩
      all_goals simp only [e0, e2, e3, go_sem, Rcb, Rbk, sevalprocAttr]
    | true =>
      simp only [if_true] at hres hl5
      simp +contextual only [go_sem, Rcb, Rbk, sevalprocAttr, e0, e2, e3]
      refine part_b [(b3, _), (b2, _)] hT hres hne (fun h => hex M5 _ lv5 T3 (hg3.ext (hM4.trans hM5)) hl5 h) ?_
      rintro v M6 x t2 lv6 hM6 hno6 hres hl6 ⟨cs, rfl, hx⟩
      obtain ⟨s, rfl, h1, _⟩ := RX_form hx
      simp only [List.cons_append, List.nil_append, noneL, noneL_pL] at hno6
      simp +contextual only [go_sem, Rcb, Rbk, sevalprocAttr, hno6, hap2, hap3, h1, e0, e2, e3]
      refine hS' _ _ _ ⟨rfl, ?_, ?_, ?_, M6, _, lv6, _, _, _, _, _, _, _, _, _, hM6, hno6.1, hno6.2.1, hno6.2.2, hl6, hx, hres, rfl⟩
      all_goals simp only [e0, e2, e3, go_sem, Rcb, Rbk, sevalprocAttr]
  clear hres n3 n2 np hl4 hl5 e0 e2 e3
  rintro e ds h ⟨rfl, e0, e2, e3, M6, t, lv4, hh, hv, v1, v2, v3, v4, v5, v6, v7, hM6, n3, n2, np, hl4, hhv, hres, rfl⟩
  have o1 := RS_one hiv
  have hM36 := (hM4.trans hM5).trans hM6
  obtain ⟨fa, fc, rfl⟩ := FromOk_form hfrom
  have o3 := RS_one hgv
  obtain ⟨sw, hsw, ow, _⟩ := RX_form hwh
  obtain ⟨sh, hsh, oh, _⟩ := RX_form hhv
  simp only [List.cons.injEq, and_true] at hsw hsh
  obtain ⟨rfl, rfl, rfl, rfl, rfl, rfl, rfl⟩ := hsw
  obtain ⟨rfl, rfl, rfl, rfl, rfl, rfl, rfl⟩ := hsh
  simp +contextual only [go_sem, Rcb, Rbk, sevalprocAttr, e0, e2, e3, n3, n2, np, hap2, hap3, o1, o3, ow, oh]
  refine Close_drop (Close_drop (Close_from (FromOk_ext hM36 hfrom) (by omega) (fun M7 hM7 hno7 hrs => end_id hT rfl rfl ?_) (by simpa only [noneL_pL] using np)))
  have h17 := hM3.trans (hM36.trans hM7)
  exact ⟨_, t, lv4, hres, rfl, RS_ext hM7 (fun _ _ h => h) hl4, rfl, _, rfl, ⟨iv, _, _, _, gv, RS_ext h17 (RIt_ext h17) hiv, hrs, RX_ext ((hM5.trans hM6).trans hM7) _ _ hwh, RX_ext hM7 _ _ hhv, RS_ext (hM6.trans hM7) (RX_ext (hM6.trans hM7)) hgv, rfl⟩⟩
def setsB (en : Int) (ex : List Tk → Rs X) : Nat → Int → List Tk → Rs (List Int × List Se)
  | room, k, t => if 0 < k then (match room with
      | 0 => .err 5 (atM en t)
      | r + 1 => (selM en ex t).bind fun s t => (setM t).bind fun k' t => (setsB en ex r k' t).bind fun l t => .ok (k :: l.1, s :: l.2) t) else .ok ([], []) t
def limM (en : Int) (t : List Tk) : Rs Int := (intM en t).bind fun n t' => if n < 0 ∨ 50 < n then .err 3 (atM en t) else .ok n t'
def orderM (en : Int) (ex : List Tk → Rs X) (t : List Tk) : Rs (List X × Int) :=
  if seesM wOrder t = true then (needM en [wBy] t.tail).bind fun _ t => (someM en ex 8 t).bind fun l t => (needM en [wLimit] t).bind fun _ t => (limM en t).bind fun n t => .ok (l, n) t else .ok ([], -1) t
def queryK (en : Int) (ex : List Tk → Rs X) (parts : List Se) (ops : List Int) (t : List Tk) : Rs Q := (orderM en ex t).bind fun o t => .ok ⟨parts, ops, o.1, o.2⟩ t
def queryM (en : Int) (ex : List Tk → Rs X) (t : List Tk) : Rs Q := (selM en ex t).bind fun s t => (setM t).bind fun k t => (setsB en ex 3 k t).bind fun l t => queryK en ex (s :: l.2) l.1 t
def encQ (q : Q) (v : Value) (M : Mem) : Prop := ∃ cs, v = .agg ⟨cs⟩ ∧ RQ M q cs
theorem RSe_oneC {M : Mem} {x : Se} {cs : List Value} (h : RSe M x cs) : ∀ u ∈ cs, u.oneCell' = true := by
  obtain ⟨i, f, w, hh, g, h1, h2, h3, h4, h5, rfl⟩ := h
  intro u hu
  simp only [List.cons_append, List.nil_append, List.mem_cons, List.mem_append, List.not_mem_nil, or_false] at hu
  rcases hu with rfl | rfl | rfl | rfl | rfl | rfl | hu | hu | rfl
  · rfl
  · rfl
  · exact (RS_one h1).1
  · exact (RS_one h2).1
  · rfl
  · rfl
  · exact RX_oneC h3 u hu
  · exact RX_oneC h4 u hu
  · exact (RS_one h5).1
def PrRow (M : Mem) (R : RR) (ov pv : Value) (parts : List Se) (ops : List Int) : Prop :=
  ∃ oa oc pa pc xs ys, ov = .slice oa ops.length oc ∧ pv = .slice pa parts.length pc ∧ R = [(pv, 79, 21, xs), (ov, 3, 1, ys)] ∧ RL (RSe M) parts xs ∧ RL RI ops ys
def PrOk (M : Mem) (R : RR) (ov pv : Value) (parts : List Se) (ops : List Int) : Prop :=
  (∃ bF xs, ops = [] ∧ ov = .slice none 0 0 ∧ R = [] ∧ pv = .slice (some ⟨bF, 0, none⟩) 1 1 ∧ parts.length = 1 ∧ M bF = some xs ∧ RL (RSe M) parts xs) ∨ PrRow M R ov pv parts ops
def PrMid (M : Mem) (R : RR) (ov pv : Value) (parts : List Se) (ops : List Int) : Prop :=
  (∃ bF xs oa oc ys, ov = .slice oa ops.length oc ∧ R = [(ov, 3, 1, ys)] ∧ RL RI ops ys ∧ pv = .slice (some ⟨bF, 0, none⟩) 1 1 ∧ parts.length = 1 ∧ M bF = some xs ∧ RL (RSe M) parts xs) ∨ PrRow M R ov pv parts ops
theorem PrRow_ext {M M' : Mem} {R ov pv parts ops} (hM : Ext M M') (h : PrRow M R ov pv parts ops) : PrRow M' R ov pv parts ops := by
  obtain ⟨oa, oc, pa, pc, xs, ys, h1, h2, h3, h4, h5⟩ := h
  exact ⟨oa, oc, pa, pc, xs, ys, h1, h2, h3, RL_mono (fun x cs h => RSe_ext hM _ _ h) h4, h5⟩
theorem PrOk_ext {M M' : Mem} {R ov pv parts ops} (hM : Ext M M') (h : PrOk M R ov pv parts ops) : PrOk M' R ov pv parts ops := by
  rcases h with ⟨bF, xs, h1, h2, h3, h4, h5, h6, h7⟩ | h
  · exact .inl ⟨bF, xs, h1, h2, h3, h4, h5, hM _ _ h6, RL_mono (fun x cs h => RSe_ext hM _ _ h) h7⟩
  · exact .inr (PrRow_ext hM h)
theorem PrMid_ext {M M' : Mem} {R ov pv parts ops} (hM : Ext M M') (h : PrMid M R ov pv parts ops) : PrMid M' R ov pv parts ops := by
  rcases h with ⟨bF, xs, oa, oc, ys, h1, h2, h3, h4, h5, h6, h7⟩ | h
  · exact .inl ⟨bF, xs, oa, oc, ys, h1, h2, h3, h4, h5, hM _ _ h6, RL_mono (fun x cs h => RSe_ext hM _ _ h) h7⟩
  · exact .inr (PrRow_ext hM h)
theorem PrOk_form {M R ov pv parts ops} (h : PrOk M R ov pv parts ops) : (∃ a c, ov = .slice a ops.length c) ∧ ∃ a c, pv = .slice a parts.length c := by
  rcases h with ⟨bF, xs, rfl, rfl, rfl, rfl, h, _⟩ | ⟨oa, oc, pa, pc, xs, ys, rfl, rfl, _⟩
  · exact ⟨⟨_, _, rfl⟩, ⟨_, _, by rw [h]⟩⟩
  · exact ⟨⟨_, _, rfl⟩, ⟨_, _, rfl⟩⟩
theorem RI_len {n : Int} {cs} (h : RI n cs) : cs.length = 1 := by unfold RI at h; subst h; rfl
theorem app_ops {F : Fi} {s : List Vc.Item} {e : Env} {ds : List Deferred} {dd : Option Nat} {T : Tm} {M : Mem} {L : LL} {R : RR} {b a n c pv} {parts : List Se} {ops : List Int} {k : Int} (hf : PrOk M R (.slice a n c) pv parts ops) (hb : M b = none) (hlen : ops.length ≤ 400)
    (kk : ∀ a' c' R', PrMid M R' (.slice a' (ops.length + 1) c') pv parts (ops ++ [k]) → Run Tryz.prog F s (updo e dd (.slice a' (ops.length + 1) c')) ds ⟨T, M, (b, [.int .i64 k]) :: L, R'⟩ ⟨⟩) :
    rApp Tryz.prog F 24 24 (.slice a n c) (.slice (some ⟨b, 0, none⟩) 1 1) dd s e ds ⟨T, M, (b, [.int .i64 k]) :: L, R⟩ ⟨⟩ := by
  have hsr : ∀ R, Srcs Tryz.prog 24 1 ⟨T, M, (b, [.int .i64 k]) :: L, R⟩ (.slice (some ⟨b, 0, none⟩) 1 1) [.int .i64 k] := fun R =>
    .slice _ 1 _ _ _ Tryz.underlying24 (cells_own [] hb trivial rfl) (by intro u hu; simp only [List.mem_singleton] at hu; subst hu; rfl)
  rcases hf with ⟨bF, xs, rfl, h2, rfl, h4, h5, h6, h7⟩ | ⟨oa, oc, pa, pc, xs, ys, h1, h2, rfl, h3, h4⟩
  · injection h2 with h2 h2' h2''; subst h2 h2' h2''
    refine app_nil row24 okt24 (hsr []) (Nat.le_of_ble_eq_true rfl) ?_
    intro ra rm rc hrm
    have : rm = 1 := by simpa using hrm
    subst this
    exact kk _ _ _ (.inl ⟨bF, xs, ra, rc, _, rfl, rfl, RL_one rfl, h4, h5, h6, h7⟩)
  · injection h1 with h1 h1' h1''; subst h1 h1' h1''
    have hxl := RL_len (fun _ _ => RI_len) h4
    refine .inr ⟨_, _, _, _, row24, okt24, hsr _, .inl ⟨1, ys, rfl, by rw [hxl]; simp only [List.length_cons, List.length_nil]; omega, ?_⟩⟩
    intro ra rm rc hrm
    have : rm = ops.length + 1 := by rw [hxl] at hrm; simp only [List.length_cons, List.length_nil] at hrm; omega
    subst this
    exact kk _ _ _ (.inr ⟨_, _, _, _, _, _, by rw [List.length_append]; rfl, h2, rfl, h3, RL_append h4 (RL_one rfl)⟩)
theorem app_parts {F : Fi} {s : List Vc.Item} {e : Env} {ds : List Deferred} {dd : Option Nat} {T : Tm} {M : Mem} {L : LL} {R : RR} {b a n c ov} {parts : List Se} {ops : List Int} {x : Se} {cs : List Value} (hf : PrMid M R ov (.slice a n c) parts ops) (hx : RSe M x cs) (hb : M b = none) (hlen : parts.length ≤ 400)
    (kk : ∀ a' c' R', PrOk M R' ov (.slice a' (parts.length + 1) c') (parts ++ [x]) ops → Run Tryz.prog F s (updo e dd (.slice a' (parts.length + 1) c')) ds ⟨T, M, (b, cs) :: L, R'⟩ ⟨⟩) :
    rApp Tryz.prog F 23 23 (.slice a n c) (.slice (some ⟨b, 0, none⟩) 1 1) dd s e ds ⟨T, M, (b, cs) :: L, R⟩ ⟨⟩ := by
  have hcl := RSe_len hx
  have hsr : ∀ R, Srcs Tryz.prog 23 21 ⟨T, M, (b, cs) :: L, R⟩ (.slice (some ⟨b, 0, none⟩) 1 1) cs := fun R =>
    .slice _ 1 _ _ _ Tryz.underlying23 (cells_own [] hb trivial (by rw [hcl])) (RSe_oneC hx)
  rcases hf with ⟨bF, xs, oa, oc, ys, h1, rfl, h3, h4, h5, h6, h7⟩ | ⟨oa, oc, pa, pc, xs, ys, h1, h2, rfl, h3, h4⟩
  · injection h4 with h4 h4' h4''; subst h4 h4' h4''
    have hxl := RL_len (fun _ _ => RSe_len) h7
    rw [h5] at hxl
    refine app_read row23 okt23 (hsr _) (xs := xs) ?_ (by rw [hcl]; decide) (by rw [hcl, hxl]; decide) ?_
    · have := cells_of (h := ⟨T, M, (b, cs) :: L, [(ov, 3, 1, ys)]⟩) (b := bF) (cs := xs) (fun o v hv => by
        have : mcell M ⟨bF, o, none⟩ = some v := by rw [mcell_some h6]; exact hv
        simp only [Sh.cell, this]) 21 0 (by omega)
      simpa using this
    · intro ra rm rc hrm
      have : rm = parts.length + 1 := by rw [hcl, hxl] at hrm; omega
      subst this
      exact kk _ _ _ (.inr ⟨_, _, _, _, _, _, h1, by rw [List.length_append]; rfl, rfl, RL_append h7 (RL_one hx), h3⟩)
  · injection h2 with h2 h2' h2''; subst h2 h2' h2''
    have hxl := RL_len (fun _ _ => RSe_len) h3
    refine app_row row23 okt23 (hsr _) (by rw [hcl, hxl]; omega) ?_
    intro ra rm rc hrm
    have : rm = parts.length + 1 := by rw [hcl, hxl] at hrm; omega
    subst this
    exact kk _ _ _ (.inr ⟨_, _, _, _, _, _, h1, by rw [List.length_append]; rfl, rfl, RL_append h3 (RL_one hx), h4⟩)
theorem Close_pr {N M L R ov pv parts ops} {k : Sh → Prop} (h : PrOk M R ov pv parts ops) (h1 : parts.length ≤ 400) (h2 : ops.length ≤ 400) (hk : ∀ M', Ext M M' → noneL M' L → RS M' (RSe M') 21 parts pv → RS M' RI 1 ops ov → Close ⟨N, M', L, []⟩ k) (hno : noneL M L) : Close ⟨N, M, L, R⟩ k := by
  rcases h with ⟨bF, xs, rfl, rfl, rfl, rfl, h3, h4, h5⟩ | ⟨oa, oc, pa, pc, xs, ys, rfl, rfl, rfl, h3, h4⟩
  · exact hk M Ext.rfl' hno (RS_lit (fun _ _ => RSe_len) h4 h5 h3 (by decide)) RS_nil
  · exact Close_row fun M' hM hno' hsl => Close_row fun M'' hM' hno'' hsl' => hk M'' (hM.trans hM') hno'' ⟨by omega, xs, hsl.ext hM', RL_mono (fun x cs h => RSe_ext (hM.trans hM') _ _ h) h3⟩ ⟨by omega, ys, hsl', h4⟩
theorem rCall_frz2 {P : Program} {F : Fi} {f : FuncId} {args : List Value} {dd : Option Nat} {s : List Vc.Item} {e : Env} {ds : List Deferred} {N : Tm} {M : Mem} {b b' : Nat} {cs cs' : List Value} {L : LL} {R : RR} (hb : bodied P f = true)
    (h : ∀ M', Ext M M' → M' b = some cs → noneL M' ((b', cs') :: L) → rCall P F f args dd s e ds ⟨N, M', (b', cs') :: L, R⟩ ⟨⟩) : rCall P F f args dd s e ds ⟨N, M, (b', cs') :: (b, cs) :: L, R⟩ ⟨⟩ :=
  rCall_close (k := fun h' => ∃ M', Ext M M' ∧ M' b = some cs ∧ noneL M' ((b', cs') :: L) ∧ h' = ⟨N, M', (b', cs') :: L, R⟩) (Close_perm (List.Perm.swap _ _ _) (Close_freeze fun he h1 h2 => Close_id ⟨_, he, h1, h2, rfl⟩))
    (by rintro h' ⟨M', he, h1, h2, rfl⟩; exact h M' he h1 h2) hb
theorem ct_query {M : Mem} {pb : Nat} {toks : List Tk} {lv : Value} {en op : Int} {ex : List Tk → Rs X} (hg : Glob M) (hl : RS M RTk 3 toks lv) (hex : ExC en pb ex op) (hne : queryM en ex toks ≠ .out) (T : Tm) :
    CtT Tryz.prog 96 [.pointer (some ⟨pb, 0, none⟩)] T M (pL pb lv en op) [] (postP pb en op encQ (queryM en ex toks)) (panP pb en (queryM en ex toks)) := by
  refine ct_run mx bod96 Tryz.func96 rfl (by rw [nt96]; exact Nat.le_of_ble_eq_true rfl) (dr := dr96) (by kernel_rfl) rs96 ?_
  intro hno _
  simp only [noneL_pL] at hno
  simp +contextual only [go_sem, Rcb, Rbk, sevalprocAttr]
  intro b2 T2 hb2 hap2 hT2 hTb2
  refine part_b [(b2, _)] hT2 rfl hne (fun h => ct_sel hg hl hex h T2) ?_
  rintro v M1 s0 t lv1 hM1 hno1 hres hl1 ⟨cs, rfl, hs0⟩
  have hcl := RSe_len hs0
  simp only [List.cons_append, List.nil_append, noneL, noneL_pL] at hno1
  simp +contextual only [go_sem, Rcb, Rbk, sevalprocAttr, hno1, hap2, hcl]
  intro b7 hb7 hap7 b3 T3 hb3 hap3 hT3 hTb3
  have hT := hT2.trans hT3
  refine rCall_frz2 bod146 fun M2 hM2 hb7' hno2 => ?_
  simp only [List.cons_append, List.nil_append, noneL, noneL_pL] at hno2
  refine part_b [(b3, _), (b2, _)] hT hres hne (fun _ => ct_set (RS_ext hM2 (fun _ _ h => h) hl1) T3) ?_
  rintro v M3 k t2 lv2 hM3 hno3 hres hl2 rfl
  simp only [List.cons_append, List.nil_append, noneL, noneL_pL] at hno3
  have hpr : PrOk M3 [] (.slice none 0 0) (.slice (some ⟨b7, 0, none⟩) 1 1) [s0] [] := .inl ⟨b7, cs, rfl, rfl, rfl, rfl, rfl, hM3 _ _ hb7', RL_one (RSe_ext (hM2.trans hM3) _ _ hs0)⟩
  simp +contextual only [go_sem, sevalprocAttr, hno3, hap2, hap3]
  refine run_cut (fun e ds h => ds = [] ∧ e 0 = .pointer (some ⟨pb, 0, none⟩) ∧ e 2 = .pointer (some ⟨b2, 0, none⟩) ∧ e 3 = .pointer (some ⟨b3, 0, none⟩) ∧
    ∃ M' t lv' parts ops pv ov R, Ext M3 M' ∧ M' b3 = none ∧ M' b2 = none ∧ M' pb = none ∧ RS M' RTk 3 t lv' ∧ parts.length ≤ 4 ∧ ops.length ≤ 4 ∧ PrOk M' R ov pv parts ops ∧ queryM en ex toks = queryK en ex parts ops t ∧
      h = ⟨T3, M', (b3, [pv, ov, .slice none 0 0, .int .i64 (-1)]) :: (b2, [.slice none 0 0, .slice none 0 0, .slice none 0 0, .int .i64 0]) :: pL pb lv' en op, R⟩) (fun S' hS' => ?_) ?_
  · simp +contextual only [go_sem, Rcb, Rbk, sevalprocAttr]
    refine loop_rule (fun m e ds h => ds = [] ∧ e 0 = .pointer (some ⟨pb, 0, none⟩) ∧ e 2 = .pointer (some ⟨b2, 0, none⟩) ∧ e 3 = .pointer (some ⟨b3, 0, none⟩) ∧
      ∃ M' t lv' k parts ops pv ov R, e 4 = .int .i64 k ∧ m + parts.length = 4 ∧ ops.length + 1 = parts.length ∧ Ext M3 M' ∧ M' b3 = none ∧ M' b2 = none ∧ M' pb = none ∧ RS M' RTk 3 t lv' ∧ PrOk M' R ov pv parts ops ∧
        queryM en ex toks = (setsB en ex m k t).bind (fun l t => queryK en ex (parts ++ l.2) (ops ++ l.1) t) ∧
        h = ⟨T3, M', (b3, [pv, ov, .slice none 0 0, .int .i64 (-1)]) :: (b2, [.slice none 0 0, .slice none 0 0, .slice none 0 0, .int .i64 0]) :: pL pb lv' en op, R⟩)
      ⟨3, rfl, ?_, ?_, ?_, M3, t2, lv2, k, [s0], [], _, _, [], ?_, rfl, rfl, Ext.rfl', hno3.1, hno3.2.1, hno3.2.2, hl2, hpr, hres, rfl⟩ ?_
    all_goals first | (simp only [go_sem, Rcb, Rbk, sevalprocAttr]; done) | skip
    clear hres hl2 hpr
    rintro m e ds h ⟨rfl, e0, e2, e3, M4, t4, lv4, k, parts, ops, pv, ov, R, e4, hm, hpo, hM4, n3, n2, np, hl4, hpr, hres, rfl⟩
    by_cases hk : 0 < k
    · obtain ⟨⟨oa, oc, rfl⟩, pa, pc, rfl⟩ := PrOk_form hpr
      unfold setsB at hres
      rw [if_pos hk] at hres
      cases m with
      | zero =>
        have hlen : (parts.length : Int) = 4 := by omega
        simp +contextual only [go_sem, Rcb, Rbk, sevalprocAttr, e0, e2, e3, e4, hk, n3, n2, np, hap2, hap3, hlen]
        refine at_p [(b3, _), (b2, _)] hl4 ?_
        simp +contextual only [go_sem, Rcb, Rbk, sevalprocAttr]
        exact fail_p [(b3, _), (b2, _)] hT hres
      | succ m =>
        have hlen : ¬ (parts.length : Int) = 4 := by omega
        simp only [Rs.bind_assoc] at hres
        simp +contextual only [go_sem, Rcb, Rbk, sevalprocAttr, e0, e2, e3, e4, hk, n3, n2, np, hap2, hap3, hlen]
        refine draw_at ⟨T, fun _ => none, [(b3, _)], []⟩ (Sub_hd n3) ?_
        simp +contextual only [go_sem, Rcb, Rbk, sevalprocAttr, e0, e2, e3, e4, hk, n3, n2, np, hap2, hap3, hlen]
        intro b8 hb8 hap8
        refine ⟨Sub_hd2 n3 (fun h => hap8.1.2 h), ?_⟩
        refine app_ops hpr hb8 (by omega) ?_
        intro oa' oc' R1 hmid
        simp +contextual only [go_sem, Rcb, Rbk, sevalprocAttr, e0, e2, e3, e4, hk, n3, n2, np, hap2, hap3, hap8, hlen]
        refine ⟨Sub_hd2 n3 (fun h => hap8.1.2 h), ?_⟩
        have hg4 := (hg.ext hM1).ext ((hM2.trans hM3).trans hM4)
        refine part_b [(b8, _), (b3, _), (b2, _)] hT hres hne (fun h => ct_sel hg4 hl4 hex h T3) ?_
        rintro v M5 s1 t5 lv5 hM5 hno5 hres hl5 ⟨cs1, rfl, hs1⟩
        have hcl1 := RSe_len hs1
        simp only [List.cons_append, List.nil_append, noneL, noneL_pL] at hno5
        simp +contextual only [go_sem, Rcb, Rbk, sevalprocAttr, hno5, hap2, hap3, hap8, hcl1, e0, e2, e3]
        refine ⟨Sub_own [(b8, _)] hno5.2.1 ⟨⟨hap8.1.2, hap8.1.1⟩, trivial⟩, ?_⟩
        intro b9 hb9 hap9
        refine ⟨Sub_own [(b9, _), (b8, _)] hno5.2.1 ⟨⟨hap9.2.1.2, hap9.2.1.1⟩, ⟨hap8.1.2, hap8.1.1⟩, trivial⟩, ?_⟩
        refine app_parts (PrMid_ext hM5 hmid) hs1 hb9 (by omega) ?_
        intro pa' pc' R2 hpr2
        simp +contextual only [go_sem, Rcb, Rbk, sevalprocAttr, hno5, hap2, hap3, hap8, hap9, hb9, e0, e2, e3]
        refine ⟨Sub_own [(b9, _), (b8, _)] hno5.2.1 ⟨⟨hap9.2.1.2, hap9.2.1.1⟩, ⟨hap8.1.2, hap8.1.1⟩, trivial⟩, ?_⟩
        refine part_b [(b9, _), (b8, _), (b3, _), (b2, _)] hT hres hne (fun _ => ct_set hl5 T3) ?_
        rintro v M6 k' t6 lv6 hM6 hno6 hres hl6 rfl
        simp only [List.cons_append, List.nil_append, noneL, noneL_pL] at hno6
        simp +contextual only [go_sem, Rcb, Rbk, sevalprocAttr, e0, e2, e3]
        rw [Run_lp]
        refine Close_drop (Close_drop (Close_id ⟨m, by omega, rfl, ?_, ?_, ?_, M6, t6, lv6, k', parts ++ [s1], ops ++ [k], _, _, R2, ?_, ?_, ?_, (hM4.trans hM5).trans hM6, hno6.2.2.1, hno6.2.2.2.1, hno6.2.2.2.2, hl6, PrOk_ext hM6 hpr2, ?_, rfl⟩))
        · simp only [e0, go_sem, Rcb, Rbk, sevalprocAttr]
        · simp only [e2, go_sem, Rcb, Rbk, sevalprocAttr]
        · simp only [e3, go_sem, Rcb, Rbk, sevalprocAttr]
        · simp only [go_sem, Rcb, Rbk, sevalprocAttr]
        · rw [List.length_append]; simp only [List.length_cons, List.length_nil]; omega
        · rw [List.length_append, List.length_append]; simp only [List.length_cons, List.length_nil]; omega
        · rw [hres]; congr 1; funext l t; simp [Rs.bind]
    · unfold setsB at hres
      rw [if_neg hk] at hres
      simp +contextual only [go_sem, Rcb, Rbk, sevalprocAttr, e0, e2, e3, e4, hk]
      refine hS' _ _ _ ⟨rfl, ?_, ?_, ?_, M4, _, lv4, parts, ops, pv, ov, R, hM4, n3, n2, np, hl4, by omega, by omega, hpr, ?_, rfl⟩
      · simp only [e0, go_sem, Rcb, Rbk, sevalprocAttr]
      · simp only [e2, go_sem, Rcb, Rbk, sevalprocAttr]
      · simp only [e3, go_sem, Rcb, Rbk, sevalprocAttr]
      · rw [hres]; simp [Rs.bind]
  clear hres hno3 hl2 hpr hno2 hno1
  rintro e ds h ⟨rfl, e0, e2, e3, M4, t, lv4, parts, ops, pv, ov, R, hM4, n3, n2, np, hl4, hpl, hol, hpr, hres, rfl⟩
  simp +contextual only [go_sem, Rcb, Rbk, sevalprocAttr, e0, e2, e3]
  refine is_p [(b3, _), (b2, _)] wOrder hl4 ?_
  intro lv5 hl5
  unfold queryK orderM at hres
  generalize seesM wOrder t = gw at hres hl5 ⊢
  simp +contextual only [go_sem, sevalprocAttr, n3, n2, np, hap2, hap3, e0, e2, e3]
  have hg4 := (hg.ext hM1).ext ((hM2.trans hM3).trans hM4)
  refine cond_cut (fun e ds h => ds = [] ∧ e 0 = .pointer (some ⟨pb, 0, none⟩) ∧ e 2 = .pointer (some ⟨b2, 0, none⟩) ∧ e 3 = .pointer (some ⟨b3, 0, none⟩) ∧
    ∃ M' t lv' ord rv lim, Ext M4 M' ∧ M' b3 = none ∧ M' b2 = none ∧ M' pb = none ∧ RS M' RTk 3 t lv' ∧ RS M' (RX M') 7 ord rv ∧ queryM en ex toks = .ok ⟨parts, ops, ord, lim⟩ t ∧
      h = ⟨T3, M', (b3, [pv, ov, rv, .int .i64 lim]) :: (b2, [.slice none 0 0, .slice none 0 0, .slice none 0 0, .int .i64 0]) :: pL pb lv' en op, R⟩) (fun S' hS' => ?_) ?_
  · cases gw with
    | false =>
      simp only [if_false, Bool.false_eq_true] at hres hl5
      simp +contextual only [go_sem, Rcb, Rbk, sevalprocAttr]
      refine hS' _ _ _ ⟨rfl, ?_, ?_, ?_, M4, _, lv5, [], _, _, Ext.rfl', n3, n2, np, hl5, RS_nil, hres, rfl⟩
      all_goals simp only [e0, e2, e3, go_sem, Rcb, Rbk, sevalprocAttr]
    | true =>
      simp only [if_true, Rs.bind_assoc] at hres hl5
      simp +contextual only [go_sem, Rcb, Rbk, sevalprocAttr, e0, e2, e3]
      intro b5 hb5 hap5
      refine need_b [(b3, _), (b2, _)] hT hres hl5 ?_
      intro M5 lv6 hM5 hno5 hres hl6
      simp +contextual only [go_sem, Rcb, Rbk, sevalprocAttr, e0, e2, e3]
      refine part_b [(b3, _), (b2, _)] hT hres hne (fun h => ct_some_X (fa := [.pointer (some ⟨pb, 0, none⟩)]) (fc := []) (C := fun _ => True) (r := RX) (enc := encX) (g := ex) 8
        (fun M t lv T hg _ hl hne => hex M t lv T hg hl hne) (fun x v M h => by obtain ⟨cs, rfl, h⟩ := h; exact ⟨cs, rfl, h⟩) (fun _ _ _ h => RX_len h) (fun _ _ _ h => RX_oneC h) (fun _ _ _ _ he h => RX_ext he _ _ h)
        (fun _ _ _ h => h) trivial (by decide) (hg4.ext hM5) hl6 h T3) ?_
      rintro v M6 ord t2 lv7 hM6 hno6 hres hl7 hv
      obtain ⟨hv1, hv2⟩ := RS_one hv
      have hv2m := hv2
      simp only [Value.cells] at hv2m
      simp only [List.cons_append, List.nil_append, noneL, noneL_pL] at hno6
      simp +contextual only [go_sem, Rcb, Rbk, sevalprocAttr, hno6, hap2, hap3, hv1, hv2, hv2m, e0, e2, e3]
      intro b6 hb6 hap6
      refine need_b [(b3, _), (b2, _)] hT hres hl7 ?_
      intro M7 lv8 hM7 hno7 hres hl8
      simp +contextual only [go_sem, Rcb, Rbk, sevalprocAttr, e0, e2, e3]
      refine at_p [(b3, _), (b2, _)] hl8 ?_
      unfold limM at hres
      rw [Rs.bind_assoc] at hres
      simp +contextual only [go_sem, Rcb, Rbk, sevalprocAttr, e0, e2, e3]
      refine part_b [(b3, _), (b2, _)] hT hres hne (fun _ => ct_p_int hl8 T3) ?_
      rintro v M8 n t3 lv9 hM8 hno8 hres hl9 rfl
      simp only [List.cons_append, List.nil_append, noneL, noneL_pL] at hno8
      by_cases hn : n < 0
      · rw [if_pos (.inl hn)] at hres
        simp +contextual only [go_sem, Rcb, Rbk, sevalprocAttr, e0, e2, e3, hn]
        exact fail_p [(b3, _), (b2, _)] hT hres
      · by_cases hn2 : 50 < n
        · rw [if_pos (.inr hn2)] at hres
          simp +contextual only [go_sem, Rcb, Rbk, sevalprocAttr, e0, e2, e3, hn, hn2]
          exact fail_p [(b3, _), (b2, _)] hT hres
        · rw [if_neg (by omega)] at hres
          simp +contextual only [go_sem, Rcb, Rbk, sevalprocAttr, e0, e2, e3, hn, hn2, hno8, hap2, hap3]
          refine hS' _ _ _ ⟨rfl, ?_, ?_, ?_, M8, _, lv9, ord, _, n, ((hM5.trans hM6).trans hM7).trans hM8, hno8.1, hno8.2.1, hno8.2.2, hl9, RS_ext (hM7.trans hM8) (RX_ext (hM7.trans hM8)) hv, hres, rfl⟩
          all_goals simp only [e0, e2, e3, go_sem, Rcb, Rbk, sevalprocAttr]
  clear hres n3 n2 np hl4 hl5 e0 e2 e3
  rintro e ds h ⟨rfl, e0, e2, e3, M5, t, lv4, ord, rv, lim, hM5, n3, n2, np, hl4, hrv, hres, rfl⟩
  obtain ⟨⟨oa, oc, rfl⟩, pa, pc, rfl⟩ := PrOk_form hpr
  have o3 := RS_one hrv
  simp +contextual only [go_sem, Rcb, Rbk, sevalprocAttr, e0, e2, e3, n3, n2, np, hap2, hap3, o3]
  refine Close_drop (Close_drop (Close_pr (PrOk_ext hM5 hpr) (by omega) (by omega) (fun M6 hM6 hno6 hrs hos => end_id hT rfl rfl ?_) (by simpa only [noneL_pL] using np)))
  exact ⟨_, t, lv4, hres, rfl, RS_ext hM6 (fun _ _ h => h) hl4, rfl, _, rfl, ⟨_, _, _, hrs, hos, RS_ext hM6 (RX_ext hM6) hrv, rfl⟩⟩
def zeroQ : Q := ⟨[], [], [], 0⟩
def encStm (q : Stm) (v : Value) (M : Mem) : Prop := ∃ cs, v = .agg ⟨cs⟩ ∧ RStm M q cs
theorem RQ_zero {M : Mem} : RQ M zeroQ [.slice none 0 0, .slice none 0 0, .slice none 0 0, .int .i64 0] := ⟨_, _, _, RS_nil, RS_nil, RS_nil, rfl⟩
theorem RQ_form {M : Mem} {q : Q} {cs : List Value} (h : RQ M q cs) : ∃ p o r, cs = [p, o, r, .int .i64 q.limit] ∧ p.oneCell' = true ∧ o.oneCell' = true ∧ r.oneCell' = true := by
  obtain ⟨p, o, r, h1, h2, h3, rfl⟩ := h
  exact ⟨p, o, r, rfl, (RS_one h1).1, (RS_one h2).1, (RS_one h3).1⟩
def viewM (en : Int) (ex : List Tk → Rs X) (t : List Tk) : Rs Stm := (nameM en t).bind fun n t => (needM en [wAs] t).bind fun _ t => (queryM en ex t).bind fun q t => .ok ⟨2, n, [], q, [], false, zeroX⟩ t
def tableM (en : Int) (t : List Tk) : Rs Stm := (needM en [wTable] t).bind fun _ t => (nameM en t).bind fun n t => (needM en [sOpen] t).bind fun _ t => (someM en (columnM en) 8 t).bind fun c t => (needM en [sClose] t).bind fun _ t => .ok ⟨1, n, c, zeroQ, [], false, zeroX⟩ t
def insertM (en : Int) (t : List Tk) : Rs Stm := (needM en [wInto] t).bind fun _ t => (nameM en t).bind fun n t => (needM en [wValues] t).bind fun _ t => (someM en (rowM en) 400 t).bind fun r t => .ok ⟨3, n, [], zeroQ, r, false, zeroX⟩ t
def deleteM (en : Int) (ex : List Tk → Rs X) (t : List Tk) : Rs Stm := (needM en [wFrom] t).bind fun _ t => (nameM en t).bind fun n t => (optX ex wWhere t).bind fun wh t' => .ok ⟨4, n, [], zeroQ, [], seesM wWhere t, wh⟩ t'
def showM (en : Int) (ex : List Tk → Rs X) (t : List Tk) : Rs Stm := (needM en [wShow] t).bind fun _ t => (queryM en ex t).bind fun q t => .ok ⟨5, [], [], q, [], false, zeroX⟩ t
def stmtM (en : Int) (ex : List Tk → Rs X) (t : List Tk) : Rs Stm :=
  if seesM wCreate t = true then (if seesM wView t.tail = true then viewM en ex t.tail.tail else tableM en t.tail)
  else if seesM wInsert t = true then insertM en t.tail
  else if seesM wDelete t = true then deleteM en ex t.tail
  else showM en ex t
theorem ct_stmt {M : Mem} {pb : Nat} {toks : List Tk} {lv : Value} {en op : Int} {ex : List Tk → Rs X} (hg : Glob M) (hl : RS M RTk 3 toks lv) (hex : ExC en pb ex op) (hne : stmtM en ex toks ≠ .out) (T : Tm) :
    CtT Tryz.prog 50 [.pointer (some ⟨pb, 0, none⟩)] T M (pL pb lv en op) [] (postP pb en op encStm (stmtM en ex toks)) (panP pb en (stmtM en ex toks)) := by
  refine ct_run mx bod50 Tryz.func50 rfl (by rw [nt50]; exact Nat.le_of_ble_eq_true rfl) (dr := dr50) (by kernel_rfl) rs50 ?_
  intro hno _
  simp only [noneL_pL] at hno
  simp +contextual only [go_sem, Rcb, Rbk, sevalprocAttr]
  intro b2 T2 hb2 hap2 hT2 hTb2
  have hres : stmtM en ex toks = stmtM en ex toks := rfl
  generalize hS : stmtM en ex toks = S at hne ⊢
  unfold stmtM at hS
  replace hres := hS.symm
  refine is_c [(b2, _)] wCreate hl (fun hs lv1 hl1 => ?_) (fun hs lv1 hl1 => ?_)
  · rw [if_pos hs] at hres
    simp +contextual only [go_sem, Rcb, Rbk, sevalprocAttr]
    refine is_c [(b2, _)] wView hl1 (fun hs lv2 hl2 => ?_) (fun hs lv2 hl2 => ?_)
    · rw [if_pos hs] at hres
      unfold viewM at hres
      simp +contextual only [go_sem, Rcb, Rbk, sevalprocAttr]
      refine part_b [(b2, _)] hT2 hres hne (fun _ => ct_p_name hg hl2 T2) ?_
      rintro v M1 n t lv3 hM1 hno1 hres hl3 rfl
      simp only [List.cons_append, List.nil_append, noneL, noneL_pL] at hno1
      simp +contextual only [go_sem, Rcb, Rbk, sevalprocAttr, hno1, hap2]
      intro b3 T3 hb3 hap3 hT3 hTb3 b4 hb4 hap4
      have hT := hT2.trans hT3
      refine need_b [(b3, _), (b2, _)] hT hres hl3 ?_
      intro M2 lv4 hM2 hno2 hres hl4
      simp +contextual only [go_sem, Rcb, Rbk, sevalprocAttr]
      refine part_b [(b3, _), (b2, _)] hT hres hne (fun h => ct_query ((hg.ext hM1).ext hM2) hl4 hex h T3) ?_
      rintro v M3 q t2 lv5 hM3 hno3 hres hl5 ⟨cs, rfl, hq⟩
      obtain ⟨p, o, r, rfl, h1, h2, h3⟩ := RQ_form hq
      simp only [List.cons_append, List.nil_append, noneL, noneL_pL] at hno3
      simp +contextual only [go_sem, Rcb, Rbk, sevalprocAttr, hno3, hap2, hap3, h1, h2, h3]
      refine Close_drop (Close_drop (end_id hT rfl rfl ?_))
      exact ⟨_, _, lv5, hres, rfl, hl5, rfl, _, rfl, _, _, _, _, RS_nil, hq, RS_nil, RX_zero, rfl⟩
    · rw [if_neg (by simp [hs])] at hres
      unfold tableM at hres
      simp +contextual only [go_sem, Rcb, Rbk, sevalprocAttr]
      intro b4 hb4 hap4
      refine need_b [(b2, _)] hT2 hres hl2 ?_
      intro M1 lv3 hM1 hno1 hres hl3
      simp +contextual only [go_sem, Rcb, Rbk, sevalprocAttr]
      refine part_b [(b2, _)] hT2 hres hne (fun _ => ct_p_name (hg.ext hM1) hl3 T2) ?_
      rintro v M2 n t lv4 hM2 hno2 hres hl4 rfl
      simp only [List.cons_append, List.nil_append, noneL, noneL_pL] at hno2
      simp +contextual only [go_sem, Rcb, Rbk, sevalprocAttr, hno2, hap2]
      intro b3 T3 hb3 hap3 hT3 hTb3 b5 hb5 hap5
      have hT := hT2.trans hT3
      refine need_b [(b3, _), (b2, _)] hT hres hl4 ?_
      intro M3 lv5 hM3 hno3 hres hl5
      simp +contextual only [go_sem, Rcb, Rbk, sevalprocAttr]
      refine part_b [(b3, _), (b2, _)] hT hres hne (fun h => ct_some_Co (fa := [.pointer (some ⟨pb, 0, none⟩)]) (fc := []) (C := fun _ => True) (r := fun _ => RCo) (enc := encCo) (g := columnM en) 8
        (fun M t lv T hg _ hl hne => ct_column hg hl T) (fun x v M h => by obtain ⟨cs, rfl, h⟩ := h; exact ⟨cs, rfl, h⟩) (fun _ _ _ h => by unfold RCo at h; subst h; rfl) (fun _ _ _ h => by unfold RCo at h; subst h; intro u hu; simp only [List.mem_cons, List.not_mem_nil, or_false] at hu; rcases hu with rfl | rfl <;> rfl) (fun _ _ _ _ he h => h)
        (fun _ _ _ h => h) trivial (by decide) (((hg.ext hM1).ext hM2).ext hM3) hl5 h T3) ?_
      rintro v M4 cols t2 lv6 hM4 hno4 hres hl6 hv
      obtain ⟨hv1, hv2⟩ := RS_one hv
      have hv2m := hv2
      simp only [Value.cells] at hv2m
      simp only [List.cons_append, List.nil_append, noneL, noneL_pL] at hno4
      simp +contextual only [go_sem, Rcb, Rbk, sevalprocAttr, hno4, hap2, hap3, hv1, hv2, hv2m]
      intro b6 hb6 hap6
      refine need_b [(b3, _), (b2, _)] hT hres hl6 ?_
      intro M5 lv7 hM5 hno5 hres hl7
      simp only [List.cons_append, List.nil_append, noneL, noneL_pL] at hno5
      simp +contextual only [go_sem, Rcb, Rbk, sevalprocAttr, hno5, hap2, hap3, hv1, hv2, hv2m]
      refine Close_drop (Close_drop (end_id hT rfl rfl ?_))
      exact ⟨_, _, lv7, hres, rfl, hl7, rfl, _, rfl, _, _, _, _, RS_ext hM5 (fun _ _ h => h) hv, RQ_zero, RS_nil, RX_zero, rfl⟩
  rw [if_neg (by simp [hs])] at hres
  clear hs
  simp +contextual only [go_sem, Rcb, Rbk, sevalprocAttr]
  refine is_c [(b2, _)] wInsert hl1 (fun hs lv2 hl2 => ?_) (fun hs lv2 hl2 => ?_)
  · rw [if_pos hs] at hres
    unfold insertM at hres
    simp +contextual only [go_sem, Rcb, Rbk, sevalprocAttr]
    intro b4 hb4 hap4
    refine need_b [(b2, _)] hT2 hres hl2 ?_
    intro M1 lv3 hM1 hno1 hres hl3
    simp +contextual only [go_sem, Rcb, Rbk, sevalprocAttr]
    refine part_b [(b2, _)] hT2 hres hne (fun _ => ct_p_name (hg.ext hM1) hl3 T2) ?_
    rintro v M2 n t lv4 hM2 hno2 hres hl4 rfl
    simp only [List.cons_append, List.nil_append, noneL, noneL_pL] at hno2
    simp +contextual only [go_sem, Rcb, Rbk, sevalprocAttr, hno2, hap2]
    intro b3 T3 hb3 hap3 hT3 hTb3 b5 hb5 hap5
    have hT := hT2.trans hT3
    refine need_b [(b3, _), (b2, _)] hT hres hl4 ?_
    intro M3 lv5 hM3 hno3 hres hl5
    simp +contextual only [go_sem, Rcb, Rbk, sevalprocAttr]
    refine part_b [(b3, _), (b2, _)] hT hres hne (fun h => ct_some_Vs (fa := [.pointer (some ⟨pb, 0, none⟩)]) (fc := []) (C := fun _ => True) (r := RVs) (enc := encRow) (g := rowM en) 400
      (fun M t lv T hg _ hl hne => ct_row hg hl T) (fun x v M h => ⟨_, (RS_one h).2, _, h, rfl⟩) (fun _ _ _ h => by obtain ⟨_, _, rfl⟩ := h; rfl) (fun _ _ _ h => by obtain ⟨_, h, rfl⟩ := h; intro u hu; simp only [List.mem_singleton] at hu; subst hu; exact (RS_one h).1) (fun _ _ _ _ he h => RVs_ext he _ _ h)
      (fun _ _ _ h => h) trivial (by decide) (((hg.ext hM1).ext hM2).ext hM3) hl5 h T3) ?_
    rintro v M4 rows t2 lv6 hM4 hno4 hres hl6 hv
    obtain ⟨hv1, hv2⟩ := RS_one hv
    have hv2m := hv2
    simp only [Value.cells] at hv2m
    simp only [List.cons_append, List.nil_append, noneL, noneL_pL] at hno4
    simp +contextual only [go_sem, Rcb, Rbk, sevalprocAttr, hno4, hap2, hap3, hv1, hv2, hv2m]
    refine Close_drop (Close_drop (end_id hT rfl rfl ?_))
    exact ⟨_, _, lv6, hres, rfl, hl6, rfl, _, rfl, _, _, _, _, RS_nil, RQ_zero, hv, RX_zero, rfl⟩
  rw [if_neg (by simp [hs])] at hres
  clear hs
  simp +contextual only [go_sem, Rcb, Rbk, sevalprocAttr]
  refine is_c [(b2, _)] wDelete hl2 (fun hs lv3 hl3 => ?_) (fun hs lv3 hl3 => ?_)
  · rw [if_pos hs] at hres
    unfold deleteM at hres
    simp +contextual only [go_sem, Rcb, Rbk, sevalprocAttr]
    intro b4 hb4 hap4
    refine need_b [(b2, _)] hT2 hres hl3 ?_
    intro M1 lv4 hM1 hno1 hres hl4
    simp +contextual only [go_sem, Rcb, Rbk, sevalprocAttr]
    refine part_b [(b2, _)] hT2 hres hne (fun _ => ct_p_name (hg.ext hM1) hl4 T2) ?_
    rintro v M2 n t lv5 hM2 hno2 hres hl5 rfl
    simp only [List.cons_append, List.nil_append, noneL, noneL_pL] at hno2
    simp +contextual only [go_sem, Rcb, Rbk, sevalprocAttr, hno2, hap2]
    intro b3 T3 hb3 hap3 hT3 hTb3
    have hT := hT2.trans hT3
    refine is_c [(b3, _), (b2, _)] wWhere hl5 (fun hs lv6 hl6 => ?_) (fun hs lv6 hl6 => ?_)
    · unfold optX at hres
      rw [if_pos hs, hs] at hres
      simp +contextual only [go_sem, Rcb, Rbk, sevalprocAttr, hno2, hb3, hap2, hap3]
      refine part_b [(b3, _), (b2, _)] hT hres hne (fun h => hex M2 _ lv6 T3 ((hg.ext hM1).ext hM2) hl6 h) ?_
      rintro v M3 x t2 lv7 hM3 hno3 hres hl7 ⟨cs, rfl, hx⟩
      obtain ⟨s, rfl, h1, _⟩ := RX_form hx
      simp only [List.cons_append, List.nil_append, noneL, noneL_pL] at hno3
      simp +contextual only [go_sem, Rcb, Rbk, sevalprocAttr, hno3, hap2, hap3, h1]
      refine Close_drop (Close_drop (end_id hT rfl rfl ?_))
      exact ⟨_, _, lv7, hres, rfl, hl7, rfl, _, rfl, _, _, _, _, RS_nil, RQ_zero, RS_nil, hx, rfl⟩
    · unfold optX at hres
      rw [if_neg (by simp [hs]), hs] at hres
      simp +contextual only [go_sem, Rcb, Rbk, sevalprocAttr, hno2, hb3, hap2, hap3]
      refine Close_drop (Close_drop (end_id hT rfl rfl ?_))
      exact ⟨_, _, lv6, hres, rfl, hl6, rfl, _, rfl, _, _, _, _, RS_nil, RQ_zero, RS_nil, RX_zero, rfl⟩
  rw [if_neg (by simp [hs])] at hres
  clear hs
  unfold showM at hres
  simp +contextual only [go_sem, Rcb, Rbk, sevalprocAttr]
  intro b4 hb4 hap4
  refine need_b [(b2, _)] hT2 hres hl3 ?_
  intro M1 lv4 hM1 hno1 hres hl4
  simp +contextual only [go_sem, Rcb, Rbk, sevalprocAttr]
  refine part_b [(b2, _)] hT2 hres hne (fun h => ct_query (hg.ext hM1) hl4 hex h T2) ?_
  rintro v M2 q t2 lv5 hM2 hno2 hres hl5 ⟨cs, rfl, hq⟩
  obtain ⟨p, o, r, rfl, h1, h2, h3⟩ := RQ_form hq
  simp only [List.cons_append, List.nil_append, noneL, noneL_pL] at hno2
  simp +contextual only [go_sem, Rcb, Rbk, sevalprocAttr, hno2, hap2, h1, h2, h3]
  refine Close_drop (end_id hT2 rfl rfl ?_)
  exact ⟨_, _, lv5, hres, rfl, hl5, rfl, _, rfl, _, _, _, _, RS_nil, hq, RS_nil, RX_zero, rfl⟩
def runN (p : UInt8 → Bool) (s : Bs) : Nat := (s.takeWhile p).length
theorem ct_lex_run {gf : Nat} {p : UInt8 → Bool} (hp : ∀ (c : UInt8) (M : Mem), Ct Tryz.prog gf [.int .u8 (c.toNat : Int)] M [] [] (fun r _ _ _ => r = .bool (p c)) noPan) (s : Bs) (hs : s.length ≤ 4000) (M : Mem) :
    Ct Tryz.prog 139 [st s, .func (.func gf) ⟨[]⟩ ⟨[]⟩] M [] [] (fun r _ _ _ => r = .int .i64 (runN p s)) noPan := by
  intro T
  refine ct_run mx bod139 Tryz.func139 rfl (by rw [nt139]; exact Nat.le_of_ble_eq_true rfl) (dr := dr139) (by kernel_rfl) rs139 ?_
  intro hno _
  simp +contextual only [go_sem, Rcb, Rbk, sevalprocAttr]
  refine loop_range s.length 5 [(0, st s), (1, .func (.func gf) ⟨[]⟩ ⟨[]⟩)] (fun i e h => ∃ M', h = ⟨T, M', [], []⟩ ∧ runN p s = i + runN p (s.drop i)) 0 (by omega) (by simp only [live, go_sem, Rcb, Rbk, sevalprocAttr]) (by simp only [go_sem, Rcb, Rbk, sevalprocAttr]) ⟨M, rfl, by simp⟩ ?_
  rintro i e h hi hlv ht ⟨M1, rfl, hres⟩
  simp only [live, st] at hlv
  by_cases hlt : i < s.length
  · have hx := byteAt_bs hlt
    have hdrop : s.drop i = s[i] :: s.drop (i + 1) := List.drop_eq_getElem_cons hlt
    rw [hdrop] at hres
    simp +contextual only [go_sem, Rcb, Rbk, sevalprocAttr, hlv, ht, hlt, hx]
    refine rCall_pure (hp s[i] M1 T) ?_ (fun _ _ _ _ h => h.elim)
    rintro v M2 hM2 _ rfl
    by_cases hk : p s[i] = true
    · simp +contextual only [go_sem, Rcb, Rbk, sevalprocAttr, hlv, ht, hk]
      refine lp_range hlt ?_ ?_ ⟨M2, rfl, ?_⟩
      · simp only [live, hlv, go_sem, Rcb, Rbk, sevalprocAttr]
      · simp only [ht, go_sem, Rcb, Rbk, sevalprocAttr, wrap_succ i (by omega)]
      · rw [hres]; simp only [runN, List.takeWhile_cons, hk, if_true, List.length_cons]; omega
    · simp +contextual only [go_sem, Rcb, Rbk, sevalprocAttr, hlv, ht, hk]
      refine end_none ExtT.rfl' ?_
      rw [hres]
      simp only [runN, List.takeWhile_cons, hk, if_false, Bool.false_eq_true, List.length_nil, Nat.add_zero]
  · have : i = s.length := by omega
    subst this
    simp +contextual only [go_sem, Rcb, Rbk, sevalprocAttr, hlv, ht, hlt]
    refine end_none ExtT.rfl' ?_
    rw [hres]
    simp [runN]
theorem ct_prefix0 (s x : Bs) (M : Mem) : Ct Tryz.prog 182 [st s, st x] M [] [] (fun r _ _ _ => r = .bool (x.isPrefixOf s)) noPan := by
  intro T
  refine ct_run mx bod182 Tryz.func182 rfl (by rw [nt182]; exact Nat.le_of_ble_eq_true rfl) (dr := dr182) (by kernel_rfl) rs182 ?_
  intro hno _
  by_cases hl : x.length ≤ s.length
  · simp +contextual only [go_sem, Rcb, Rbk, sevalprocAttr, hl]
    refine end_none ExtT.rfl' ?_
    rw [List.drop_zero]
    congr 1
    rw [Bool.eq_iff_iff, List.isPrefixOf_iff_prefix, List.prefix_iff_eq_take, decide_eq_true_eq]
    exact eq_comm
  · simp +contextual only [go_sem, Rcb, Rbk, sevalprocAttr, hl]
    refine end_none ExtT.rfl' ?_
    have : x.isPrefixOf s = false := by
      rw [Bool.eq_false_iff]; intro h; exact hl (List.isPrefixOf_iff_prefix.1 h).length_le
    rw [this]
theorem ct_prefix (s x : Bs) (M : Mem) : Ct Tryz.prog 142 [st s, st x] M [] [] (fun r _ _ _ => r = .bool (x.isPrefixOf s)) noPan := by
  intro T
  refine ct_run mx bod142 Tryz.func142 rfl (by rw [nt142]; exact Nat.le_of_ble_eq_true rfl) (dr := dr142) (by kernel_rfl) rs142 ?_
  intro hno _
  simp +contextual only [go_sem, Rcb, Rbk, sevalprocAttr]
  refine rCall_pure (ct_prefix0 s x M T) ?_ (fun _ _ _ _ h => h.elim)
  rintro v M2 hM2 _ rfl
  simp +contextual only [go_sem, Rcb, Rbk, sevalprocAttr]
  exact end_none ExtT.rfl' rfl
open Go Vc Go.RowKit Go.Shelf
theorem ntm136 : Tryz.f177.ntmps = 20 := by kernel_rfl
theorem infoBuilder : (Tryz.prog.info? 136).map (·.size) = some 2 := by kernel_rfl
theorem liesBuilder : liesAt Tryz.prog Tryz.prog.depth 136 (2 / Tryz.prog.cellsOf 136) 0 136 1 = true := by kernel_rfl
set_option maxHeartbeats 1000000 in
set_option maxRecDepth 100000 in
theorem w_copyCheck_used (b : Nat) (w : World) (h0 : w.cell? ⟨b, 0, none⟩ = some (.pointer (some ⟨b, 0, none⟩))) :
    Calls Tryz.prog 177 #[.pointer (some ⟨b, 0, none⟩)] w fun e w' => e = .returned (.tuple #[]) ∧ w' = w := by
  obtain ⟨j, hj, _⟩ := Option.map_eq_some_iff.1 infoBuilder
  have mixed := mx
  go_enter Tryz.func177, ntm136
  go_wp2
  rw [Lib.run_neq_ptr_same w _ Tryz.underlying133 hj]
  go_wp2
  go_end0
  exact ⟨rfl, rfl⟩
set_option maxHeartbeats 1000000 in
set_option maxRecDepth 100000 in
theorem w_copyCheck_fresh (b : Nat) (w : World) (h0 : w.cell? ⟨b, 0, none⟩ = some (.pointer none)) (hsh : w.shape? b = some (136, 2)) (hfz : w.frozen? ⟨b, 0, none⟩ = false) :
    Calls Tryz.prog 177 #[.pointer (some ⟨b, 0, none⟩)] w fun e w' => e = .returned (.tuple #[]) ∧ w' = w.setCell ⟨b, 0, none⟩ (.pointer (some ⟨b, 0, none⟩)) := by
  obtain ⟨j, hj, hjs⟩ := Option.map_eq_some_iff.1 infoBuilder
  have mixed := mx
  have t95 := Tryz.underlying136
  have t93 := Tryz.underlying133
  go_enter Tryz.func177, ntm136
  go_wp2
  rw [Lib.run_to_unsafe w ⟨b, 0, none⟩ Tryz.underlying133 Tryz.underlying328 hj (by rw [hjs]; decide) hsh (Nat.zero_lt_succ 1)]
  simp only [Result.andThen]
  rw [Oper.upon_value]
  go_wp2
  rw [run_callFunc_extern Tryz.func234 (by kernel_rfl) (by kernel_rfl) (by kernel_rfl) (e := Extern.AbiNoEscape.same) (by kernel_rfl)]
  rw [Lib.run_noEscape]
  simp only [Result.andThen]
  rw [Oper.upon_value]
  go_wp2
  rw [Lib.run_from_unsafe w ⟨b, 0, none⟩ Tryz.underlying328 Tryz.underlying133 hj hsh liesBuilder]
  simp only [Result.andThen]
  rw [Oper.upon_value]
  go_wp2
  go_end0
  exact ⟨rfl, rfl⟩
theorem ntm48 : Tryz.f45.ntmps = 14 := by kernel_rfl
theorem cellsByte : Tryz.prog.cellsOf 5 = 1 := by kernel_rfl
set_option maxHeartbeats 1000000 in
set_option maxRecDepth 100000 in
theorem w_String {tid : TypeId} (b g cap : Nat) (p : Value) (cur : Array Value) (l : List UInt8) (w : World) (h0 : l ≠ []) (hbk : w.heap[b]? = some (.cells #[p, .slice (some ⟨g, 0, none⟩) l.length cap] tid (0, 0)))
    (hg : w.heap[g]? = some (.cells cur 5 (0, 0))) (hnc : l.length ≤ cap) (hcs : cur.size = cap) (hcm : l.length ≤ 4294967296) (htake : cur.toList.take l.length = Lib.byteCells l) :
    Calls Tryz.prog 45 #[.pointer (some ⟨b, 0, none⟩)] w fun e w' => e = .returned (.string ⟨l.toArray⟩) ∧ w' = w.drew.freeze ⟨g, 0, none⟩ l.length := by
  have hl0 : l.length ≠ 0 := by simpa using h0
  have c1 : w.drew.cell? ⟨b, 1, none⟩ = some (.slice (some ⟨g, 0, none⟩) l.length cap) := by
    have : w.drew.heap[b]? = some (.cells #[p, .slice (some ⟨g, 0, none⟩) l.length cap] tid (0, 0)) := hbk
    rw [Lib.cell_of_heap this]; rfl
  have hSD : (Builtin.unsafeSliceData_ #[134] 196 #[.slice (some ⟨g, 0, none⟩) l.length cap]).run Tryz.prog w.drew = .ok (.pointer (some ⟨g, 0, none⟩)) w.drew :=
    Lib.run_unsafeSliceData_row _ _ _ _ _ _ (by omega)
  have hUS : (Builtin.unsafeString_ #[196, 3] 9 #[.pointer (some ⟨g, 0, none⟩), .int .i64 l.length]).run Tryz.prog w.drew = .ok (.string ⟨l.toArray⟩) (w.drew.freeze ⟨g, 0, none⟩ l.length) := by
    refine Lib.run_unsafeString_row w.drew 196 3 9 5 Tryz.underlying196 cellsByte g cur.size (by have hg' : w.drew.heap[g]? = some (.cells cur 5 (0, 0)) := hg; simp [World.shape?, hg']) l h0 (by omega) (by omega) ?_
    intro j x hx
    have hg' : w.drew.heap[g]? = some (.cells cur 5 (0, 0)) := hg
    have hj : j < l.length := (List.getElem?_eq_some_iff.1 hx).1
    have h2 : (cur.toList.take l.length)[j]? = some (.int .u8 x.toNat) := by rw [htake]; simp [Lib.byteCells, hx]
    rw [List.getElem?_take_of_lt hj] at h2
    rw [Addr.add_lit, Nat.zero_add, Lib.cell_of_heap hg']
    simpa using h2
  have mixed := mx
  have t95 := Tryz.underlying136
  have t93 := Tryz.underlying133
  have t37 := Tryz.underlying134
  have t137 := Tryz.underlying196
  go_enter Tryz.func45, ntm48
  go_wp2
  go_region_o
  all_goals (go_wp2; go_ret; exact ⟨rfl, rfl⟩)
theorem w_String_nil {tid : TypeId} (b : Nat) (p : Value) (w : World) (hbk : w.heap[b]? = some (.cells #[p, .slice none 0 0] tid (0, 0))) :
    Calls Tryz.prog 45 #[.pointer (some ⟨b, 0, none⟩)] w fun e w' => e = .returned (.string ⟨#[]⟩) ∧ w' = w.drew := by
  have hUS : ∀ W q, (Builtin.unsafeString_ #[196, 3] 9 #[.pointer q, .int .i64 0]).run Tryz.prog W = .ok (.string .empty) W := fun W q => Lib.run_unsafeString_none W _ _ _ q
  have c1 : w.drew.cell? ⟨b, 1, none⟩ = some (.slice none 0 0) := by
    have : w.drew.heap[b]? = some (.cells #[p, .slice none 0 0] tid (0, 0)) := hbk
    rw [Lib.cell_of_heap this]; rfl
  have hSD : (Builtin.unsafeSliceData_ #[134] 196 #[.slice none 0 0]).run Tryz.prog w.drew = .ok (.pointer none) w.drew := rfl
  have mixed := mx
  have t95 := Tryz.underlying136
  have t93 := Tryz.underlying133
  have t37 := Tryz.underlying134
  have t137 := Tryz.underlying196
  go_enter Tryz.func45, ntm48
  go_wp2
  go_region_o
  all_goals (go_wp2; go_ret; exact ⟨rfl, rfl⟩)
theorem bod136' : bodied Tryz.prog 177 = true := by kernel_rfl
theorem bod48' : bodied Tryz.prog 45 = true := by kernel_rfl
theorem ct_copyCheck {T : Tm} {M : Mem} {b : Nat} {p v : Value} (hT : T b = some 136) (hp : p = .pointer none ∨ p = .pointer (some ⟨b, 0, none⟩)) :
    CtT Tryz.prog 177 [.pointer (some ⟨b, 0, none⟩)] T M [(b, [p, v])] [] (fun r M' L' R' => r = .tuple #[] ∧ M' = M ∧ L' = [(b, [.pointer (some ⟨b, 0, none⟩), v])] ∧ R' = []) noPan := by
  refine ⟨bod136', fun w U hw => ?_⟩
  obtain ⟨bs, rfl, hi⟩ := hw
  have hbk : w.heap[b]? = some (.cells #[p, v] 136 (0, 0)) := hi.typed hT (List.mem_singleton.2 rfl)
  have c0 : w.cell? ⟨b, 0, none⟩ = some p := by rw [Lib.cell_of_heap hbk]; rfl
  rcases hp with rfl | rfl
  · refine Calls.mono (w_copyCheck_fresh b w c0 (by simp [World.shape?, hbk]) (Lib.frozen_of_heap hbk 0)) ?_
    rintro e w' ⟨rfl, rfl⟩
    have h2 := hi.store (k := b) (i := 0) (v := .pointer (some ⟨b, 0, none⟩)) (by simp)
    have h3 : lset [(b, [.pointer none, v])] b 0 (.pointer (some ⟨b, 0, none⟩)) = [(b, [.pointer (some ⟨b, 0, none⟩), v])] := by simp [lset]
    rw [h3] at h2
    exact ⟨M, _, [], ⟨⟨bs, h2⟩, rfl, rfl⟩, rfl, rfl, rfl, rfl⟩
  · refine Calls.mono (w_copyCheck_used b w c0) ?_
    rintro e w' ⟨rfl, rfl⟩
    exact ⟨M, _, [], ⟨⟨bs, hi⟩, rfl, rfl⟩, rfl, rfl, rfl, rfl⟩
theorem drew_old {w : World} {g n b : Nat} (h : b ≠ g) : (w.drew.freeze ⟨g, 0, none⟩ n).heap[b]? = w.heap[b]? := by
  rw [freeze_other h]; rfl
theorem drew_size {w : World} {g n : Nat} : (w.drew.freeze ⟨g, 0, none⟩ n).heap.size = w.heap.size := by
  unfold World.freeze
  split
  · rfl
  · show (Array.modify _ _ _).size = _
    rw [Array.size_modify]; rfl
theorem ct_String {tid : TypeId} {T : Tm} {M : Mem} {b : Nat} {p v : Value} {l : Bs} (hT : T b = some tid) (hl : l.length ≤ 1000000000) (hnil : l = [] → v = .slice none 0 0) :
    CtT Tryz.prog 45 [.pointer (some ⟨b, 0, none⟩)] T M [(b, [p, v])] [(v, 5, 1, Lib.byteCells l)] (fun r M' L' R' => r = st l ∧ M' = M ∧ (∃ v', L' = [(b, [p, v'])]) ∧ R' = [(.slice none 0 0, 5, 1, [])]) noPan := by
  refine ⟨bod48', fun w U hw => ?_⟩
  obtain ⟨bs, rfl, hi⟩ := hw
  have hbk : w.heap[b]? = some (.cells #[p, v] tid (0, 0)) := hi.typed hT (List.mem_singleton.2 rfl)
  obtain ⟨hlen, hrow⟩ := hi.rows
  obtain ⟨o, rfl⟩ : ∃ o, bs = [o] := by
    cases bs with
    | nil => simp at hlen
    | cons o bs => cases bs with
      | nil => exact ⟨o, rfl⟩
      | cons _ _ => simp at hlen
  have hr := hrow 0 _ _ _ _ o rfl rfl
  rcases hr with ⟨rfl, hx, rfl⟩ | ⟨g, n, cap, junk, rfl, hg, hn, hc, hle, rfl⟩ | ⟨h0, _⟩ | ⟨h0, _⟩
  rotate_left 2
  · exact absurd h0 (by decide)
  · exact absurd h0 (by decide)
  · have hl0 : l = [] := by simpa [Lib.byteCells] using hx
    subst hl0
    refine Calls.mono (w_String_nil b p w hbk) ?_
    rintro e w' ⟨rfl, rfl⟩
    exact ⟨M, _, _, ⟨⟨[none], hi.keeps ⟨rfl, rfl, rfl, Nat.le_refl _, fun _ _ => rfl⟩⟩, rfl, rfl⟩, rfl, rfl, ⟨_, rfl⟩, rfl⟩
  · have hbl : (Lib.byteCells l).length = l.length := by simp [Lib.byteCells]
    have hnl : n = l.length := by omega
    subst hnl
    have hgM := hi.apart g (by simp)
    have hgL : g ∉ [(b, [p, .slice (some ⟨g, 0, none⟩) l.length cap])].map (·.1) := by
      have := hi.nodup
      simp at this
      simp
      exact fun h => this h.symm
    obtain ⟨bs', hi'⟩ := hi.dropR
    have hbs : bs' = [] := by simpa using hi'.rows.1.symm
    subst hbs
    by_cases h0 : l = []
    · have := hnil h0; injection this with h; cases h
    · refine Calls.mono (w_String b g cap p _ l w h0 hbk hg hle (by simpa using hc) (by omega) ?_) ?_
      · rw [← hbl]; simp
      · rintro e w' ⟨rfl, rfl⟩
        have h2 := hi'.keepsBut (g := g) (w' := w.drew.freeze ⟨g, 0, none⟩ l.length) hgM.2 hgM.1 hgL (by simp) (by unfold World.freeze; split <;> rfl) (by unfold World.freeze; split <;> rfl) (by unfold World.freeze; split <;> rfl) (by rw [drew_size]; exact Nat.le_refl _) (fun k hk _ => drew_old hk)
        exact ⟨M, _, _, ⟨⟨_, h2.addNil⟩, rfl, rfl⟩, rfl, rfl, ⟨_, rfl⟩, rfl⟩
theorem ct_Len {M : Mem} {b n c : Nat} {a : Option Addr} {p : Value} : Ct Tryz.prog 44 [.pointer (some ⟨b, 0, none⟩)] M [(b, [p, .slice a n c])] [] (fun r M' L' R' => r = .int .i64 n ∧ M' = M ∧ L' = [(b, [p, .slice a n c])] ∧ R' = []) noPan := by
  intro T
  refine ct_run mx bod44 Tryz.func44 rfl (by rw [nt44]; exact Nat.le_of_ble_eq_true rfl) (dr := dr44) (by kernel_rfl) rs44 ?_
  intro hno _
  simp only [noneL, and_true] at hno
  simp +contextual only [go_sem, Rcb, Rbk, sevalprocAttr, hno]
  exact end_id ExtT.rfl' rfl rfl ⟨rfl, rfl, rfl, rfl⟩
theorem ct_WriteByte {T : Tm} {M : Mem} {b : Nat} {a : Option Addr} {n c : Nat} {p : Value} {xs : List Value} {ch : Int} (hT : T b = some 136) (hp : p = .pointer none ∨ p = .pointer (some ⟨b, 0, none⟩)) (hn : xs.length = n) (hl : n ≤ 4000) :
    CtT Tryz.prog 129 [.pointer (some ⟨b, 0, none⟩), .int .u8 ch] T M [(b, [p, .slice a n c])] [(.slice a n c, 5, 1, xs)] (fun r M' L' R' => r = .nilIface ∧ M' = M ∧ ∃ a' c', L' = [(b, [.pointer (some ⟨b, 0, none⟩), .slice a' (n + 1) c'])] ∧ R' = [(.slice a' (n + 1) c', 5, 1, xs ++ [.int .u8 ch])]) noPan := by
  refine ct_run mx bod129 Tryz.func129 rfl (by rw [nt129]; exact Nat.le_of_ble_eq_true rfl) (dr := dr129) (by kernel_rfl) rs129 ?_
  intro hno _
  simp only [noneL, and_true] at hno
  simp +contextual only [go_sem, Rcb, Rbk, sevalprocAttr]
  refine rCall_one [] (ct_copyCheck hT hp) ?_ (fun _ _ _ _ _ _ h => h.elim)
  rintro v M' L' _ _ hno' ⟨rfl, rfl, rfl, -⟩
  simp +contextual only [go_sem, Rcb, Rbk, sevalprocAttr, hno]
  intro b1 hb1 hap1
  refine app_row row134 okt134 (.slice _ 1 _ _ _ Tryz.underlying134 (cells_own [] hb1 trivial rfl) (by intro u hu; simp only [List.mem_singleton] at hu; subst hu; rfl)) (by rw [hn]; simp only [List.length_cons, List.length_nil]; omega) ?_
  intro a' m c' hm
  have : m = n + 1 := by rw [hn] at hm; simp only [List.length_cons, List.length_nil] at hm; omega
  subst this
  simp +contextual only [go_sem, Rcb, Rbk, sevalprocAttr, hno, hap1]
  exact Close_drop (end_id ExtT.rfl' rfl rfl ⟨rfl, rfl, _, _, rfl, rfl⟩)
def wordC (c : UInt8) : Bool := letterB c.toNat || digitB c.toNat
def digC (c : UInt8) : Bool := digitB c.toNat
def signsL : List Bs := [[60, 62], [60, 61], [62, 61], [124, 124], [60], [62], [61], [43], [45], [42], [40], [41], [44], [46], [59]]
def textM : Bs → Option (Bs × Nat)
  | [] => none
  | [c] => if c = 39 then some ([], 1) else none
  | c :: d :: l => if c = 39 then (if d = 39 then (textM l).map fun x => (39 :: x.1, x.2 + 2) else some ([], 1)) else (textM (d :: l)).map fun x => (c :: x.1, x.2 + 1)
def oneM (at_ : Int) : Bs → Except (Int × Int) (Tk × Nat)
  | [] => .error (2, at_)
  | c :: l =>
    if letterB c.toNat = true then .ok (⟨1, (c :: l).take (runN wordC (c :: l)), at_⟩, runN wordC (c :: l))
    else if digitB c.toNat = true then (if 16 < runN digC (c :: l) then .error (3, at_) else .ok (⟨2, (c :: l).take (runN digC (c :: l)), at_⟩, runN digC (c :: l)))
    else if c = 39 then (match textM l with | none => .error (2, at_) | some x => if 60 < x.1.length then .error (4, at_) else .ok (⟨3, x.1, at_⟩, x.2 + 1))
    else match signsL.find? (·.isPrefixOf (c :: l)) with | none => .error (2, at_) | some x => .ok (⟨4, x, at_⟩, x.length)
def tkV (t : Tk) : Value := .agg ⟨[.int .i64 t.k, st t.s, .int .i64 t.at_]⟩
theorem ct_one {M : Mem} {s : Bs} {at_ : Int} (h0 : s ≠ []) (hs : s.length ≤ 4000) :
    Ct Tryz.prog 93 [st s, .int .i64 at_] M [] [] (fun r _ _ _ => ∃ t n, oneM at_ s = .ok (t, n) ∧ r = .tuple ⟨[tkV t, .int .i64 (n : Int)]⟩) (fun ch _ _ _ => ∃ e a, oneM at_ s = .error (e, a) ∧ ch = oopsV e a) := by
  intro T
  obtain ⟨c, l, hcl⟩ : ∃ c l, s = c :: l := by
    cases s with
    | nil => exact (h0 rfl).elim
    | cons c l => exact ⟨c, l, rfl⟩
  have hx : byteAt (bs s) 0 = c := by rw [byteAt_bs (by rw [hcl]; simp)]; simp [hcl]
  have hpos : (0 : Int) < (s.length : Int) := by rw [hcl]; simp only [List.length_cons]; omega
  obtain ⟨S, hone⟩ : ∃ S, S = oneM at_ s := ⟨_, rfl⟩
  rw [← hone]
  rw [hcl] at hone
  simp only [oneM] at hone
  rw [← hcl] at hone
  have runle : ∀ p, runN p s ≤ s.length := fun p => (List.takeWhile_sublist p).length_le
  refine ct_run mx bod93 Tryz.func93 rfl (by rw [nt93]; exact Nat.le_of_ble_eq_true rfl) (dr := dr93) (by kernel_rfl) rs93 ?_
  intro hno _
  simp +contextual only [go_sem, Rcb, Rbk, sevalprocAttr, hx, hpos]
  intro b4 T4 hb4 hT4 hTb4
  refine rCall_pure (ct_sql_letter c.toNat M T4) ?_ (fun _ _ _ _ h => h.elim)
  rintro v M1 hM1 hno1 rfl
  by_cases hlet : letterB c.toNat = true
  · rw [if_pos hlet] at hone
    simp +contextual only [go_sem, Rcb, Rbk, sevalprocAttr, hlet]
    refine rCall_pure (ct_lex_run (p := wordC) (fun c M => ct_one1 c.toNat M) s hs M1 T4) ?_ (fun _ _ _ _ h => h.elim)
    rintro v M2 hM2 hno2 rfl
    simp only [noneL, and_true] at hno2
    simp +contextual only [go_sem, Rcb, Rbk, sevalprocAttr, hlet, hno2, runle]
    refine end_none (hT4) ?_
    exact ⟨_, _, hone, by simp [tkV, st]⟩
  rw [if_neg hlet] at hone
  simp +contextual only [go_sem, Rcb, Rbk, sevalprocAttr, hlet]
  refine rCall_pure (ct_sql_digit c.toNat M1 T4) ?_ (fun _ _ _ _ h => h.elim)
  rintro v M2 hM2 hno2 rfl
  by_cases hdig : digitB c.toNat = true
  · rw [if_pos hdig] at hone
    simp +contextual only [go_sem, Rcb, Rbk, sevalprocAttr, hdig]
    refine rCall_pure (ct_lex_run (p := digC) (fun c M => ct_sql_digit c.toNat M) s hs M2 T4) ?_ (fun _ _ _ _ h => h.elim)
    rintro v M3 hM3 hno3 rfl
    simp only [noneL, and_true] at hno3
    by_cases h16 : 16 < runN digC s
    · rw [if_pos h16] at hone
      have h16' : (16 : Int) < (runN digC s : Int) := by omega
      simp +contextual only [go_sem, Rcb, Rbk, sevalprocAttr, hdig, h16']
      refine rCall_pure (ct_sql_fail 3 at_ M3 T4) (fun _ _ _ _ h => h.elim) ?_
      rintro ch M4 hM4 hno4 rfl
      rw [fi_pan, panF_eq]
      exact end_none hT4 ⟨_, _, hone, rfl⟩
    · rw [if_neg h16] at hone
      have h16' : ¬ (16 : Int) < (runN digC s : Int) := by omega
      simp +contextual only [go_sem, Rcb, Rbk, sevalprocAttr, hdig, h16', hno3, runle]
      refine end_none hT4 ?_
      exact ⟨_, _, hone, by simp [tkV, st]⟩
  rw [if_neg hdig] at hone
  simp +contextual only [go_sem, Rcb, Rbk, sevalprocAttr, hdig]
  by_cases hq : c = 39
  · have hq' : ((c.toNat : Nat) : Int) = 39 := by rw [hq]; rfl
    rw [if_pos hq] at hone
    simp +contextual only [go_sem, Rcb, Rbk, sevalprocAttr, hq']
    intro b9 T9 hb9 hap9 hT9 hTb9
    refine ⟨fun m e ds h => ds = [] ∧ e 0 = st s ∧ e 1 = .int .i64 at_ ∧ e 4 = .pointer (some ⟨b4, 0, none⟩) ∧ e 9 = .pointer (some ⟨b9, 0, none⟩) ∧
      ∃ M' i acc a c p, e 10 = .int .i64 (i : Nat) ∧ m + i = s.length + 1 ∧ 1 ≤ i ∧ i ≤ s.length ∧ M' b9 = none ∧ M' b4 = none ∧ acc.length ≤ i ∧ (p = .pointer none ∨ p = .pointer (some ⟨b9, 0, none⟩)) ∧ (acc = [] → a = none ∧ c = 0) ∧
        textM l = (textM (s.drop i)).map (fun x => (acc ++ x.1, (i - 1) + x.2)) ∧
        h = ⟨T9, M', [(b9, [p, .slice a acc.length c]), (b4, [.int .i64 0, .string (bs []), .int .i64 0])], [(.slice a acc.length c, 5, 1, Lib.byteCells acc)]⟩,
      Close_addNil (Close_id ⟨s.length, rfl, ?_, ?_, ?_, ?_, M2, 1, [], none, 0, .pointer none, ?_, rfl, Nat.le_refl _, by omega, hb9, ?_, by simp, .inl rfl, fun _ => ⟨rfl, rfl⟩, ?_, rfl⟩), ?_⟩
    · simp only [go_sem, Rcb, Rbk, sevalprocAttr]
    · simp only [go_sem, Rcb, Rbk, sevalprocAttr]
    · simp only [go_sem, Rcb, Rbk, sevalprocAttr]
    · simp only [go_sem, Rcb, Rbk, sevalprocAttr]
    · simp only [go_sem, Rcb, Rbk, sevalprocAttr]
    · simpa [noneL] using hno2
    · rw [hcl]; simp
    rintro m e ds h ⟨rfl, e0, e1, e4, e9, M3, i, acc, a, cc, p, e10, hm, h1, hi, n9, n4, hacc, hp, hnil, htx, rfl⟩
    by_cases hlt : i < s.length
    · have hx' := byteAt_bs hlt
      have hdrop : s.drop i = s[i] :: s.drop (i + 1) := List.drop_eq_getElem_cons hlt
      have hwr := wrap_succ i (by omega)
      by_cases h39 : s[i] = 39
      · have h39' : ((s[i].toNat : Nat) : Int) = 39 := by rw [h39]; rfl
        by_cases hd : i + 1 < s.length ∧ s[i + 1]? = some 39
        · obtain ⟨hd1, hd2⟩ := hd
          have hx2 := byteAt_bs hd1
          have hv : s[i + 1] = 39 := by rw [List.getElem?_eq_getElem hd1] at hd2; injection hd2
          have hdrop2 : s.drop (i + 1) = s[i + 1] :: s.drop (i + 1 + 1) := List.drop_eq_getElem_cons hd1
          have h39'' : ((s[i + 1].toNat : Nat) : Int) = 39 := by rw [hv]; rfl
          have hwr2 := wrap_succ (i + 1) (by omega)
          simp +contextual only [go_sem, Rcb, Rbk, sevalprocAttr, e0, e1, e4, e9, e10, hlt, hx', h39', hwr, hd1, hx2, h39'']
          refine rCall_of [] [(b9, _)] [(b4, _)] [] [_] [] (ct_WriteByte hTb9 hp (by simp [Lib.byteCells]) (by omega)) ?_ (fun _ _ _ _ _ _ _ _ h => h.elim)
          rintro v M4 L' R' _ _ _ hno4 ⟨rfl, rfl, a', c', rfl, rfl⟩
          simp +contextual only [go_sem, Rcb, Rbk, sevalprocAttr, e0, e1, e4, e9, e10, hlt, hx', h39', hwr, hwr2]
          rw [Run_lp]
          refine Close_id ⟨m - 2, by omega, rfl, ?_, ?_, ?_, ?_, M4, i + 2, acc ++ [39], a', c', _, ?_, by omega, by omega, by omega, n9, n4, by rw [List.length_append]; simp only [List.length_cons, List.length_nil]; omega, .inr rfl, by simp, ?_, ?_⟩
          · simp only [e0, go_sem, Rcb, Rbk, sevalprocAttr]
          · simp only [e1, go_sem, Rcb, Rbk, sevalprocAttr]
          · simp only [e4, go_sem, Rcb, Rbk, sevalprocAttr]
          · simp only [e9, go_sem, Rcb, Rbk, sevalprocAttr]
          · simp only [go_sem, Rcb, Rbk, sevalprocAttr]
          · rw [htx, hdrop, hdrop2, h39, hv]
            simp only [textM, if_true]
            rw [Option.map_map]
            congr 1
            funext x
            simp only [Function.comp, List.append_assoc, List.cons_append, List.nil_append, Prod.mk.injEq, true_and]
            omega
          · rw [List.length_append]; simp [Lib.byteCells]
        · have htxt : textM (s.drop i) = some ([], 1) := by
            rw [hdrop, h39]
            cases hdr : s.drop (i + 1) with
            | nil => simp [textM]
            | cons d r =>
              have hd1 : i + 1 < s.length := by
                have := congrArg List.length hdr
                simp only [List.length_drop, List.length_cons] at this
                omega
              have hdd : d ≠ 39 := by
                rintro rfl
                apply hd
                refine ⟨hd1, ?_⟩
                rw [List.drop_eq_getElem_cons hd1] at hdr
                injection hdr with h1 h2
                rw [List.getElem?_eq_getElem hd1, h1]
              simp [textM, hdd]
          rw [htxt] at htx
          simp only [Option.map_some, List.append_nil] at htx
          rw [htx] at hone
          simp only at hone
          have hlast : ∀ hd1 : i + 1 < s.length, ¬ ((s[i + 1].toNat : Nat) : Int) = 39 := by
            intro hd1 h
            have h2 : s[i + 1].toNat = 39 := by omega
            exact hd ⟨hd1, by rw [List.getElem?_eq_getElem hd1]; exact congrArg some (UInt8.toNat_inj.1 h2)⟩
          by_cases hd1 : i + 1 < s.length
          have hx2 := byteAt_bs hd1
          have hl2 := hlast hd1
          simp +contextual only [go_sem, Rcb, Rbk, sevalprocAttr, e0, e1, e4, e9, e10, hlt, hx', h39', hwr, hd1, hx2, hl2]
          rotate_left
          simp +contextual only [go_sem, Rcb, Rbk, sevalprocAttr, e0, e1, e4, e9, e10, hlt, hx', h39', hwr, hd1]
          all_goals
            refine rCall_of [] [(b9, _)] [(b4, _)] [] [] [_] (ct_Len T9) ?_ (fun _ _ _ _ _ _ _ _ h => h.elim)
            rintro v M4 L' R' _ _ _ hno4 ⟨rfl, rfl, rfl, rfl⟩
            by_cases h60 : 60 < acc.length
            · rw [if_pos h60] at hone
              have h60' : (60 : Int) < (acc.length : Int) := by omega
              simp +contextual only [go_sem, Rcb, Rbk, sevalprocAttr, e0, e1, e4, e9, e10, h60']
              refine rCall_pure (ct_sql_fail 4 at_ M4 T9) (fun _ _ _ _ h => h.elim) ?_
              rintro ch M5 hM5 hno5 rfl
              rw [fi_pan, panF_eq]
              exact end_none (hT4.trans hT9) ⟨_, _, hone, rfl⟩
            · rw [if_neg h60] at hone
              have h60' : ¬ (60 : Int) < (acc.length : Int) := by omega
              simp +contextual only [go_sem, Rcb, Rbk, sevalprocAttr, e0, e1, e4, e9, e10, h60']
              refine rCall_of [] [(b9, _)] [(b4, _)] [] [_] [] (ct_String (l := acc) hTb9 (by omega) (fun h => by obtain ⟨rfl, rfl⟩ := hnil h; rw [h]; rfl)) ?_ (fun _ _ _ _ _ _ _ _ h => h.elim)
              rintro v M5 L' R' _ _ _ hno5 ⟨rfl, rfl, ⟨v', rfl⟩, rfl⟩
              simp only [List.cons_append, List.nil_append, noneL, and_true] at hno5
              simp +contextual only [go_sem, Rcb, Rbk, sevalprocAttr, e0, e1, e4, e9, e10, hno5, hap9, hwr]
              refine end_none (hT4.trans hT9) ⟨_, _, hone, ?_⟩
              simp only [tkV, st]
              congr 4
              have : i + 1 = i - 1 + 1 + 1 := by omega
              rw [← this]
      · have h39' : ¬ ((s[i].toNat : Nat) : Int) = 39 := by
          intro h
          have h2 : s[i].toNat = 39 := by omega
          exact h39 (UInt8.toNat_inj.1 h2)
        simp +contextual only [go_sem, Rcb, Rbk, sevalprocAttr, e0, e1, e4, e9, e10, hlt, hx', h39']
        refine rCall_of [] [(b9, _)] [(b4, _)] [] [_] [] (ct_WriteByte hTb9 hp (by simp [Lib.byteCells]) (by omega)) ?_ (fun _ _ _ _ _ _ _ _ h => h.elim)
        rintro v M4 L' R' _ _ _ hno4 ⟨rfl, rfl, a', c', rfl, rfl⟩
        simp +contextual only [go_sem, Rcb, Rbk, sevalprocAttr, e0, e1, e4, e9, e10, hlt, hx', h39', hwr]
        rw [Run_lp]
        refine Close_id ⟨m - 1, by omega, rfl, ?_, ?_, ?_, ?_, M4, i + 1, acc ++ [s[i]], a', c', _, ?_, by omega, by omega, by omega, n9, n4, by rw [List.length_append]; simp only [List.length_cons, List.length_nil]; omega, .inr rfl, by simp, ?_, ?_⟩
        · simp only [e0, go_sem, Rcb, Rbk, sevalprocAttr]
        · simp only [e1, go_sem, Rcb, Rbk, sevalprocAttr]
        · simp only [e4, go_sem, Rcb, Rbk, sevalprocAttr]
        · simp only [e9, go_sem, Rcb, Rbk, sevalprocAttr]
        · simp only [go_sem, Rcb, Rbk, sevalprocAttr]
        · have : textM (s.drop i) = (textM (s.drop (i + 1))).map fun x => (s[i] :: x.1, x.2 + 1) := by
            rw [hdrop]
            cases s.drop (i + 1) with
            | nil => simp [textM, h39]
            | cons d r => simp [textM, h39]
          rw [htx, this, Option.map_map]
          congr 1
          funext x
          simp only [Function.comp, List.append_assoc, List.cons_append, List.nil_append, Prod.mk.injEq, true_and]
          omega
        · rw [List.length_append]; simp [Lib.byteCells]
    · have : i = s.length := by omega
      subst this
      rw [List.drop_length] at htx
      simp only [textM, Option.map_none] at htx
      rw [htx] at hone
      simp +contextual only [go_sem, Rcb, Rbk, sevalprocAttr, e0, e1, e4, e9, e10, hlt]
      refine rCall_pure (ct_sql_fail 2 at_ M3 T9) (fun _ _ _ _ h => h.elim) ?_
      rintro ch M4 hM4 hno4 rfl
      rw [fi_pan, panF_eq]
      exact end_none (hT4.trans hT9) ⟨_, _, hone, rfl⟩
  · have hq' : ¬ ((c.toNat : Nat) : Int) = 39 := by
      intro h
      have h2 : c.toNat = 39 := by omega
      exact hq (UInt8.toNat_inj.1 h2)
    rw [if_neg hq] at hone
    simp +contextual only [go_sem, Rcb, Rbk, sevalprocAttr, hq']
    intro b84 hb84 hap84
    refine loop_rangeC 15 86 [(0, st s), (1, .int .i64 at_), (4, .pointer (some ⟨b4, 0, none⟩)), (84, .slice (some ⟨b84, 0, none⟩) 15 15), (85, .int .i64 ((15 : Nat) : Int))]
      (fun i e h => (∃ M', h = ⟨T4, M', [(b4, [.int .i64 0, .string (bs []), .int .i64 0])], []⟩ ∧ M' b84 = some (signsL.map st) ∧ M' b4 = none) ∧ signsL.find? (fun x => x.isPrefixOf s) = (signsL.drop i).find? (fun x => x.isPrefixOf s))
      0 (by omega) (by simp only [live, go_sem, Rcb, Rbk, sevalprocAttr]) (by simp only [go_sem, Rcb, Rbk, sevalprocAttr]) (Close_freeze fun he hb hno => Close_id ⟨⟨_, rfl, hb, hno.1⟩, rfl⟩) ?_
    rintro i e h hi hlv ht ⟨⟨M3, rfl, hw, hn4⟩, hfind⟩
    simp only [live, st] at hlv
    by_cases hlt : i < 15
    · have hlt' : i < signsL.length := hlt
      have hdrop : signsL.drop i = signsL[i] :: signsL.drop (i + 1) := List.drop_eq_getElem_cons hlt'
      rw [hdrop] at hfind
      have hx : mcell M3 ⟨b84, i, none⟩ = some (st signsL[i]) := by
        rw [mcell_some hw, List.getElem?_map, List.getElem?_eq_getElem hlt']
        rfl
      have hi3 : (i : Int) < 15 := by omega
      simp +contextual only [go_sem, Rcb, Rbk, sevalprocAttr, hlv, ht, hlt, hi3, hx]
      refine rCall_pure (ct_prefix s signsL[i] M3 T4) ?_ (fun _ _ _ _ h => h.elim)
      rintro v M4 hM4 hno4 rfl
      simp only [noneL, and_true] at hno4
      by_cases hp : signsL[i].isPrefixOf s = true
      · simp only [List.find?_cons, hp] at hfind
        rw [hfind] at hone
        simp +contextual only [go_sem, Rcb, Rbk, sevalprocAttr, hlv, ht, hp, hno4]
        exact end_none hT4 ⟨_, _, hone, by simp [tkV, st]⟩
      · simp only [Bool.not_eq_true] at hp
        simp only [List.find?_cons, hp] at hfind
        simp +contextual only [go_sem, Rcb, Rbk, sevalprocAttr, hlv, ht, hp]
        refine lp_range hlt ?_ ?_ ⟨⟨M4, rfl, hM4 _ _ hw, hno4⟩, hfind⟩
        · simp only [live, hlv, go_sem, Rcb, Rbk, sevalprocAttr]
        · simp only [ht, go_sem, Rcb, Rbk, sevalprocAttr, wrap_succ i (by omega)]
    · have : i = 15 := by omega
      subst this
      have hf2 : signsL.find? (fun x => x.isPrefixOf s) = none := hfind
      rw [hf2] at hone
      have h33 : ¬ ((15 : Nat) : Int) < 15 := by omega
      simp +contextual only [go_sem, Rcb, Rbk, sevalprocAttr, hlv, ht, h33]
      refine rCall_pure (ct_sql_fail 2 at_ M3 T4) (fun _ _ _ _ h => h.elim) ?_
      rintro ch M4 hM4 hno4 rfl
      rw [fi_pan, panF_eq]
      exact end_none hT4 ⟨_, _, hone, rfl⟩
def spaceC (c : UInt8) : Bool := decide (c = 32) || decide (c = 9) || decide (c = 10)
def toksM : Nat → Int → Bs → Except (Int × Int) (List Tk)
  | 0, _, _ => .ok []
  | _ + 1, _, [] => .ok []
  | f + 1, at_, c :: l => if spaceC c = true then toksM f (at_ + 1) l else match oneM at_ (c :: l) with
    | .error x => .error x
    | .ok (t, n) => match toksM f (at_ + n) ((c :: l).drop n) with
      | .error x => .error x
      | .ok ts => .ok (t :: ts)
def tokensM (s : Bs) : Except (Int × Int) (List Tk) := if 4000 < s.length then .error (4, 0) else toksM (s.length + 1) 0 s
theorem runN_le (p : UInt8 → Bool) (s : Bs) : runN p s ≤ s.length := (List.takeWhile_sublist p).length_le
theorem runN_pos {p : UInt8 → Bool} {c : UInt8} {l : Bs} (h : p c = true) : 1 ≤ runN p (c :: l) := by simp [runN, List.takeWhile_cons, h]
theorem take_runN (p : UInt8 → Bool) (s : Bs) : s.take (runN p s) = s.takeWhile p := by
  unfold runN
  induction s with
  | nil => rfl
  | cons c l ih =>
    rw [List.takeWhile_cons]
    split
    · simp [ih]
    · simp
theorem textM_le : ∀ (n : Nat) (l : Bs), l.length ≤ n → ∀ x, textM l = some x → x.2 ≤ l.length ∧ 1 ≤ x.2 := by
  intro n
  induction n with
  | zero =>
    intro l hl x hx
    cases l with
    | nil => cases hx
    | cons c l => simp at hl
  | succ n ih =>
    intro l hl x hx
    match l, hl, hx with
    | [], _, hx => cases hx
    | [c], _, hx =>
      simp only [textM] at hx
      split at hx
      · injection hx with hx; subst hx; simp
      · cases hx
    | c :: d :: l, hl, hx =>
      simp only [List.length_cons] at hl
      simp only [textM] at hx
      split at hx
      · split at hx
        · obtain ⟨y, hy, rfl⟩ := Option.map_eq_some_iff.1 hx
          have := ih l (by omega) y hy
          simp only [List.length_cons]; omega
        · injection hx with hx; subst hx; simp
      · obtain ⟨y, hy, rfl⟩ := Option.map_eq_some_iff.1 hx
        have := ih (d :: l) (by simp only [List.length_cons]; omega) y hy
        simp only [List.length_cons] at this ⊢; omega
theorem oneM_ok {at_ : Int} {s : Bs} {t : Tk} {n : Nat} (h : oneM at_ s = .ok (t, n)) : 1 ≤ n ∧ n ≤ s.length ∧ (t.k = 2 → numOk t.s = true) := by
  cases s with
  | nil => cases h
  | cons c l =>
    simp only [oneM] at h
    split at h
    · rename_i hc
      injection h with h; injection h with h1 h2; subst h1 h2
      exact ⟨runN_pos (by simp [wordC, hc]), runN_le _ _, fun h => by cases h⟩
    · split at h
      · rename_i hc
        split at h
        · cases h
        · rename_i h16
          injection h with h; injection h with h1 h2; subst h1 h2
          refine ⟨runN_pos hc, runN_le _ _, fun _ => ?_⟩
          have hp := runN_pos (p := digC) (l := l) hc
          have hle := runN_le digC (c :: l)
          simp only [numOk, Bool.and_eq_true, decide_eq_true_eq, List.length_take]
          refine ⟨by omega, ?_⟩
          rw [take_runN]
          show (List.takeWhile digC (c :: l)).all digC = true
          exact List.all_takeWhile
      · split at h
        · split at h
          · cases h
          · rename_i x hx
            split at h
            · cases h
            · injection h with h; injection h with h1 h2; subst h1 h2
              have := textM_le _ l (Nat.le_refl _) x hx
              refine ⟨by omega, by simp only [List.length_cons]; omega, fun h => by cases h⟩
        · split at h
          · cases h
          · rename_i x hx
            injection h with h; injection h with h1 h2; subst h1 h2
            have h1 := List.find?_some hx
            have h2 := List.mem_of_find?_eq_some hx
            have h3 : ∀ x ∈ signsL, 1 ≤ x.length := by decide
            exact ⟨h3 _ h2, (List.isPrefixOf_iff_prefix.1 h1).length_le, fun h => by cases h⟩
theorem toksM_fuel : ∀ (f g : Nat) (at_ : Int) (s : Bs), s.length < f → s.length < g → toksM f at_ s = toksM g at_ s := by
  intro f
  induction f with
  | zero => intro g at_ s h; omega
  | succ f ih =>
    intro g at_ s hf hg
    obtain ⟨g, rfl⟩ : ∃ k, g = k + 1 := ⟨g - 1, by omega⟩
    cases s with
    | nil => rfl
    | cons c l =>
      simp only [List.length_cons] at hf hg
      simp only [toksM]
      split
      · exact ih g _ l (by omega) (by omega)
      · cases ho : oneM at_ (c :: l) with
        | error x => rfl
        | ok x =>
          obtain ⟨t, n⟩ := x
          obtain ⟨h1, h2, _⟩ := oneM_ok ho
          simp only
          rw [ih g _ ((c :: l).drop n) (by simp only [List.length_drop, List.length_cons]; omega) (by simp only [List.length_drop, List.length_cons]; omega)]
theorem ixSpace (c : UInt8) : (0 ≤ Lib.indexByte [32, 9, 10] c.toNat.toUInt8) ↔ spaceC c = true := by
  have h1 : c.toNat.toUInt8 = c := by simp
  rw [h1]
  have := c.toNat_lt
  simp only [Lib.indexByte, spaceC, Bool.or_eq_true, decide_eq_true_eq]
  by_cases h32 : c = 32
  · subst h32; decide
  · by_cases h9 : c = 9
    · subst h9; decide
    · by_cases h10 : c = 10
      · subst h10; decide
      · have e1 : (32 == c) = false := by simp; exact fun h => h32 h.symm
        have e2 : (9 == c) = false := by simp; exact fun h => h9 h.symm
        have e3 : (10 == c) = false := by simp; exact fun h => h10 h.symm
        simp [e1, e2, e3, h32, h9, h10]
theorem ct_IndexByte (l : Bs) (c : Int) (M : Mem) : Ct Tryz.prog 92 [st l, .int .u8 c] M [] [] (fun r M' _ _ => r = .int .i64 (Lib.indexByte l c.toNat.toUInt8) ∧ M' = M) noPan :=
  ct_same (by kernel_rfl) fun w hw => Calls.mono (Tryz.strings_IndexByte (bs l) c w) fun e w' h => ⟨by rw [h.1]; rfl, by rw [h.2]; exact Keeps.rfl'⟩
theorem ct_tokens {M : Mem} (s : Bs) : Ct Tryz.prog 47 [st s] M [] [] (fun r M' _ _ => ∃ ts, tokensM s = .ok ts ∧ RS M' RTk 3 ts r) (fun ch _ _ _ => ∃ e a, tokensM s = .error (e, a) ∧ ch = oopsV e a) := by
  intro T
  refine ct_run mx bod47 Tryz.func47 rfl (by rw [nt47]; exact Nat.le_of_ble_eq_true rfl) (dr := dr47) (by kernel_rfl) rs47 ?_
  intro hno _
  unfold tokensM
  by_cases h4 : 4000 < s.length
  · have h4' : (4000 : Int) < (s.length : Int) := by omega
    simp +contextual only [go_sem, Rcb, Rbk, sevalprocAttr, h4']
    refine rCall_pure (ct_sql_fail 4 0 M T) (fun _ _ _ _ h => h.elim) ?_
    rintro ch M4 hM4 hno4 rfl
    rw [fi_pan, panF_eq]
    exact end_none ExtT.rfl' ⟨_, _, if_pos h4, rfl⟩
  · rw [if_neg h4]
    have h4' : ¬ (4000 : Int) < (s.length : Int) := by omega
    simp +contextual only [go_sem, Rcb, Rbk, sevalprocAttr, h4']
    refine ⟨fun m e ds h => ds = [] ∧ e 0 = st s ∧
      ∃ N M' i acc a c xs, ExtT T N ∧ e 4 = .int .i64 (i : Nat) ∧ e 3 = .slice a acc.length c ∧ m + i = s.length + 1 ∧ i ≤ s.length ∧ acc.length ≤ i ∧ RL RTk acc xs ∧
        toksM (s.length + 1) 0 s = (match toksM m (i : Int) (s.drop i) with | .error x => .error x | .ok ts => .ok (acc ++ ts)) ∧
        h = ⟨N, M', [], [(.slice a acc.length c, 199, 3, xs)]⟩,
      Close_addNil (Close_id ⟨s.length + 1, rfl, ?_, T, M, 0, [], none, 0, [], ExtT.rfl', ?_, ?_, rfl, by omega, by simp, rfl, ?_, rfl⟩), ?_⟩
    · simp only [go_sem, Rcb, Rbk, sevalprocAttr]
    · simp only [go_sem, Rcb, Rbk, sevalprocAttr]
    · simp only [go_sem, Rcb, Rbk, sevalprocAttr]
    · rw [List.drop_zero]; cases toksM (s.length + 1) 0 s <;> simp
    rintro m e ds h ⟨rfl, e0, N, M1, i, acc, a, cc, xs, hN, e4, e3, hm, hi, hacc, hxs, hres, rfl⟩
    by_cases hlt : i < s.length
    · have hx := byteAt_bs hlt
      have hdrop : s.drop i = s[i] :: s.drop (i + 1) := List.drop_eq_getElem_cons hlt
      obtain ⟨m, rfl⟩ : ∃ k, m = k + 1 := ⟨m - 1, by omega⟩
      simp +contextual only [go_sem, Rcb, Rbk, sevalprocAttr, e0, e3, e4, hlt, hx]
      refine rCall_pure (ct_IndexByte [32, 9, 10] (s[i].toNat : Int) M1 N) ?_ (fun _ _ _ _ h => h.elim)
      rintro v M2 hM2 hno2 ⟨rfl, rfl⟩
      rw [hdrop] at hres
      simp only [toksM] at hres
      by_cases hsp : spaceC s[i] = true
      · rw [if_pos hsp] at hres
        have hsp' := (ixSpace s[i]).2 hsp
        simp +contextual only [go_sem, Rcb, Rbk, sevalprocAttr, e0, e3, e4, hsp', wrap_succ i (by omega)]
        rw [Run_lp]
        refine Close_id ⟨m, by omega, rfl, ?_, N, M2, i + 1, acc, a, cc, xs, hN, ?_, ?_, by omega, by omega, by omega, hxs, ?_, rfl⟩
        · simp only [e0, go_sem, Rcb, Rbk, sevalprocAttr]
        · simp only [go_sem, Rcb, Rbk, sevalprocAttr]
        · simp only [e3, go_sem, Rcb, Rbk, sevalprocAttr]
        · exact hres
      · rw [if_neg hsp] at hres
        have hsp' : ¬ (0 ≤ Lib.indexByte [32, 9, 10] s[i].toNat.toUInt8) := fun h => hsp ((ixSpace s[i]).1 h)
        have hcut : (s.drop i).take (s.length - i) = s.drop i := List.take_of_length_le (by simp)
        simp +contextual only [go_sem, Rcb, Rbk, sevalprocAttr, e0, e3, e4, hsp', hi, hcut]
        rw [← hdrop] at hres
        refine rCall_pure (ct_one (s := s.drop i) (at_ := (i : Int)) (by intro h; rw [hdrop] at h; cases h) (by simp; omega) N) ?_ ?_
        · rintro v M3 hM3 hno3 ⟨t, n, hok, rfl⟩
          obtain ⟨h1, h2, h3⟩ := oneM_ok hok
          rw [List.length_drop] at h2
          rw [hok] at hres
          simp only [List.drop_drop] at hres
          simp +contextual only [go_sem, Rcb, Rbk, sevalprocAttr, e0, e3, e4, tkV]
          intro b5 T5 hb5 hT5 hTb5 b6 hb6 hap6
          have hxl := RL_len (fun _ _ => RTk_len) hxs
          refine app_row row146 okt146 (.slice _ 1 _ _ _ Tryz.underlying146 (cells_own [] hb6 trivial rfl) (by intro u hu; simp only [List.mem_cons, List.not_mem_nil, or_false] at hu; rcases hu with rfl | rfl | rfl <;> rfl)) (by rw [hxl]; simp only [List.length_cons, List.length_nil]; omega) ?_
          intro ra rm rc hrm
          have hrm1 : rm = (acc ++ [t]).length := by
            rw [hxl] at hrm
            rw [List.length_append]
            simp only [List.length_cons, List.length_nil] at hrm ⊢
            omega
          subst hrm1
          have hacc2 := RL_append hxs (RL_one (r := RTk) (x := t) ⟨rfl, h3⟩)
          have hwr : IntKind.i64.wrap ((i : Int) + (n : Int)) = ((i + n : Nat) : Int) := by rw [wrap64 (by omega) (by omega)]; omega
          simp +contextual only [go_sem, Rcb, Rbk, sevalprocAttr, e0, e3, e4, hwr]
          rw [Run_lp]
          refine Close_drop (Close_drop (Close_id ⟨m + 1 - n, by omega, rfl, ?_, T5, M3, i + n, acc ++ [t], ra, rc, _, hN.trans hT5, ?_, ?_, by omega, by omega, by rw [List.length_append]; simp only [List.length_cons, List.length_nil]; omega, hacc2, ?_, rfl⟩))
          · simp only [e0, go_sem, Rcb, Rbk, sevalprocAttr]
          · simp only [go_sem, Rcb, Rbk, sevalprocAttr]
          · simp only [go_sem, Rcb, Rbk, sevalprocAttr]
          · rw [hres, toksM_fuel m (m + 1 - n) _ _ (by rw [List.length_drop]; omega) (by rw [List.length_drop]; omega)]
            rw [show ((i + n : Nat) : Int) = (i : Int) + (n : Int) from by omega]
            cases toksM (m + 1 - n) ((i : Int) + (n : Int)) (s.drop (i + n)) <;> simp
        · rintro ch M3 hM3 hno3 ⟨er, a, herr, rfl⟩
          rw [herr] at hres
          rw [fi_pan, panF_eq]
          exact end_none hN ⟨_, _, hres, rfl⟩
    · have hi2 : i = s.length := by omega
      subst hi2
      obtain ⟨m, rfl⟩ : ∃ k, m = k + 1 := ⟨m - 1, by omega⟩
      rw [List.drop_length] at hres
      simp only [toksM, List.append_nil] at hres
      simp +contextual only [go_sem, Rcb, Rbk, sevalprocAttr, e0, e3, e4, hlt]
      exact Close_row fun M2 hM2 hno2 hsl => end_id hN rfl rfl ⟨acc, hres, by omega, xs, hsl, hxs⟩
open Go Vc Go.RowKit
theorem w_catch_idle (p q : Addr) (w : World) :
    CallsD Tryz.prog 46 #[.pointer (some p), .pointer (some q)] .returning w fun e u' w' => e = .returned (.tuple #[]) ∧ u' = .returning ∧ w' = w := by
  have mixed := mx
  refine callsD_of_wpS Tryz.func46 rfl fun c₀ cs hu => ?_
  apply wpS_seq
  apply wpS_region
  simp [wpOpsS, go_sem, recoverD, hu, nt46, Exit.thenS]
  refine wpS_of_wp ?_
  go_wp2
  cases c₀
  simp_all [bodyPostS, results, rs46]
theorem vcL_of_run {F : Fi} {c : Code} {e : Env} {ds : List Deferred} {h : Sh} (hr : Run Tryz.prog F [.code c] e ds h ⟨⟩) : vcL Tryz.prog F.dr c F.k e ds h := hr
def oopsE (e a : Int) (r : Bool) : PanicEntry := { v := .iface 144 (.agg #[.int .i64 e, .int .i64 a]), recovered := r }
set_option maxHeartbeats 4000000 in
theorem w_catch_pan {w : World} {U : List Nat} {T : Tm} {M : Mem} {bs : List (Option Nat)} {b2 b3 : Nat} {er a : Int} {v1 v2 v3 : Value} (hi : Hp ⟨w, M, U⟩ ⟨T, M, [(b2, [v1]), (b3, [v2, v3])], []⟩ w bs) :
    CallsD Tryz.prog 46 #[.pointer (some ⟨b2, 0, none⟩), .pointer (some ⟨b3, 0, none⟩)] (.panicking [oopsE er a false]) w fun e u' w' => e = .returned (.tuple #[]) ∧ u' = .panicking [oopsE er a true] ∧
      Post w U T M [b2, b3] 0 M [(b2, [.slice none 0 0]), (b3, [.int .i64 er, .int .i64 a])] [] w' := by
  have mixed := mx
  have hTA : ∀ (v : Array Value) (w : World), (Instr.typeAssert (.iface 144 (.agg v)) 20 144 true).run Tryz.prog w = .ok (.tuple #[.agg v, .bool true]) w := fun _ _ => by kernel_rfl
  refine callsD_of_wpS Tryz.func46 rfl fun c₀ cs hu => ?_
  unfold oopsE at hu
  apply wpS_seq
  apply wpS_region
  simp [wpOpsS, go_sem, recoverD, hu, nt46, Exit.thenS]
  refine wpS_of_wp ?_
  go_wp2
  have h2 := hi.alloc (t := 144) [.int .i64 er, .int .i64 a]
  have hap := h2.apart
  have hnd := h2.nodup
  have hns : M w.heap.size = none := (hap _ (by simp)).1
  have hn2 : M b2 = none := (hap _ (by simp)).1
  have hn3 : M b3 = none := (hap _ (by simp)).1
  have hp : (¬ w.heap.size = b2 ∧ ¬ w.heap.size = b3 ∧ ¬ b2 = b3) ∧ (¬ b2 = w.heap.size ∧ ¬ b3 = w.heap.size ∧ ¬ b3 = b2) := by
    simp at hnd
    obtain ⟨⟨h1, h2, _⟩, ⟨h3, _⟩, _⟩ := hnd
    exact ⟨⟨h1, h2, h3⟩, fun h => h1 h.symm, fun h => h2 h.symm, fun h => h3 h.symm⟩
  refine wp_mono (vcL_sound (c₀ := ⟨w, M, U⟩) (n := 13) (dr := dr46) mx _ (Fi.k ⟨dr46, fun _ ds h => ds = [] ∧ Close h (endF T [b2, b3] 0 (fun _ M' L' R' => M' = M ∧ L' = [(b2, [.slice none 0 0]), (b3, [.int .i64 er, .int .i64 a])] ∧ R' = []) undef), fun _ _ _ _ => False⟩)
    (fun t => Array.getD _ t undef) [] _ _ _ (by kernel_rfl) ⟨?_, rfl, fun _ => rfl⟩ ⟨_, h2⟩ ?_) ?_
  · simp
  · refine vcL_of_run (F := ⟨dr46, _, _⟩) ?_
    generalize hE : (fun t => Array.getD _ t undef) = env
    have e0 : env 0 = .pointer (some ⟨b2, 0, none⟩) := by rw [← hE]; simp
    have e1 : env 1 = .pointer (some ⟨b3, 0, none⟩) := by rw [← hE]; simp
    have e3 : env 3 = .pointer (some ⟨w.heap.size, 0, none⟩) := by rw [← hE]; simp
    clear hE
    have hT : ExtT T (T.add w.heap.size 144) := hi.extT
    generalize w.heap.size = bx at *
    simp +contextual only [go_sem, Rcb, Rbk, sevalprocAttr, e0, e1, e3, hns, hn2, hn3, hp]
    refine ⟨fun _ _ _ _ _ _ _ _ _ h => h, ?_⟩
    refine draw_at ⟨T, fun _ => none, [(bx, _)], []⟩ (Sub_hd hns) ?_
    simp +contextual only [go_sem, Rcb, Rbk, sevalprocAttr, e0, e1, e3, hns, hn2, hn3, hp]
    refine ⟨Sub_hd hns, ?_⟩
    exact Close_drop (end_id hT rfl rfl ⟨rfl, rfl, rfl⟩)
  · rintro ex act w' hq
    cases ex with
    | normal =>
      obtain ⟨e, ds, h, ha, hw, rfl, hcl⟩ := hq
      obtain ⟨h', hw', hT, hk, hR, hM, hL, hR'⟩ := hcl _ _ hw
      have hpost := closed hT hw' hk hR
      rw [hM, hL, hR'] at hpost
      have hds := ha.2.1
      simp only [Exit.inBlock]
      cases c₀
      exact ⟨hds, _, rfl, .tuple #[], results_none rfl _ _ _, rfl, rfl, hpost⟩
    | ret =>
      obtain ⟨e, ds, h, ha, hw, rfl, hcl⟩ := hq
      obtain ⟨h', hw', hT, hk, hR, hM, hL, hR'⟩ := hcl _ _ hw
      have hpost := closed hT hw' hk hR
      rw [hM, hL, hR'] at hpost
      have hds := ha.2.1
      simp only [Exit.inBlock]
      cases c₀
      exact ⟨hds, _, rfl, .tuple #[], results_none rfl _ _ _, rfl, rfl, hpost⟩
    | panic ch => obtain ⟨_, _, _, _, _, h⟩ := hq; exact h.elim
    | exit id => obtain ⟨_, _, _, _, _, h⟩ := hq; exact h.elim
    | goto l => exact hq.elim
    | outgrown => exact hq.elim
def rdD (b2 b3 : Nat) (ag : Array Value) : Deferred := { target := .fn (.func 46) ⟨[.pointer (some ⟨b2, 0, none⟩), .pointer (some ⟨b3, 0, none⟩)]⟩, args := ag }
def rdRet (T : Tm) (ts : List ResultVar) (post : PostP) (e : Env) (ds : List Deferred) (h : Sh) : Prop :=
  ∃ b2 b3 ag, ds = [rdD b2 b3 ag] ∧ ag.toList = [] ∧ xOpt (resL Tryz.prog e h ts) fun vs => Close h (endF T [] 0 post (tupV vs))
def rdPan (T : Tm) (post : PostP) (ch : List PanicEntry) (e : Env) (ds : List Deferred) (h : Sh) : Prop :=
  ∃ b2 b3 ag er a, ds = [rdD b2 b3 ag] ∧ ag.toList = [] ∧ e 2 = .pointer (some ⟨b2, 0, none⟩) ∧ e 3 = .pointer (some ⟨b3, 0, none⟩) ∧ ch = [oopsE er a false] ∧
    Close h fun h' => ExtT T h'.N ∧ h'.R = [] ∧ (∃ v1 v2 v3, h'.L = [(b2, [v1]), (b3, [v2, v3])]) ∧ post (.tuple ⟨[.slice none 0 0, flt er a]⟩) h'.M [] []
def rdFi (T : Tm) (dr : List (Nat × Sched)) (ts : List ResultVar) (post : PostP) : Fi := ⟨dr, rdRet T ts post, rdPan T post⟩
theorem rd_args {b2 b3 : Nat} {ag : Array Value} (h : ag.toList = []) : ag ++ (⟨[.pointer (some ⟨b2, 0, none⟩), .pointer (some ⟨b3, 0, none⟩)]⟩ : Array Value) = #[.pointer (some ⟨b2, 0, none⟩), .pointer (some ⟨b3, 0, none⟩)] := by
  apply Array.toList_inj.1
  simp [h]
theorem rd_leaves {a : Array Value} {R : Ending → World → Prop} {w : World} {b2 b3 : Nat} {ag : Array Value} {u : FrameMode} {fn : Func} (h : ag.toList = []) (hu : u ≠ .run)
    (hc : CallsD Tryz.prog 46 #[.pointer (some ⟨b2, 0, none⟩), .pointer (some ⟨b3, 0, none⟩)] u w fun
      | .returned _, u', w' => Leaves Tryz.prog fn a R [] (settle u') w'
      | .panicked chain, u', w' => Leaves Tryz.prog fn a R [] (raised u' chain) w'
      | .outgrown, _, w' => R .outgrown w') : Leaves Tryz.prog fn a R [rdD b2 b3 ag] u w := by
  refine leaves_cons (f := 46) (args := #[.pointer (some ⟨b2, 0, none⟩), .pointer (some ⟨b3, 0, none⟩)]) hu ?_ hc
  show (invoke (.fn (.func 46) _) ag).run Tryz.prog w = _
  have hfn := Tryz.func46
  simp only [invoke, callFunc, Sem.run_bind, Sem.run_pure, Result.andThen_ok, run_program, hfn]
  rw [rd_args h]
  rfl
theorem body_postR {fn : Func} {T : Tm} {dr U M post} (hr : fn.results.toList = [.cell 2 68, .cell 3 62]) {w0 : World} {ex : Exit} {a : Act} {w : World} {n : Nat}
    (hq : KontL.toQ ⟨w0, M, U⟩ n (rdFi T dr fn.results.toList post).k ex a w) : bodyPostD Tryz.prog fn (CtR U T M [] 0 post noPan w0) ex a w := by
  have hret : ∀ {e ds h}, Fr n a e ds → Is ⟨w0, M, U⟩ h w → rdRet T fn.results.toList post e ds h → Leaves Tryz.prog fn a.tmps (CtR U T M [] 0 post noPan w0) a.defers .returning w := by
    rintro e ds h ha hw ⟨b2, b3, ag, rfl, has, hd⟩
    rw [ha.2.1]
    refine rd_leaves has (by simp) ?_
    refine (w_catch_idle _ _ w).mono ?_
    rintro en u' w' ⟨rfl, rfl, rfl⟩
    obtain ⟨vs, hvs, hcl⟩ := xOpt_iff hd
    obtain ⟨h', hw', hT, hk, hR, hp⟩ := hcl _ _ hw
    exact ⟨_, resL_run hw hvs ha.2.2, h'.M, h'.L, h'.R, closed hT hw' hk hR, hp⟩
  cases ex with
  | normal => obtain ⟨e, ds, h, ha, hw, hd⟩ := hq; exact hret ha hw hd
  | ret => obtain ⟨e, ds, h, ha, hw, hd⟩ := hq; exact hret ha hw hd
  | panic ch =>
    obtain ⟨e, ds, h, ha, hw, b2, b3, ag, er, ar, rfl, has, e2, e3, rfl, hcl⟩ := hq
    show Leaves Tryz.prog fn a.tmps _ a.defers (.panicking _) w
    rw [ha.2.1]
    obtain ⟨⟨N, M', L', R'⟩, ⟨bs, hi⟩, hT, hR, ⟨v1, v2, v3, hL⟩, hp⟩ := hcl _ _ hw
    simp only at hT hR hL hp
    subst hR hL
    have hbs : bs = [] := by simpa using hi.rows.1.symm
    subst hbs
    have hi2 : Hp ⟨w0, M, U⟩ ⟨N, M', [] ++ [(b2, [v1]), (b3, [v2, v3])] ++ [], [] ++ [] ++ []⟩ w ([] ++ [] ++ []) := by simpa using hi
    have henter := hi2.enter rfl rfl
    refine rd_leaves has (by simp) ?_
    refine (w_catch_pan (er := er) (a := ar) henter).mono ?_
    rintro en u' w' ⟨rfl, rfl, ⟨⟨bp', hc'⟩, hk, hRl⟩⟩
    have hbp : bp' = [] := by simpa using hc'.rows.1.symm
    subst hbp
    have hfr := hi2.frame (b1 := []) (bp := []) (b2 := []) rfl rfl rfl hc' hk hRl
    have hfr' : Hp ⟨w0, M, U⟩ ⟨N, M', [(b2, [.slice none 0 0]), (b3, [.int .i64 er, .int .i64 ar])], []⟩ w' [] := by simpa using hfr
    have hIs : Is ⟨w0, M, U⟩ ⟨N, M', [(b2, [.slice none 0 0]), (b3, [.int .i64 er, .int .i64 ar])], []⟩ w' := ⟨[], hfr'⟩
    have hn2 : M' b2 = none := (hfr'.apart _ (by simp)).1
    have hn3 : M' b3 = none := (hfr'.apart _ (by simp)).1
    have hne : ¬ b2 = b3 ∧ ¬ b3 = b2 := by
      have := hfr'.nodup
      simp at this
      exact ⟨this, fun h => this h.symm⟩
    have hres : resL Tryz.prog e ⟨N, M', [(b2, [.slice none 0 0]), (b3, [.int .i64 er, .int .i64 ar])], []⟩ fn.results.toList = some [.slice none 0 0, flt er ar] := by
      rw [hr]
      simp +contextual only [go_sem, Rcb, Rbk, sevalprocAttr, e2, e3, hn2, hn3, hne]
      rfl
    have hset : settle (.panicking [oopsE er ar true]) = .returning := rfl
    show Leaves Tryz.prog fn a.tmps _ [] (settle (.panicking [oopsE er ar true])) w'
    rw [hset]
    obtain ⟨h', hw', hT', hk', hR', hp'⟩ := (end_none (T := T) (R := []) (L := [(b2, [.slice none 0 0]), (b3, [.int .i64 er, .int .i64 ar])]) (post := post) (v := .tuple ⟨[.slice none 0 0, flt er ar]⟩) hT hp) _ _ hIs
    exact ⟨_, resL_run hIs hres ha.2.2, h'.M, h'.L, h'.R, closed hT' hw' hk' hR', hp'⟩
  | exit id => obtain ⟨_, _, _, _, _, h⟩ := hq; exact h.elim
  | goto l => exact hq.elim
  | outgrown => exact hq.elim
theorem ct_runR {f : FuncId} {fn : Func} {c : Code} {args : List Value} {dr} {T : Tm} {M post} (hbd : bodied Tryz.prog f = true)
    (hf : Tryz.prog.funcs[f]? = some fn) (hb : fn.body = some c) (hn : args.length ≤ fn.ntmps) (hc : codeOkL Tryz.prog fn.ntmps dr c = true) (hr : fn.results.toList = [.cell 2 68, .cell 3 62])
    (h : Run Tryz.prog (rdFi T dr fn.results.toList post) [.code c] (env0 args) [] ⟨T, M, [], []⟩ ⟨⟩) : CtT Tryz.prog f args T M [] [] post noPan := by
  refine ⟨hbd, fun w U hw => calls_of_wp_defers hf hb ?_⟩
  obtain ⟨h1, h2, h3⟩ := hw.facts
  have := vcL_sound (c₀ := ⟨w, M, U⟩) mx c (rdFi T dr fn.results.toList post).k (env0 args) [] ⟨T, M, [], []⟩ w _ hc (fr0 args.toArray fn.ntmps (by simpa using hn)) h3 h
  exact wp_mono this fun ex a w' hq => body_postR hr hq
def namesW (l : List Bs) : Int := if l.all namedB = true then 0 else 7
theorem ct_names {M : Mem} {l : List Bs} {sv : Value} (hg : Glob M) (hs : RS M RSt 1 l sv) : Ct Tryz.prog 126 [sv] M [] [] (fun r _ _ _ => r = .int .i64 (namesW l)) noPan := by
  intro T
  obtain ⟨hb, a, c, rfl, hle, _, hget⟩ := RS_elim (by decide) (fun _ _ => RSt_len) hs
  refine ct_run mx bod126 Tryz.func126 rfl (by rw [nt126]; exact Nat.le_of_ble_eq_true rfl) (dr := dr126) (by kernel_rfl) rs126 ?_
  intro hno _
  simp +contextual only [go_sem, Rcb, Rbk, sevalprocAttr]
  refine loop_range l.length 7 [(5, .slice a l.length c), (6, .int .i64 l.length)] (fun i e h => (∃ M', Ext M M' ∧ h = ⟨T, M', [], []⟩) ∧ namesW l = namesW (l.drop i)) 0 (by omega) (by simp only [live, go_sem, Rcb, Rbk, sevalprocAttr]) (by simp only [go_sem, Rcb, Rbk, sevalprocAttr]) ⟨⟨M, Ext.rfl', rfl⟩, rfl⟩ ?_
  rintro i e h hi hlv ht ⟨⟨M1, hM1, rfl⟩, hres⟩
  simp only [live] at hlv
  by_cases hlt : i < l.length
  · obtain ⟨b, o, cs, rfl, hat, hrs⟩ := hget i l[i] (List.getElem?_eq_getElem hlt)
    unfold RSt at hrs; subst hrs
    have hx := mcell_ext hM1 hat.1
    rw [Nat.mul_one] at hx
    have hdrop : l.drop i = l[i] :: l.drop (i + 1) := List.drop_eq_getElem_cons hlt
    rw [hdrop] at hres
    simp +contextual only [go_sem, Rcb, Rbk, sevalprocAttr, hlv, ht, hlt, hx]
    refine rCall_pure (ct_Named (hg.ext hM1) l[i] T) ?_ (fun _ _ _ _ h => h.elim)
    rintro v M2 hM2 _ rfl
    by_cases hn : namedB l[i] = true
    · simp +contextual only [go_sem, Rcb, Rbk, sevalprocAttr, hlv, ht, hn]
      refine lp_range hlt ?_ ?_ ⟨⟨M2, hM1.trans hM2, rfl⟩, ?_⟩
      · simp only [live, hlv, go_sem, Rcb, Rbk, sevalprocAttr]
      · simp only [ht, go_sem, Rcb, Rbk, sevalprocAttr, wrap_succ i (by omega)]
      · rw [hres]; simp only [namesW, List.all_cons, hn, Bool.true_and]
    · simp +contextual only [go_sem, Rcb, Rbk, sevalprocAttr, hlv, ht, hn]
      refine end_none ExtT.rfl' ?_
      simp only [Bool.not_eq_true] at hn
      rw [hres]; simp only [namesW, List.all_cons, hn, Bool.false_and, if_false, Bool.false_eq_true]
  · have : i = l.length := by omega
    subst this
    simp +contextual only [go_sem, Rcb, Rbk, sevalprocAttr, hlv, ht, hlt]
    refine end_none ExtT.rfl' ?_
    rw [hres]; simp [namesW]
def givenW (s : Bs) : Int := if s = [] then 0 else namesW [s]
theorem ct_given {M : Mem} (s : Bs) (hg : Glob M) : Ct Tryz.prog 231 [st s] M [] [] (fun r _ _ _ => r = .int .i64 (givenW s)) noPan := by
  intro T
  refine ct_run mx bod231 Tryz.func231 rfl (by rw [nt231]; exact Nat.le_of_ble_eq_true rfl) (dr := dr231) (by kernel_rfl) rs231 ?_
  intro hno _
  by_cases hs : s = []
  · simp +contextual only [go_sem, Rcb, Rbk, sevalprocAttr, hs]
    exact end_none ExtT.rfl' (by simp [givenW])
  · simp +contextual only [go_sem, Rcb, Rbk, sevalprocAttr, hs]
    intro b hb
    refine rCall_frz bod126 fun M1 hM1 hb1 hno1 => ?_
    have hl : RS M1 RSt 1 [s] (.slice (some ⟨b, 0, none⟩) 1 1) := RS_lit (fun _ _ => RSt_len) hb1 (RL_strs [s]) rfl (by decide)
    refine rCall_pure (ct_names (hg.ext hM1) hl T) ?_ (fun _ _ _ _ h => h.elim)
    rintro v M2 hM2 _ rfl
    simp +contextual only [go_sem, Rcb, Rbk, sevalprocAttr]
    exact end_none ExtT.rfl' (by simp [givenW, hs])
mutual
def shapeX (deep n : Nat) : X → Int × Nat
  | .mk k v tab name kids => if 200 < n + 1 ∨ 20 < deep then (4, n + 1) else if kidsN k < 0 then (1, n + 1) else if (kids.length : Int) ≠ kidsN k then (5, n + 1)
    else if k = 1 then (wrongV v, n + 1) else if k = 2 ∧ (namedB name = false ∨ (tab ≠ [] ∧ namedB tab = false)) then (7, n + 1) else shapeL (deep + 1) (n + 1) kids
def shapeL (deep n : Nat) : List X → Int × Nat
  | [] => (0, n)
  | x :: l => if (shapeX deep n x).1 ≠ 0 then shapeX deep n x else shapeL deep (shapeX deep n x).2 l
end
mutual
theorem shapeX_le (deep n : Nat) : ∀ x, n ≤ 200 → (shapeX deep n x).2 ≤ 201 ∧ ((shapeX deep n x).1 = 0 → (shapeX deep n x).2 ≤ 200)
  | .mk k v tab name kids, hn => by
    rw [shapeX]
    by_cases h : 200 < n + 1 ∨ 20 < deep
    · rw [if_pos h]; exact ⟨by show n + 1 ≤ 201; omega, fun h => by cases h⟩
    · have ih := shapeL_le (deep + 1) (n + 1) kids (by omega)
      rw [if_neg h]
      repeat' split
      all_goals first | exact ih | exact ⟨by show n + 1 ≤ 201; omega, fun _ => by show n + 1 ≤ 200; omega⟩
theorem shapeL_le (deep n : Nat) : ∀ l, n ≤ 200 → (shapeL deep n l).2 ≤ 201 ∧ ((shapeL deep n l).1 = 0 → (shapeL deep n l).2 ≤ 200)
  | [], hn => by rw [shapeL]; exact ⟨by show n ≤ 201; omega, fun _ => hn⟩
  | x :: l, hn => by
    rw [shapeL]
    have hx := shapeX_le deep n x hn
    split
    · exact hx
    · rename_i h0
      exact shapeL_le deep _ l (hx.2 (Classical.not_not.1 h0))
end
theorem RX_at {M : Mem} {b o : Nat} {x : X} {cs : List Value} (h : RX M x cs) (ha : At M b o cs) : ∃ s, RS M (RX M) 7 x.kids s ∧ mcell M ⟨b, o, none⟩ = some (.int .i64 x.k) ∧ mcell M ⟨b, o + 1, none⟩ = some (.int .i64 x.v.k) ∧ mcell M ⟨b, o + 2, none⟩ = some (.int .i64 x.v.n) ∧ mcell M ⟨b, o + 3, none⟩ = some (st x.v.t) ∧
    mcell M ⟨b, o + 4, none⟩ = some (st x.tab) ∧ mcell M ⟨b, o + 5, none⟩ = some (st x.name) ∧ mcell M ⟨b, o + 6, none⟩ = some s := by
  obtain ⟨s, rfl, _, hs⟩ := RX_form h
  exact ⟨s, hs, ha.1, ha.2.1, ha.2.2.1, ha.2.2.2.1, ha.2.2.2.2.1, ha.2.2.2.2.2.1, ha.2.2.2.2.2.2.1⟩
theorem ct_shape : ∀ (sz : Nat) (x : X), SizeOf.sizeOf x ≤ sz → ∀ (M : Mem) (T : Tm) (b o hb deep n : Nat) (cs : List Value), Glob M → At M b o cs → RX M x cs → n ≤ 200 → deep ≤ 21 →
    CtT Tryz.prog 176 [.pointer (some ⟨hb, 0, none⟩), .pointer (some ⟨b, o, none⟩), .int .i64 (deep : Int)] T M [(hb, [.int .i64 (n : Int)])] [] (fun r M' L' R' => r = .int .i64 (shapeX deep n x).1 ∧ L' = [(hb, [.int .i64 ((shapeX deep n x).2 : Int)])] ∧ R' = []) noPan := by
  intro sz
  induction sz with
  | zero => intro x hx; cases x; simp at hx
  | succ sz ih =>
    intro x hsz M T b o hb deep n cs hg ha hx hn hdeep
    obtain ⟨s, hs, m0, m1, m2, m3, m4, m5, m6⟩ := RX_at hx ha
    obtain ⟨hbk, a, c, rfl, hle, _, hget⟩ := RS_elim (by decide) (fun _ _ => RX_len) hs
    refine ct_run mx bod176 Tryz.func176 rfl (by rw [nt176]; exact Nat.le_of_ble_eq_true rfl) (dr := dr176) (by kernel_rfl) rs176 ?_
    intro hno _
    simp only [noneL, and_true] at hno
    have hwn := wrap_succ n (by omega)
    have hwd := wrap_succ deep (by omega)
    cases x with | mk k v tab name kids =>
    simp only [X.k, X.v, X.tab, X.name, X.kids] at m0 m1 m2 m3 m4 m5 m6 hget hle hs hbk
    obtain ⟨S, hS⟩ : ∃ S, S = shapeX deep n (.mk k v tab name kids) := ⟨_, rfl⟩
    rw [← hS]
    rw [shapeX] at hS
    simp +contextual only [go_sem, Rcb, Rbk, sevalprocAttr, hno, hwn, m0, m1, m2, m3, m4, m5, m6]
    by_cases hmuch : 200 < n + 1 ∨ 20 < deep
    · rw [if_pos hmuch] at hS
      rw [if_pos (by omega)]
      exact end_id ExtT.rfl' rfl rfl ⟨by rw [hS], by rw [hS], rfl⟩
    rw [if_neg hmuch] at hS
    rw [if_neg (by omega)]
    refine rCall_pure (ct_sql_kids k M T) ?_ (fun _ _ _ _ h => h.elim)
    rintro r M1 hM1 hno1 rfl
    simp only [noneL, and_true] at hno1
    have hg1 := hg.ext hM1
    replace m0 := mcell_ext hM1 m0
    replace m1 := mcell_ext hM1 m1
    replace m2 := mcell_ext hM1 m2
    replace m3 := mcell_ext hM1 m3
    replace m4 := mcell_ext hM1 m4
    replace m5 := mcell_ext hM1 m5
    replace m6 := mcell_ext hM1 m6
    simp +contextual only [go_sem, sevalprocAttr]
    refine run_cut (fun e ds h => ds = [] ∧ e 0 = .pointer (some ⟨hb, 0, none⟩) ∧ e 1 = .pointer (some ⟨b, o, none⟩) ∧ e 2 = .int .i64 (deep : Int) ∧ S = shapeL (deep + 1) (n + 1) kids ∧ ∃ M', Ext M1 M' ∧ M' hb = none ∧ h = ⟨T, M', [(hb, [.int .i64 ((n + 1 : Nat) : Int)])], []⟩) (fun S' hS' => ?_) ?_
    · by_cases hk0 : kidsN k < 0
      · rw [if_pos hk0] at hS
        simp +contextual only [go_sem, Rcb, Rbk, sevalprocAttr, hk0]
        exact end_id ExtT.rfl' rfl rfl ⟨by rw [hS], by rw [hS], rfl⟩
      rw [if_neg hk0] at hS
      by_cases hkl : (kids.length : Int) = kidsN k
      · rw [if_neg (fun h => h hkl)] at hS
        by_cases h1 : k = 1
        · subst h1
          rw [if_pos rfl] at hS
          simp +contextual only [go_sem, Rcb, Rbk, sevalprocAttr, hk0, hkl, m0, m1, m2, m3, m4, m5, m6]
          refine rCall_pure (ct_vals_Wrong v M1 T) ?_ (fun _ _ _ _ h => h.elim)
          rintro r M2 hM2 hno2 rfl
          simp +contextual only [go_sem, Rcb, Rbk, sevalprocAttr]
          exact end_id ExtT.rfl' rfl rfl ⟨by rw [hS], by rw [hS], rfl⟩
        rw [if_neg h1] at hS
        by_cases h2 : k = 2
        · subst h2
          simp +contextual only [go_sem, Rcb, Rbk, sevalprocAttr, hk0, hkl, m0, m1, m2, m3, m4, m5, m6]
          refine rCall_pure (ct_Named hg1 name T) ?_ (fun _ _ _ _ h => h.elim)
          rintro r M2 hM2 hno2 rfl
          simp only [noneL, and_true] at hno2
          replace m4 := mcell_ext hM2 m4
          by_cases hn1 : namedB name = true
          · by_cases htb : tab = []
            · rw [if_neg (by rintro ⟨_, h | ⟨h, _⟩⟩; rw [hn1] at h; cases h; exact h htb)] at hS
              subst htb
              simp +contextual only [go_sem, Rcb, Rbk, sevalprocAttr, hn1, m4]
              refine hS' _ _ _ ⟨rfl, ?_, ?_, ?_, hS, M2, hM2, hno2, rfl⟩
              all_goals simp only [go_sem, Rcb, Rbk, sevalprocAttr]
            · simp +contextual only [go_sem, Rcb, Rbk, sevalprocAttr, hn1, m4, htb]
              refine rCall_pure (ct_Named (hg1.ext hM2) tab T) ?_ (fun _ _ _ _ h => h.elim)
              rintro r M3 hM3 hno3 rfl
              simp only [noneL, and_true] at hno3
              by_cases hn2 : namedB tab = true
              · rw [if_neg (by rintro ⟨_, h | ⟨_, h⟩⟩; rw [hn1] at h; cases h; rw [hn2] at h; cases h)] at hS
                simp +contextual only [go_sem, Rcb, Rbk, sevalprocAttr, hn1, hn2, htb]
                refine hS' _ _ _ ⟨rfl, ?_, ?_, ?_, hS, M3, hM2.trans hM3, hno3, rfl⟩
                all_goals simp only [go_sem, Rcb, Rbk, sevalprocAttr]
              · rw [if_pos ⟨rfl, .inr ⟨htb, by simpa using hn2⟩⟩] at hS
                simp +contextual only [go_sem, Rcb, Rbk, sevalprocAttr, hn1, hn2, htb]
                exact end_id ExtT.rfl' rfl rfl ⟨by rw [hS], by rw [hS], rfl⟩
          · rw [if_pos ⟨rfl, .inl (by simpa using hn1)⟩] at hS
            simp +contextual only [go_sem, Rcb, Rbk, sevalprocAttr, hn1]
            exact end_id ExtT.rfl' rfl rfl ⟨by rw [hS], by rw [hS], rfl⟩
        · rw [if_neg (fun h => h2 h.1)] at hS
          simp +contextual only [go_sem, Rcb, Rbk, sevalprocAttr, hk0, hkl, h1, h2, m0, m1, m2, m3, m4, m5, m6]
          refine hS' _ _ _ ⟨rfl, ?_, ?_, ?_, hS, M1, Ext.rfl', hno1, rfl⟩
          all_goals simp only [go_sem, Rcb, Rbk, sevalprocAttr]
      · rw [if_pos hkl] at hS
        simp +contextual only [go_sem, Rcb, Rbk, sevalprocAttr, hk0, hkl, m0, m1, m2, m3, m4, m5, m6]
        exact end_id ExtT.rfl' rfl rfl ⟨by rw [hS], by rw [hS], rfl⟩
    · clear hS
      rintro e ds h ⟨rfl, e0, e1, e2, hS, M2, hM2, n2, rfl⟩
      replace m6 := mcell_ext hM2 m6
      simp +contextual only [go_sem, Rcb, Rbk, sevalprocAttr, e0, e1, e2, m6]
      refine loop_range kids.length 87 [(0, .pointer (some ⟨hb, 0, none⟩)), (1, .pointer (some ⟨b, o, none⟩)), (2, .int .i64 (deep : Int)), (86, .int .i64 (kids.length : Int))] (fun i e h => ∃ (M' : Mem) (n' : Nat), Ext M2 M' ∧ M' hb = none ∧ n' ≤ 200 ∧ h = ⟨T, M', [(hb, [.int .i64 (n' : Int)])], []⟩ ∧ S = shapeL (deep + 1) n' (kids.drop i))
        0 (by omega) (by simp only [live, e0, e1, e2, go_sem, Rcb, Rbk, sevalprocAttr]) (by simp only [go_sem, Rcb, Rbk, sevalprocAttr]) ⟨M2, n + 1, Ext.rfl', n2, by omega, rfl, hS⟩ ?_
      clear hS e0 e1 e2
      rintro i e h hi hlv ht ⟨M3, n', hM3, n3, hn', rfl, hS⟩
      simp only [live] at hlv
      replace m6 := mcell_ext hM3 m6
      by_cases hlt : i < kids.length
      · obtain ⟨b', o', cs', rfl, hat, hrx⟩ := hget i kids[i] (List.getElem?_eq_getElem hlt)
        have h13 := (hM1.trans hM2).trans hM3
        have hdrop : kids.drop i = kids[i] :: kids.drop (i + 1) := List.drop_eq_getElem_cons hlt
        rw [hdrop, shapeL] at hS
        have hsz2 : SizeOf.sizeOf kids[i] ≤ sz := by
          have h1 := List.sizeOf_lt_of_mem (List.getElem_mem hlt)
          simp only [X.mk.sizeOf_spec] at hsz
          omega
        have hle2 := shapeX_le (deep + 1) n' kids[i] hn'
        simp +contextual only [go_sem, Rcb, Rbk, sevalprocAttr, hlv, ht, hlt, m6, hwd]
        refine rCall_one [] (ih kids[i] hsz2 M3 T b' _ hb (deep + 1) n' cs' (hg.ext h13) (hat.ext h13) (RX_ext h13 _ _ hrx) hn' (by omega)) ?_ (fun _ _ _ _ _ _ h => h.elim)
        rintro r M4 L' hM4 hk4 hno4 ⟨rfl, rfl, -⟩
        simp only [List.nil_append, noneL, and_true] at hno4
        by_cases hr : (shapeX (deep + 1) n' kids[i]).1 = 0
        · rw [if_neg (fun h => h hr)] at hS
          simp +contextual only [go_sem, Rcb, Rbk, sevalprocAttr, hlv, ht, hlt, hr]
          refine lp_range hlt ?_ ?_ ⟨M4, _, hM3.trans hM4, hno4, hle2.2 hr, rfl, hS⟩
          · simp only [live, hlv, go_sem, Rcb, Rbk, sevalprocAttr]
          · simp only [ht, go_sem, Rcb, Rbk, sevalprocAttr, wrap_succ i (by omega)]
        · rw [if_pos hr] at hS
          simp +contextual only [go_sem, Rcb, Rbk, sevalprocAttr, hlv, ht, hlt, hr]
          exact end_id ExtT.rfl' rfl rfl ⟨by rw [hS], by rw [hS], rfl⟩
      · have : i = kids.length := by omega
        subst this
        rw [List.drop_length, shapeL] at hS
        simp +contextual only [go_sem, Rcb, Rbk, sevalprocAttr, hlv, ht, hlt]
        exact end_id ExtT.rfl' rfl rfl ⟨by rw [hS], by rw [hS], rfl⟩
theorem rCall_frzAll {F : Fi} {f : FuncId} {args : List Value} {dd : Option Nat} {s : List Vc.Item} {e : Env} {ds : List Deferred} {N : Tm} {M : Mem} {L : LL} {R : RR} (hb : bodied Tryz.prog f = true)
    (h : ∀ M', Ext M M' → heldL M' L → rCall Tryz.prog F f args dd s e ds ⟨N, M', [], R⟩ ⟨⟩) : rCall Tryz.prog F f args dd s e ds ⟨N, M, L, R⟩ ⟨⟩ :=
  rCall_close (k := fun h' => ∃ M', Ext M M' ∧ heldL M' L ∧ h' = ⟨N, M', [], R⟩) (Close_frzAll fun M' he hL => Close_id ⟨M', he, hL, rfl⟩) (by rintro h' ⟨M', he, hL, rfl⟩; exact h M' he hL) hb
def exprW (x : X) : Int := (shapeX 1 0 x).1
theorem ct_Expr {M : Mem} {x : X} {cs : List Value} (hg : Glob M) (hx : RX M x cs) : Ct Tryz.prog 128 [.agg ⟨cs⟩] M [] [] (fun r _ _ _ => r = .int .i64 (exprW x)) noPan := by
  intro T
  obtain ⟨s, rfl, h1, _⟩ := RX_form hx
  refine ct_run mx bod128 Tryz.func128 rfl (by rw [nt128]; exact Nat.le_of_ble_eq_true rfl) (dr := dr128) (by kernel_rfl) rs128 ?_
  intro hno _
  simp +contextual only [go_sem, Rcb, Rbk, sevalprocAttr, h1]
  intro b1 T1 hb1 hT1 hTb1 b4 T4 hb4 hap4 hT4 hTb4
  refine rCall_frz2 bod176 fun M1 hM1 hb1' hno1 => ?_
  have ha : At M1 b1 0 [.int .i64 x.k, .int .i64 x.v.k, .int .i64 x.v.n, st x.v.t, st x.tab, st x.name, s] := At_of hb1' _ 0 (fun i v h => by rw [Nat.zero_add]; exact h)
  refine rCall_one [] (ct_shape _ x (Nat.le_refl _) M1 T4 b1 0 b4 1 0 _ (hg.ext hM1) ha (RX_ext hM1 _ _ hx) (by omega) (by omega)) ?_ (fun _ _ _ _ _ _ h => h.elim)
  rintro r M2 L' hM2 hk2 hno2 ⟨rfl, rfl, -⟩
  simp +contextual only [go_sem, Rcb, Rbk, sevalprocAttr]
  exact end_none (hT1.trans hT4) rfl
def orE (a b : Int) : Int := if a ≠ 0 then a else b
def firstW : List Int → Int | [] => 0 | a :: l => orE a (firstW l)
abbrev RFn (f : Nat × List Value × Int) (cs : List Value) : Prop := cs = [.func (.func f.1) ⟨[]⟩ ⟨f.2.1⟩]
theorem ct_first {M : Mem} {fs : List (Nat × List Value × Int)} {sv : Value} {es : List Int} (he : (fs.map fun f => f.2.2) = es) (hs : RS M RFn 1 fs sv)
    (hf : ∀ f ∈ fs, ∀ M' T, Ext M M' → CtT Tryz.prog f.1 f.2.1 T M' [] [] (fun r _ _ _ => r = .int .i64 f.2.2) noPan) : Ct Tryz.prog 228 [sv] M [] [] (fun r _ _ _ => r = .int .i64 (firstW es)) noPan := by
  intro T
  subst he
  obtain ⟨hb, a, c, rfl, hle, _, hget⟩ := RS_elim (by decide) (fun _ _ h => by unfold RFn at h; subst h; rfl) hs
  refine ct_run mx bod228 Tryz.func228 rfl (by rw [nt228]; exact Nat.le_of_ble_eq_true rfl) (dr := dr228) (by kernel_rfl) rs228 ?_
  intro hno _
  simp +contextual only [go_sem, Rcb, Rbk, sevalprocAttr]
  refine loop_range fs.length 8 [(6, .slice a fs.length c), (7, .int .i64 fs.length)] (fun i e h => (∃ M', Ext M M' ∧ h = ⟨T, M', [], []⟩) ∧ firstW (fs.map fun f => f.2.2) = firstW ((fs.drop i).map fun f => f.2.2)) 0 (by omega) (by simp only [live, go_sem, Rcb, Rbk, sevalprocAttr]) (by simp only [go_sem, Rcb, Rbk, sevalprocAttr]) ⟨⟨M, Ext.rfl', rfl⟩, rfl⟩ ?_
  rintro i e h hi hlv ht ⟨⟨M1, hM1, rfl⟩, hres⟩
  simp only [live] at hlv
  by_cases hlt : i < fs.length
  · obtain ⟨b, o, cs, rfl, hat, hrs⟩ := hget i fs[i] (List.getElem?_eq_getElem hlt)
    unfold RFn at hrs; subst hrs
    have hx := mcell_ext hM1 hat.1
    rw [Nat.mul_one] at hx
    have hdrop : fs.drop i = fs[i] :: fs.drop (i + 1) := List.drop_eq_getElem_cons hlt
    rw [hdrop] at hres
    simp +contextual only [go_sem, Rcb, Rbk, sevalprocAttr, hlv, ht, hlt, hx]
    refine rCall_pure (hf fs[i] (List.getElem_mem hlt) M1 T hM1) ?_ (fun _ _ _ _ h => h.elim)
    rintro v M2 hM2 _ rfl
    simp only [List.map_cons, firstW, orE] at hres
    by_cases hn : fs[i].2.2 = 0
    · rw [if_neg (fun h => h hn)] at hres
      simp +contextual only [go_sem, Rcb, Rbk, sevalprocAttr, hlv, ht, hn]
      refine lp_range hlt ?_ ?_ ⟨⟨M2, hM1.trans hM2, rfl⟩, hres⟩
      · simp only [live, hlv, go_sem, Rcb, Rbk, sevalprocAttr]
      · simp only [ht, go_sem, Rcb, Rbk, sevalprocAttr, wrap_succ i (by omega)]
    · rw [if_pos hn] at hres
      simp +contextual only [go_sem, Rcb, Rbk, sevalprocAttr, hlv, ht, hn]
      refine end_none ExtT.rfl' ?_
      rw [hres]
  · have : i = fs.length := by omega
    subst this
    simp +contextual only [go_sem, Rcb, Rbk, sevalprocAttr, hlv, ht, hlt]
    refine end_none ExtT.rfl' ?_
    rw [hres]; simp [firstW]
theorem RX_atf {M : Mem} {b o : Nat} {x : X} {cs : List Value} (h : RX M x cs) (ha : At M b o cs) : ∃ s, cs = [.int .i64 x.k, .int .i64 x.v.k, .int .i64 x.v.n, st x.v.t, st x.tab, st x.name, s] ∧ s.oneCell' = true ∧ mcell M ⟨b, o, none⟩ = some (.int .i64 x.k) ∧ mcell M ⟨b, o + 1, none⟩ = some (.int .i64 x.v.k) ∧ mcell M ⟨b, o + 2, none⟩ = some (.int .i64 x.v.n) ∧ mcell M ⟨b, o + 3, none⟩ = some (st x.v.t) ∧
    mcell M ⟨b, o + 4, none⟩ = some (st x.tab) ∧ mcell M ⟨b, o + 5, none⟩ = some (st x.name) ∧ mcell M ⟨b, o + 6, none⟩ = some s := by
  obtain ⟨s, rfl, h1, hs⟩ := RX_form h
  exact ⟨s, rfl, h1, ha.1, ha.2.1, ha.2.2.1, ha.2.2.2.1, ha.2.2.2.2.1, ha.2.2.2.2.2.1, ha.2.2.2.2.2.2.1⟩
theorem RSo_at {M : Mem} {b o : Nat} {x : So} {cs : List Value} (h : RSo M x cs) (ha : At M b o cs) : mcell M ⟨b, o, none⟩ = some (.int .i64 x.k) ∧ mcell M ⟨b, o + 1, none⟩ = some (st x.name) ∧ mcell M ⟨b, o + 2, none⟩ = some (st x.as) ∧ ∃ c, RX M x.on c ∧ At M b (o + 3) c := by
  obtain ⟨c, hx, rfl⟩ := h
  rw [At_app] at ha
  exact ⟨ha.1.1, ha.1.2.1, ha.1.2.2.1, c, hx, ha.2⟩
def sourceW (i : Nat) (s : So) : Int :=
  if (¬ (decide (s.k = 1) == decide ((i : Int) = 0)) = true ∨ s.k < 1) ∨ 5 < s.k then 1 else
  if firstW [namesW [s.name], givenW s.as] ≠ 0 ∨ i = 0 then firstW [namesW [s.name], givenW s.as] else exprW s.on
theorem ct_source1 {M : Mem} {p b o : Nat} {n : Bs} (hg : Glob M) (hp : M p = some [.pointer (some ⟨b, o, none⟩)]) (hn : mcell M ⟨b, o + 1, none⟩ = some (st n)) : Ct Tryz.prog 273 [.pointer (some ⟨p, 0, none⟩)] M [] [] (fun r _ _ _ => r = .int .i64 (namesW [n])) noPan := by
  intro T
  refine ct_run mx bod273 Tryz.func273 rfl (by rw [nt273]; exact Nat.le_of_ble_eq_true rfl) (dr := dr273) (by kernel_rfl) rs273 ?_
  intro hno _
  simp +contextual only [go_sem, Rcb, Rbk, sevalprocAttr, mcell_some hp, hn]
  intro b1 hb1
  refine rCall_frz bod126 fun M1 hM1 hb1 hno1 => ?_
  have hl : RS M1 RSt 1 [n] (.slice (some ⟨b1, 0, none⟩) 1 1) := RS_lit (fun _ _ => RSt_len) hb1 (RL_strs [n]) rfl (by decide)
  refine rCall_pure (ct_names (hg.ext hM1) hl T) ?_ (fun _ _ _ _ h => h.elim)
  rintro v M2 hM2 _ rfl
  simp +contextual only [go_sem, Rcb, Rbk, sevalprocAttr]
  exact end_none ExtT.rfl' rfl
theorem ct_source2 {M : Mem} {p b o : Nat} {n : Bs} (hg : Glob M) (hp : M p = some [.pointer (some ⟨b, o, none⟩)]) (hn : mcell M ⟨b, o + 2, none⟩ = some (st n)) : Ct Tryz.prog 274 [.pointer (some ⟨p, 0, none⟩)] M [] [] (fun r _ _ _ => r = .int .i64 (givenW n)) noPan := by
  intro T
  refine ct_run mx bod274 Tryz.func274 rfl (by rw [nt274]; exact Nat.le_of_ble_eq_true rfl) (dr := dr274) (by kernel_rfl) rs274 ?_
  intro hno _
  simp +contextual only [go_sem, Rcb, Rbk, sevalprocAttr, mcell_some hp, hn]
  refine rCall_pure (ct_given n hg T) ?_ (fun _ _ _ _ h => h.elim)
  rintro v M2 hM2 _ rfl
  simp +contextual only [go_sem, Rcb, Rbk, sevalprocAttr]
  exact end_none ExtT.rfl' rfl
theorem ct_wsource {M : Mem} {b o : Nat} {x : So} {cs : List Value} (i : Nat) (hg : Glob M) (hx : RSo M x cs) (ha : At M b o cs) : Ct Tryz.prog 232 [.int .i64 (i : Int), .pointer (some ⟨b, o, none⟩)] M [] [] (fun r _ _ _ => r = .int .i64 (sourceW i x)) noPan := by
  intro T
  obtain ⟨m0, m1, m2, c, hc, hac⟩ := RSo_at hx ha
  obtain ⟨s, rfl, ho, m3, m4, m5, m6, m7, m8, m9⟩ := RX_atf hc hac
  refine ct_run mx bod232 Tryz.func232 rfl (by rw [nt232]; exact Nat.le_of_ble_eq_true rfl) (dr := dr232) (by kernel_rfl) rs232 ?_
  intro hno _
  obtain ⟨S, hS⟩ : ∃ S, S = sourceW i x := ⟨_, rfl⟩
  rw [← hS]
  unfold sourceW at hS
  simp +contextual only [go_sem, Rcb, Rbk, sevalprocAttr, m0]
  intro b1 T1 hb1 hT1 hTb1
  by_cases hk : (¬ (decide (x.k = 1) == decide ((i : Int) = 0)) = true ∨ x.k < 1) ∨ 5 < x.k
  · rw [if_pos hk] at hS ⊢
    exact end_none hT1 (by rw [hS])
  rw [if_neg hk] at hS ⊢
  intro b2 hb2 hap2
  refine rCall_frzAll bod228 fun M1 hM1 hL1 => ?_
  obtain ⟨hf2, hp1, -⟩ := hL1
  have hg1 := hg.ext hM1
  have hfs : RS M1 RFn 1 [(273, [.pointer (some ⟨b1, 0, none⟩)], namesW [x.name]), (274, [.pointer (some ⟨b1, 0, none⟩)], givenW x.as)] (.slice (some ⟨b2, 0, none⟩) 2 2) :=
    RS_lit (fun _ _ h => by unfold RFn at h; subst h; rfl) hf2 ⟨_, _, rfl, rfl, _, _, rfl, rfl, rfl⟩ rfl (by decide)
  refine rCall_pure (ct_first (es := [namesW [x.name], givenW x.as]) rfl hfs (fun f hf M' T hM' => ?_) T1) ?_ (fun _ _ _ _ h => h.elim)
  · simp only [List.mem_cons, List.not_mem_nil, or_false] at hf
    rcases hf with rfl | rfl
    · exact ct_source1 (hg1.ext hM') (hM' _ _ hp1) (mcell_ext (hM1.trans hM') m1) T
    · exact ct_source2 (hg1.ext hM') (hM' _ _ hp1) (mcell_ext (hM1.trans hM') m2) T
  rintro v M2 hM2 _ rfl
  generalize firstW [namesW [x.name], givenW x.as] = E at hS ⊢
  have h12 := hM1.trans hM2
  replace m3 := mcell_ext h12 m3
  replace m4 := mcell_ext h12 m4
  replace m5 := mcell_ext h12 m5
  replace m6 := mcell_ext h12 m6
  replace m7 := mcell_ext h12 m7
  replace m8 := mcell_ext h12 m8
  replace m9 := mcell_ext h12 m9
  have hp2 := hM2 _ _ hp1
  by_cases hE : E = 0
  · by_cases hi0 : i = 0
    · rw [if_pos (.inr hi0)] at hS
      subst hi0
      simp +contextual only [go_sem, Rcb, Rbk, sevalprocAttr, hE]
      exact end_none hT1 (by rw [hS, hE])
    · rw [if_neg (by rintro (h | h); exact h hE; exact hi0 h)] at hS
      have hi0' : ¬ (i : Int) = 0 := by omega
      simp +contextual only [go_sem, Rcb, Rbk, sevalprocAttr, hE, hi0', mcell_some hp2, m3, m4, m5, m6, m7, m8, m9]
      refine rCall_pure (ct_Expr (hg.ext h12) (RX_ext h12 _ _ hc) T1) ?_ (fun _ _ _ _ h => h.elim)
      rintro v M3 hM3 _ rfl
      simp +contextual only [go_sem, Rcb, Rbk, sevalprocAttr]
      exact end_none hT1 (by rw [hS])
  · rw [if_pos (.inl hE)] at hS
    simp +contextual only [go_sem, Rcb, Rbk, sevalprocAttr, hE]
    exact end_none hT1 (by rw [hS])
end Go.Proofs.YtmccpbcbofhmlaaGreatDoor

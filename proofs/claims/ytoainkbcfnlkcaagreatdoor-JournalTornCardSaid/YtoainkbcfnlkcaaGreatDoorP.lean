import Derived.Test.YtoainkbcfnlkcaaGreatDoorM
set_option linter.all false
namespace Go.Proofs.YtoainkbcfnlkcaaGreatDoor
open Go Vc
set_option linter.unusedSimpArgs false
set_option linter.unusedVariables false
set_option maxRecDepth 10000

/-! ### what is written, as tokens -/
/-- a word's token: its kind, and what it says -/
def cls : Bs → Int × Bs
  | [] => (0, [])
  | c :: l => if letterB c.toNat = true then (1, c :: l) else if digitB c.toNat = true then (2, c :: l) else if c = 39 then (3, ((textM l).map (·.1)).getD []) else (4, c :: l)
def okW (w : Bs) (t : Tk) : Prop := (t.k, t.s) = cls w
theorem cls_cons (c : UInt8) (l : Bs) : cls (c :: l) = if letterB c.toNat = true then (1, c :: l) else if digitB c.toNat = true then (2, c :: l) else if c = 39 then (3, ((textM l).map (·.1)).getD []) else (4, c :: l) := rfl
/-- tokens are these words -/
def Lk : List Bs → List Tk → Prop
  | [], ts => ts = []
  | w :: ws, ts => ∃ t r, ts = t :: r ∧ okW w t ∧ Lk ws r
theorem Lk_app : ∀ {a b : List Bs} {ts : List Tk}, Lk (a ++ b) ts → ∃ x y, ts = x ++ y ∧ Lk a x ∧ Lk b y
  | [], b, ts, h => ⟨[], ts, rfl, rfl, h⟩
  | w :: a, b, ts, h => by
    obtain ⟨t, r, rfl, h1, h2⟩ := h
    obtain ⟨x, y, rfl, h3, h4⟩ := Lk_app h2
    exact ⟨t :: x, y, rfl, ⟨t, x, rfl, h1, h3⟩, h4⟩
/-- a word that is read as one -/
def GoodW (w : Bs) : Prop := (∃ c l, w = c :: l ∧ spaceC c = false) ∧ ∀ (rest : Bs) (at_ : Int), (rest = [] ∨ ∃ r, rest = 32 :: r) → ∃ t, oneM at_ (w ++ rest) = .ok (t, w.length) ∧ okW w t
theorem runN_sp {p : UInt8 → Bool} : ∀ {w rest : Bs}, w.all p = true → (rest = [] ∨ ∃ r, rest = 32 :: r) → p 32 = false → runN p (w ++ rest) = w.length
  | [], rest, _, h, hp => by
    rcases h with rfl | ⟨r, rfl⟩
    · rfl
    · simp [runN, List.takeWhile, hp]
  | c :: w, rest, hw, h, hp => by
    simp only [List.all_cons, Bool.and_eq_true] at hw
    have := runN_sp hw.2 h hp
    unfold runN at this ⊢
    rw [List.cons_append, List.takeWhile_cons_of_pos hw.1, List.length_cons, this, List.length_cons]
theorem letter_nsp {c : UInt8} (h : letterB c.toNat = true ∨ digitB c.toNat = true) : spaceC c = false := by
  cases hs : spaceC c with
  | false => rfl
  | true =>
    unfold spaceC at hs
    simp only [Bool.or_eq_true, decide_eq_true_eq] at hs
    exfalso
    rcases hs with (rfl | rfl) | rfl <;> revert h <;> decide
theorem good_word {c : UInt8} {l : Bs} (h1 : letterB c.toNat = true) (h2 : (c :: l).all wordC = true) : GoodW (c :: l) := by
  refine ⟨⟨c, l, rfl, letter_nsp (.inl h1)⟩, fun rest at_ hr => ?_⟩
  have hn : runN wordC (c :: (l ++ rest)) = (c :: l).length := runN_sp (w := c :: l) h2 hr (by decide)
  refine ⟨⟨1, c :: l, at_⟩, ?_, ?_⟩
  · show oneM at_ (c :: (l ++ rest)) = _
    unfold oneM
    simp only
    rw [if_pos h1, hn]
    congr 3
    show ((c :: l) ++ rest).take (c :: l).length = _
    rw [List.take_left]
  · unfold okW
    rw [cls_cons]
    rw [if_pos h1]
theorem okFrom_all : ∀ (s : Bs) (i : Nat), okFrom i s = true → s.all wordC = true
  | [], _, _ => rfl
  | c :: l, i, h => by
    simp only [okFrom, Bool.and_eq_true] at h
    rw [List.all_cons, okFrom_all l _ h.2, Bool.and_true]
    unfold chOk at h
    unfold wordC
    revert h
    cases letterB c.toNat <;> cases digitB c.toNat <;> simp
theorem named_cons {s : Bs} (h : namedB s = true) : ∃ c l, s = c :: l ∧ letterB c.toNat = true ∧ (c :: l).all wordC = true ∧ s ∉ wordsL := by
  unfold namedB at h
  simp only [Bool.and_eq_true, decide_eq_true_eq] at h
  obtain ⟨⟨h1, h2⟩, h3⟩ := h
  cases s with
  | nil => simp at h1
  | cons c l =>
    refine ⟨c, l, rfl, ?_, okFrom_all _ 0 h3, ?_⟩
    · simp only [okFrom, Bool.and_eq_true] at h3
      have := h3.1
      unfold chOk at this
      simpa using this
    · intro hm
      rw [List.contains_iff_mem.2 hm] at h2
      simp at h2
theorem good_name {s : Bs} (h : namedB s = true) : GoodW s := by
  obtain ⟨c, l, rfl, h1, h2, _⟩ := named_cons h
  exact good_word h1 h2
theorem good_num {c : UInt8} {l : Bs} (h2 : (c :: l).all digC = true) (h3 : (c :: l).length ≤ 16) : GoodW (c :: l) := by
  have h1 : digitB c.toNat = true := by simp only [List.all_cons, Bool.and_eq_true] at h2; exact h2.1
  have h0 : ¬ letterB c.toNat = true := by
    unfold digitB at h1
    unfold letterB
    simp only [Bool.and_eq_true, decide_eq_true_eq] at h1
    simp only [Bool.or_eq_true, Bool.and_eq_true, decide_eq_true_eq]
    omega
  refine ⟨⟨c, l, rfl, letter_nsp (.inr h1)⟩, fun rest at_ hr => ?_⟩
  have hn : runN digC (c :: (l ++ rest)) = (c :: l).length := runN_sp (w := c :: l) h2 hr (by decide)
  refine ⟨⟨2, c :: l, at_⟩, ?_, ?_⟩
  · show oneM at_ (c :: (l ++ rest)) = _
    unfold oneM
    simp only
    rw [if_neg h0, if_pos h1, hn, if_neg (by omega)]
    congr 3
    show ((c :: l) ++ rest).take (c :: l).length = _
    rw [List.take_left]
  · unfold okW
    rw [cls_cons]
    rw [if_neg h0, if_pos h1]
theorem textM_esc : ∀ (t rest : Bs), (rest = [] ∨ ∃ r, rest = 32 :: r) → textM (escL t ++ 39 :: rest) = some (t, (escL t).length + 1)
  | [], rest, h => by
    rcases h with rfl | ⟨r, rfl⟩
    · rfl
    · rfl
  | c :: l, rest, h => by
    have ih := textM_esc l rest h
    by_cases hc : c = 39
    · subst hc
      have he : escL (39 :: l) = 39 :: 39 :: escL l := by rw [escL, if_pos rfl]
      rw [he]
      simp only [List.cons_append, textM, if_true, ih, Option.map_some, List.length_cons]
    · have he : escL (c :: l) = c :: escL l := by rw [escL, if_neg hc]
      rw [he]
      obtain ⟨d, m, hm⟩ : ∃ d m, escL l ++ 39 :: rest = d :: m := by
        cases escL l with
        | nil => exact ⟨_, _, rfl⟩
        | cons d m => exact ⟨_, _, rfl⟩
      simp only [List.cons_append]
      rw [hm] at ih ⊢
      simp only [textM, if_neg hc, ih, Option.map_some, List.length_cons]
theorem good_text {t : Bs} (h : t.length ≤ 60) : GoodW (39 :: (escL t ++ [39])) := by
  refine ⟨⟨39, _, rfl, by decide⟩, fun rest at_ hr => ?_⟩
  have ht := textM_esc t rest hr
  refine ⟨⟨3, t, at_⟩, ?_, ?_⟩
  · show oneM at_ (39 :: ((escL t ++ [39]) ++ rest)) = _
    unfold oneM
    simp only
    rw [if_neg (by decide), if_neg (by decide), if_pos trivial, List.append_assoc]
    show (match textM (escL t ++ 39 :: rest) with | none => _ | some x => _) = _
    rw [ht]
    simp only
    rw [if_neg (by omega)]
    simp
  · have := textM_esc t [] (.inl rfl)
    unfold okW
    rw [cls_cons]
    rw [if_neg (by decide), if_neg (by decide), if_pos rfl, this]
    rfl
theorem good_sign {w : Bs} (h : w ∈ signsL) : GoodW w := by
  have key : ∀ w ∈ signsL, (∃ c l, w = c :: l ∧ spaceC c = false) ∧ letterB ((w.headD 0).toNat) = false ∧ digitB ((w.headD 0).toNat) = false ∧ w.headD 0 ≠ 39 := by
    intro w hw
    simp only [signsL, List.mem_cons, List.not_mem_nil, or_false] at hw
    rcases hw with rfl | rfl | rfl | rfl | rfl | rfl | rfl | rfl | rfl | rfl | rfl | rfl | rfl | rfl | rfl <;> exact ⟨⟨_, _, rfl, by decide⟩, by decide, by decide, by decide⟩
  obtain ⟨⟨c, l, rfl, hs⟩, h1, h2, h3⟩ := key w h
  refine ⟨⟨c, l, rfl, hs⟩, fun rest at_ hr => ⟨⟨4, c :: l, at_⟩, ?_, ?_⟩⟩
  · show oneM at_ (c :: (l ++ rest)) = _
    unfold oneM
    simp only
    simp only [List.headD_cons] at h1 h2 h3
    rw [if_neg (by rw [h1]; decide), if_neg (by rw [h2]; decide), if_neg h3]
    have hf : signsL.find? (·.isPrefixOf (c :: (l ++ rest))) = some (c :: l) := by
      simp only [signsL, List.mem_cons, List.cons.injEq, List.not_mem_nil, or_false] at h
      rcases hr with rfl | ⟨r, rfl⟩
      · rcases h with ⟨rfl, rfl⟩ | ⟨rfl, rfl⟩ | ⟨rfl, rfl⟩ | ⟨rfl, rfl⟩ | ⟨rfl, rfl⟩ | ⟨rfl, rfl⟩ | ⟨rfl, rfl⟩ | ⟨rfl, rfl⟩ | ⟨rfl, rfl⟩ | ⟨rfl, rfl⟩ | ⟨rfl, rfl⟩ | ⟨rfl, rfl⟩ | ⟨rfl, rfl⟩ | ⟨rfl, rfl⟩ | ⟨rfl, rfl⟩ <;> rfl
      · rcases h with ⟨rfl, rfl⟩ | ⟨rfl, rfl⟩ | ⟨rfl, rfl⟩ | ⟨rfl, rfl⟩ | ⟨rfl, rfl⟩ | ⟨rfl, rfl⟩ | ⟨rfl, rfl⟩ | ⟨rfl, rfl⟩ | ⟨rfl, rfl⟩ | ⟨rfl, rfl⟩ | ⟨rfl, rfl⟩ | ⟨rfl, rfl⟩ | ⟨rfl, rfl⟩ | ⟨rfl, rfl⟩ | ⟨rfl, rfl⟩ <;> rfl
    rw [hf]
  · simp only [List.headD_cons] at h1 h2 h3
    unfold okW
    rw [cls_cons]
    rw [if_neg (by rw [h1]; decide), if_neg (by rw [h2]; decide), if_neg h3]
/-- words behind others -/
def tailW (ws : List Bs) : Bs := ws.flatMap fun w => 32 :: w
theorem putM_tail : ∀ (ws : List Bs) (acc : Bs), acc ≠ [] → putM acc ws = acc ++ tailW ws
  | [], acc, _ => by simp [putM, tailW]
  | w :: ws, acc, h => by
    have hs : sepM acc = acc ++ [32] := by unfold sepM; rw [if_neg h]
    rw [putM_cons, hs, putM_tail ws _ (by simp)]
    simp [tailW]
theorem tailW_head (ws : List Bs) : tailW ws = [] ∨ ∃ r, tailW ws = 32 :: r := by
  cases ws with
  | nil => exact .inl rfl
  | cons w ws => exact .inr ⟨_, rfl⟩
theorem toks_word {w : Bs} (hw : GoodW w) {ws : List Bs} {f : Nat} {at_ : Int} (ih : ∀ at_, ∃ ts, toksM f at_ (tailW ws) = .ok ts ∧ Lk ws ts) : ∃ ts, toksM (f + 1) at_ (w ++ tailW ws) = .ok ts ∧ Lk (w :: ws) ts := by
  obtain ⟨⟨c, l, rfl, hs⟩, h⟩ := hw
  obtain ⟨t, h1, h2⟩ := h (tailW ws) at_ (tailW_head ws)
  obtain ⟨ts, h3, h4⟩ := ih (at_ + (c :: l).length)
  refine ⟨t :: ts, ?_, t, ts, rfl, h2, h4⟩
  show toksM (f + 1) at_ (c :: (l ++ tailW ws)) = _
  rw [toksM, if_neg (by rw [hs]; decide)]
  have h1' : oneM at_ (c :: (l ++ tailW ws)) = .ok (t, (c :: l).length) := h1
  rw [h1']
  simp only
  have hd : (c :: (l ++ tailW ws)).drop (c :: l).length = tailW ws := by
    show ((c :: l) ++ tailW ws).drop (c :: l).length = _
    rw [List.drop_left]
  rw [hd, h3]
theorem toks_tail : ∀ (ws : List Bs), (∀ w ∈ ws, GoodW w) → ∀ (f : Nat) (at_ : Int), (tailW ws).length < f → ∃ ts, toksM f at_ (tailW ws) = .ok ts ∧ Lk ws ts
  | [], _, f, at_, h => by
    obtain ⟨f, rfl⟩ : ∃ g, f = g + 1 := ⟨f - 1, by omega⟩
    exact ⟨[], rfl, rfl⟩
  | w :: ws, hg, f, at_, h => by
    have ht : tailW (w :: ws) = 32 :: (w ++ tailW ws) := rfl
    rw [ht, List.length_cons, List.length_append] at h
    have hw := hg w (List.mem_cons_self ..)
    have hpos : 0 < w.length := by obtain ⟨⟨c, l, rfl, _⟩, _⟩ := hw; simp
    obtain ⟨f, rfl⟩ : ∃ g, f = g + 2 := ⟨f - 2, by omega⟩
    rw [ht, toksM, if_pos (by decide)]
    exact toks_word hw fun at_ => toks_tail ws (fun w hw => hg w (List.mem_cons_of_mem _ hw)) f at_ (by omega)
/-- what is written is read as its words -/
theorem tokens_put {ws : List Bs} (hg : ∀ w ∈ ws, GoodW w) (hl : (putM [] ws).length ≤ 4000) : ∃ ts, tokensM (putM [] ws) = .ok ts ∧ Lk ws ts := by
  unfold tokensM
  rw [if_neg (by omega)]
  cases ws with
  | nil => exact ⟨[], rfl, rfl⟩
  | cons w ws =>
    have hw := hg w (List.mem_cons_self ..)
    have hp : putM [] (w :: ws) = w ++ tailW ws := by
      rw [putM_cons]
      have : sepM [] = [] := rfl
      rw [this, List.nil_append, putM_tail _ _ (by obtain ⟨⟨c, l, rfl, _⟩, _⟩ := hw; simp)]
    rw [hp]
    have hpos : 0 < w.length := by obtain ⟨⟨c, l, rfl, _⟩, _⟩ := hw; simp
    exact toks_word hw fun at_ => toks_tail ws (fun w hw => hg w (List.mem_cons_of_mem _ hw)) _ at_ (by rw [List.length_append]; omega)
/-! ### numerals -/
theorem digits_all : ∀ (n : Nat), (Lib.decDigits n).all digC = true := by
  intro n
  induction n using Nat.strongRecOn with
  | _ n ih =>
    have hd : ∀ k : Nat, k < 10 → digC (UInt8.ofNat (48 + k)) = true := by decide
    rw [Lib.decDigits]
    split
    · rename_i h
      have := hd n h
      rw [List.all_cons, this]; rfl
    · rename_i h
      rw [List.all_append, ih (n / 10) (by omega)]
      have := hd (n % 10) (by omega)
      rw [List.all_cons, this]; rfl
theorem digits_ne (n : Nat) : Lib.decDigits n ≠ [] := by
  intro h
  have := Lib.decDigits_length n
  have := Lib.nDigits_pos n
  rw [h] at *
  simp at *
  omega
theorem numM_app (l : Bs) (c : UInt8) : numM (l ++ [c]) = numM l * 10 + (c.toNat - 48) := by
  unfold numM; rw [List.foldl_append]; rfl
theorem numM_digits : ∀ (n : Nat), numM (Lib.decDigits n) = n := by
  intro n
  induction n using Nat.strongRecOn with
  | _ n ih =>
    have hd : ∀ k : Nat, k < 10 → (UInt8.ofNat (48 + k)).toNat - 48 = k := by decide
    rw [Lib.decDigits]
    split
    · rename_i h
      show 0 * 10 + _ = n
      rw [hd n h]; omega
    · rename_i h
      rw [numM_app, ih (n / 10) (by omega), hd (n % 10) (by omega)]
      omega
theorem digits_len {n : Nat} (h : n ≤ 1000000000000000) : (Lib.decDigits n).length ≤ 16 := by
  rw [Lib.decDigits_length]
  have hm : ∀ (k n : Nat), n < 10 ^ (k + 1) → Lib.nDigits n ≤ k + 1 := by
    intro k
    induction k with
    | zero => intro n h; rw [Lib.nDigits_small (by simpa using h)]; omega
    | succ k ih =>
      intro n h
      by_cases h1 : n < 10
      · rw [Lib.nDigits_small h1]; omega
      · rw [Lib.nDigits_big h1]
        have := ih (n / 10) (by rw [Nat.pow_succ] at h; omega)
        omega
  exact hm 15 n (by omega)
theorem good_digits {n : Nat} (h : n ≤ 1000000000000000) : GoodW (Lib.decDigits n) := by
  have h1 := digits_all n
  have h2 := digits_len h
  have h3 := digits_ne n
  cases hd : Lib.decDigits n with
  | nil => exact (h3 hd).elim
  | cons c l => rw [hd] at h1 h2; exact good_num h1 h2
theorem cls_digits (n : Nat) : cls (Lib.decDigits n) = (2, Lib.decDigits n) := by
  have h1 := digits_all n
  have h3 := digits_ne n
  cases hd : Lib.decDigits n with
  | nil => exact (h3 hd).elim
  | cons c l =>
    rw [hd] at h1
    have h1 : digitB c.toNat = true := by simp only [List.all_cons, Bool.and_eq_true] at h1; exact h1.1
    have h0 : ¬ letterB c.toNat = true := by
      unfold digitB at h1
      unfold letterB
      simp only [Bool.and_eq_true, decide_eq_true_eq] at h1
      simp only [Bool.or_eq_true, Bool.and_eq_true, decide_eq_true_eq]
      omega
    rw [cls_cons]
    rw [if_neg h0, if_pos h1]
theorem trim_itoa (n : Int) : Lib.trimPrefix (Lib.itoa n) [45] = Lib.decDigits n.natAbs := by
  unfold Lib.itoa
  split
  · rfl
  · rename_i h
    have h1 := digits_all n.toNat
    have h3 := digits_ne n.toNat
    have e : n.natAbs = n.toNat := by omega
    rw [e]
    cases hd : Lib.decDigits n.toNat with
    | nil => exact (h3 hd).elim
    | cons c l =>
      rw [hd] at h1
      have h1 : digitB c.toNat = true := by simp only [List.all_cons, Bool.and_eq_true] at h1; exact h1.1
      have hc : c ≠ 45 := by rintro rfl; revert h1; decide
      unfold Lib.trimPrefix Lib.hasPrefix
      simp [Ne.symm hc]
end Go.Proofs.YtoainkbcfnlkcaaGreatDoor

namespace Go.Proofs.YtoainkbcfnlkcaaGreatDoor
open Go Vc
set_option linter.unusedSimpArgs false
set_option linter.unusedVariables false
set_option maxRecDepth 10000

/-! ### an expression that is written is read -/
def bareV (v : V) : V := ⟨v.k, if v.k = 2 ∨ v.k = 3 then v.n else 0, if v.k = 4 then v.t else []⟩
mutual
def bareX : X → X
  | .mk k v tab name kids => .mk k (if k = 1 then bareV v else ⟨0, 0, []⟩) (if k = 2 then tab else []) (if k = 2 then name else []) (bareXs kids)
def bareXs : List X → List X
  | [] => []
  | x :: l => bareX x :: bareXs l
end
theorem bareXs_map : ∀ l, bareXs l = l.map bareX
  | [] => rfl
  | x :: l => by rw [bareXs, bareXs_map l]; rfl
mutual
/-- how deep -/
def htX : X → Nat
  | .mk _ _ _ _ kids => 1 + htL kids
def htL : List X → Nat
  | [] => 0
  | x :: l => max (htX x) (htL l)
end
mutual
/-- a right form, names and all -/
def OkY : X → Prop
  | .mk k v tab name kids => (kids.length : Int) = kidsN k ∧ 0 ≤ kidsN k ∧ (k = 1 → wrongV v = 0) ∧ (k = 2 → namedB name = true ∧ (tab = [] ∨ namedB tab = true)) ∧ OkYs kids
def OkYs : List X → Prop
  | [] => True
  | x :: l => OkY x ∧ OkYs l
end
theorem OkYs_mem : ∀ {l : List X}, OkYs l → ∀ x ∈ l, OkY x
  | [], _, x, hx => by cases hx
  | y :: l, h, x, hx => by
    rcases List.mem_cons.1 hx with rfl | hx
    · exact h.1
    · exact OkYs_mem h.2 x hx
mutual
theorem shape_oky (d n : Nat) : ∀ (x : X), (shapeX d n x).1 = 0 → OkY x ∧ d + htX x ≤ 21
  | .mk k v tab name kids, h => by
    rw [shapeX] at h
    rw [OkY, htX]
    split at h
    · simp at h
    rename_i h1
    split at h
    · simp at h
    rename_i h2
    split at h
    · simp at h
    rename_i h3
    have h3 : (kids.length : Int) = kidsN k := by omega
    split at h
    · rename_i hk
      have hk0 : kids = [] := by
        have : kidsN k = 0 := by unfold kidsN; rw [if_pos (.inl hk)]
        exact List.length_eq_zero_iff.1 (by omega)
      subst hk0
      exact ⟨⟨h3, by omega, fun _ => h, fun h => by omega, trivial⟩, by show d + (1 + 0) ≤ 21; omega⟩
    rename_i hk
    split at h
    · simp at h
    rename_i h4
    obtain ⟨h5, h6⟩ := shapes_oky (d + 1) (n + 1) kids h
    refine ⟨⟨h3, by omega, fun h => (hk h).elim, fun h2 => ?_, h5⟩, by omega⟩
    have h4 : ¬ (namedB name = false ∨ tab ≠ [] ∧ namedB tab = false) := fun h => h4 ⟨h2, h⟩
    refine ⟨by cases hn : namedB name with | true => rfl | false => exact (h4 (.inl hn)).elim, ?_⟩
    by_cases ht : tab = []
    · exact .inl ht
    · exact .inr (by cases hn : namedB tab with | true => rfl | false => exact (h4 (.inr ⟨ht, hn⟩)).elim)
theorem shapes_oky (d n : Nat) : ∀ (l : List X), (shapeL d n l).1 = 0 → OkYs l ∧ (d + htL l ≤ 21 ∨ htL l = 0)
  | [], h => ⟨trivial, .inr rfl⟩
  | x :: l, h => by
    rw [shapeL] at h
    split at h
    · rename_i h1; exact (h1 h).elim
    · rename_i h1
      have h1 : (shapeX d n x).1 = 0 := by omega
      obtain ⟨h2, h3⟩ := shape_oky d n x h1
      obtain ⟨h4, h5⟩ := shapes_oky d _ l h
      refine ⟨⟨h2, h4⟩, .inl ?_⟩
      rw [htL]; omega
end
theorem exprW_oky {x : X} (h : exprW x = 0) : OkY x ∧ htX x ≤ 20 := by
  obtain ⟨h1, h2⟩ := shape_oky 1 0 x h
  exact ⟨h1, by omega⟩

/-! words and tokens -/
def seesC (s : Bs) (c : Int × Bs) : Bool := decide (c.2 = s) && (decide (c.1 = 1) || decide (c.1 = 4))
theorem sees_cls {w : Bs} {t : Tk} {r : List Tk} (h : okW w t) (s : Bs) : seesM s (t :: r) = seesC s (cls w) := by
  unfold okW at h; rw [← h]; rfl
def idxC : List Bs → Int × Bs → Option Nat
  | [], _ => none
  | s :: l, c => if seesC s c = true then some 0 else (idxC l c).map (· + 1)
theorem idx_cls {w : Bs} {t : Tk} {r : List Tk} (h : okW w t) : ∀ l, idxSign l (t :: r) = idxC l (cls w)
  | [] => rfl
  | s :: l => by rw [idxSign, idxC, sees_cls h, idx_cls h l]
theorem need_cls {en : Int} {w : Bs} {t : Tk} {r : List Tk} (h : okW w t) (s : Bs) (hs : seesC s (cls w) = true) : needM en [s] (t :: r) = .ok () r := by
  rw [needM, sees_cls h, if_pos hs]; rfl
theorem head_cls {w : Bs} {t : Tk} {r : List Tk} (h : okW w t) (k : Int) : headIs k (t :: r) = decide ((cls w).1 = k) := by
  unfold okW at h; rw [← h]; rfl
theorem cls_name {s : Bs} (h : namedB s = true) : cls s = (1, s) := by
  obtain ⟨c, l, rfl, h1, _⟩ := named_cons h
  rw [cls_cons, if_pos h1]
def notName (s : Bs) : Bool := wordsL.contains s || !letterB (s.headD 0).toNat
theorem sees_name {s n : Bs} (hn : namedB n = true) (hs : notName s = true) : seesC s (cls n) = false := by
  rw [cls_name hn]
  obtain ⟨c, l, rfl, h1, _, h2⟩ := named_cons hn
  have : c :: l ≠ s := by
    rintro rfl
    unfold notName at hs
    simp only [Bool.or_eq_true, List.contains_iff_mem, List.headD_cons, h1, Bool.not_true, Bool.false_eq_true, or_false] at hs
    exact h2 hs
  simp [seesC, this]
theorem idx_name {n : Bs} (hn : namedB n = true) : ∀ (l : List Bs), (∀ s ∈ l, notName s = true) → idxC l (cls n) = none
  | [], _ => rfl
  | s :: l, h => by
    rw [idxC, sees_name hn (h s (List.mem_cons_self ..)), idx_name hn l fun s hs => h s (List.mem_cons_of_mem _ hs)]; rfl
theorem name_cls {en : Int} {n : Bs} {t : Tk} {r : List Tk} (h : okW n t) (hn : namedB n = true) : nameM en (t :: r) = .ok n r := by
  unfold okW at h
  rw [cls_name hn] at h
  injection h with h1 h2
  rw [nameM, if_pos h1, h2, if_pos hn]
/-! what goes on with an expression -/
def lvSigns : List (List Bs) := [[[111, 114]], [[97, 110, 100]], [], [[61], [60, 62], [60], [60, 61], [62], [62, 61], wIs], [[43], [45]], [[42]], [[124, 124]], [sDot]]
def contW (n : Nat) : List Bs := (lvSigns.drop n).flatten
def clean (n : Nat) (r : List Tk) : Prop := ∀ s ∈ contW n, seesM s r = false
def cleanC (n : Nat) (c : Int × Bs) : Bool := (contW n).all fun s => !seesC s c
theorem clean_cls {n : Nat} {w : Bs} {t : Tk} {r : List Tk} (h : okW w t) (hc : cleanC n (cls w) = true) : clean n (t :: r) := by
  intro s hs
  rw [sees_cls h]
  have := List.all_eq_true.1 hc s hs
  simpa using this
theorem clean_succ {n : Nat} {r : List Tk} (h : clean n r) : clean (n + 1) r := by
  intro s hs
  refine h s ?_
  unfold contW at hs ⊢
  obtain ⟨l, hl, hs⟩ := List.mem_flatten.1 hs
  refine List.mem_flatten.2 ⟨l, ?_, hs⟩
  rw [← List.drop_drop] at hl
  exact List.mem_of_mem_drop hl
theorem clean_le {n m : Nat} {r : List Tk} (h : clean n r) (hm : n ≤ m) : clean m r := by
  induction hm with
  | refl => exact h
  | step _ ih => exact clean_succ ih
theorem idx_none : ∀ {l : List Bs} {t : List Tk}, (∀ s ∈ l, seesM s t = false) → idxSign l t = none
  | [], _, _ => rfl
  | s :: l, t, h => by
    rw [idxSign, h s (List.mem_cons_self ..), idx_none fun s hs => h s (List.mem_cons_of_mem _ hs)]; rfl
theorem idx_clean {n : Nat} {r : List Tk} (h : clean n r) : idxSign (lvlAt n).signs r = none := by
  refine idx_none fun s hs => h s ?_
  have key : ∀ n, n < 8 → ∀ s ∈ (lvlAt n).signs, s ∈ contW n := by decide
  by_cases hn : n < 8
  · exact key n hn s hs
  · exfalso
    have : lvlAt n = ⟨[], 0, false⟩ := by
      unfold lvlAt
      rw [List.getD_eq_getElem?_getD, List.getElem?_eq_none (by show 7 ≤ n; omega)]; rfl
    rw [this] at hs
    cases hs
theorem clean_dot {r : List Tk} {n : Nat} (h : clean n r) (hn : n ≤ 7) : seesM sDot r = false := clean_le h hn _ (by decide)
theorem clean_is {r : List Tk} {n : Nat} (h : clean n r) (hn : n ≤ 3) : seesM wIs r = false := clean_le h hn _ (by decide)

/-! the claims -/
def own (x : X) : Int := (tightM x.k).1
def bud (x : X) (n : Nat) : Int := 2 * (htX x : Int) + (if own x < (n : Int) + 1 then 1 else 0)
theorem bud_pos (x : X) (n : Nat) : 0 ≤ bud x n := by unfold bud; split <;> omega
def Bp (en : Int) (x : X) (n : Nat) : Prop := ∀ (f : Nat) (op : Int) (t r : List Tk), 9 * (101 - op) + 8 - n < f → 0 ≤ op → op + bud x n ≤ 100 → Lk (exprP x ((n : Int) + 1)) t → clean n r → binM en f n op (t ++ r) = .ok (bareX x) r
def Ap (en : Int) (x : X) (n : Nat) : Prop := ∀ (f : Nat) (op : Int) (t r : List Tk), 9 * (101 - op) + 8 - n < f + 1 → 0 ≤ op → op + bud x n ≤ 100 → Lk (exprP x ((n : Int) + 1)) t → clean (n + 1) r →
  ∃ k, r.length < k ∧ binM en (f + 1) n op (t ++ r) = loopM (binM en f (n + 1) op) (lvlAt n) k (bareX x) r
theorem binM_mid {en : Int} {f n : Nat} {op : Int} {t : List Tk} (h7 : n ≠ 7) (h2 : n ≠ 2) : binM en (f + 1) n op t = (binM en f (n + 1) op t).bind fun x t => if n = 3 ∧ seesM wIs t = true then isM en x t else loopM (binM en f (n + 1) op) (lvlAt n) (t.length + 1) x t := by
  rw [binM, if_neg h7, if_neg h2]
theorem Ap_Bp {en : Int} {x : X} {n : Nat} (hn : n < 7) (h : Ap en x n) : Bp en x n := by
  intro f op t r hf h0 hb ht hc
  have hbp := bud_pos x n
  obtain ⟨f, rfl⟩ : ∃ g, f = g + 1 := ⟨f - 1, by omega⟩
  obtain ⟨k, hk, e⟩ := h f op t r (by omega) h0 hb ht (clean_succ hc)
  obtain ⟨k, rfl⟩ : ∃ g, k = g + 1 := ⟨k - 1, by omega⟩
  rw [e, loopM, idx_clean hc]
theorem exprP_same {x : X} {n : Nat} (h : own x ≠ (n : Int) + 1) : exprP x ((n : Int) + 1) = exprP x (((n + 1 : Nat) : Int) + 1) := by
  obtain ⟨k, v, tab, name, kids⟩ := x
  rw [exprP, exprP]
  have h : (tightM k).1 ≠ (n : Int) + 1 := h
  by_cases h1 : (tightM k).1 < (n : Int) + 1
  · rw [if_pos h1, if_pos (by push_cast; omega)]
  · rw [if_neg h1, if_neg (by push_cast; omega)]
theorem bud_same {x : X} {n : Nat} (h : own x ≠ (n : Int) + 1) : bud x (n + 1) = bud x n := by
  unfold bud
  by_cases h1 : own x < (n : Int) + 1
  · rw [if_pos h1, if_pos (by push_cast; omega)]
  · rw [if_neg h1, if_neg (by push_cast; omega)]
/-- down a level, where signs are chained -/
theorem Ap_down {en : Int} {x : X} {n : Nat} (hn : n < 7) (h2 : n ≠ 2) (h3 : n ≠ 3) (ho : own x ≠ (n : Int) + 1) (h : Bp en x (n + 1)) : Ap en x n := by
  intro f op t r hf h0 hb ht hc
  rw [binM_mid (by omega) h2]
  rw [exprP_same ho] at ht
  rw [← bud_same ho] at hb
  have := h f op t r (by push_cast at hf ⊢; omega) h0 hb ht hc
  rw [this]
  refine ⟨r.length + 1, by omega, ?_⟩
  show (if n = 3 ∧ _ then _ else _) = _
  rw [if_neg (fun h => h3 h.1)]
theorem Bp_down3 {en : Int} {x : X} (ho : own x ≠ 4) (h : Bp en x 4) : Bp en x 3 := by
  intro f op t r hf h0 hb ht hc
  have hbp := bud_pos x 3
  obtain ⟨f, rfl⟩ : ∃ g, f = g + 1 := ⟨f - 1, by omega⟩
  rw [binM_mid (by omega) (by omega)]
  have ho : own x ≠ ((3 : Nat) : Int) + 1 := ho
  rw [exprP_same ho] at ht
  rw [← bud_same ho] at hb
  have := h f op t r (by push_cast at hf ⊢; omega) h0 hb ht (clean_succ hc)
  rw [this]
  show (if (3 : Nat) = 3 ∧ _ then _ else _) = _
  rw [if_neg (fun h => by rw [clean_is hc (by omega)] at h; cases h.2), loopM, idx_clean hc]
/-- what begins an expression's text -/
def headNot (ws : List Bs) : Prop := ∃ w l, ws = w :: l ∧ seesC wNot (cls w) = false
theorem Bp_down2 {en : Int} {x : X} (ho : own x ≠ 3) (hh : headNot (exprP x 4)) (h : Bp en x 3) : Bp en x 2 := by
  intro f op t r hf h0 hb ht hc
  have hbp := bud_pos x 2
  obtain ⟨f, rfl⟩ : ∃ g, f = g + 1 := ⟨f - 1, by omega⟩
  have ho : own x ≠ ((2 : Nat) : Int) + 1 := ho
  rw [exprP_same ho] at ht
  rw [← bud_same ho] at hb
  have hs : seesM wNot (t ++ r) = false := by
    obtain ⟨w, l, hw, hh⟩ := hh
    have ht' : Lk (exprP x 4) t := ht
    rw [hw] at ht'
    obtain ⟨t0, t1, rfl, hk, _⟩ := ht'
    rw [List.cons_append, sees_cls hk]; exact hh
  rw [binM, if_neg (by omega), if_pos rfl, hs, if_neg (by decide)]
  exact h f op t r (by push_cast at hf ⊢; omega) h0 hb ht (clean_succ hc)
theorem exprP_par {x : X} {need : Int} (h : own x < need) (h1 : 1 ≤ own x) : exprP x need = sOpen :: (exprP x 1 ++ [sClose]) := by
  obtain ⟨k, v, tab, name, kids⟩ := x
  have h : (tightM k).1 < need := h
  have h1 : ¬ (tightM k).1 < 1 := by show ¬ own (.mk k v tab name kids) < 1; omega
  rw [exprP, exprP, if_pos h, if_neg h1]
/-- in brackets -/
theorem Bp_par {en : Int} {x : X} (ho : own x < 8) (h1 : 1 ≤ own x) (h : Bp en x 0) : Bp en x 7 := by
  intro f op t r hf h0 hb ht hc
  have hbp := bud_pos x 7
  obtain ⟨f, rfl⟩ : ∃ g, f = g + 1 := ⟨f - 1, by omega⟩
  have hp : exprP x (((7 : Nat) : Int) + 1) = sOpen :: (exprP x 1 ++ [sClose]) := exprP_par (by show own x < 8; omega) h1
  rw [hp] at ht
  obtain ⟨t0, t1, rfl, hk, ht⟩ := ht
  obtain ⟨t2, t3, rfl, ht2, ht3⟩ := Lk_app ht
  obtain ⟨t4, t5, rfl, hk4, ht5⟩ := ht3
  have : t5 = [] := ht5
  subst this
  have hb' : op + 2 * (htX x : Int) + 1 ≤ 100 := by
    unfold bud at hb
    rw [if_pos (by show own x < 8; omega)] at hb
    omega
  have hin := h f (op + 1) t2 (t4 :: r) (by push_cast at hf ⊢; omega) (by omega) (by unfold bud; rw [if_neg (by show ¬ own x < ((0 : Nat) : Int) + 1; omega)]; omega) ht2 (clean_cls hk4 (by decide))
  rw [binM, if_pos rfl]
  have e : t0 :: (t2 ++ [t4]) ++ r = t0 :: (t2 ++ t4 :: r) := by simp
  rw [e]
  have hop : ¬ (op + 1 > 100) := by omega
  have hv : valueM en (t0 :: (t2 ++ t4 :: r)) = .ok none (t0 :: (t2 ++ t4 :: r)) := by
    unfold valueM
    rw [sees_cls hk, sees_cls hk, sees_cls hk, sees_cls hk, head_cls hk, head_cls hk]
    rfl
  unfold pieceM
  rw [hv]
  show (if seesM sOpen (t0 :: (t2 ++ t4 :: r)) = true then _ else _) = _
  rw [sees_cls hk, if_pos (by decide)]
  simp only [List.tail_cons]
  rw [if_neg hop, hin]
  show (needM en [sClose] (t4 :: r)).bind _ = _
  rw [need_cls hk4 _ (by decide)]; rfl
end Go.Proofs.YtoainkbcfnlkcaaGreatDoor

namespace Go.Proofs.YtoainkbcfnlkcaaGreatDoor
open Go Vc
set_option linter.unusedSimpArgs false
set_option linter.unusedVariables false
set_option maxRecDepth 10000

theorem kinds_of {k : Int} (h : 0 ≤ kidsN k) : (k = 1 ∨ k = 2 ∨ k = 19) ∨ (k = 3 ∨ k = 16 ∨ k = 20 ∨ k = 21 ∨ k = 22 ∨ k = 23) ∨ k = 17 ∨ k = 18 ∨ (4 ≤ k ∧ k ≤ 15) := by
  unfold kidsN at h
  split at h
  · omega
  split at h
  · omega
  split at h
  · omega
  split at h
  · omega
  · omega
/-- a kind with two kids and a sign between -/
structure OpK (k : Int) (n j : Nat) (s : Bs) : Prop where
  tight : tightM k = ((n : Int) + 1, s)
  idx : idxC (lvlAt n).signs (cls s) = some j
  kind : (lvlAt n).kind + (j : Int) = k
  cl : cleanC (n + 1) (cls s) = true
  is : seesC wIs (cls s) = false
  lt : n < 7 ∧ n ≠ 2
  once : (lvlAt n).once = decide (n = 3)
theorem opK_of {k : Int} (h : 4 ≤ k ∧ k ≤ 15) : ∃ n j s, OpK k n j s := by
  have : k = 4 ∨ k = 5 ∨ k = 6 ∨ k = 7 ∨ k = 8 ∨ k = 9 ∨ k = 10 ∨ k = 11 ∨ k = 12 ∨ k = 13 ∨ k = 14 ∨ k = 15 := by omega
  rcases this with rfl | rfl | rfl | rfl | rfl | rfl | rfl | rfl | rfl | rfl | rfl | rfl
  · exact ⟨1, 0, [97, 110, 100], by decide, by decide, by decide, by decide, by decide, by decide, by decide⟩
  · exact ⟨0, 0, [111, 114], by decide, by decide, by decide, by decide, by decide, by decide, by decide⟩
  · exact ⟨3, 0, [61], by decide, by decide, by decide, by decide, by decide, by decide, by decide⟩
  · exact ⟨3, 1, [60, 62], by decide, by decide, by decide, by decide, by decide, by decide, by decide⟩
  · exact ⟨3, 2, [60], by decide, by decide, by decide, by decide, by decide, by decide, by decide⟩
  · exact ⟨3, 3, [60, 61], by decide, by decide, by decide, by decide, by decide, by decide, by decide⟩
  · exact ⟨3, 4, [62], by decide, by decide, by decide, by decide, by decide, by decide, by decide⟩
  · exact ⟨3, 5, [62, 61], by decide, by decide, by decide, by decide, by decide, by decide, by decide⟩
  · exact ⟨4, 0, [43], by decide, by decide, by decide, by decide, by decide, by decide, by decide⟩
  · exact ⟨4, 1, [45], by decide, by decide, by decide, by decide, by decide, by decide, by decide⟩
  · exact ⟨5, 0, [42], by decide, by decide, by decide, by decide, by decide, by decide, by decide⟩
  · exact ⟨6, 0, [124, 124], by decide, by decide, by decide, by decide, by decide, by decide, by decide⟩
theorem tight_leaf {k : Int} (h : k = 1 ∨ k = 2 ∨ k = 17 ∨ k = 18 ∨ k = 19 ∨ k = 20 ∨ k = 21 ∨ k = 22 ∨ k = 23) : tightM k = (8, []) := by
  rcases h with rfl | rfl | rfl | rfl | rfl | rfl | rfl | rfl | rfl <;> decide
/-! heads -/
def headNo (s : Bs) (ws : List Bs) : Prop := ∃ w l, ws = w :: l ∧ seesC s (cls w) = false
theorem headNo_app {s : Bs} {a b : List Bs} (h : headNo s a) : headNo s (a ++ b) := by
  obtain ⟨w, l, rfl, h⟩ := h
  exact ⟨w, l ++ b, rfl, h⟩
theorem cls_text {t : Bs} : cls (39 :: (escL t ++ [39])) = (3, t) := by
  have := textM_esc t [] (.inl rfl)
  rw [cls_cons, if_neg (by decide), if_neg (by decide), if_pos rfl, this]
  rfl
theorem valP_head {v : V} (h : wrongV v = 0) {s : Bs} (hs : (s = sStar ∨ s = wDistinct) ∨ s = wNot) : headNo s (valP v) := by
  have hv : v.k = 1 ∨ v.k = 2 ∨ v.k = 3 ∨ v.k = 4 := by
    unfold wrongV at h
    by_cases h1 : v.k = 1; · exact .inl h1
    by_cases h2 : v.k = 2; · exact .inr (.inl h2)
    by_cases h3 : v.k = 3; · exact .inr (.inr (.inl h3))
    by_cases h4 : v.k = 4; · exact .inr (.inr (.inr h4))
    rw [if_neg h1, if_neg h2, if_neg h3, if_neg h4] at h
    cases h
  unfold valP
  rcases hv with h1 | h1 | h1 | h1
  · rw [if_pos h1]
    exact ⟨wNull, [], rfl, by rcases hs with (rfl | rfl) | rfl <;> decide⟩
  · rw [if_neg (by omega), if_pos h1]
    split
    · exact ⟨wFalse, [], rfl, by rcases hs with (rfl | rfl) | rfl <;> decide⟩
    · exact ⟨wTrue, [], rfl, by rcases hs with (rfl | rfl) | rfl <;> decide⟩
  · rw [if_neg (by omega), if_neg (by omega), if_neg (by omega), if_pos h1]
    split
    · exact ⟨minus, _, rfl, by rcases hs with (rfl | rfl) | rfl <;> decide⟩
    · refine ⟨_, [], rfl, ?_⟩
      rw [trim_itoa, cls_digits]
      simp [seesC]
  · rw [if_neg (by omega), if_neg (by omega), if_pos h1, escM_eq]
    refine ⟨_, [], rfl, ?_⟩
    rw [cls_text]; simp [seesC]
theorem head_expr : ∀ (sz : Nat) (x : X), SizeOf.sizeOf x ≤ sz → OkY x → ∀ (need : Int) (s : Bs), (s = sStar ∨ s = wDistinct) ∨ (s = wNot ∧ 4 ≤ need) → headNo s (exprP x need) := by
  intro sz
  induction sz with
  | zero => intro x hx; cases x; simp at hx
  | succ sz ih =>
    intro x hx hok need s hs
    obtain ⟨k, v, tab, name, kids⟩ := x
    rw [OkY] at hok
    obtain ⟨hl, h0, hv, hn, hks⟩ := hok
    have hs' : (s = sStar ∨ s = wDistinct) ∨ s = wNot := hs.imp id (·.1)
    rw [exprP]
    split
    · exact ⟨sOpen, _, rfl, by rcases hs' with (rfl | rfl) | rfl <;> decide⟩
    rename_i hown
    have ihk : ∀ y ∈ kids, ∀ (need : Int), ((s = sStar ∨ s = wDistinct) ∨ (s = wNot ∧ 4 ≤ need)) → headNo s (exprP y need) := by
      intro y hy need hs
      refine ih y ?_ (OkYs_mem hks y hy) need s hs
      have := List.sizeOf_lt_of_mem hy
      simp at hx
      omega
    unfold bodyP
    by_cases k1 : k = 1
    · rw [if_pos k1]; exact valP_head (hv k1) hs'
    rw [if_neg k1]
    by_cases k2 : k = 2
    · rw [if_pos k2]
      obtain ⟨hn1, hn2⟩ := hn k2
      have hnn : notName s = true := by rcases hs' with (rfl | rfl) | rfl <;> decide
      by_cases ht : tab = []
      · rw [if_pos ht]; exact ⟨name, [], rfl, sees_name hn1 hnn⟩
      · rw [if_neg ht]; exact ⟨tab, _, rfl, sees_name (hn2.resolve_left ht) hnn⟩
    rw [if_neg k2]
    by_cases k3 : k = 3
    · rw [if_pos k3]
      subst k3
      rcases hs with (rfl | rfl) | ⟨rfl, h4⟩
      · exact ⟨wNot, _, rfl, by decide⟩
      · exact ⟨wNot, _, rfl, by decide⟩
      · exfalso
        have : (tightM 3).1 = 3 := by decide
        omega
    rw [if_neg k3]
    by_cases k16 : k = 16
    · rw [if_pos k16]
      subst k16
      match kids, hl, ihk with
      | [y], _, ihk => exact headNo_app (ihk y (List.mem_cons_self ..) 5 (hs.imp id fun h => ⟨h.1, by omega⟩))
      | [], hl, _ => simp [kidsN] at hl
      | _ :: _ :: _, hl, _ => simp [kidsN] at hl; omega
    rw [if_neg k16]
    by_cases k17 : k = 17
    · rw [if_pos k17]; exact ⟨wCase, _, rfl, by rcases hs' with (rfl | rfl) | rfl <;> decide⟩
    rw [if_neg k17]
    by_cases k19 : k = 19
    · rw [if_pos k19]; exact ⟨wCount, _, rfl, by rcases hs' with (rfl | rfl) | rfl <;> decide⟩
    rw [if_neg k19]
    by_cases k18 : k = 18 ∨ (20 ≤ k ∧ k ≤ 23)
    · rw [if_pos k18]
      refine ⟨fnW k, _, rfl, ?_⟩
      have : k = 18 ∨ k = 20 ∨ k = 21 ∨ k = 22 ∨ k = 23 := by omega
      rcases this with rfl | rfl | rfl | rfl | rfl <;> rcases hs' with (rfl | rfl) | rfl <;> decide
    rw [if_neg k18]
    have hk := kinds_of h0
    obtain ⟨n, j, sg, hop⟩ := opK_of (k := k) (by omega)
    have hl2 : (kids.length : Int) = 2 := by
      rw [hl]; unfold kidsN
      rw [if_neg (by omega), if_neg (by omega), if_pos (by omega)]
    match kids, hl2, ihk with
    | [y, z], _, ihk =>
      refine headNo_app (ihk y (List.mem_cons_self ..) _ (hs.imp id fun h => ⟨h.1, ?_⟩))
      split <;> omega
    | [], hl, _ => simp at hl
    | [_], hl, _ => simp at hl
    | _ :: _ :: _ :: _, hl, _ => simp at hl; omega
/-! values -/
def valNone (c : Int × Bs) : Bool := !seesC wNull c && !seesC wTrue c && !seesC wFalse c && !seesC minus c && !decide (c.1 = 2) && !decide (c.1 = 3)
theorem value_none {en : Int} {w : Bs} {t : Tk} {r : List Tk} (h : okW w t) (hc : valNone (cls w) = true) : valueM en (t :: r) = .ok none (t :: r) := by
  unfold valNone at hc
  simp only [Bool.and_eq_true, Bool.not_eq_true', decide_eq_false_iff_not] at hc
  obtain ⟨⟨⟨⟨⟨h1, h2⟩, h3⟩, h4⟩, h5⟩, h6⟩ := hc
  unfold valueM
  rw [sees_cls h, h1, sees_cls h, h2, sees_cls h, h3, sees_cls h, h4, head_cls h, head_cls h, decide_eq_false h5, decide_eq_false h6]
  rfl
theorem value_name {en : Int} {w : Bs} {t : Tk} {r : List Tk} (h : okW w t) (hn : namedB w = true) : valueM en (t :: r) = .ok none (t :: r) := by
  refine value_none h ?_
  unfold valNone
  rw [sees_name hn (by decide), sees_name hn (by decide), sees_name hn (by decide), sees_name hn (by decide), cls_name hn]
  rfl
theorem value_rt {en : Int} {v : V} (h : wrongV v = 0) {t r : List Tk} (ht : Lk (valP v) t) : valueM en (t ++ r) = .ok (some (bareV v)) r := by
  obtain ⟨k, n, tx⟩ := v
  unfold valP at ht
  unfold wrongV at h
  simp only at h ht
  unfold bareV
  simp only
  by_cases k1 : k = 1
  · subst k1
    obtain ⟨t0, t1, rfl, hk, h1⟩ := ht
    have : t1 = [] := h1
    subst this
    unfold valueM
    rw [List.cons_append, sees_cls hk, if_pos (by decide)]
    rfl
  rw [if_neg k1] at h ht
  by_cases k2 : k = 2
  · subst k2
    rw [if_pos rfl] at h ht
    have hn : n = 0 ∨ n = 1 := by
      by_cases h0 : n = 0
      · exact .inl h0
      · by_cases h1 : n = 1
        · exact .inr h1
        · rw [if_pos ⟨h0, h1⟩] at h; cases h
    obtain ⟨t0, t1, rfl, hk, h1⟩ := ht
    have : t1 = [] := h1
    subst this
    unfold valueM
    rw [List.cons_append]
    rcases hn with rfl | rfl
    · have hk : okW wFalse t0 := hk
      rw [sees_cls hk, if_neg (by decide), sees_cls hk, if_neg (by decide), sees_cls hk, if_pos (by decide)]
      rfl
    · have hk : okW wTrue t0 := hk
      rw [sees_cls hk, if_neg (by decide), sees_cls hk, if_pos (by decide)]
      rfl
  rw [if_neg k2] at h ht
  by_cases k4 : k = 4
  · subst k4
    rw [if_pos rfl, escM_eq] at ht
    obtain ⟨t0, t1, rfl, hk, h1⟩ := ht
    have : t1 = [] := h1
    subst this
    have hc := hk
    unfold okW at hc
    rw [cls_text] at hc
    injection hc with c1 c2
    have hs : ∀ s, seesM s (t0 :: ([] ++ r)) = false := by
      intro s; simp [seesM, c1]
    unfold valueM
    rw [List.cons_append, hs, hs, hs, hs]
    simp [headIs, c1, textV, c2]
  rw [if_neg k4] at ht
  by_cases k3 : k = 3
  · subst k3
    rw [if_pos rfl] at h ht
    have hr : n ≤ 1000000000000000 ∧ -1000000000000000 ≤ n := by
      by_cases hh : n > 1000000000000000 ∨ n < -1000000000000000
      · rw [if_pos hh] at h; cases h
      · omega
    rw [trim_itoa] at ht
    by_cases h0 : n < 0
    · rw [if_pos h0] at ht
      obtain ⟨t0, t1, rfl, hk, t2, t3, rfl, hk2, h3⟩ := ht
      have : t3 = [] := h3
      subst this
      have hc := hk2
      unfold okW at hc
      rw [cls_digits] at hc
      injection hc with c1 c2
      unfold valueM
      rw [List.cons_append, sees_cls hk, if_neg (by decide), sees_cls hk, if_neg (by decide), sees_cls hk, if_neg (by decide), sees_cls hk, if_pos (.inl (by decide))]
      unfold intM
      rw [sees_cls hk]
      show (intT true _ en (t2 :: r)).map _ = _
      rw [intT, if_pos c1, c2, numM_digits, if_neg (by omega)]
      show Rs.ok _ r = _
      congr 2
      rw [if_pos rfl, if_pos (.inr rfl)]
      omega
    · rw [if_neg h0] at ht
      obtain ⟨t0, t1, rfl, hk, h1⟩ := ht
      have : t1 = [] := h1
      subst this
      have hc := hk
      unfold okW at hc
      rw [cls_digits] at hc
      injection hc with c1 c2
      have hs : ∀ s, seesM s (t0 :: ([] ++ r)) = false := by
        intro s; simp [seesM, c1]
      unfold valueM intM
      rw [List.cons_append, hs, hs, hs, hs]
      show (if (false = true ∨ decide (t0.k = 2) = true) then (intT false _ en (t0 :: r)).map _ else _) = _
      rw [if_pos (.inr (by simpa using c1)), intT, if_pos c1, c2, numM_digits, if_neg (by omega)]
      show Rs.ok _ r = _
      congr 2
      rw [if_neg (by decide), if_pos (.inr rfl)]
      omega
  · rw [if_neg k3, if_neg k4] at h; cases h
end Go.Proofs.YtoainkbcfnlkcaaGreatDoor

namespace Go.Proofs.YtoainkbcfnlkcaaGreatDoor
open Go Vc
set_option linter.unusedSimpArgs false
set_option linter.unusedVariables false
set_option maxRecDepth 10000

/-! ### every expression -/
theorem op_le {op : Int} {x : X} {n : Nat} (h : op + bud x n ≤ 100) : op ≤ 100 := by have := bud_pos x n; omega
theorem ok_bind {α β : Type} {a : α} {t : List Tk} {f : α → List Tk → Rs β} : (Rs.ok a t).bind f = f a t := rfl
def All (en : Int) (x : X) : Prop := ∀ n : Nat, n ≤ 7 → Bp en x n ∧ (n < 7 → n ≠ 2 → n ≠ 3 → Ap en x n)
theorem downs {en : Int} {x : X} (hok : OkY x) (lo hi : Nat) (h7 : hi ≤ 7) (h : Bp en x hi) (ho : ∀ n : Nat, lo ≤ n → n < hi → own x ≠ (n : Int) + 1) :
    ∀ d n : Nat, hi - n = d → lo ≤ n → n ≤ hi → Bp en x n ∧ (n < hi → n ≠ 2 → n ≠ 3 → Ap en x n) := by
  intro d
  induction d with
  | zero =>
    intro n hd h1 h2
    obtain rfl : n = hi := by omega
    exact ⟨h, fun h => absurd h (Nat.lt_irrefl _)⟩
  | succ d ih =>
    intro n hd h1 h2
    have hb := (ih (n + 1) (by omega) (by omega) (by omega)).1
    have hn := ho n h1 (by omega)
    by_cases e2 : n = 2
    · subst e2
      exact ⟨Bp_down2 hn (head_expr _ x (Nat.le_refl _) hok 4 wNot (.inr ⟨rfl, by omega⟩)) hb, fun _ h => (h rfl).elim⟩
    by_cases e3 : n = 3
    · subst e3
      exact ⟨Bp_down3 hn hb, fun _ _ h => (h rfl).elim⟩
    have ha := Ap_down (en := en) (by omega) e2 e3 hn hb
    exact ⟨Ap_Bp (by omega) ha, fun _ _ _ => ha⟩
theorem all_of {en : Int} {x : X} (hok : OkY x) (n0 : Nat) (h7 : n0 ≤ 7) (ho : own x = (n0 : Int) + 1) (hb : Bp en x n0) (ha : n0 < 7 → n0 ≠ 2 → n0 ≠ 3 → Ap en x n0) : All en x := by
  have hlow := downs hok 0 n0 h7 hb (fun n _ hn h => by omega)
  intro n hn
  by_cases h1 : n < n0
  · obtain ⟨h2, h3⟩ := hlow _ n rfl (by omega) (by omega)
    exact ⟨h2, fun _ => h3 h1⟩
  by_cases h2 : n = n0
  · subst h2; exact ⟨hb, ha⟩
  have h0 := (hlow _ 0 rfl (by omega) (by omega)).1
  have hp := Bp_par (by omega) (by omega) h0
  obtain ⟨h3, h4⟩ := downs hok (n0 + 1) 7 (Nat.le_refl _) hp (fun m hm _ h => by omega) _ n rfl (by omega) hn
  exact ⟨h3, h4⟩
theorem tightL_pos {k : Int} : ∀ (ls : List Lvl) (i : Nat), 1 ≤ (tightL k i ls).1
  | [], i => by show (1 : Int) ≤ 8; decide
  | l :: ls, i => by
    rw [tightL]
    split
    · show (1 : Int) ≤ (i : Int) + 1; omega
    · exact tightL_pos ls _
theorem own_pos (x : X) : 1 ≤ own x := by
  unfold own tightM
  split
  · decide
  split
  · decide
  · exact tightL_pos _ _
/-- an expression in its place -/
def ExR (ex : List Tk → Rs X) (y : X) : Prop := ∀ t r, Lk (exprP y 1) t → clean 0 r → ex (t ++ r) = .ok (bareX y) r
theorem htL_mem : ∀ {l : List X} {y : X}, y ∈ l → htX y ≤ htL l
  | a :: l, y, h => by
    rw [htL]
    rcases List.mem_cons.1 h with rfl | h
    · omega
    · have := htL_mem h; omega
theorem kid_ex {en : Int} {y : X} {f : Nat} {op m : Int} (h : Bp en y 0) (hf : 9 * (101 - op) + 1 < f + 1) (h0 : 0 ≤ op) (hb : op + 2 * m ≤ 100) (hlt : (htX y : Int) + 1 ≤ m) : ExR (fun t => if op + 1 > 100 then .err 4 (atM en t) else binM en f 0 (op + 1) t) y := by
  intro t r ht hc
  have hy := own_pos y
  show (if op + 1 > 100 then _ else _) = _
  rw [if_neg (by omega)]
  refine h f (op + 1) t r (by push_cast; omega) (by omega) ?_ ht hc
  unfold bud
  rw [if_neg (by push_cast; omega)]
  omega
theorem bare_mk {k : Int} {v : V} {tab name : Bs} {kids : List X} (h1 : k ≠ 1) (h2 : k ≠ 2) : bareX (.mk k v tab name kids) = mkX k (kids.map bareX) := by
  rw [bareX, if_neg h1, if_neg h2, if_neg h2, bareXs_map]; rfl
theorem piece_rt {en : Int} {ex : List Tk → Rs X} {k : Int} {v : V} {tab name : Bs} {kids : List X} (hok : OkY (.mk k v tab name kids)) (hl : k = 1 ∨ k = 2 ∨ k = 17 ∨ k = 18 ∨ k = 19 ∨ k = 20 ∨ k = 21 ∨ k = 22 ∨ k = 23) (hks : ∀ y ∈ kids, ExR ex y) {t r : List Tk} (ht : Lk (bodyP k v tab name (kidsP kids)) t) (hc : clean 7 r) :
    pieceM en ex (t ++ r) = .ok (bareX (.mk k v tab name kids)) r := by
  rw [OkY] at hok
  obtain ⟨hlen, h0, hv, hn, hoks⟩ := hok
  rcases hl with rfl | rfl | rfl | rfl | rfl | rfl | rfl | rfl | rfl
  · have hk : kids = [] := List.length_eq_zero_iff.1 (by have : kidsN 1 = 0 := by decide
                                                         omega)
    subst hk
    have ht' : Lk (valP v) t := ht
    unfold pieceM
    rw [value_rt (hv rfl) ht', ok_bind]
    rfl
  · have hk : kids = [] := List.length_eq_zero_iff.1 (by have : kidsN 2 = 0 := by decide
                                                         omega)
    subst hk
    obtain ⟨hn1, hn2⟩ := hn rfl
    have ht' : Lk ((if tab = [] then [] else [tab, sDot]) ++ [name]) t := ht
    by_cases htb : tab = []
    · subst htb
      rw [if_pos rfl] at ht'
      obtain ⟨t0, t1, rfl, hk, h1⟩ := ht'
      have : t1 = [] := h1
      subst this
      unfold pieceM
      rw [List.cons_append, List.nil_append, value_name hk hn1, ok_bind]
      simp only
      rw [sees_cls hk, if_neg (by rw [sees_name hn1 (by decide)]; decide), sees_cls hk, if_neg (by rw [sees_name hn1 (by decide)]; decide), sees_cls hk, if_neg (by rw [sees_name hn1 (by decide)]; decide), sees_cls hk, if_neg (by rw [sees_name hn1 (by decide)]; decide), idx_cls hk, idx_name hn1 _ (by decide)]
      simp only
      rw [name_cls hk hn1, ok_bind]
      rw [if_neg (by rw [clean_dot hc (by omega)]; decide)]
      rfl
    · rw [if_neg htb] at ht'
      have hnt := hn2.resolve_left htb
      obtain ⟨t0, t1, rfl, hk, t2, t3, rfl, hk2, t4, t5, rfl, hk4, h5⟩ := ht'
      have : t5 = [] := h5
      subst this
      unfold pieceM
      rw [List.cons_append, List.cons_append, List.cons_append, List.nil_append, value_name hk hnt, ok_bind]
      simp only
      rw [sees_cls hk, if_neg (by rw [sees_name hnt (by decide)]; decide), sees_cls hk, if_neg (by rw [sees_name hnt (by decide)]; decide), sees_cls hk, if_neg (by rw [sees_name hnt (by decide)]; decide), sees_cls hk, if_neg (by rw [sees_name hnt (by decide)]; decide), idx_cls hk, idx_name hnt _ (by decide)]
      simp only
      rw [name_cls hk hnt, ok_bind]
      rw [sees_cls hk2, if_pos (by decide)]
      simp only [List.tail_cons]
      rw [name_cls hk4 hn1, ok_bind]
      rfl
  · have hk3 : kids.length = 3 := by
      have : kidsN 17 = 3 := by decide
      omega
    match kids, hk3, hks, ht with
    | [a, b, c], _, hks, ht =>
      have ha := hks a (by simp)
      have hb := hks b (by simp)
      have hc := hks c (by simp)
      have ht' : Lk ([wCase, wWhen] ++ (exprP a 1 ++ (wThen :: (exprP b 1 ++ (wElse :: (exprP c 1 ++ [wEnd])))))) t := ht
      obtain ⟨t0, _, rfl, k0, t1, _, rfl, k1, ht'⟩ := ht'
      obtain ⟨ta, _, rfl, hta, t2, _, rfl, k2, ht'⟩ := Lk_app (a := exprP a 1) ht'
      obtain ⟨tb, _, rfl, htb, t3, _, rfl, k3, ht'⟩ := Lk_app ht'
      obtain ⟨tc, _, rfl, htc, t4, t5, rfl, k4, ht'⟩ := Lk_app ht'
      have : t5 = [] := ht'
      subst this
      have e : t0 :: t1 :: (ta ++ t2 :: (tb ++ t3 :: (tc ++ [t4]))) ++ r = t0 :: t1 :: (ta ++ t2 :: (tb ++ t3 :: (tc ++ t4 :: r))) := by simp
      rw [e]
      unfold pieceM
      rw [value_none k0 (by decide), ok_bind]
      simp only
      rw [sees_cls k0, if_neg (by decide), sees_cls k0, if_pos (by decide)]
      simp only [List.tail_cons]
      rw [need_cls k1 _ (by decide), ok_bind, ha _ _ hta (clean_cls k2 (by decide)), ok_bind, need_cls k2 _ (by decide), ok_bind, hb _ _ htb (clean_cls k3 (by decide)), ok_bind, need_cls k3 _ (by decide), ok_bind, hc _ _ htc (clean_cls k4 (by decide)), ok_bind, need_cls k4 _ (by decide), ok_bind, bare_mk (by decide) (by decide)]
      rfl
  · have hk2 : kids.length = 2 := by
      have : kidsN 18 = 2 := by decide
      omega
    match kids, hk2, hks, ht with
    | [a, b], _, hks, ht =>
      have ha := hks a (by simp)
      have hb := hks b (by simp)
      have ht' : Lk ([wCoal, sOpen] ++ ((exprP a 1 ++ (sComma :: (exprP b 1 ++ []))) ++ [sClose])) t := ht
      obtain ⟨t0, _, rfl, k0, t1, _, rfl, k1, ht'⟩ := ht'
      replace ht' : Lk ((exprP a 1 ++ (sComma :: (exprP b 1 ++ []))) ++ [sClose]) _ := ht'
      rw [List.append_nil, List.append_assoc] at ht'
      obtain ⟨ta, _, rfl, hta, t2, _, rfl, k2, ht'⟩ := Lk_app (a := exprP a 1) ht'
      obtain ⟨tb, _, rfl, htb, t3, t5, rfl, k3, ht'⟩ := Lk_app ht'
      have : t5 = [] := ht'
      subst this
      have e : t0 :: t1 :: (ta ++ t2 :: (tb ++ [t3])) ++ r = t0 :: t1 :: (ta ++ t2 :: (tb ++ t3 :: r)) := by simp
      rw [e]
      unfold pieceM
      rw [value_none k0 (by decide), ok_bind]
      simp only
      rw [sees_cls k0, if_neg (by decide), sees_cls k0, if_neg (by decide), sees_cls k0, if_pos (by decide)]
      simp only [List.tail_cons]
      rw [need_cls k1 _ (by decide), ok_bind, ha _ _ hta (clean_cls k2 (by decide)), ok_bind, need_cls k2 _ (by decide), ok_bind, hb _ _ htb (clean_cls k3 (by decide)), ok_bind, need_cls k3 _ (by decide), ok_bind, bare_mk (by decide) (by decide)]
      rfl
  · have hk : kids = [] := List.length_eq_zero_iff.1 (by have : kidsN 19 = 0 := by decide
                                                         omega)
    subst hk
    have ht' : Lk [wCount, sOpen, sStar, sClose] t := ht
    obtain ⟨t0, _, rfl, k0, t1, _, rfl, k1, t2, _, rfl, k2, t3, t5, rfl, k3, ht'⟩ := ht'
    have : t5 = [] := ht'
    subst this
    unfold pieceM
    simp only [List.cons_append, List.nil_append]
    rw [value_none k0 (by decide), ok_bind]
    simp only
    rw [sees_cls k0, if_neg (by decide), sees_cls k0, if_neg (by decide), sees_cls k0, if_neg (by decide), sees_cls k0, if_pos (by decide)]
    simp only [List.tail_cons]
    rw [need_cls k1 _ (by decide), ok_bind, sees_cls k2, if_pos (by decide)]
    simp only [List.tail_cons]
    rw [need_cls k3 _ (by decide), ok_bind, bare_mk (by decide) (by decide)]
    rfl
  · have hk1 : kids.length = 1 := by
      have : kidsN 20 = 1 := by decide
      omega
    match kids, hk1, hks, hoks, ht with
    | [a], _, hks, hoks, ht =>
      have ha := hks a (by simp)
      have ht' : Lk ([wCount, sOpen] ++ ((exprP a 1 ++ []) ++ [sClose])) t := ht
      obtain ⟨t0, _, rfl, k0, t1, _, rfl, k1, ht'⟩ := ht'
      replace ht' : Lk ((exprP a 1 ++ []) ++ [sClose]) _ := ht'
      rw [List.append_nil] at ht'
      obtain ⟨ta, _, rfl, hta, t3, t5, rfl, k3, ht'⟩ := Lk_app ht'
      have : t5 = [] := ht'
      subst this
      have e : t0 :: t1 :: (ta ++ [t3]) ++ r = t0 :: t1 :: (ta ++ t3 :: r) := by simp
      rw [e]
      have hs : seesM sStar (ta ++ t3 :: r) = false := by
        obtain ⟨w, l, hw, hh⟩ := head_expr _ a (Nat.le_refl _) hoks.1 1 sStar (.inl (.inl rfl))
        have h' := hta
        rw [hw] at h'
        obtain ⟨x0, x1, rfl, hk, _⟩ := h'
        rw [List.cons_append, sees_cls hk]; exact hh
      unfold pieceM
      rw [value_none k0 (by decide), ok_bind]
      simp only
      rw [sees_cls k0, if_neg (by decide), sees_cls k0, if_neg (by decide), sees_cls k0, if_neg (by decide), sees_cls k0, if_pos (by decide)]
      simp only [List.tail_cons]
      rw [need_cls k1 _ (by decide), ok_bind, hs, if_neg (by decide), ha _ _ hta (clean_cls k3 (by decide)), ok_bind, need_cls k3 _ (by decide), ok_bind, bare_mk (by decide) (by decide)]
      rfl
  all_goals
    have hk1 : kids.length = 1 := by
      have h21 : kidsN 21 = 1 := by decide
      have h22 : kidsN 22 = 1 := by decide
      have h23 : kidsN 23 = 1 := by decide
      omega
    match kids, hk1, hks, ht with
    | [a], _, hks, ht =>
      have ha := hks a (by simp)
      obtain ⟨t0, _, rfl, k0, t1, _, rfl, k1, ht'⟩ := ht
      replace ht' : Lk ((exprP a 1 ++ []) ++ [sClose]) _ := ht'
      rw [List.append_nil] at ht'
      obtain ⟨ta, _, rfl, hta, t3, t5, rfl, k3, ht'⟩ := Lk_app ht'
      have : t5 = [] := ht'
      subst this
      have e : t0 :: t1 :: (ta ++ [t3]) ++ r = t0 :: t1 :: (ta ++ t3 :: r) := by simp
      rw [e]
      unfold pieceM
      rw [value_none k0 (by decide), ok_bind]
      simp only
      rw [sees_cls k0, if_neg (by decide), sees_cls k0, if_neg (by decide), sees_cls k0, if_neg (by decide), sees_cls k0, if_neg (by decide), idx_cls k0]
      first
        | rw [show idxC [wSum, wMin, wMax] (cls (fnW 21)) = some 0 by decide]
        | rw [show idxC [wSum, wMin, wMax] (cls (fnW 22)) = some 1 by decide]
        | rw [show idxC [wSum, wMin, wMax] (cls (fnW 23)) = some 2 by decide]
      simp only [List.tail_cons]
      rw [need_cls k1 _ (by decide), ok_bind, ha _ _ hta (clean_cls k3 (by decide)), ok_bind, need_cls k3 _ (by decide), ok_bind, bare_mk (by decide) (by decide)]
      rfl
/-- EVERY EXPRESSION THAT IS RIGHT COMES BACK. -/
theorem expr_all {en : Int} : ∀ (sz : Nat) (x : X), SizeOf.sizeOf x ≤ sz → OkY x → All en x := by
  intro sz
  induction sz with
  | zero => intro x hx; cases x; simp at hx
  | succ sz ih =>
    intro x hx hok
    obtain ⟨k, v, tab, name, kids⟩ := x
    have hok' := hok
    rw [OkY] at hok'
    obtain ⟨hl, h0, hv, hn, hks⟩ := hok'
    have ihk : ∀ y ∈ kids, All en y := by
      intro y hy
      refine ih y ?_ (OkYs_mem hks y hy)
      have := List.sizeOf_lt_of_mem hy
      simp at hx
      omega
    have hht : ∀ y ∈ kids, (htX y : Int) + 1 ≤ (htX (.mk k v tab name kids) : Int) := by
      intro y hy
      have := htL_mem hy
      rw [htX]
      omega
    by_cases hlf : k = 1 ∨ k = 2 ∨ k = 17 ∨ k = 18 ∨ k = 19 ∨ k = 20 ∨ k = 21 ∨ k = 22 ∨ k = 23
    · have ho : own (.mk k v tab name kids) = 8 := by
        unfold own
        show (tightM k).1 = 8
        rw [tight_leaf hlf]
      refine all_of hok 7 (Nat.le_refl _) (by rw [ho]; rfl) ?_ (fun h => absurd h (by omega))
      intro f op t r hf h0 hb ht hc
      have hbp := op_le hb
      obtain ⟨f, rfl⟩ : ∃ g, f = g + 1 := ⟨f - 1, by omega⟩
      unfold bud at hb
      rw [if_neg (by rw [ho]; decide)] at hb
      rw [exprP, if_neg (by rw [tight_leaf hlf]; decide)] at ht
      rw [binM, if_pos rfl]
      refine piece_rt hok hlf (fun y hy => ?_) ht hc
      exact kid_ex ((ihk y hy 0 (by omega)).1) (by push_cast at hf ⊢; omega) h0 (m := (htX (.mk k v tab name kids) : Int)) (by omega) (hht y hy)
    by_cases k3 : k = 3
    · subst k3
      have ho : own (.mk 3 v tab name kids) = 3 := by show (tightM 3).1 = 3; decide
      have hl1 : kids.length = 1 := by
        have : kidsN 3 = 1 := by decide
        omega
      match kids, hl1, ihk, hht, hok, ho with
      | [y], _, ihk, hht, hok, ho =>
        refine all_of hok 2 (by omega) (by rw [ho]; rfl) ?_ (fun _ h => (h rfl).elim)
        intro f op t r hf h0 hb ht hc
        have hbp := op_le hb
        obtain ⟨f, rfl⟩ : ∃ g, f = g + 1 := ⟨f - 1, by omega⟩
        have hy := hht y (by simp)
        unfold bud at hb
        rw [if_neg (by rw [ho]; decide)] at hb
        have ht' : Lk (wNot :: exprP y 3) t := by
          rw [exprP, if_neg (by decide)] at ht; exact ht
        obtain ⟨t0, t1, rfl, hk, ht1⟩ := ht'
        rw [binM, if_neg (by omega), if_pos rfl, List.cons_append, sees_cls hk, if_pos (by decide)]
        simp only [List.tail_cons]
        rw [if_neg (by omega)]
        have := (ihk y (by simp) 2 (by omega)).1 f (op + 1) t1 r (by push_cast at hf ⊢; omega) (by omega) (by unfold bud; split <;> omega) ht1 hc
        rw [this, ok_bind, bare_mk (by decide) (by decide)]
        rfl
    by_cases k16 : k = 16
    · subst k16
      have ho : own (.mk 16 v tab name kids) = 4 := by show (tightM 16).1 = 4; decide
      have hl1 : kids.length = 1 := by
        have : kidsN 16 = 1 := by decide
        omega
      match kids, hl1, ihk, hht, hok, ho with
      | [y], _, ihk, hht, hok, ho =>
        refine all_of hok 3 (by omega) (by rw [ho]; rfl) ?_ (fun _ _ h => (h rfl).elim)
        intro f op t r hf h0 hb ht hc
        have hbp := op_le hb
        obtain ⟨f, rfl⟩ : ∃ g, f = g + 1 := ⟨f - 1, by omega⟩
        have hy := hht y (by simp)
        unfold bud at hb
        rw [if_neg (by rw [ho]; decide)] at hb
        have ht' : Lk (exprP y 5 ++ [wIs, wNull]) t := by
          rw [exprP, if_neg (by decide)] at ht; exact ht
        obtain ⟨t1, _, rfl, ht1, t2, _, rfl, k2, t3, t4, rfl, k3, ht4⟩ := Lk_app ht'
        have : t4 = [] := ht4
        subst this
        rw [binM_mid (by omega) (by omega), List.append_assoc, List.cons_append, List.cons_append, List.nil_append]
        have := (ihk y (by simp) 4 (by omega)).1 f op t1 (t2 :: t3 :: r) (by push_cast at hf ⊢; omega) h0 (by unfold bud; split <;> omega) ht1 (clean_cls k2 (by decide))
        rw [show (3 : Nat) + 1 = 4 from rfl, this, ok_bind, if_pos ⟨rfl, by rw [sees_cls k2]; decide⟩]
        have hs : seesM wNot (t3 :: r) = false := by rw [sees_cls k3]; decide
        unfold isM
        simp only [List.tail_cons, hs, Bool.false_eq_true, if_false]
        rw [need_cls k3 _ (by decide), ok_bind, bare_mk (by decide) (by decide)]
        rfl
    have hkk := kinds_of h0
    have hk415 : 4 ≤ k ∧ k ≤ 15 := by omega
    obtain ⟨n, j, sg, hop⟩ := opK_of hk415
    have ho : own (.mk k v tab name kids) = (n : Int) + 1 := by
      show (tightM k).1 = _
      rw [hop.tight]
    have hl2 : kids.length = 2 := by
      have : kidsN k = 2 := by
        unfold kidsN
        rw [if_neg (by omega), if_neg (by omega), if_pos (by omega)]
      omega
    have hn7 := hop.lt
    match kids, hl2, ihk, hht, hok, ho with
    | [y, z], _, ihk, hht, hok, ho =>
      have hy := hht y (by simp)
      have hz := hht z (by simp)
      have hbody : bodyP k v tab name (kidsP [y, z]) = exprP y (if n = 3 then 5 else (n : Int) + 1) ++ (sg :: exprP z ((n : Int) + 1 + 1)) := by
        unfold bodyP
        rw [if_neg (by omega), if_neg (by omega), if_neg (by omega), if_neg (by omega), if_neg (by omega), if_neg (by omega), if_neg (by omega), hop.tight]
        show exprP y _ ++ _ = _
        congr 2
        by_cases h3 : n = 3
        · subst h3; rfl
        · rw [if_neg h3, if_neg (by show ¬ (n : Int) + 1 = 4; omega)]
      have hkd : mkX ((lvlAt n).kind + (j : Int)) [bareX y, bareX z] = bareX (.mk k v tab name [y, z]) := by
        rw [bare_mk (by omega) (by omega), hop.kind]; rfl
      by_cases h3 : n = 3
      · subst h3
        refine all_of hok 3 (by omega) ho ?_ (fun _ _ h => (h rfl).elim)
        intro f op t r hf h0 hb ht hc
        have hbp := op_le hb
        obtain ⟨f, rfl⟩ : ∃ g, f = g + 1 := ⟨f - 1, by omega⟩
        unfold bud at hb
        rw [if_neg (by rw [ho]; omega)] at hb
        rw [exprP, if_neg (by rw [hop.tight]; show ¬ (((3 : Nat) : Int) + 1 < _); omega), hbody, if_pos rfl] at ht
        obtain ⟨t1, _, rfl, ht1, t2, t3, rfl, k2, ht3⟩ := Lk_app ht
        rw [binM_mid (by omega) (by omega), List.append_assoc, List.cons_append]
        have h1 := (ihk y (by simp) 4 (by omega)).1 f op t1 (t2 :: (t3 ++ r)) (by push_cast at hf ⊢; omega) h0 (by unfold bud; split <;> omega) ht1 (clean_cls k2 hop.cl)
        have h2 := (ihk z (by simp) 4 (by omega)).1 f op t3 r (by push_cast at hf ⊢; omega) h0 (by unfold bud; split <;> omega) ht3 (clean_succ hc)
        rw [show (3 : Nat) + 1 = 4 from rfl, h1, ok_bind, if_neg (fun h => by rw [sees_cls k2, hop.is] at h; cases h.2), loopM, idx_cls k2, hop.idx]
        simp only [List.tail_cons]
        rw [h2, ok_bind, if_pos (by rw [hop.once]; decide), hkd]
      · rw [if_neg h3] at hbody
        have hA : Ap en (.mk k v tab name [y, z]) n := by
          intro f op t r hf h0 hb ht hc
          have hbp := op_le hb
          unfold bud at hb
          rw [if_neg (by rw [ho]; omega)] at hb
          rw [exprP, if_neg (by rw [hop.tight]; show ¬ ((n : Int) + 1 < _); omega), hbody] at ht
          obtain ⟨t1, _, rfl, ht1, t2, t3, rfl, k2, ht3⟩ := Lk_app ht
          rw [List.append_assoc, List.cons_append]
          obtain ⟨kk, hkk, h1⟩ := (ihk y (by simp) n (by omega)).2 hn7.1 hn7.2 h3 f op t1 (t2 :: (t3 ++ r)) hf h0 (by unfold bud; split <;> omega) ht1 (clean_cls k2 hop.cl)
          have h2 := (ihk z (by simp) (n + 1) (by omega)).1 f op t3 r (by push_cast at hf ⊢; omega) h0 (by unfold bud; split <;> omega) (by push_cast; exact ht3) hc
          obtain ⟨kk, rfl⟩ : ∃ g, kk = g + 1 := ⟨kk - 1, by omega⟩
          refine ⟨kk, by simp at hkk; omega, ?_⟩
          rw [h1, loopM, idx_cls k2, hop.idx]
          simp only [List.tail_cons]
          rw [h2, ok_bind, if_neg (by rw [hop.once]; simp [h3]), hkd]
        exact all_of hok n (by omega) ho (Ap_Bp hn7.1 hA) (fun _ _ _ => hA)
/-- an expression, as statements read it -/
theorem exF_rt {en : Int} {x : X} (h : exprW x = 0) : ExR (exF en) x := by
  intro t r ht hc
  obtain ⟨h1, h2⟩ := exprW_oky h
  have hy := own_pos x
  unfold exF exprM
  rw [if_neg (by decide)]
  refine (expr_all _ x (Nat.le_refl _) h1 0 (by omega)).1 1000 (0 + 1) t r (by decide) (by decide) ?_ ht hc
  unfold bud
  rw [if_neg (by push_cast; omega)]
  omega
end Go.Proofs.YtoainkbcfnlkcaaGreatDoor

namespace Go.Proofs.YtoainkbcfnlkcaaGreatDoor
open Go Vc
set_option linter.unusedSimpArgs false
set_option linter.unusedVariables false
set_option maxRecDepth 10000

/-! ### lists, sources, selects that are written are read -/
def No (l : List Bs) (r : List Tk) : Prop := ∀ s ∈ l, seesM s r = false
def noC (l : List Bs) (c : Int × Bs) : Bool := l.all fun s => !seesC s c
theorem No_cls {l : List Bs} {w : Bs} {t : Tk} {r : List Tk} (h : okW w t) (hc : noC l (cls w) = true) : No l (t :: r) := by
  intro s hs
  rw [sees_cls h]
  have := List.all_eq_true.1 hc s hs
  simpa using this
theorem No_app {l ws : List Bs} {t r : List Tk} (h : Lk ws t) (hw : ∀ w, ws.head? = some w → noC l (cls w) = true) (hr : No l r) : No l (t ++ r) := by
  cases ws with
  | nil => obtain rfl : t = [] := h; exact hr
  | cons w ws =>
    obtain ⟨t0, t1, rfl, hk, _⟩ := h
    exact No_cls hk (hw w rfl)
theorem No_sub {l m : List Bs} {r : List Tk} (h : No l r) (hm : ∀ s ∈ m, s ∈ l) : No m r := fun s hs => h s (hm s hs)
theorem No_one {l : List Bs} {r : List Tk} {s : Bs} (h : No l r) (hs : s ∈ l) : seesM s r = false := h s hs
def contAs : List Bs := contW 0 ++ [wAs]
theorem given_ok {a : Bs} (h : givenW a = 0) : a = [] ∨ (a ≠ [] ∧ namedB a = true) := by
  unfold givenW at h
  by_cases ha : a = []
  · exact .inl ha
  · rw [if_neg ha] at h
    refine .inr ⟨ha, ?_⟩
    unfold namesW at h
    simp only [List.all_cons, List.all_nil, Bool.and_true] at h
    split at h
    · assumption
    · cases h
theorem name_ok {a : Bs} (h : namesW [a] = 0) : namedB a = true := by
  unfold namesW at h
  simp only [List.all_cons, List.all_nil, Bool.and_true] at h
  split at h
  · assumption
  · cases h
theorem as_rt {en : Int} {a : Bs} {t r : List Tk} (ha : givenW a = 0) (ht : Lk (asP a) t) (hr : seesM wAs r = false) : asM en (t ++ r) = .ok a r := by
  rcases given_ok ha with rfl | ⟨h1, h2⟩
  · obtain rfl : t = [] := ht
    rw [List.nil_append, asM, hr, if_neg (by decide)]
  · unfold asP at ht
    rw [if_neg h1] at ht
    obtain ⟨t0, _, rfl, k0, t1, t2, rfl, k1, h3⟩ := ht
    obtain rfl : t2 = [] := h3
    rw [List.cons_append, List.cons_append, List.nil_append, asM, sees_cls k0, if_pos (by decide)]
    exact name_cls k1 h2
def bareIt (i : It) : It := ⟨bareX i.x, i.as⟩
theorem item_rt {en : Int} {ex : List Tk → Rs X} {i : It} {t r : List Tk} (hx : ExR ex i.x) (ha : givenW i.as = 0) (ht : Lk (itemP i) t) (hc : No contAs r) : itemM en ex (t ++ r) = .ok (bareIt i) r := by
  obtain ⟨tx, ta, rfl, htx, hta⟩ := Lk_app ht
  have hcl : clean 0 r := No_sub hc (fun s hs => List.mem_append.2 (.inl hs))
  have has : seesM wAs r = false := No_one hc (List.mem_append.2 (.inr (List.mem_singleton.2 rfl)))
  obtain ⟨x, a⟩ := i
  rw [List.append_assoc]
  rcases given_ok ha with h | ⟨h1, h2⟩
  · obtain rfl : a = [] := h
    obtain rfl : ta = [] := hta
    rw [List.nil_append, itemM, hx _ _ htx hcl, ok_bind, has, if_neg (by decide)]
    rfl
  · unfold asP at hta
    rw [if_neg h1] at hta
    obtain ⟨t0, _, rfl, k0, t1, t2, rfl, k1, h3⟩ := hta
    obtain rfl : t2 = [] := h3
    rw [List.cons_append, List.cons_append, List.nil_append, itemM, hx _ _ htx (clean_cls k0 (by decide)), ok_bind, sees_cls k0, if_pos (by decide)]
    simp only [List.tail_cons]
    rw [name_cls k1 h2, ok_bind]
    rfl
/-- with commas between -/
def comW {α : Type} (P : α → List Bs) : Bool → List α → List Bs
  | _, [] => []
  | first, a :: l => (if first = true then [] else [sComma]) ++ (P a ++ comW P false l)
theorem comL_comW : ∀ (l : List X) (b : Bool), comL b (l.map exprP) = comW (fun x => exprP x 1) b l
  | [], b => rfl
  | x :: l, b => by rw [List.map_cons, comL, comW, comL_comW l]
theorem itemsP_comW : ∀ (l : List It) (b : Bool), itemsP b l = comW itemP b l
  | [], b => rfl
  | x :: l, b => by rw [itemsP, comW, itemsP_comW l]
theorem some_rt {α β : Type} {en : Int} {g : List Tk → Rs β} {P : α → List Bs} {f : α → β} {nol : List Bs} (hC : noC nol (cls sComma) = true) : ∀ (l : List α) (k : Nat), l ≠ [] → l.length ≤ k → (∀ a ∈ l, ∀ t r, Lk (P a) t → No nol r → g (t ++ r) = .ok (f a) r) →
    ∀ (b : Bool) t r, Lk (comW P true l) t → No nol r → seesM sComma r = false → someM en g k (t ++ r) = .ok (l.map f) r
  | [], _, h, _, _, _, _, _, _, _, _ => (h rfl).elim
  | [a], k, _, hk, hg, _, t, r, ht, hr, hs => by
    obtain ⟨k, rfl⟩ : ∃ g, k = g + 1 := ⟨k - 1, by simp at hk; omega⟩
    have ht' : Lk (P a ++ []) t := ht
    rw [List.append_nil] at ht'
    rw [someM, hg a (by simp) t r ht' hr, ok_bind, hs, if_neg (by decide)]
    rfl
  | a :: c :: l, k, _, hk, hg, b, t, r, ht, hr, hs => by
    obtain ⟨k, rfl⟩ : ∃ g, k = g + 1 := ⟨k - 1, by simp at hk; omega⟩
    have ht' : Lk (P a ++ ([sComma] ++ comW P true (c :: l))) t := ht
    obtain ⟨t1, _, rfl, h1, t2, t3, rfl, k2, h3⟩ := Lk_app ht'
    have ih := some_rt (en := en) hC (c :: l) k (by simp) (by simp at hk ⊢; omega) (fun a ha => hg a (List.mem_cons_of_mem _ ha)) b t3 r h3 hr hs
    rw [List.append_assoc, List.cons_append, someM, hg a (by simp) t1 _ h1 (No_cls k2 hC), ok_bind, sees_cls k2, if_pos (by decide)]
    simp only [List.tail_cons]
    rw [ih, ok_bind]
    rfl
/-! sources -/
def bareSo (first : Bool) (s : So) : So := ⟨s.k, s.name, s.as, if first = true then zeroX else bareX s.on⟩
def XR (ex : List Tk → Rs X) (x : X) : Prop := ExR ex x ∧ headNo sStar (exprP x 1) ∧ headNo wDistinct (exprP x 1)
structure SoR (Y : X → Prop) (first : Bool) (s : So) : Prop where
  name : namedB s.name = true
  asg : givenW s.as = 0
  k1 : first = true → s.k = 1
  k2 : first = false → 2 ≤ s.k ∧ s.k ≤ 5 ∧ Y s.on
theorem src1_rt {en : Int} {ex : List Tk → Rs X} {s : So} {t r : List Tk} (h : SoR (XR ex) true s) (ht : Lk ([s.name] ++ (asP s.as ++ [])) t) (hr : seesM wAs r = false) : sourceM en ex 1 (t ++ r) = .ok (bareSo true s) r := by
  obtain ⟨t0, t1, rfl, k0, ht1⟩ := ht
  replace ht1 : Lk (asP s.as ++ []) t1 := ht1
  rw [List.append_nil] at ht1
  rw [List.cons_append, sourceM, name_cls k0 h.name, ok_bind, as_rt h.asg ht1 hr, ok_bind, if_neg (by decide)]
  unfold bareSo
  rw [h.k1 rfl]
  rfl
theorem src2_rt {en : Int} {ex : List Tk → Rs X} {s : So} {t r : List Tk} (h : SoR (XR ex) false s) (ht : Lk ([s.name] ++ (asP s.as ++ ([wOn] ++ exprP s.on 1))) t) (hr : clean 0 r) : sourceM en ex s.k (t ++ r) = .ok (bareSo false s) r := by
  obtain ⟨h2, h5, hx⟩ := h.k2 rfl
  obtain ⟨t0, t1, rfl, k0, ht1⟩ := ht
  obtain ⟨ta, _, rfl, hta, t2, t3, rfl, k2, ht3⟩ := Lk_app (a := asP s.as) ht1
  have e : t0 :: (ta ++ t2 :: t3) ++ r = t0 :: (ta ++ t2 :: (t3 ++ r)) := by simp
  rw [e, sourceM, name_cls k0 h.name, ok_bind, as_rt h.asg hta (by rw [sees_cls k2]; decide), ok_bind, if_pos (by omega), need_cls k2 _ (by decide), ok_bind, hx.1 _ _ ht3 hr, ok_bind]
  rfl
def selR : List Bs := contW 0 ++ [wAs, wWhere, wGroup, wHaving, sComma] ++ joinW
def srcR : List Bs := contW 0 ++ [wAs] ++ joinW
theorem join_word {k : Int} (h2 : 2 ≤ k) (h5 : k ≤ 5) {en : Int} {t r : List Tk} (ht : Lk (joinWd k) t) : joinM en (t ++ r) = .ok k r := by
  have : k = 2 ∨ k = 3 ∨ k = 4 ∨ k = 5 := by omega
  rcases this with rfl | rfl | rfl | rfl
  · obtain ⟨t0, t1, rfl, k0, h1⟩ := ht
    obtain rfl : t1 = [] := h1
    have k0 : okW wJoin t0 := k0
    rw [List.cons_append, List.nil_append, joinM, idx_cls k0, show idxC joinW (cls wJoin) = some 0 by decide]
    rfl
  · obtain ⟨t0, t1, rfl, k0, t2, t3, rfl, k2, h1⟩ := ht
    obtain rfl : t3 = [] := h1
    have k0 : okW wSemi t0 := k0
    have k2 : okW wJoin t2 := k2
    rw [List.cons_append, List.cons_append, List.nil_append, joinM, idx_cls k0, show idxC joinW (cls wSemi) = some 1 by decide]
    show (needM en [wJoin] (t2 :: r)).bind _ = _
    rw [need_cls k2 _ (by decide)]
    rfl
  · obtain ⟨t0, t1, rfl, k0, t2, t3, rfl, k2, h1⟩ := ht
    obtain rfl : t3 = [] := h1
    have k0 : okW wAnti t0 := k0
    have k2 : okW wJoin t2 := k2
    rw [List.cons_append, List.cons_append, List.nil_append, joinM, idx_cls k0, show idxC joinW (cls wAnti) = some 2 by decide]
    show (needM en [wJoin] (t2 :: r)).bind _ = _
    rw [need_cls k2 _ (by decide)]
    rfl
  · obtain ⟨t0, t1, rfl, k0, t2, t3, rfl, k2, h1⟩ := ht
    obtain rfl : t3 = [] := h1
    have k0 : okW wLeft t0 := k0
    have k2 : okW wJoin t2 := k2
    rw [List.cons_append, List.cons_append, List.nil_append, joinM, idx_cls k0, show idxC joinW (cls wLeft) = some 3 by decide]
    show (needM en [wJoin] (t2 :: r)).bind _ = _
    rw [need_cls k2 _ (by decide)]
    rfl
theorem joinWd_head {k : Int} (h2 : 2 ≤ k) (h5 : k ≤ 5) : ∀ w, (joinWd k).head? = some w → noC contAs (cls w) = true := by
  intro w hw
  have : k = 2 ∨ k = 3 ∨ k = 4 ∨ k = 5 := by omega
  rcases this with rfl | rfl | rfl | rfl <;> (obtain rfl := (Option.some.inj hw).symm; decide)
theorem joinM_none {en : Int} {r : List Tk} (h : No joinW r) : joinM en r = .ok 0 r := by
  rw [joinM, idx_none (l := joinW) h]
/-- what begins the other sources -/
theorem srcs_no {ex : List Tk → Rs X} {l : List So} (hl : ∀ s ∈ l, SoR (XR ex) false s) {t r : List Tk} (ht : Lk (srcsP false l) t) (hr : No srcR r) : No contAs (t ++ r) := by
  cases l with
  | nil =>
    obtain rfl : t = [] := ht
    exact No_sub hr (by decide)
  | cons s l =>
    obtain ⟨h2, h5, _⟩ := (hl s (List.mem_cons_self ..)).k2 rfl
    have ht' : Lk (joinWd s.k ++ ([s.name] ++ (asP s.as ++ ([wOn] ++ exprP s.on 1))) ++ srcsP false l) t := ht
    rw [List.append_assoc] at ht'
    obtain ⟨t1, t2, rfl, h1, _⟩ := Lk_app ht'
    rw [List.append_assoc]
    obtain ⟨w, m, hw⟩ : ∃ w m, joinWd s.k = w :: m := by
      have : s.k = 2 ∨ s.k = 3 ∨ s.k = 4 ∨ s.k = 5 := by omega
      rcases this with h | h | h | h <;> rw [h] <;> exact ⟨_, _, rfl⟩
    have hh := joinWd_head h2 h5 w (by rw [hw]; rfl)
    rw [hw] at h1
    obtain ⟨t0, t3, rfl, k0, _⟩ := h1
    exact No_cls k0 hh
theorem joins_rt {en : Int} {ex : List Tk → Rs X} : ∀ (l : List So) (room : Nat), l.length ≤ room → (∀ s ∈ l, SoR (XR ex) false s) → ∀ t r, Lk (srcsP false l) t → No srcR r → joinsM en ex room (t ++ r) = .ok (l.map (bareSo false)) r
  | [], room, _, _, t, r, ht, hr => by
    obtain rfl : t = [] := ht
    rw [List.nil_append, joinsM_eq, joinM_none (No_sub hr (by decide)), ok_bind]
    unfold joinsB
    rw [if_neg (by decide)]
    rfl
  | s :: l, room, hl, hs, t, r, ht, hr => by
    obtain ⟨room, rfl⟩ : ∃ g, room = g + 1 := ⟨room - 1, by simp at hl; omega⟩
    have hss := hs s (List.mem_cons_self ..)
    obtain ⟨h2, h5, _⟩ := hss.k2 rfl
    have ht' : Lk (joinWd s.k ++ ([s.name] ++ (asP s.as ++ ([wOn] ++ exprP s.on 1))) ++ srcsP false l) t := ht
    rw [List.append_assoc] at ht'
    obtain ⟨t1, _, rfl, h1, h4⟩ := Lk_app ht'
    obtain ⟨t2, t3, rfl, h3, h4⟩ := Lk_app h4
    have hno := srcs_no (fun s h => hs s (List.mem_cons_of_mem _ h)) h4 hr
    have ih := joins_rt (en := en) l room (by simp at hl; omega) (fun s h => hs s (List.mem_cons_of_mem _ h)) t3 r h4 hr
    rw [List.append_assoc, List.append_assoc, joinsM_eq, join_word h2 h5 h1, ok_bind]
    unfold joinsB
    rw [if_pos (by omega)]
    simp only
    rw [src2_rt hss h3 (No_sub hno (fun s hs => List.mem_append.2 (.inl hs))), ok_bind, ih, ok_bind]
    rfl
/-! selects -/
def bareSe (s : Se) : Se := ⟨s.distinct, s.star, if s.star = true then [] else s.items.map bareIt, (match s.src with | [] => [] | f :: l => bareSo true f :: l.map (bareSo false)), s.hasW, s.hasH, if s.hasW = true then bareX s.wh else zeroX, if s.hasH = true then bareX s.hv else zeroX, s.group.map bareX⟩
theorem optX_rt {ex : List Tk → Rs X} {f : Bool} {w : Bs} {x : X} {t r : List Tk} (hw : seesC w (cls w) = true) (hx : f = true → ExR ex x) (ht : Lk (whereP f w x) t) (hr : clean 0 r) (hn : f = false → seesM w r = false) :
    optX ex w (t ++ r) = .ok (if f = true then bareX x else zeroX) r ∧ seesM w (t ++ r) = f := by
  cases f with
  | false =>
    obtain rfl : t = [] := ht
    have := hn rfl
    rw [List.nil_append, optX, this]
    exact ⟨rfl, rfl⟩
  | true =>
    obtain ⟨t0, t1, rfl, k0, ht1⟩ := ht
    replace ht1 : Lk (exprP x 1) t1 := ht1
    rw [List.cons_append, optX, sees_cls k0, hw, if_pos rfl]
    exact ⟨hx rfl _ _ ht1 hr, rfl⟩
theorem optG_rt {en : Int} {ex : List Tk → Rs X} {l : List X} {t r : List Tk} (hl : l.length ≤ 8) (hx : ∀ x ∈ l, ExR ex x) (ht : Lk (groupP l) t) (hr : clean 0 r) (hs : seesM sComma r = false) (hn : seesM wGroup r = false) : optG en ex (t ++ r) = .ok (l.map bareX) r := by
  unfold groupP at ht
  by_cases h : l = []
  · subst h
    obtain rfl : t = [] := ht
    rw [List.nil_append, optG, hn, if_neg (by decide)]
    rfl
  · rw [if_neg h] at ht
    obtain ⟨t0, _, rfl, k0, t1, t2, rfl, k1, ht2⟩ := ht
    replace ht2 : Lk (comP (l.map exprP)) t2 := ht2
    unfold comP at ht2
    rw [comL_comW] at ht2
    rw [List.cons_append, List.cons_append, optG, sees_cls k0, if_pos (by decide)]
    simp only [List.tail_cons]
    rw [need_cls k1 _ (by decide), ok_bind]
    exact some_rt (P := fun x => exprP x 1) (f := bareX) (nol := contW 0) (by decide) l 8 h hl (fun a ha t r ht hr => hx a ha t r ht hr) true t2 r ht2 hr hs
theorem head_sees {s : Bs} {ws rest : List Bs} (h : headNo s ws) {t r : List Tk} (ht : Lk (ws ++ rest) t) : seesM s (t ++ r) = false := by
  obtain ⟨w, l, rfl, hw⟩ := h
  obtain ⟨t0, t1, rfl, k0, _⟩ := ht
  rw [List.cons_append, sees_cls k0]; exact hw
structure SeR (Y : X → Prop) (s : Se) : Prop where
  items : s.star = false → s.items ≠ [] ∧ s.items.length ≤ 8 ∧ ∀ i ∈ s.items, Y i.x ∧ givenW i.as = 0
  src : ∃ f l, s.src = f :: l ∧ SoR Y true f ∧ l.length ≤ 3 ∧ ∀ s ∈ l, SoR Y false s
  wh : s.hasW = true → Y s.wh
  hv : s.hasH = true → Y s.hv
  group : s.group.length ≤ 8 ∧ ∀ x ∈ s.group, Y x
theorem where_head {f : Bool} {w : Bs} {x : X} {l : List Bs} (h : noC l (cls w) = true) : ∀ u, (whereP f w x).head? = some u → noC l (cls u) = true := by
  intro u hu
  cases f with
  | false => cases hu
  | true => obtain rfl := (Option.some.inj hu).symm; exact h
theorem group_head {g : List X} {l : List Bs} (h : noC l (cls wGroup) = true) : ∀ u, (groupP g).head? = some u → noC l (cls u) = true := by
  intro u hu
  unfold groupP at hu
  split at hu
  · cases hu
  · obtain rfl := (Option.some.inj hu).symm; exact h
theorem sel_rt {en : Int} {ex : List Tk → Rs X} {s : Se} (h : SeR (XR ex) s) {t r : List Tk} (ht : Lk (selP s) t) (hr : No selR r) : selM en ex (t ++ r) = .ok (bareSe s) r := by
  obtain ⟨t0, t1, rfl, k0, ht⟩ := ht
  replace ht : Lk ((if s.distinct = true then [wDistinct] else []) ++ ((if s.star = true then [sStar] else []) ++ ((if s.star = true then [] else itemsP true s.items) ++ (srcsP true s.src ++ (whereP s.hasW wWhere s.wh ++ (groupP s.group ++ whereP s.hasH wHaving s.hv)))))) t1 := ht
  obtain ⟨td, t2, rfl, hd, ht⟩ := Lk_app ht
  obtain ⟨ts, t3, rfl, hs, ht⟩ := Lk_app ht
  obtain ⟨ti, t4, rfl, hi, ht⟩ := Lk_app ht
  obtain ⟨tf, t5, rfl, hf, ht⟩ := Lk_app ht
  obtain ⟨tw, t6, rfl, hw, ht⟩ := Lk_app ht
  obtain ⟨tg, th, rfl, hg, hh⟩ := Lk_app ht
  obtain ⟨f0, l, hsrc, hf0, hl, hfl⟩ := h.src
  rw [hsrc] at hf
  have hf' : Lk ([wFrom] ++ (([f0.name] ++ (asP f0.as ++ [])) ++ srcsP false l)) tf := by
    have e : srcsP true (f0 :: l) = joinWd f0.k ++ ([f0.name] ++ (asP f0.as ++ [])) ++ srcsP false l := rfl
    rw [e, hf0.k1 rfl, List.append_assoc] at hf
    exact hf
  obtain ⟨t7, _, rfl, k7, hf'⟩ := hf'
  obtain ⟨t8, t9, rfl, h8, h9⟩ := Lk_app (b := srcsP false l) hf'
  have nH : No (contW 0 ++ [wAs, wWhere, wGroup, sComma] ++ joinW) (th ++ r) := No_app hh (where_head (by decide)) (No_sub hr (by decide))
  have nG : No (contW 0 ++ [wAs, wWhere] ++ joinW) (tg ++ (th ++ r)) := No_app hg (group_head (by decide)) (No_sub nH (by decide))
  have nW : No srcR (tw ++ (tg ++ (th ++ r))) := No_app hw (where_head (by decide)) (No_sub nG (by decide))
  have nF : No contAs (t9 ++ (tw ++ (tg ++ (th ++ r)))) := srcs_no hfl h9 nW
  obtain ⟨R2, hR2⟩ : ∃ R2, R2 = t7 :: (t8 ++ (t9 ++ (tw ++ (tg ++ (th ++ r))))) := ⟨_, rfl⟩
  have e : t0 :: (td ++ (ts ++ (ti ++ (t7 :: (t8 ++ t9) ++ (tw ++ (tg ++ th)))))) ++ r = t0 :: (td ++ (ts ++ (ti ++ R2))) := by rw [hR2]; simp
  have hI : s.star = false → seesM sStar (ti ++ R2) = false ∧ seesM wDistinct (ti ++ R2) = false := by
    intro hst
    obtain ⟨i1, i2, i3⟩ := h.items hst
    rw [hst] at hi
    replace hi : Lk (itemsP true s.items) ti := hi
    cases hit : s.items with
    | nil => exact (i1 hit).elim
    | cons i il =>
      rw [hit] at hi i3
      obtain ⟨⟨-, h1, h2⟩, -⟩ := i3 i (List.mem_cons_self ..)
      have hi' : Lk (exprP i.x 1 ++ asP i.as ++ itemsP false il) ti := hi
      rw [List.append_assoc] at hi'
      exact ⟨head_sees h1 hi', head_sees h2 hi'⟩
  have hS : seesM sStar (ts ++ (ti ++ R2)) = s.star ∧ (ts ++ (ti ++ R2)).drop (if s.star = true then 1 else 0) = ti ++ R2 ∧ seesM wDistinct (ts ++ (ti ++ R2)) = false := by
    cases hst : s.star with
    | false =>
      rw [hst] at hs
      obtain rfl : ts = [] := hs
      exact ⟨(hI hst).1, rfl, (hI hst).2⟩
    | true =>
      rw [hst] at hs
      obtain ⟨tt, tr, rfl, kt, hs⟩ := hs
      obtain rfl : tr = [] := hs
      have kt : okW sStar tt := kt
      rw [List.cons_append, List.nil_append, sees_cls kt, sees_cls kt]
      exact ⟨by decide, rfl, by decide⟩
  have hD : seesM wDistinct (td ++ (ts ++ (ti ++ R2))) = s.distinct ∧ tl s.distinct (td ++ (ts ++ (ti ++ R2))) = ts ++ (ti ++ R2) := by
    cases hdt : s.distinct with
    | false =>
      rw [hdt] at hd
      obtain rfl : td = [] := hd
      exact ⟨hS.2.2, rfl⟩
    | true =>
      rw [hdt] at hd
      obtain ⟨tt, tr, rfl, kt, hs⟩ := hd
      obtain rfl : tr = [] := hs
      have kt : okW wDistinct tt := kt
      rw [List.cons_append, List.nil_append, sees_cls kt]
      exact ⟨by decide, rfl⟩
  rw [e, selM, need_cls k0 _ (by decide), ok_bind]
  rw [hD.1, hD.2, hS.1]
  have hit : (if s.star = true then .ok [] (ts ++ (ti ++ R2)).tail else someM en (itemM en ex) 8 (ts ++ (ti ++ R2))) = Rs.ok (if s.star = true then [] else s.items.map bareIt) R2 := by
    cases hst : s.star with
    | true =>
      have h2 := hS.2.1
      rw [hst] at h2 hi
      obtain rfl : ti = [] := hi
      rw [if_pos rfl, if_pos rfl]
      congr 1
      rw [if_pos rfl, List.drop_one] at h2
      exact h2
    | false =>
      have h2 := hS.2.1
      rw [hst] at h2 hi
      replace hi : Lk (itemsP true s.items) ti := hi
      rw [if_neg (by decide), List.drop_zero] at h2
      rw [if_neg (by decide), if_neg (by decide), h2]
      obtain ⟨i1, i2, i3⟩ := h.items hst
      rw [itemsP_comW] at hi
      rw [hR2]
      exact some_rt (P := itemP) (f := bareIt) (nol := contAs) (by decide) s.items 8 i1 i2 (fun i hi t r ht hr => item_rt (i3 i hi).1.1 (i3 i hi).2 ht hr) true ti _ hi (No_cls k7 (by decide)) (by rw [sees_cls k7]; decide)
  rw [hit, ok_bind, hR2, selK1, need_cls k7 _ (by decide), ok_bind, src1_rt hf0 h8 (No_one nF (by decide)), ok_bind, joins_rt l 3 hl hfl t9 _ h9 nW, ok_bind, selK2]
  obtain ⟨w1, w2⟩ := optX_rt (f := s.hasW) (w := wWhere) (x := s.wh) (t := tw) (r := tg ++ (th ++ r)) (by decide) (fun h' => (h.wh h').1) hw (No_sub nG (by decide)) (fun _ => No_one nG (by decide))
  obtain ⟨v1, v2⟩ := optX_rt (f := s.hasH) (w := wHaving) (x := s.hv) (t := th) (r := r) (by decide) (fun h' => (h.hv h').1) hh (No_sub hr (by decide)) (fun _ => No_one hr (by decide))
  rw [w1, w2, ok_bind, selK3, optG_rt h.group.1 (fun x hx => (h.group.2 x hx).1) hg (No_sub nH (by decide)) (No_one nH (by decide)) (No_one nH (by decide)), ok_bind, selK4, v1, v2, ok_bind]
  unfold bareSe
  rw [hsrc]
end Go.Proofs.YtoainkbcfnlkcaaGreatDoor

namespace Go.Proofs.YtoainkbcfnlkcaaGreatDoor
open Go Vc
set_option linter.unusedSimpArgs false
set_option linter.unusedVariables false
set_option maxRecDepth 10000

/-! ### queries and statements that are written are read -/
def bareQ (q : Q) : Q := ⟨q.parts.map bareSe, q.ops, if 0 ≤ q.limit then q.order.map bareX else [], if 0 ≤ q.limit then q.limit else -1⟩
/-- what may come behind a query's part -/
def quR : List Bs := selR ++ [wUnion, wExcept, wOrder]
def opsFrom (ops : List Int) (i n : Nat) : List Int := (List.range' i n).map fun j => ops.getD (j - 1) 0
theorem setWd_head {k : Int} : ∀ w, (setWd k).head? = some w → noC selR (cls w) = true := by
  intro w hw
  unfold setWd at hw
  split at hw
  · obtain rfl := (Option.some.inj hw).symm; decide
  split at hw
  · obtain rfl := (Option.some.inj hw).symm; decide
  split at hw
  · obtain rfl := (Option.some.inj hw).symm; decide
  · obtain rfl := (Option.some.inj hw).symm; decide
theorem setWd_ne (k : Int) : ∃ w l, setWd k = w :: l := by
  unfold setWd
  split
  · exact ⟨_, _, rfl⟩
  split
  · exact ⟨_, _, rfl⟩
  split
  · exact ⟨_, _, rfl⟩
  · exact ⟨_, _, rfl⟩
theorem setM_none {r : List Tk} (h : No setW r) : setM r = .ok 0 r := by
  rw [setM, idx_none (l := setW) h]
theorem set_word {k : Int} (h1 : 1 ≤ k) (h4 : k ≤ 4) {t r : List Tk} (ht : Lk (setWd k) t) (hr : seesM wAll r = false) : setM (t ++ r) = .ok k r := by
  have : k = 1 ∨ k = 2 ∨ k = 3 ∨ k = 4 := by omega
  rcases this with rfl | rfl | rfl | rfl
  · obtain ⟨t0, t1, rfl, k0, t2, t3, rfl, k2, h1⟩ := ht
    obtain rfl : t3 = [] := h1
    have k0 : okW wUnion t0 := k0
    have k2 : okW wAll t2 := k2
    rw [List.cons_append, List.cons_append, List.nil_append, setM, idx_cls k0, show idxC setW (cls wUnion) = some 0 by decide]
    exact (if_pos (by show seesM wAll (t2 :: r) = true; rw [sees_cls k2]; decide)).trans rfl
  · obtain ⟨t0, t1, rfl, k0, h1⟩ := ht
    obtain rfl : t1 = [] := h1
    have k0 : okW wUnion t0 := k0
    rw [List.cons_append, List.nil_append, setM, idx_cls k0, show idxC setW (cls wUnion) = some 0 by decide]
    exact (if_neg (by show ¬ seesM wAll r = true; rw [hr]; decide)).trans rfl
  · obtain ⟨t0, t1, rfl, k0, t2, t3, rfl, k2, h1⟩ := ht
    obtain rfl : t3 = [] := h1
    have k0 : okW wExcept t0 := k0
    have k2 : okW wAll t2 := k2
    rw [List.cons_append, List.cons_append, List.nil_append, setM, idx_cls k0, show idxC setW (cls wExcept) = some 1 by decide]
    exact (if_pos (by show seesM wAll (t2 :: r) = true; rw [sees_cls k2]; decide)).trans rfl
  · obtain ⟨t0, t1, rfl, k0, h1⟩ := ht
    obtain rfl : t1 = [] := h1
    have k0 : okW wExcept t0 := k0
    rw [List.cons_append, List.nil_append, setM, idx_cls k0, show idxC setW (cls wExcept) = some 1 by decide]
    exact (if_neg (by show ¬ seesM wAll r = true; rw [hr]; decide)).trans rfl
/-- behind a part: the other parts, or what is behind the query's parts -/
theorem parts_no {ops : List Int} {i : Nat} (hi : i ≠ 0) {l : List Se} {t r : List Tk} (ht : Lk (partsP ops i l) t) (hr : No selR r) : No selR (t ++ r) := by
  cases l with
  | nil => obtain rfl : t = [] := ht; exact hr
  | cons s l =>
    rw [partsP, if_neg hi] at ht
    obtain ⟨t1, t2, rfl, h1, _⟩ := Lk_app ht
    obtain ⟨w, m, hw⟩ := setWd_ne (ops.getD (i - 1) 0)
    have hh := setWd_head w (by rw [hw]; rfl)
    rw [hw] at h1
    obtain ⟨t0, t3, rfl, k0, _⟩ := h1
    exact No_cls k0 hh
theorem sets_rt {en : Int} {ex : List Tk → Rs X} {ops : List Int} : ∀ (l : List Se) (i room : Nat), i ≠ 0 → l.length ≤ room → (∀ s ∈ l, SeR (XR ex) s) → (∀ j, i ≤ j → j < i + l.length → 1 ≤ ops.getD (j - 1) 0 ∧ ops.getD (j - 1) 0 ≤ 4) → ∀ t r, Lk (partsP ops i l) t → No (selR ++ setW) r →
    ∃ k t', setM (t ++ r) = .ok k t' ∧ setsB en ex room k t' = .ok (opsFrom ops i l.length, l.map bareSe) r
  | [], i, room, hi, _, _, _, t, r, ht, hr => by
    obtain rfl : t = [] := ht
    refine ⟨0, r, setM_none (No_sub hr (by decide)), ?_⟩
    unfold setsB
    rw [if_neg (by decide)]
    rfl
  | s :: l, i, room, hi, hl, hs, ho, t, r, ht, hr => by
    obtain ⟨room, rfl⟩ : ∃ g, room = g + 1 := ⟨room - 1, by simp at hl; omega⟩
    rw [partsP, if_neg hi] at ht
    obtain ⟨t1, _, rfl, h1, h2⟩ := Lk_app ht
    obtain ⟨t2, t3, rfl, h2, h3⟩ := Lk_app h2
    obtain ⟨o1, o4⟩ := ho i (Nat.le_refl _) (by simp)
    obtain ⟨k', t', e1, e2⟩ := sets_rt l (i + 1) room (by omega) (by simp at hl; omega) (fun s h => hs s (List.mem_cons_of_mem _ h)) (fun j hj hj2 => ho j (by omega) (by simp; omega)) t3 r h3 hr
    have hall : seesM wAll (t2 ++ (t3 ++ r)) = false := by
      have h2' := h2
      obtain ⟨t0, t4, rfl, k0, _⟩ := h2'
      rw [List.cons_append, sees_cls k0]; decide
    refine ⟨ops.getD (i - 1) 0, t2 ++ (t3 ++ r), ?_, ?_⟩
    · rw [List.append_assoc, List.append_assoc]
      exact set_word o1 o4 h1 hall
    · rw [setsB, if_pos (by omega)]
      rw [sel_rt (hs s (List.mem_cons_self ..)) h2 (parts_no (by omega) h3 (No_sub hr (by decide))), ok_bind, e1, ok_bind, e2, ok_bind]
      rfl
structure QuR (Y : X → Prop) (q : Q) : Prop where
  parts : q.parts ≠ [] ∧ q.parts.length ≤ 4 ∧ ∀ s ∈ q.parts, SeR Y s
  ops : q.ops.length + 1 = q.parts.length ∧ ∀ j, j < q.ops.length → 1 ≤ q.ops.getD j 0 ∧ q.ops.getD j 0 ≤ 4
  lim : 0 ≤ q.limit → q.limit ≤ 50 ∧ q.order ≠ [] ∧ q.order.length ≤ 8 ∧ ∀ x ∈ q.order, Y x
theorem opsFrom_eq (ops : List Int) : opsFrom ops 1 ops.length = ops := by
  unfold opsFrom
  apply List.ext_getElem
  · simp
  · intro n h1 h2
    simp at h1 ⊢
    rw [List.getElem?_eq_getElem h2]
    rfl
theorem order_rt {en : Int} {ex : List Tk → Rs X} {q : Q} (h : QuR (XR ex) q) {t r : List Tk} (ht : Lk (limP q) t) (hr : seesM wOrder r = false) :
    orderM en ex (t ++ r) = .ok (if 0 ≤ q.limit then q.order.map bareX else [], if 0 ≤ q.limit then q.limit else -1) r := by
  unfold limP at ht
  by_cases h0 : 0 ≤ q.limit
  · rw [if_pos h0] at ht
    obtain ⟨l50, l1, l2, l3⟩ := h.lim h0
    obtain ⟨t0, _, rfl, k0, t1, t2, rfl, k1, ht⟩ := ht
    replace ht : Lk (comP (q.order.map exprP) ++ [wLimit, Lib.decDigits q.limit.toNat]) t2 := ht
    obtain ⟨t3, _, rfl, h3, t4, _, rfl, k4, t5, t6, rfl, k5, h6⟩ := Lk_app ht
    obtain rfl : t6 = [] := h6
    unfold comP at h3
    rw [comL_comW] at h3
    have e : t0 :: t1 :: (t3 ++ [t4, t5]) ++ r = t0 :: t1 :: (t3 ++ (t4 :: t5 :: r)) := by simp
    have k5' := k5
    unfold okW at k5'
    rw [cls_digits] at k5'
    injection k5' with c1 c2
    have hm : seesM minus (t5 :: r) = false := by simp [seesM, c1]
    have hlim : limM en (t5 :: r) = .ok q.limit r := by
      unfold limM intM
      rw [hm, if_neg (by decide), intT, if_pos c1, c2, numM_digits, if_neg (by omega), if_neg (by decide), ok_bind]
      have : ((q.limit.toNat : Nat) : Int) = q.limit := by omega
      rw [this, if_neg (by omega)]
    rw [e, orderM, sees_cls k0, if_pos (by decide)]
    simp only [List.tail_cons]
    rw [need_cls k1 _ (by decide), ok_bind, some_rt (P := fun x => exprP x 1) (f := bareX) (nol := contW 0) (by decide) q.order 8 l1 l2 (fun a ha t r ht hr => (l3 a ha).1 t r ht hr) true t3 _ h3 (clean_cls k4 (by decide)) (by rw [sees_cls k4]; decide), ok_bind, need_cls k4 _ (by decide), ok_bind, hlim, ok_bind, if_pos h0, if_pos h0]
  · rw [if_neg h0] at ht
    obtain rfl : t = [] := ht
    rw [List.nil_append, orderM, hr, if_neg (by decide), if_neg h0, if_neg h0]
theorem query_rt {en : Int} {ex : List Tk → Rs X} {q : Q} (h : QuR (XR ex) q) {t r : List Tk} (ht : Lk (queryP q) t) (hr : No quR r) : queryM en ex (t ++ r) = .ok (bareQ q) r := by
  obtain ⟨p1, p2, p3⟩ := h.parts
  obtain ⟨o1, o2⟩ := h.ops
  obtain ⟨tp, tl, rfl, hp, hl⟩ := Lk_app ht
  cases hq : q.parts with
  | nil => exact (p1 hq).elim
  | cons s l =>
    rw [hq] at hp p2 p3 o1
    have hp' : Lk (selP s ++ partsP q.ops 1 l) tp := hp
    obtain ⟨t1, t2, rfl, h1, h2⟩ := Lk_app hp'
    have n1 : No (selR ++ setW) (tl ++ r) := by
      refine No_app hl ?_ (No_sub hr (by decide))
      intro w hw
      unfold limP at hw
      split at hw
      · obtain rfl := (Option.some.inj hw).symm; decide
      · cases hw
    simp only [List.length_cons] at p2 o1
    obtain ⟨k, t', e1, e2⟩ := sets_rt (en := en) l 1 3 (by decide) (by omega) (fun s hs => p3 s (List.mem_cons_of_mem _ hs)) (fun j hj hj2 => o2 (j - 1) (by omega)) t2 (tl ++ r) h2 n1
    have e : t1 ++ t2 ++ tl ++ r = t1 ++ (t2 ++ (tl ++ r)) := by simp
    rw [e, queryM, sel_rt (p3 s (List.mem_cons_self ..)) h1 (parts_no (by decide) h2 (No_sub n1 (by decide))), ok_bind, e1, ok_bind, e2, ok_bind, queryK, order_rt h hl (No_one hr (by decide)), ok_bind]
    unfold bareQ
    rw [hq, show l.length = q.ops.length by omega, opsFrom_eq]
    rfl
/-! statements -/
def bareS (s : Stm) : Stm :=
  if s.k = 1 then ⟨1, s.name, s.cols, zeroQ, [], false, zeroX⟩
  else if s.k = 3 then ⟨3, s.name, [], zeroQ, s.rows.map (·.map bareV), false, zeroX⟩
  else if s.k = 4 then ⟨4, s.name, [], zeroQ, [], s.hasW, if s.hasW = true then bareX s.wh else zeroX⟩
  else ⟨s.k, if s.k = 5 then [] else s.name, [], bareQ s.q, [], false, zeroX⟩
structure StR (Y : X → Prop) (s : Stm) : Prop where
  k : 1 ≤ s.k ∧ s.k ≤ 5
  name : s.k ≠ 5 → namedB s.name = true
  cols : s.k = 1 → s.cols ≠ [] ∧ s.cols.length ≤ 8 ∧ ∀ c ∈ s.cols, namedB c.name = true ∧ 2 ≤ c.ty ∧ c.ty ≤ 4
  q : s.k = 2 ∨ s.k = 5 → QuR Y s.q
  rows : s.k = 3 → s.rows ≠ [] ∧ s.rows.length ≤ 400 ∧ ∀ r ∈ s.rows, r ≠ [] ∧ r.length ≤ 8 ∧ ∀ v ∈ r, wrongV v = 0
  wh : s.k = 4 → s.hasW = true → Y s.wh
theorem val_rt {en : Int} {v : V} (h : wrongV v = 0) {t r : List Tk} (ht : Lk (valP v) t) : valM en (t ++ r) = .ok (bareV v) r := by
  rw [valM, value_rt h ht, ok_bind]
theorem colsP_comW : ∀ (l : List Co) (b : Bool), colsP b l = comW (fun c => [c.name, tyWd c.ty]) b l
  | [], b => rfl
  | x :: l, b => by rw [colsP, comW, colsP_comW l]
theorem rowVP_comW : ∀ (l : List V), rowVP false l = comW valP false l
  | [] => rfl
  | x :: l => by rw [rowVP, comW, rowVP_comW l]; rfl
theorem rowsP_comW : ∀ (l : List (List V)) (b : Bool), rowsP b l = comW (fun r => rowVP true r ++ [sClose]) b l
  | [], b => rfl
  | x :: l, b => by rw [rowsP, comW, rowsP_comW l, List.append_assoc]
theorem col_rt {en : Int} {c : Co} (h : namedB c.name = true ∧ 2 ≤ c.ty ∧ c.ty ≤ 4) {t r : List Tk} (ht : Lk [c.name, tyWd c.ty] t) : columnM en (t ++ r) = .ok c r := by
  obtain ⟨n, ty⟩ := c
  obtain ⟨h1, h2, h3⟩ := h
  obtain ⟨t0, _, rfl, k0, t1, t2, rfl, k1, h4⟩ := ht
  obtain rfl : t2 = [] := h4
  rw [List.cons_append, List.cons_append, List.nil_append, columnM, name_cls k0 h1, ok_bind]
  simp only at h2 h3 k1
  have : ty = 2 ∨ ty = 3 ∨ ty = 4 := by omega
  rcases this with rfl | rfl | rfl
  · rw [idx_cls k1, show idxC typeW (cls (tyWd 2)) = some 0 by decide]; rfl
  · rw [idx_cls k1, show idxC typeW (cls (tyWd 3)) = some 1 by decide]; rfl
  · rw [idx_cls k1, show idxC typeW (cls (tyWd 4)) = some 2 by decide]; rfl
theorem row_rt {en : Int} {l : List V} (h : l ≠ [] ∧ l.length ≤ 8 ∧ ∀ v ∈ l, wrongV v = 0) {t r : List Tk} (ht : Lk (rowVP true l ++ [sClose]) t) : rowM en (t ++ r) = .ok (l.map bareV) r := by
  obtain ⟨h1, h2, h3⟩ := h
  cases l with
  | nil => exact (h1 rfl).elim
  | cons v l =>
    have ht' : Lk ([sOpen] ++ ((valP v ++ rowVP false l) ++ [sClose])) t := ht
    rw [rowVP_comW] at ht'
    obtain ⟨t0, _, rfl, k0, ht'⟩ := ht'
    obtain ⟨t1, _, rfl, hv, t2, t3, rfl, k2, h5⟩ := Lk_app (a := comW valP true (v :: l)) ht'
    obtain rfl : t3 = [] := h5
    rw [List.cons_append, List.append_assoc, List.cons_append, List.nil_append, rowM, need_cls k0 _ (by decide), ok_bind,
      some_rt (P := valP) (f := bareV) (nol := []) (by decide) (v :: l) 8 h1 h2 (fun a ha t r ht hr => val_rt (h3 a ha) ht) true t1 _ hv (fun s hs => by cases hs) (by rw [sees_cls k2]; decide), ok_bind, need_cls k2 _ (by decide), ok_bind]
theorem stmt_rt {en : Int} {ex : List Tk → Rs X} {s : Stm} (h : StR (XR ex) s) {t r : List Tk} (ht : Lk (bodyS s) t) (hr : No quR r) : stmtM en ex (t ++ r) = .ok (bareS s) r := by
  obtain ⟨k, name, cols, q, rows, hasW, wh⟩ := s
  obtain ⟨hk, hn, hcols, hq, hrows, hwh⟩ := h
  simp only at hk hn hcols hq hrows hwh
  have : k = 1 ∨ k = 2 ∨ k = 3 ∨ k = 4 ∨ k = 5 := by omega
  rcases this with rfl | rfl | rfl | rfl | rfl
  · obtain ⟨c1, c2, c3⟩ := hcols rfl
    have ht' : Lk ([wCreate, wTable, name, sOpen] ++ (colsP true cols ++ [sClose])) t := ht
    rw [colsP_comW] at ht'
    obtain ⟨t0, _, rfl, k0, t1, _, rfl, k1, t2, _, rfl, k2, t3, _, rfl, k3, ht'⟩ := ht'
    obtain ⟨tc, _, rfl, hc, t4, t5, rfl, k4, h5⟩ := Lk_app (a := comW (fun c : Co => [c.name, tyWd c.ty]) true cols) ht'
    obtain rfl : t5 = [] := h5
    have e : t0 :: t1 :: t2 :: t3 :: (tc ++ [t4]) ++ r = t0 :: t1 :: t2 :: t3 :: (tc ++ t4 :: r) := by simp
    have hv : seesM wView (t1 :: t2 :: t3 :: (tc ++ t4 :: r)) = false := by rw [sees_cls k1]; decide
    rw [e, stmtM, sees_cls k0, if_pos (by decide)]
    simp only [List.tail_cons, hv, Bool.false_eq_true, if_false]
    rw [tableM, need_cls k1 _ (by decide), ok_bind, name_cls k2 (hn (by decide)), ok_bind, need_cls k3 _ (by decide), ok_bind,
      some_rt (P := fun c : Co => [c.name, tyWd c.ty]) (f := id) (nol := []) (by decide) cols 8 c1 c2 (fun a ha t r ht hr => col_rt (c3 a ha) ht) true tc _ hc (fun s hs => by cases hs) (by rw [sees_cls k4]; decide), ok_bind, need_cls k4 _ (by decide), ok_bind, List.map_id]
    rfl
  · have ht' : Lk ([wCreate, wView, name, wAs] ++ queryP q) t := ht
    obtain ⟨t0, _, rfl, k0, t1, _, rfl, k1, t2, _, rfl, k2, t3, tq, rfl, k3, hq'⟩ := ht'
    have hv : seesM wView (t1 :: t2 :: t3 :: (tq ++ r)) = true := by rw [sees_cls k1]; decide
    simp only [List.cons_append]
    rw [stmtM, sees_cls k0, if_pos (by decide)]
    simp only [List.tail_cons, hv, if_true]
    rw [viewM, name_cls k2 (hn (by decide)), ok_bind, need_cls k3 _ (by decide), ok_bind, query_rt (hq (.inl rfl)) hq' hr, ok_bind]
    rfl
  · obtain ⟨c1, c2, c3⟩ := hrows rfl
    have ht' : Lk ([wInsert, wInto, name, wValues] ++ rowsP true rows) t := ht
    rw [rowsP_comW] at ht'
    obtain ⟨t0, _, rfl, k0, t1, _, rfl, k1, t2, _, rfl, k2, t3, tq, rfl, k3, hq'⟩ := ht'
    simp only [List.cons_append]
    rw [stmtM, sees_cls k0, if_neg (by decide), sees_cls k0, if_pos (by decide)]
    simp only [List.tail_cons]
    rw [insertM, need_cls k1 _ (by decide), ok_bind, name_cls k2 (hn (by decide)), ok_bind, need_cls k3 _ (by decide), ok_bind,
      some_rt (P := fun r => rowVP true r ++ [sClose]) (f := fun r => r.map bareV) (nol := []) (by decide) rows 400 c1 c2 (fun a ha t r ht hr => row_rt (c3 a ha) ht) true tq _ hq' (fun s hs => by cases hs) (No_one hr (by decide)), ok_bind]
    rfl
  · have ht' : Lk ([wDelete, wFrom, name] ++ whereP hasW wWhere wh) t := ht
    obtain ⟨t0, _, rfl, k0, t1, _, rfl, k1, t2, tq, rfl, k2, hq'⟩ := ht'
    obtain ⟨w1, w2⟩ := optX_rt (ex := ex) (f := hasW) (w := wWhere) (x := wh) (t := tq) (r := r) (by decide) (fun h' => (hwh rfl h').1) hq' (No_sub hr (by decide)) (fun _ => No_one hr (by decide))
    simp only [List.cons_append]
    rw [stmtM, sees_cls k0, if_neg (by decide), sees_cls k0, if_neg (by decide), sees_cls k0, if_pos (by decide)]
    simp only [List.tail_cons]
    rw [deleteM, need_cls k1 _ (by decide), ok_bind, name_cls k2 (hn (by decide)), ok_bind, w1, w2, ok_bind]
    rfl
  · have ht' : Lk ([wShow] ++ queryP q) t := ht
    obtain ⟨t0, tq, rfl, k0, hq'⟩ := ht'
    simp only [List.cons_append]
    rw [stmtM, sees_cls k0, if_neg (by decide), sees_cls k0, if_neg (by decide), sees_cls k0, if_neg (by decide), showM, need_cls k0 _ (by decide), ok_bind, query_rt (hq (.inr rfl)) hq' hr, ok_bind]
    rfl
theorem stmts_rt {en : Int} : ∀ (l : List Stm) (room : Nat), l.length ≤ room → (∀ s ∈ l, StR (XR (exF en)) s) → ∀ t, Lk (stmtsP l) t → stmtsM en room t = .ok (l.map bareS) []
  | [], room, _, _, t, ht => by
    obtain rfl : t = [] := ht
    exact stmtsM_nil en room
  | s :: l, room, hl, hs, t, ht => by
    obtain ⟨room, rfl⟩ : ∃ g, room = g + 1 := ⟨room - 1, by simp at hl; omega⟩
    have ht' : Lk ((bodyS s ++ [sSemi]) ++ stmtsP l) t := ht
    rw [List.append_assoc] at ht'
    obtain ⟨t1, _, rfl, h1, t2, t3, rfl, k2, h3⟩ := Lk_app ht'
    have ih := stmts_rt l room (by simp at hl; omega) (fun s h => hs s (List.mem_cons_of_mem _ h)) t3 h3
    rw [stmtsM_cons _ _ _ (by simp), stmtsB]
    rw [stmt_rt (hs s (List.mem_cons_self ..)) h1 (No_cls k2 (by decide)), ok_bind, need_cls k2 _ (by decide), ok_bind]
    show (stmtsM en room t3).bind _ = _
    rw [ih, ok_bind]
    rfl
end Go.Proofs.YtoainkbcfnlkcaaGreatDoor

namespace Go.Proofs.YtoainkbcfnlkcaaGreatDoor
open Go Vc
set_option linter.unusedSimpArgs false
set_option linter.unusedVariables false
set_option maxRecDepth 10000

/-! ### what is right, told by parts -/
def Yw (x : X) : Prop := exprW x = 0
theorem orE_iff {a b : Int} : orE a b = 0 ↔ a = 0 ∧ b = 0 := ⟨orE_0, fun ⟨h1, h2⟩ => by rw [orE_zero h1]; exact h2⟩
theorem first2_iff {a b : Int} : firstW [a, b] = 0 ↔ a = 0 ∧ b = 0 := by
  simp only [firstW]
  rw [orE_iff, orE_iff]
  simp
theorem namesW_iff {s : Bs} : namesW [s] = 0 ↔ namedB s = true := by
  refine ⟨name_ok, fun h => ?_⟩
  unfold namesW
  rw [if_pos (by simp [h])]
theorem exprsW_iff : ∀ {l : List X}, exprsW l = 0 ↔ ∀ x ∈ l, Yw x
  | [] => by simp [exprsW]
  | x :: l => by
    rw [exprsW, orE_iff, exprsW_iff (l := l)]
    simp [Yw]
theorem itemsW_iff : ∀ {l : List It}, itemsW l = 0 ↔ ∀ i ∈ l, Yw i.x ∧ givenW i.as = 0
  | [] => by simp [itemsW]
  | x :: l => by
    rw [itemsW, orE_iff, first2_iff, itemsW_iff (l := l)]
    simp [Yw]
theorem sourceW_first {s : So} : sourceW 0 s = 0 ↔ SoR Yw true s := by
  unfold sourceW
  by_cases h1 : s.k = 1
  · rw [if_neg (by rw [h1]; decide), if_pos (.inr rfl), first2_iff, namesW_iff]
    exact ⟨fun ⟨a, b⟩ => ⟨a, b, fun _ => h1, fun h => by cases h⟩, fun h => ⟨h.name, h.asg⟩⟩
  · rw [if_pos (by left; left; rw [decide_eq_false h1]; decide)]
    exact ⟨fun h => (by cases h), fun h => (h1 (h.k1 rfl)).elim⟩
theorem sourceW_next {i : Nat} {s : So} (hi : i ≠ 0) : sourceW i s = 0 ↔ SoR Yw false s := by
  unfold sourceW
  by_cases h1 : 2 ≤ s.k ∧ s.k ≤ 5
  · rw [if_neg (by
      rintro ((h | h) | h)
      · apply h
        rw [decide_eq_false (by omega), decide_eq_false (by omega)]
        rfl
      · omega
      · omega)]
    by_cases h2 : firstW [namesW [s.name], givenW s.as] ≠ 0
    · rw [if_pos (.inl h2)]
      refine ⟨fun h => (h2 h).elim, fun h => (h2 ?_).elim⟩
      rw [first2_iff, namesW_iff]
      exact ⟨h.name, h.asg⟩
    · rw [if_neg (by rintro (h | h); exact h2 h; exact hi h)]
      have h3 : firstW [namesW [s.name], givenW s.as] = 0 := Classical.byContradiction h2
      rw [first2_iff, namesW_iff] at h3
      exact ⟨fun h => ⟨h3.1, h3.2, fun h => (by cases h), fun _ => ⟨h1.1, h1.2, h⟩⟩, fun h => (h.k2 rfl).2.2⟩
  · rw [if_pos]
    · exact ⟨fun h => (by cases h), fun h => by obtain ⟨a, b, _⟩ := h.k2 rfl; exact (h1 ⟨a, b⟩).elim⟩
    · by_cases h2 : s.k = 1
      · left; left
        rw [decide_eq_true h2, decide_eq_false (by omega)]
        decide
      · by_cases h3 : s.k < 1
        · left; right; exact h3
        · right; omega
theorem sourcesW_next : ∀ {l : List So} {n : Nat}, n ≠ 0 → (sourcesW n l = 0 ↔ ∀ s ∈ l, SoR Yw false s)
  | [], n, _ => by simp [sourcesW]
  | x :: l, n, h => by
    rw [sourcesW, orE_iff, sourceW_next h, sourcesW_next (l := l) (n := n + 1) (by omega)]
    simp
theorem whW_iff {f : Bool} {x : X} : (if f = true then exprW x else 0) = 0 ↔ (f = true → Yw x) := by
  cases f
  · simp
  · simp [Yw]
theorem selW_iff {s : Se} : selW s = 0 ↔ SeR Yw s := by
  unfold selW
  by_cases hm : selMany s = true
  · rw [if_pos hm]
    refine ⟨fun h => (by cases h), fun h => ?_⟩
    exfalso
    obtain ⟨f, l, hs, _, hl, _⟩ := h.src
    unfold selMany at hm
    rw [Bool.or_eq_true, decide_eq_true_eq, Bool.and_eq_true, Bool.or_eq_true, decide_eq_true_eq, decide_eq_true_eq] at hm
    have h8 := h.group.1
    have hl1 : s.src.length = l.length + 1 := by rw [hs]; rfl
    rcases hm with h1 | ⟨h1, h2⟩
    · omega
    · obtain ⟨i1, i2, _⟩ := h.items (by simpa using h1)
      have := List.length_pos_iff.2 i1
      omega
  · rw [if_neg hm]
    unfold selMany at hm
    rw [Bool.or_eq_true, decide_eq_true_eq, Bool.and_eq_true, Bool.or_eq_true, decide_eq_true_eq, decide_eq_true_eq] at hm
    have hm1 : ¬ (((s.src.length : Int) < 1 ∨ 4 < (s.src.length : Int)) ∨ 8 < (s.group.length : Int)) := fun h => hm (.inl h)
    have hm2 : s.star = false → ¬ ((s.items.length : Int) < 1 ∨ 8 < (s.items.length : Int)) := fun h h' => hm (.inr ⟨by simp [h], h'⟩)
    unfold selW1 selW2 selW3 selW4
    rw [orE_iff, orE_iff, orE_iff, orE_iff, whW_iff, whW_iff, exprsW_iff]
    cases hs : s.src with
    | nil => rw [hs] at hm1; exact (hm1 (.inl (.inl (by decide)))).elim
    | cons f l =>
      rw [sourcesW, orE_iff, sourceW_first, sourcesW_next (by omega)]
      rw [hs] at hm1
      have hi : (if s.star = true then 0 else itemsW s.items) = 0 ↔ (s.star = false → ∀ i ∈ s.items, Yw i.x ∧ givenW i.as = 0) := by
        cases s.star
        · simp [itemsW_iff]
        · simp
      rw [hi]
      simp only [List.length_cons] at hm1
      constructor
      · rintro ⟨h1, ⟨h2, h3⟩, h4, h5, h6⟩
        refine ⟨fun hst => ⟨?_, ?_, h1 hst⟩, ⟨f, l, hs, h2, by omega, h3⟩, h4, h6, ⟨by omega, h5⟩⟩
        · rintro h; have := hm2 hst; rw [h] at this; exact this (.inl (by decide))
        · have := hm2 hst; omega
      · intro h
        obtain ⟨f', l', hs', h2, _, h3⟩ := h.src
        rw [hs] at hs'
        injection hs' with e1 e2
        subst e1 e2
        exact ⟨fun hst => (h.items hst).2.2, ⟨h2, h3⟩, h.wh, h.group.2, h.hv⟩
theorem partsW_iff {ops : List Int} : ∀ {l : List Se} {n : Nat}, partsW ops n l = 0 ↔ (∀ s ∈ l, SeR Yw s) ∧ ∀ j, n ≤ j → j < n + l.length → 0 < j → 1 ≤ ops.getD (j - 1) 0 ∧ ops.getD (j - 1) 0 ≤ 4
  | [], n => by
    simp only [partsW, List.length_nil, true_iff]
    exact ⟨fun s hs => by (cases hs), fun j h1 h2 => by omega⟩
  | x :: l, n => by
    rw [partsW]
    by_cases hk : 0 < n ∧ (ops.getD (n - 1) 0 < 1 ∨ 4 < ops.getD (n - 1) 0)
    · rw [if_pos hk]
      refine ⟨fun h => (by cases h), fun h => ?_⟩
      have := h.2 n (Nat.le_refl _) (by simp) hk.1
      omega
    · rw [if_neg hk, orE_iff, selW_iff, partsW_iff (l := l) (n := n + 1)]
      constructor
      · rintro ⟨h1, h2, h3⟩
        refine ⟨fun s hs => ?_, fun j hj1 hj2 hj3 => ?_⟩
        · rcases List.mem_cons.1 hs with rfl | hs
          · exact h1
          · exact h2 s hs
        · by_cases hjn : j = n
          · subst hjn; omega
          · exact h3 j (by omega) (by simp at hj2; omega) hj3
      · rintro ⟨h1, h2⟩
        exact ⟨h1 x (List.mem_cons_self ..), fun s hs => h1 s (List.mem_cons_of_mem _ hs), fun j hj1 hj2 hj3 => h2 j (by omega) (by simp; omega) hj3⟩
theorem queryW_iff {q : Q} : queryW q = 0 ↔ QuR Yw q := by
  unfold queryW
  by_cases hm : queryMany q = true
  · rw [if_pos hm]
    refine ⟨fun h => (by cases h), fun h => ?_⟩
    exfalso
    unfold queryMany at hm
    rw [decide_eq_true_eq] at hm
    obtain ⟨p1, p2, p3⟩ := h.parts
    have o1 := h.ops.1
    have := List.length_pos_iff.2 p1
    rcases hm with h1 | ⟨h1, h2⟩
    · omega
    · obtain ⟨l1, l2, l3, l4⟩ := h.lim h1
      have := List.length_pos_iff.2 l2
      omega
  · rw [if_neg hm]
    unfold queryMany at hm
    rw [decide_eq_true_eq] at hm
    have hp : ¬ ((q.parts.length : Int) < 1 ∨ 4 < (q.parts.length : Int)) := fun h => hm (.inl (.inl h))
    have ho : (q.ops.length : Int) = (q.parts.length : Int) - 1 := Classical.byContradiction fun h => hm (.inl (.inr h))
    have hd : 0 ≤ q.limit → ¬ ((q.order.length : Int) < 1 ∨ 8 < (q.order.length : Int)) := fun h h' => hm (.inr ⟨h, h'⟩)
    by_cases hl : 50 < q.limit
    · rw [if_pos hl]
      refine ⟨fun h => (by cases h), fun h => ?_⟩
      have := (h.lim (by omega)).1
      omega
    · rw [if_neg hl, orE_iff, partsW_iff]
      unfold queryW1
      have hw : (if q.limit < 0 then 0 else exprsW q.order) = 0 ↔ (0 ≤ q.limit → ∀ x ∈ q.order, Yw x) := by
        by_cases h0 : q.limit < 0
        · rw [if_pos h0]; exact ⟨fun _ h => by omega, fun _ => rfl⟩
        · rw [if_neg h0, exprsW_iff]; exact ⟨fun h _ => h, fun h => h (by omega)⟩
      rw [hw]
      constructor
      · rintro ⟨⟨h1, h2⟩, h3⟩
        refine ⟨⟨by rintro h; rw [h] at hp; exact hp (.inl (by decide)), by omega, h1⟩, ⟨by omega, fun j hj => ?_⟩, fun h0 => ⟨by omega, ?_, ?_, h3 h0⟩⟩
        · have := h2 (j + 1) (by omega) (by omega) (by omega)
          rwa [Nat.add_sub_cancel] at this
        · rintro h; have := hd h0; rw [h] at this; exact this (.inl (by decide))
        · have := hd h0; omega
      · intro h
        exact ⟨⟨h.parts.2.2, fun j hj1 hj2 hj3 => h.ops.2 (j - 1) (by omega)⟩, fun h0 => (h.lim h0).2.2.2⟩
theorem colsW_iff : ∀ {l : List Co}, colsW l = 0 ↔ ∀ c ∈ l, namedB c.name = true ∧ 2 ≤ c.ty ∧ c.ty ≤ 4
  | [] => by simp [colsW]
  | c :: l => by
    rw [colsW, orE_iff, namesW_iff]
    by_cases h : c.ty < 2 ∨ 4 < c.ty
    · rw [if_pos h]
      refine ⟨fun ⟨_, h⟩ => (by cases h), fun hh => ?_⟩
      have := hh c (List.mem_cons_self ..)
      omega
    · rw [if_neg h, colsW_iff (l := l)]
      simp only [List.mem_cons, forall_eq_or_imp]
      exact ⟨fun ⟨a, b⟩ => ⟨⟨a, by omega, by omega⟩, b⟩, fun ⟨a, b⟩ => ⟨a.1, b⟩⟩
theorem valsW_iff : ∀ {l : List V}, valsW l = 0 ↔ ∀ v ∈ l, wrongV v = 0
  | [] => by simp [valsW]
  | x :: l => by
    rw [valsW, orE_iff, valsW_iff (l := l)]
    simp
theorem rowsW_iff : ∀ {l : List (List V)}, rowsW l = 0 ↔ ∀ r ∈ l, r ≠ [] ∧ r.length ≤ 8 ∧ ∀ v ∈ r, wrongV v = 0
  | [] => by simp [rowsW]
  | r :: l => by
    rw [rowsW]
    by_cases h : (r.length : Int) < 1 ∨ 8 < (r.length : Int)
    · rw [if_pos h]
      refine ⟨fun h => (by cases h), fun hh => ?_⟩
      obtain ⟨h1, h2, _⟩ := hh r (List.mem_cons_self ..)
      have := List.length_pos_iff.2 h1
      omega
    · rw [if_neg h, orE_iff, valsW_iff, rowsW_iff (l := l)]
      simp only [List.mem_cons, forall_eq_or_imp]
      refine ⟨fun ⟨a, b⟩ => ⟨⟨fun h0 => h (.inl (by rw [h0]; decide)), by omega, a⟩, b⟩, fun ⟨a, b⟩ => ⟨a.2.2, b⟩⟩
theorem stmtW_iff {s : Stm} : stmtW s = 0 ↔ StR Yw s := by
  unfold stmtW
  by_cases hk : s.k < 1 ∨ 5 < s.k
  · rw [if_pos hk]
    refine ⟨fun h => (by cases h), fun h => ?_⟩
    have := h.k
    omega
  rw [if_neg hk]
  have hk' : 1 ≤ s.k ∧ s.k ≤ 5 := by omega
  by_cases h5 : s.k = 5
  · rw [if_pos h5, queryW_iff]
    exact ⟨fun h => ⟨hk', fun h => (h h5).elim, fun h => by omega, fun _ => h, fun h => by omega, fun h => by omega⟩, fun h => h.q (.inr h5)⟩
  rw [if_neg h5, orE_iff, namesW_iff]
  by_cases h2 : s.k = 2
  · rw [if_pos h2, queryW_iff]
    exact ⟨fun ⟨n, h⟩ => ⟨hk', fun _ => n, fun h => by omega, fun _ => h, fun h => by omega, fun h => by omega⟩, fun h => ⟨h.name h5, h.q (.inl h2)⟩⟩
  rw [if_neg h2]
  by_cases h1 : s.k = 1
  · rw [if_pos h1]
    by_cases hc : (s.cols.length : Int) < 1 ∨ 8 < (s.cols.length : Int)
    · rw [if_pos hc]
      refine ⟨fun ⟨_, h⟩ => (by cases h), fun h => ?_⟩
      obtain ⟨c1, c2, _⟩ := h.cols h1
      have := List.length_pos_iff.2 c1
      omega
    · rw [if_neg hc, colsW_iff]
      exact ⟨fun ⟨n, h⟩ => ⟨hk', fun _ => n, fun _ => ⟨fun h0 => hc (.inl (by rw [h0]; decide)), by omega, h⟩, fun h => by omega, fun h => by omega, fun h => by omega⟩, fun h => ⟨h.name h5, (h.cols h1).2.2⟩⟩
  rw [if_neg h1]
  by_cases h3 : s.k = 3
  · rw [if_pos h3]
    by_cases hc : (s.rows.length : Int) < 1 ∨ 400 < (s.rows.length : Int)
    · rw [if_pos hc]
      refine ⟨fun ⟨_, h⟩ => (by cases h), fun h => ?_⟩
      obtain ⟨c1, c2, _⟩ := h.rows h3
      have := List.length_pos_iff.2 c1
      omega
    · rw [if_neg hc, rowsW_iff]
      exact ⟨fun ⟨n, h⟩ => ⟨hk', fun _ => n, fun h => by omega, fun h => by omega, fun _ => ⟨fun h0 => hc (.inl (by rw [h0]; decide)), by omega, h⟩, fun h => by omega⟩, fun h => ⟨h.name h5, (h.rows h3).2.2⟩⟩
  rw [if_neg h3]
  have h4 : s.k = 4 := by omega
  rw [if_pos h4, whW_iff]
  exact ⟨fun ⟨n, h⟩ => ⟨hk', fun _ => n, fun h => by omega, fun h => by omega, fun h => by omega, fun _ => h⟩, fun h => ⟨h.name h5, h.wh h4⟩⟩
/-! other right expressions -/
section
variable {Y Z : X → Prop} (h : ∀ x, Y x → Z x)
include h
theorem SoR.mono {f : Bool} {s : So} (hs : SoR Y f s) : SoR Z f s := ⟨hs.name, hs.asg, hs.k1, fun hf => ⟨(hs.k2 hf).1, (hs.k2 hf).2.1, h _ (hs.k2 hf).2.2⟩⟩
theorem SeR.mono {s : Se} (hs : SeR Y s) : SeR Z s := by
  obtain ⟨f, l, h1, h2, h3, h4⟩ := hs.src
  exact ⟨fun hst => ⟨(hs.items hst).1, (hs.items hst).2.1, fun i hi => ⟨h _ ((hs.items hst).2.2 i hi).1, ((hs.items hst).2.2 i hi).2⟩⟩, ⟨f, l, h1, h2.mono h, h3, fun s hs => (h4 s hs).mono h⟩, fun hw => h _ (hs.wh hw), fun hw => h _ (hs.hv hw), hs.group.1, fun x hx => h _ (hs.group.2 x hx)⟩
theorem QuR.mono {q : Q} (hq : QuR Y q) : QuR Z q :=
  ⟨⟨hq.parts.1, hq.parts.2.1, fun s hs => (hq.parts.2.2 s hs).mono h⟩, hq.ops, fun h0 => ⟨(hq.lim h0).1, (hq.lim h0).2.1, (hq.lim h0).2.2.1, fun x hx => h _ ((hq.lim h0).2.2.2 x hx)⟩⟩
theorem StR.mono {s : Stm} (hs : StR Y s) : StR Z s := ⟨hs.k, hs.name, hs.cols, fun hk => (hs.q hk).mono h, hs.rows, fun hk hw => h _ (hs.wh hk hw)⟩
end
/-! what is bare is right as it was -/
theorem wrongV_bare (v : V) : wrongV (bareV v) = wrongV v := by
  obtain ⟨k, n, t⟩ := v
  unfold wrongV bareV
  simp only
  by_cases h1 : k = 1
  · simp [h1]
  by_cases h2 : k = 2
  · simp [h2]
  by_cases h3 : k = 3
  · simp [h3]
  by_cases h4 : k = 4
  · simp [h4]
  simp [h1, h2, h3, h4]
mutual
theorem shape_bare (d n : Nat) : ∀ (x : X), shapeX d n (bareX x) = shapeX d n x
  | .mk k v tab name kids => by
    have hk := shapes_bare (d + 1) (n + 1) kids
    have hl : (bareXs kids).length = kids.length := by rw [bareXs_map, List.length_map]
    rw [bareX, shapeX, shapeX, hl, hk]
    by_cases h1 : k = 1
    · subst h1
      simp [wrongV_bare]
    · by_cases h2 : k = 2
      · subst h2
        simp
      · simp [h1, h2]
theorem shapes_bare (d n : Nat) : ∀ (l : List X), shapeL d n (bareXs l) = shapeL d n l
  | [] => rfl
  | x :: l => by
    rw [bareXs, shapeL, shapeL, shape_bare d n x]
    have := fun m => shapes_bare d m l
    simp only [this]
end
theorem Yw_bare {x : X} (h : Yw x) : Yw (bareX x) := by
  unfold Yw exprW at *
  rw [shape_bare]; exact h
theorem SoR_bare {f : Bool} {s : So} (h : SoR Yw f s) : SoR Yw f (bareSo f s) := by
  refine ⟨h.name, h.asg, h.k1, fun hf => ⟨(h.k2 hf).1, (h.k2 hf).2.1, ?_⟩⟩
  subst hf
  exact Yw_bare (h.k2 rfl).2.2
theorem SeR_bare {s : Se} (h : SeR Yw s) : SeR Yw (bareSe s) := by
  obtain ⟨f, l, h1, h2, h3, h4⟩ := h.src
  refine ⟨fun hst => ?_, ⟨bareSo true f, l.map (bareSo false), ?_, SoR_bare h2, by rw [List.length_map]; exact h3, fun s hs => ?_⟩, fun hw => ?_, fun hw => ?_, by show (s.group.map bareX).length ≤ 8; rw [List.length_map]; exact h.group.1, fun x hx => ?_⟩
  · have hst : s.star = false := hst
    obtain ⟨i1, i2, i3⟩ := h.items hst
    have e : (bareSe s).items = s.items.map bareIt := by
      show (if s.star = true then [] else s.items.map bareIt) = _
      rw [if_neg (by rw [hst]; decide)]
    rw [e]
    refine ⟨by simpa using i1, by rw [List.length_map]; exact i2, fun i hi => ?_⟩
    obtain ⟨j, hj, rfl⟩ := List.mem_map.1 hi
    exact ⟨Yw_bare (i3 j hj).1, (i3 j hj).2⟩
  · unfold bareSe; rw [h1]
  · obtain ⟨j, hj, rfl⟩ := List.mem_map.1 hs
    exact SoR_bare (h4 j hj)
  · have hw : s.hasW = true := hw
    show Yw (if s.hasW = true then bareX s.wh else zeroX)
    rw [if_pos hw]; exact Yw_bare (h.wh hw)
  · have hw : s.hasH = true := hw
    show Yw (if s.hasH = true then bareX s.hv else zeroX)
    rw [if_pos hw]; exact Yw_bare (h.hv hw)
  · obtain ⟨j, hj, rfl⟩ := List.mem_map.1 hx
    exact Yw_bare (h.group.2 j hj)
theorem QuR_bare {q : Q} (h : QuR Yw q) : QuR Yw (bareQ q) := by
  obtain ⟨p1, p2, p3⟩ := h.parts
  refine ⟨⟨by simpa [bareQ] using p1, by show (q.parts.map bareSe).length ≤ 4; rw [List.length_map]; exact p2, fun s hs => ?_⟩, ⟨by show q.ops.length + 1 = (q.parts.map bareSe).length; rw [List.length_map]; exact h.ops.1, h.ops.2⟩, fun h0 => ?_⟩
  · obtain ⟨j, hj, rfl⟩ := List.mem_map.1 hs
    exact SeR_bare (p3 j hj)
  · have h0' : 0 ≤ q.limit := by
      by_cases h1 : 0 ≤ q.limit
      · exact h1
      · have : (bareQ q).limit = -1 := by show (if 0 ≤ q.limit then q.limit else -1) = -1; rw [if_neg h1]
        omega
    have e1 : (bareQ q).limit = q.limit := by show (if 0 ≤ q.limit then q.limit else -1) = _; rw [if_pos h0']
    have e2 : (bareQ q).order = q.order.map bareX := by show (if 0 ≤ q.limit then q.order.map bareX else []) = _; rw [if_pos h0']
    obtain ⟨l1, l2, l3, l4⟩ := h.lim h0'
    rw [e1, e2]
    refine ⟨l1, by simpa using l2, by rw [List.length_map]; exact l3, fun x hx => ?_⟩
    obtain ⟨j, hj, rfl⟩ := List.mem_map.1 hx
    exact Yw_bare (l4 j hj)
theorem StR_bare {s : Stm} (h : StR Yw s) : StR Yw (bareS s) := by
  obtain ⟨k, name, cols, q, rows, hasW, wh⟩ := s
  obtain ⟨hk, hn, hcols, hq, hrows, hwh⟩ := h
  simp only at hk hn hcols hq hrows hwh
  have : k = 1 ∨ k = 2 ∨ k = 3 ∨ k = 4 ∨ k = 5 := by omega
  rcases this with rfl | rfl | rfl | rfl | rfl
  · exact ⟨show (1 : Int) ≤ 1 ∧ (1 : Int) ≤ 5 by decide, fun _ => hn (by decide), fun _ => hcols rfl, fun h => absurd h (show ¬ ((1 : Int) = 2 ∨ (1 : Int) = 5) by decide), fun h => absurd h (show ¬ (1 : Int) = 3 by decide), fun h => absurd h (show ¬ (1 : Int) = 4 by decide)⟩
  · exact ⟨show (1 : Int) ≤ 2 ∧ (2 : Int) ≤ 5 by decide, fun _ => hn (by decide), fun h => absurd h (show ¬ (2 : Int) = 1 by decide), fun _ => QuR_bare (hq (.inl rfl)), fun h => absurd h (show ¬ (2 : Int) = 3 by decide), fun h => absurd h (show ¬ (2 : Int) = 4 by decide)⟩
  · refine ⟨show (1 : Int) ≤ 3 ∧ (3 : Int) ≤ 5 by decide, fun _ => hn (by decide), fun h => absurd h (show ¬ (3 : Int) = 1 by decide), fun h => absurd h (show ¬ ((3 : Int) = 2 ∨ (3 : Int) = 5) by decide), fun _ => ?_, fun h => absurd h (show ¬ (3 : Int) = 4 by decide)⟩
    obtain ⟨r1, r2, r3⟩ := hrows rfl
    show rows.map (·.map bareV) ≠ [] ∧ (rows.map (·.map bareV)).length ≤ 400 ∧ ∀ r ∈ rows.map (·.map bareV), _
    refine ⟨by simpa using r1, by rw [List.length_map]; exact r2, fun r hr => ?_⟩
    obtain ⟨r', hr', rfl⟩ := List.mem_map.1 hr
    obtain ⟨a1, a2, a3⟩ := r3 r' hr'
    refine ⟨by simpa using a1, by rw [List.length_map]; exact a2, fun v hv => ?_⟩
    obtain ⟨v', hv', rfl⟩ := List.mem_map.1 hv
    rw [wrongV_bare]; exact a3 v' hv'
  · refine ⟨show (1 : Int) ≤ 4 ∧ (4 : Int) ≤ 5 by decide, fun _ => hn (by decide), fun h => absurd h (show ¬ (4 : Int) = 1 by decide), fun h => absurd h (show ¬ ((4 : Int) = 2 ∨ (4 : Int) = 5) by decide), fun h => absurd h (show ¬ (4 : Int) = 3 by decide), fun _ hw => ?_⟩
    have hw : hasW = true := hw
    show Yw (if hasW = true then bareX wh else zeroX)
    rw [if_pos hw]; exact Yw_bare (hwh rfl hw)
  · exact ⟨show (1 : Int) ≤ 5 ∧ (5 : Int) ≤ 5 by decide, fun h => (h rfl).elim, fun h => absurd h (show ¬ (5 : Int) = 1 by decide), fun _ => QuR_bare (hq (.inr rfl)), fun h => absurd h (show ¬ (5 : Int) = 3 by decide), fun h => absurd h (show ¬ (5 : Int) = 4 by decide)⟩
theorem wrongL_zero : ∀ {l : List Stm} (i : Nat), (∀ s ∈ l, stmtW s = 0) → wrongL i l = (0, 0)
  | [], i, _ => rfl
  | s :: l, i, h => by
    rw [wrongL, if_neg (by rw [h s (List.mem_cons_self ..)]; decide)]
    exact wrongL_zero (i + 1) fun s hs => h s (List.mem_cons_of_mem _ hs)
theorem wrongS_bare {l : List Stm} (h : (wrongS l).1 = 0) : wrongS (l.map bareS) = (0, 0) := by
  obtain ⟨h1, h2⟩ := wrongS_ok h
  unfold wrongS
  rw [List.length_map, if_neg (by omega)]
  refine wrongL_zero 0 fun s hs => ?_
  obtain ⟨j, hj, rfl⟩ := List.mem_map.1 hs
  exact stmtW_iff.2 (StR_bare (stmtW_iff.1 (h2 j hj)))
end Go.Proofs.YtoainkbcfnlkcaaGreatDoor

namespace Go.Proofs.YtoainkbcfnlkcaaGreatDoor
open Go Vc
set_option linter.unusedSimpArgs false
set_option linter.unusedVariables false
set_option maxRecDepth 10000

/-! ### all words are read as words -/
def Gd (ws : List Bs) : Prop := ∀ w ∈ ws, GoodW w
theorem Gd_nil : Gd [] := fun _ h => by cases h
theorem Gd_cons {w : Bs} {l : List Bs} (h : GoodW w) (hl : Gd l) : Gd (w :: l) := fun u hu => by
  rcases List.mem_cons.1 hu with rfl | hu
  · exact h
  · exact hl u hu
theorem Gd_app {a b : List Bs} (ha : Gd a) (hb : Gd b) : Gd (a ++ b) := fun u hu => by
  rcases List.mem_append.1 hu with hu | hu
  · exact ha u hu
  · exact hb u hu
def gw : Bs → Bool
  | [] => false
  | c :: l => (letterB c.toNat && (c :: l).all wordC) || signsL.contains (c :: l)
theorem gw_ok {w : Bs} (h : gw w = true) : GoodW w := by
  cases w with
  | nil => cases h
  | cons c l =>
    unfold gw at h
    rw [Bool.or_eq_true, Bool.and_eq_true] at h
    rcases h with ⟨h1, h2⟩ | h
    · exact good_word h1 h2
    · exact good_sign (List.contains_iff_mem.1 h)
theorem Gd_all {l : List Bs} (h : l.all gw = true) : Gd l := fun w hw => gw_ok (List.all_eq_true.1 h w hw)
theorem Gd_val {v : V} (h : wrongV v = 0) : Gd (valP v) := by
  obtain ⟨k, n, t⟩ := v
  unfold wrongV at h
  unfold valP
  simp only at h ⊢
  by_cases h1 : k = 1
  · rw [if_pos h1]; exact Gd_all (by decide)
  rw [if_neg h1] at h ⊢
  by_cases h2 : k = 2
  · rw [if_pos h2]
    split
    · exact Gd_all (by decide)
    · exact Gd_all (by decide)
  rw [if_neg h2] at h ⊢
  by_cases h4 : k = 4
  · subst h4
    rw [if_pos rfl, escM_eq]
    rw [if_neg (by decide), if_pos rfl] at h
    refine Gd_cons (good_text ?_) Gd_nil
    by_cases hh : t.length > 60
    · rw [if_pos hh] at h; cases h
    · omega
  rw [if_neg h4]
  by_cases h3 : k = 3
  · subst h3
    rw [if_pos rfl] at h ⊢
    have hr : n ≤ 1000000000000000 ∧ -1000000000000000 ≤ n := by
      by_cases hh : n > 1000000000000000 ∨ n < -1000000000000000
      · rw [if_pos hh] at h; cases h
      · omega
    rw [trim_itoa]
    refine Gd_app ?_ (Gd_cons (good_digits (by omega)) Gd_nil)
    split
    · exact Gd_all (by decide)
    · exact Gd_nil
  · rw [if_neg h3]; exact Gd_nil
theorem Gd_comW {α : Type} {P : α → List Bs} : ∀ (l : List α) (b : Bool), (∀ a ∈ l, Gd (P a)) → Gd (comW P b l)
  | [], b, _ => Gd_nil
  | a :: l, b, h => by
    rw [comW]
    refine Gd_app ?_ (Gd_app (h a (List.mem_cons_self ..)) (Gd_comW l false fun a ha => h a (List.mem_cons_of_mem _ ha)))
    split
    · exact Gd_nil
    · exact Gd_all (by decide)
theorem Gd_expr : ∀ (sz : Nat) (x : X), SizeOf.sizeOf x ≤ sz → OkY x → ∀ (need : Int), Gd (exprP x need) := by
  intro sz
  induction sz with
  | zero => intro x hx; cases x; simp at hx
  | succ sz ih =>
    intro x hx hok need
    obtain ⟨k, v, tab, name, kids⟩ := x
    rw [OkY] at hok
    obtain ⟨hl, h0, hv, hn, hks⟩ := hok
    have ihk : ∀ y ∈ kids, ∀ (need : Int), Gd (exprP y need) := by
      intro y hy need
      refine ih y ?_ (OkYs_mem hks y hy) need
      have := List.sizeOf_lt_of_mem hy
      simp at hx
      omega
    have hbody : Gd (bodyP k v tab name (kidsP kids)) := by
      rw [kidsP_map]
      unfold bodyP
      by_cases k1 : k = 1
      · rw [if_pos k1]; exact Gd_val (hv k1)
      rw [if_neg k1]
      by_cases k2 : k = 2
      · rw [if_pos k2]
        obtain ⟨hn1, hn2⟩ := hn k2
        refine Gd_app ?_ (Gd_cons (good_name hn1) Gd_nil)
        by_cases ht : tab = []
        · rw [if_pos ht]; exact Gd_nil
        · rw [if_neg ht]; exact Gd_cons (good_name (hn2.resolve_left ht)) (Gd_all (by decide))
      rw [if_neg k2]
      have hget : ∀ (i : Nat) (need : Int), Gd ((kids.map exprP).getD i (fun _ => []) need) := by
        intro i need
        rw [List.getD_eq_getElem?_getD, List.getElem?_map]
        cases hi : kids[i]? with
        | none => exact Gd_nil
        | some y => exact ihk y (List.mem_of_getElem? hi) need
      by_cases k3 : k = 3
      · rw [if_pos k3]; exact Gd_cons (gw_ok (by decide)) (hget 0 3)
      rw [if_neg k3]
      by_cases k16 : k = 16
      · rw [if_pos k16]; exact Gd_app (hget 0 5) (Gd_all (by decide))
      rw [if_neg k16]
      by_cases k17 : k = 17
      · rw [if_pos k17]
        exact Gd_app (Gd_all (by decide)) (Gd_app (hget 0 1) (Gd_cons (gw_ok (by decide)) (Gd_app (hget 1 1) (Gd_cons (gw_ok (by decide)) (Gd_app (hget 2 1) (Gd_all (by decide)))))))
      rw [if_neg k17]
      by_cases k19 : k = 19
      · rw [if_pos k19]; exact Gd_all (by decide)
      rw [if_neg k19]
      by_cases k18 : k = 18 ∨ (20 ≤ k ∧ k ≤ 23)
      · rw [if_pos k18]
        refine Gd_app (Gd_cons ?_ (Gd_all (by decide))) (Gd_app ?_ (Gd_all (by decide)))
        · have : k = 18 ∨ k = 20 ∨ k = 21 ∨ k = 22 ∨ k = 23 := by omega
          rcases this with rfl | rfl | rfl | rfl | rfl <;> exact gw_ok (by decide)
        · unfold comP
          rw [comL_comW]
          exact Gd_comW _ _ fun y hy => ihk y hy 1
      rw [if_neg k18]
      have hk := kinds_of h0
      obtain ⟨n, j, sg, hop⟩ := opK_of (k := k) (by omega)
      refine Gd_app (hget 0 _) (Gd_cons ?_ (hget 1 _))
      have : k = 4 ∨ k = 5 ∨ k = 6 ∨ k = 7 ∨ k = 8 ∨ k = 9 ∨ k = 10 ∨ k = 11 ∨ k = 12 ∨ k = 13 ∨ k = 14 ∨ k = 15 := by omega
      rcases this with rfl | rfl | rfl | rfl | rfl | rfl | rfl | rfl | rfl | rfl | rfl | rfl <;> exact gw_ok (by decide)
    rw [exprP]
    split
    · exact Gd_cons (gw_ok (by decide)) (Gd_app hbody (Gd_all (by decide)))
    · exact hbody
theorem Gd_X {x : X} (h : Yw x) (need : Int) : Gd (exprP x need) := Gd_expr _ x (Nat.le_refl _) (exprW_oky h).1 need
theorem Gd_as {a : Bs} (h : givenW a = 0) : Gd (asP a) := by
  unfold asP
  rcases given_ok h with rfl | ⟨h1, h2⟩
  · exact Gd_nil
  · rw [if_neg h1]; exact Gd_cons (gw_ok (by decide)) (Gd_cons (good_name h2) Gd_nil)
theorem Gd_where {f : Bool} {w : Bs} {x : X} (hw : gw w = true) (h : f = true → Yw x) : Gd (whereP f w x) := by
  cases f with
  | false => exact Gd_nil
  | true => exact Gd_app (Gd_cons (gw_ok hw) Gd_nil) (Gd_X (h rfl) 1)
theorem Gd_src {f : Bool} {s : So} (h : SoR Yw f s) : Gd (srcP f s) := by
  unfold srcP
  refine Gd_app ?_ (Gd_app (Gd_cons (good_name h.name) Gd_nil) (Gd_app (Gd_as h.asg) ?_))
  · unfold joinWd
    split
    · exact Gd_all (by decide)
    split
    · exact Gd_all (by decide)
    split
    · exact Gd_all (by decide)
    split
    · exact Gd_all (by decide)
    · exact Gd_all (by decide)
  · cases f with
    | true => exact Gd_nil
    | false => exact Gd_app (Gd_all (by decide)) (Gd_X (h.k2 rfl).2.2 1)
theorem Gd_srcs : ∀ {l : List So}, (∀ s ∈ l, SoR Yw false s) → Gd (srcsP false l)
  | [], _ => Gd_nil
  | s :: l, h => Gd_app (Gd_src (h s (List.mem_cons_self ..))) (Gd_srcs fun s hs => h s (List.mem_cons_of_mem _ hs))
theorem Gd_sel {s : Se} (h : SeR Yw s) : Gd (selP s) := by
  obtain ⟨f, l, h1, h2, _, h4⟩ := h.src
  unfold selP
  refine Gd_app (Gd_all (by decide)) (Gd_app ?_ (Gd_app ?_ (Gd_app ?_ (Gd_app ?_ (Gd_app (Gd_where (by decide) h.wh) (Gd_app ?_ (Gd_where (by decide) h.hv)))))))
  · split
    · exact Gd_all (by decide)
    · exact Gd_nil
  · split
    · exact Gd_all (by decide)
    · exact Gd_nil
  · split
    · exact Gd_nil
    · rename_i hst
      obtain ⟨_, _, i3⟩ := h.items (by simpa using hst)
      rw [itemsP_comW]
      exact Gd_comW _ _ fun i hi => Gd_app (Gd_X (i3 i hi).1 1) (Gd_as (i3 i hi).2)
  · rw [h1]; exact Gd_app (Gd_src h2) (Gd_srcs h4)
  · unfold groupP
    split
    · exact Gd_nil
    · unfold comP
      rw [comL_comW]
      exact Gd_app (Gd_all (by decide)) (Gd_comW _ _ fun x hx => Gd_X (h.group.2 x hx) 1)
theorem Gd_parts {ops : List Int} : ∀ {l : List Se} {i : Nat}, (∀ s ∈ l, SeR Yw s) → Gd (partsP ops i l)
  | [], _, _ => Gd_nil
  | s :: l, i, h => by
    rw [partsP]
    refine Gd_app ?_ (Gd_app (Gd_sel (h s (List.mem_cons_self ..))) (Gd_parts fun s hs => h s (List.mem_cons_of_mem _ hs)))
    split
    · exact Gd_nil
    · unfold setWd
      split
      · exact Gd_all (by decide)
      split
      · exact Gd_all (by decide)
      split
      · exact Gd_all (by decide)
      · exact Gd_all (by decide)
theorem Gd_query {q : Q} (h : QuR Yw q) : Gd (queryP q) := by
  unfold queryP limP
  refine Gd_app (Gd_parts h.parts.2.2) ?_
  split
  · rename_i h0
    obtain ⟨l1, _, _, l4⟩ := h.lim h0
    unfold comP
    rw [comL_comW]
    exact Gd_app (Gd_all (by decide)) (Gd_app (Gd_comW _ _ fun x hx => Gd_X (l4 x hx) 1) (Gd_cons (gw_ok (by decide)) (Gd_cons (good_digits (by omega)) Gd_nil)))
  · exact Gd_nil
theorem Gd_stmt {s : Stm} (h : StR Yw s) : Gd (stmtP s) := by
  unfold stmtP bodyS
  refine Gd_app ?_ (Gd_all (by decide))
  split
  · rename_i h1
    obtain ⟨_, _, c3⟩ := h.cols h1
    rw [colsP_comW]
    refine Gd_app (Gd_cons (gw_ok (by decide)) (Gd_cons (gw_ok (by decide)) (Gd_cons (good_name (h.name (by omega))) (Gd_all (by decide))))) (Gd_app (Gd_comW _ _ fun c hc => Gd_cons (good_name (c3 c hc).1) (Gd_cons ?_ Gd_nil)) (Gd_all (by decide)))
    unfold tyWd
    split
    · exact gw_ok (by decide)
    split
    · exact gw_ok (by decide)
    · exact gw_ok (by decide)
  split
  · rename_i h1
    exact Gd_app (Gd_cons (gw_ok (by decide)) (Gd_cons (gw_ok (by decide)) (Gd_cons (good_name (h.name (by omega))) (Gd_all (by decide))))) (Gd_query (h.q (.inl h1)))
  split
  · rename_i h1
    obtain ⟨_, _, c3⟩ := h.rows h1
    rw [rowsP_comW]
    refine Gd_app (Gd_cons (gw_ok (by decide)) (Gd_cons (gw_ok (by decide)) (Gd_cons (good_name (h.name (by omega))) (Gd_all (by decide))))) (Gd_comW _ _ fun r hr => Gd_app ?_ (Gd_all (by decide)))
    obtain ⟨r1, _, r3⟩ := c3 r hr
    cases r with
    | nil => exact Gd_nil
    | cons v l =>
      rw [rowVP, rowVP_comW]
      exact Gd_app (Gd_all (by decide)) (Gd_app (Gd_val (r3 v (List.mem_cons_self ..))) (Gd_comW _ _ fun v hv => Gd_val (r3 v (List.mem_cons_of_mem _ hv))))
  split
  · rename_i h1
    exact Gd_app (Gd_cons (gw_ok (by decide)) (Gd_cons (gw_ok (by decide)) (Gd_cons (good_name (h.name (by omega))) Gd_nil))) (Gd_where (by decide) (h.wh h1))
  split
  · rename_i h1
    exact Gd_app (Gd_all (by decide)) (Gd_query (h.q (.inr h1)))
  · exact Gd_nil
theorem Gd_stmts : ∀ {l : List Stm}, (∀ s ∈ l, StR Yw s) → Gd (stmtsP l)
  | [], _ => Gd_nil
  | s :: l, h => Gd_app (Gd_stmt (h s (List.mem_cons_self ..))) (Gd_stmts fun s hs => h s (List.mem_cons_of_mem _ hs))
theorem Yw_XR {en : Int} (x : X) (h : Yw x) : XR (exF en) x :=
  ⟨exF_rt h, head_expr _ x (Nat.le_refl _) (exprW_oky h).1 1 sStar (.inl (.inl rfl)), head_expr _ x (Nat.le_refl _) (exprW_oky h).1 1 wDistinct (.inl (.inr rfl))⟩
/-- WHAT IS WRITTEN IS READ. -/
theorem read_put {l : List Stm} (hw : (wrongS l).1 = 0) (hl : (putM [] (stmtsP l)).length ≤ 4000) : readM (putM [] (stmtsP l)) = (l.map bareS, 0, 0) := by
  obtain ⟨h1, h2⟩ := wrongS_ok hw
  have h3 : ∀ s ∈ l, StR Yw s := fun s hs => stmtW_iff.1 (h2 s hs)
  obtain ⟨ts, ht, hk⟩ := tokens_put (Gd_stmts h3) hl
  unfold readM
  rw [ht]
  simp only
  rw [stmts_rt l 60 h1 (fun s hs => (h3 s hs).mono fun x hx => Yw_XR x hx) ts hk]
  simp only
  rw [wrongS_bare hw]
  simp
theorem read_print {l : List Stm} (h : (printM l).2.1 = 0) : (wrongS l).1 = 0 ∧ printM l = (putM [] (stmtsP l), 0, 0) ∧ readM (printM l).1 = (l.map bareS, 0, 0) := by
  unfold printM at h ⊢
  split at h
  · rename_i h1; exact (h1 h).elim
  rename_i h1
  have h1 : (wrongS l).1 = 0 := Classical.byContradiction h1
  split at h
  · cases h
  rename_i h2
  rw [if_neg (by rw [h1]; decide), if_neg h2]
  exact ⟨h1, rfl, read_put h1 (by omega)⟩
end Go.Proofs.YtoainkbcfnlkcaaGreatDoor

namespace Go.Proofs.YtoainkbcfnlkcaaGreatDoor
open Go Vc
set_option linter.unusedSimpArgs false
set_option linter.unusedVariables false
set_option maxRecDepth 10000

/-! ### what is bare is written the same -/
theorem valP_bare (v : V) : valP (bareV v) = valP v := by
  obtain ⟨k, n, t⟩ := v
  unfold valP bareV
  simp only
  by_cases h1 : k = 1
  · simp [h1]
  by_cases h2 : k = 2
  · simp [h2]
  by_cases h4 : k = 4
  · simp [h4]
  by_cases h3 : k = 3
  · simp [h3]
  simp [h1, h2, h3, h4]
mutual
theorem exprP_bare : ∀ (x : X), exprP (bareX x) = exprP x
  | .mk k v tab name kids => by
    have hk := kidsP_bare kids
    funext need
    rw [bareX, exprP, exprP, hk]
    have hb : bodyP k (if k = 1 then bareV v else ⟨0, 0, []⟩) (if k = 2 then tab else []) (if k = 2 then name else []) (kidsP kids) = bodyP k v tab name (kidsP kids) := by
      unfold bodyP
      by_cases h1 : k = 1
      · rw [if_pos h1, if_pos h1, if_pos h1, valP_bare]
      rw [if_neg h1, if_neg h1]
      by_cases h2 : k = 2
      · rw [if_pos h2, if_pos h2, if_pos h2, if_pos h2]
      rw [if_neg h2, if_neg h2]
    rw [hb]
theorem kidsP_bare : ∀ (l : List X), kidsP (bareXs l) = kidsP l
  | [] => rfl
  | x :: l => by rw [bareXs, kidsP, kidsP, exprP_bare x, kidsP_bare l]
end
theorem exprsP_bare (l : List X) : (l.map bareX).map exprP = l.map exprP := by
  rw [List.map_map]
  exact List.map_congr_left fun x _ => exprP_bare x
theorem itemsP_bare : ∀ (l : List It) (b : Bool), itemsP b (l.map bareIt) = itemsP b l
  | [], b => rfl
  | i :: l, b => by
    rw [List.map_cons, itemsP, itemsP, itemsP_bare l]
    unfold itemP
    show _ ++ ((exprP (bareX i.x) 1 ++ _) ++ _) = _
    rw [exprP_bare]; rfl
theorem srcP_bare (f : Bool) (s : So) : srcP f (bareSo f s) = srcP f s := by
  unfold srcP
  cases f with
  | true => rfl
  | false =>
    show _ ++ (_ ++ (_ ++ ([wOn] ++ exprP (bareX s.on) 1))) = _
    rw [exprP_bare]; rfl
theorem srcsP_bare : ∀ (l : List So), srcsP false (l.map (bareSo false)) = srcsP false l
  | [] => rfl
  | s :: l => by rw [List.map_cons, srcsP, srcsP, srcP_bare, srcsP_bare l]
theorem whereP_bare (f : Bool) (w : Bs) (x : X) : whereP f w (if f = true then bareX x else zeroX) = whereP f w x := by
  cases f with
  | false => rfl
  | true =>
    show [w] ++ exprP (bareX x) 1 = _
    rw [exprP_bare]; rfl
theorem selP_bare (s : Se) : selP (bareSe s) = selP s := by
  unfold selP
  have h1 : (if (bareSe s).star = true then [] else itemsP true (bareSe s).items) = (if s.star = true then [] else itemsP true s.items) := by
    show (if s.star = true then [] else itemsP true (if s.star = true then [] else s.items.map bareIt)) = _
    cases s.star
    · exact itemsP_bare _ _
    · rfl
  have h2 : srcsP true (bareSe s).src = srcsP true s.src := by
    unfold bareSe
    cases s.src with
    | nil => rfl
    | cons f l => simp only; rw [srcsP, srcsP, srcP_bare, srcsP_bare]
  have h3 : whereP (bareSe s).hasW wWhere (bareSe s).wh = whereP s.hasW wWhere s.wh := whereP_bare _ _ _
  have h4 : whereP (bareSe s).hasH wHaving (bareSe s).hv = whereP s.hasH wHaving s.hv := whereP_bare _ _ _
  have h5 : groupP (bareSe s).group = groupP s.group := by
    unfold groupP
    show (if s.group.map bareX = [] then [] else [wGroup, wBy] ++ comP ((s.group.map bareX).map exprP)) = _
    rw [exprsP_bare]
    cases s.group <;> rfl
  rw [h1, h2, h3, h4, h5]
  rfl
theorem partsP_bare (ops : List Int) : ∀ (l : List Se) (i : Nat), partsP ops i (l.map bareSe) = partsP ops i l
  | [], i => rfl
  | s :: l, i => by rw [List.map_cons, partsP, partsP, selP_bare, partsP_bare ops l]
theorem queryP_bare (q : Q) : queryP (bareQ q) = queryP q := by
  unfold queryP limP
  have h1 : partsP (bareQ q).ops 0 (bareQ q).parts = partsP q.ops 0 q.parts := partsP_bare _ _ _
  rw [h1]
  by_cases h0 : 0 ≤ q.limit
  · have e1 : (bareQ q).limit = q.limit := by show (if 0 ≤ q.limit then q.limit else -1) = _; rw [if_pos h0]
    have e2 : (bareQ q).order = q.order.map bareX := by show (if 0 ≤ q.limit then q.order.map bareX else []) = _; rw [if_pos h0]
    rw [e1, e2, exprsP_bare]
  · have e1 : (bareQ q).limit = -1 := by show (if 0 ≤ q.limit then q.limit else -1) = -1; rw [if_neg h0]
    rw [e1, if_neg h0, if_neg (by decide)]
theorem rowVP_bare : ∀ (l : List V) (b : Bool), rowVP b (l.map bareV) = rowVP b l
  | [], b => rfl
  | v :: l, b => by rw [List.map_cons, rowVP, rowVP, valP_bare, rowVP_bare l]
theorem rowsP_bare : ∀ (l : List (List V)) (b : Bool), rowsP b (l.map (·.map bareV)) = rowsP b l
  | [], b => rfl
  | v :: l, b => by rw [List.map_cons, rowsP, rowsP, rowVP_bare, rowsP_bare l]
theorem stmtP_bare {s : Stm} (hk : 1 ≤ s.k ∧ s.k ≤ 5) : stmtP (bareS s) = stmtP s := by
  obtain ⟨k, name, cols, q, rows, hasW, wh⟩ := s
  simp only at hk
  have : k = 1 ∨ k = 2 ∨ k = 3 ∨ k = 4 ∨ k = 5 := by omega
  unfold stmtP
  congr 1
  rcases this with rfl | rfl | rfl | rfl | rfl
  · rfl
  · show [wCreate, wView, name, wAs] ++ queryP (bareQ q) = [wCreate, wView, name, wAs] ++ queryP q
    rw [queryP_bare]
  · show [wInsert, wInto, name, wValues] ++ rowsP true (rows.map (·.map bareV)) = [wInsert, wInto, name, wValues] ++ rowsP true rows
    rw [rowsP_bare]
  · show [wDelete, wFrom, name] ++ whereP hasW wWhere (if hasW = true then bareX wh else zeroX) = [wDelete, wFrom, name] ++ whereP hasW wWhere wh
    rw [whereP_bare]
  · show [wShow] ++ queryP (bareQ q) = [wShow] ++ queryP q
    rw [queryP_bare]
theorem stmtsP_bare : ∀ {l : List Stm}, (∀ s ∈ l, stmtW s = 0) → stmtsP (l.map bareS) = stmtsP l
  | [], _ => rfl
  | s :: l, h => by
    rw [List.map_cons, stmtsP, stmtsP, stmtP_bare (stmtW_iff.1 (h s (List.mem_cons_self ..))).k, stmtsP_bare fun s hs => h s (List.mem_cons_of_mem _ hs)]
theorem print_bare {l : List Stm} (h : (printM l).2.1 = 0) : printM (l.map bareS) = printM l := by
  obtain ⟨h1, h2, _⟩ := read_print h
  rw [h2]
  unfold printM at h ⊢
  rw [if_neg (by rw [h1]; decide)] at h
  rw [if_neg (by rw [wrongS_bare h1]; decide), stmtsP_bare (wrongS_ok h1).2]
  split at h
  · cases h
  · rename_i h3; rw [if_neg h3]

/-! ### records -/
theorem u8_of (c : UInt8) : UInt8.ofNat c.toNat = c := by simp
theorem hdr_size {t : Bs} (h : t.length ≤ 4000) : (UInt8.ofNat (t.length / 256)).toNat * 256 + (UInt8.ofNat t.length).toNat = t.length := by
  simp only [UInt8.toNat_ofNat']
  omega
theorem szM_pack {t rest : Bs} (h : t.length ≤ 4000) : szM (packM t ++ rest) = t.length := by
  unfold szM packM hdrM
  exact hdr_size h
theorem pack_take (t rest : Bs) : (packM t ++ rest).take (t.length + 2) = hdrM t.length ++ t := by
  unfold packM
  rw [List.append_assoc, List.take_append_of_le_length (by simp [hdrM])]
  rw [List.take_of_length_le (by simp [hdrM])]
theorem tail_get (t rest : Bs) (i : Nat) (hi : i < 2) : (packM t ++ rest).getD (t.length + 2 + i) 0 = (tailM (crcM (hdrM t.length ++ t))).getD i 0 := by
  have hl : (hdrM t.length ++ t).length = t.length + 2 := by simp [hdrM]
  have hl2 : (tailM (crcM (hdrM t.length ++ t))).length = 2 := rfl
  unfold packM
  rw [List.getD_eq_getElem?_getD, List.getD_eq_getElem?_getD, List.append_assoc, List.getElem?_append_right (by omega), List.getElem?_append_left (by omega)]
  congr 2
  omega
theorem crc_back (c : BitVec 16) : (BitVec.ofNat 16 (UInt8.ofNat (c >>> 8).toNat).toNat <<< 8) ||| BitVec.ofNat 16 (UInt8.ofNat c.toNat).toNat = c := by
  apply BitVec.eq_of_getLsbD_eq
  intro i hi
  have e1 : (UInt8.ofNat (c >>> 8).toNat).toNat = (c >>> 8).toNat := by
    rw [UInt8.toNat_ofNat', BitVec.toNat_ushiftRight, Nat.shiftRight_eq_div_pow]
    have := c.isLt
    omega
  have e2 : (UInt8.ofNat c.toNat).toNat = c.toNat % 256 := by rw [UInt8.toNat_ofNat']
  rw [e1, e2]
  simp only [BitVec.getLsbD_or, BitVec.getLsbD_shiftLeft, BitVec.ofNat_toNat, BitVec.getLsbD_setWidth, BitVec.getLsbD_ushiftRight, BitVec.getLsbD_ofNat]
  by_cases h8 : i < 8
  · have : (c.toNat % 256).testBit i = c.getLsbD i := by
      rw [show 256 = 2 ^ 8 from rfl, Nat.testBit_mod_two_pow]
      simp [h8, BitVec.getLsbD]
    rw [this]
    simp [h8, hi]
  · have : (c.toNat % 256).testBit i = false := by
      rw [show 256 = 2 ^ 8 from rfl, Nat.testBit_mod_two_pow]
      simp [h8]
    rw [this]
    have e : 8 + (i - 8) = i := by omega
    simp [h8, hi, e]
    intro _
    omega
theorem first_pack {s : Stm} (h : (printM [s]).2.1 = 0) (rest : Bs) : firstM (packM (printM [s]).1 ++ rest) = some (bareS s, (packM (printM [s]).1).length) := by
  have hle := printM_le [s]
  obtain ⟨h1, h2, h3⟩ := read_print h
  have h4 := print_bare h
  obtain ⟨t, ht⟩ : ∃ t, t = (printM [s]).1 := ⟨_, rfl⟩
  rw [← ht] at hle h3 ⊢
  have hsz := szM_pack (t := t) (rest := rest) hle
  have hpl := packM_len t
  have htx : txM (packM t ++ rest) = t := by
    unfold txM
    rw [hsz, pack_take]
    rfl
  have hcr : crM (packM t ++ rest) (t.length + 2) = crcM (hdrM t.length ++ t) := by
    unfold crM
    have e0 := tail_get t rest 0 (by omega)
    have e1 := tail_get t rest 1 (by omega)
    rw [Nat.add_zero] at e0
    rw [e0, e1]
    exact crc_back _
  unfold firstM
  rw [List.length_append, hpl, if_neg (by omega), hsz, if_neg (by omega), pack_take, hcr, if_neg (by simp), htx, h3]
  have h5 : printM [bareS s] = printM [s] := h4
  simp only [List.map_cons, List.map_nil]
  rw [if_neg (by simp), h5, ← ht, if_neg (by rw [h]; simp)]
theorem first_short {t : Bs} (ht : t.length ≤ 4000) {k : Nat} (hk : k < (packM t).length) : firstM ((packM t).take k) = none := by
  have hpl := packM_len t
  have hl : ((packM t).take k).length = k := by rw [List.length_take]; omega
  unfold firstM
  rw [hl]
  by_cases h4 : k < 4
  · rw [if_pos h4]
  rw [if_neg h4]
  have hsz : szM ((packM t).take k) = t.length := by
    have h0 := szM_pack (t := t) (rest := []) ht
    rw [List.append_nil] at h0
    rw [← h0]
    unfold szM
    rw [List.getD_eq_getElem?_getD, List.getD_eq_getElem?_getD, List.getD_eq_getElem?_getD, List.getD_eq_getElem?_getD, List.getElem?_take_of_lt (by omega), List.getElem?_take_of_lt (by omega)]
  rw [hsz, if_pos (by omega)]
/-- records, one behind the other -/
def packs (l : List Stm) : Bs := l.flatMap fun s => packM (printM [s]).1
theorem record_ok {s : Stm} (h : (recordM s).2 = 0) : (printM [s]).2.1 = 0 ∧ recordM s = (packM (printM [s]).1, 0) := by
  unfold recordM at h ⊢
  split at h
  · rename_i h1; exact (h1 h).elim
  · rename_i h1
    rw [if_neg h1]
    exact ⟨Classical.byContradiction h1, rfl⟩
theorem bytesL_ok : ∀ {l : List Stm} {i : Nat} {acc : Bs}, (bytesL i acc l).2.1 = 0 → (∀ s ∈ l, (printM [s]).2.1 = 0) ∧ bytesL i acc l = (acc ++ packs l, 0, 0) ∧ (l ≠ [] → (acc ++ packs l).length ≤ 100000)
  | [], i, acc, _ => ⟨fun s h => by (cases h), by simp [bytesL, packs], fun h => (h rfl).elim⟩
  | s :: l, i, acc, h => by
    rw [bytesL] at h ⊢
    split at h
    · rename_i h1; exact (h1 h).elim
    rename_i h1
    split at h
    · cases h
    rename_i h2
    obtain ⟨h3, h4⟩ := record_ok (Classical.byContradiction h1)
    obtain ⟨h5, h6, h7⟩ := bytesL_ok h
    have e : packs (s :: l) = packM (printM [s]).1 ++ packs l := rfl
    rw [if_neg h1, if_neg h2, h6]
    rw [h4] at h2 h7 ⊢
    rw [e]
    refine ⟨fun s' hs' => ?_, by simp, fun _ => ?_⟩
    · rcases List.mem_cons.1 hs' with rfl | hs'
      · exact h3
      · exact h5 s' hs'
    · cases l with
      | nil => simp [packs] at h2 ⊢; omega
      | cons a l => have := h7 (by simp); simpa using this
theorem bytesM_ok {l : List Stm} (h : (bytesM l).2.1 = 0) : (∀ s ∈ l, (printM [s]).2.1 = 0) ∧ bytesM l = (packs l, 0, 0) ∧ (packs l).length ≤ 100000 := by
  obtain ⟨h1, h2, h3⟩ := bytesL_ok h
  refine ⟨h1, by simpa [bytesM] using h2, ?_⟩
  cases l with
  | nil => simp [packs]
  | cons a l => simpa using h3 (by simp)
theorem bytesL_of : ∀ {l : List Stm} {i : Nat} {acc : Bs}, (∀ s ∈ l, (printM [s]).2.1 = 0) → (acc ++ packs l).length ≤ 100000 → bytesL i acc l = (acc ++ packs l, 0, 0)
  | [], i, acc, _, _ => by simp [bytesL, packs]
  | s :: l, i, acc, h, hl => by
    have h1 := h s (List.mem_cons_self ..)
    have e : packs (s :: l) = packM (printM [s]).1 ++ packs l := rfl
    have hr : recordM s = (packM (printM [s]).1, 0) := by
      unfold recordM; rw [if_neg (by rw [h1]; decide)]
    rw [e] at hl ⊢
    simp only [List.length_append] at hl
    rw [bytesL, hr, if_neg (show ¬ (0 : Int) ≠ 0 by decide), if_neg (by simp only [List.length_append]; omega), bytesL_of (fun s hs => h s (List.mem_cons_of_mem _ hs)) (by simp only [List.length_append]; omega)]
    simp
theorem bytesM_of {l : List Stm} (h : ∀ s ∈ l, (printM [s]).2.1 = 0) (hl : (packs l).length ≤ 100000) : bytesM l = (packs l, 0, 0) := by
  have := bytesL_of (i := 0) (acc := []) h (by simpa using hl)
  simpa [bytesM] using this
theorem recL_nil (f : Nat) : recL f [] = ([], 0) := by
  cases f with
  | zero => rfl
  | succ f => rw [recL]; rfl
theorem packs_len : ∀ (l : List Stm), 4 * l.length ≤ (packs l).length
  | [] => by simp
  | s :: l => by
    have e2 : (packs (s :: l)).length = (packM (printM [s]).1).length + (packs l).length := by simp [packs]
    have := packs_len l
    have := packM_len (printM [s]).1
    rw [e2, List.length_cons]; omega
theorem take_two {b : Bs} {k : Nat} (h : k + 2 ≤ b.length) : b.take (k + 2) = b.take k ++ [b.getD k 0, b.getD (k + 1) 0] := by
  rw [List.getD_eq_getElem?_getD, List.getD_eq_getElem?_getD, List.getElem?_eq_getElem (by omega), List.getElem?_eq_getElem (by omega)]
  rw [show k + 2 = k + 1 + 1 from rfl, List.take_succ_eq_append_getElem (by omega), List.take_succ_eq_append_getElem (by omega), List.append_assoc]
  rfl
theorem crM_tail (b : Bs) (k : Nat) : tailM (crM b k) = [b.getD k 0, b.getD (k + 1) 0] := by
  obtain ⟨x, hx⟩ : ∃ x, x = b.getD k 0 := ⟨_, rfl⟩
  obtain ⟨y, hy⟩ : ∃ y, y = b.getD (k + 1) 0 := ⟨_, rfl⟩
  unfold tailM crM
  rw [← hx, ← hy]
  have hx' := x.toNat_lt
  have hy' := y.toNat_lt
  have e : ((BitVec.ofNat 16 x.toNat <<< 8) ||| BitVec.ofNat 16 y.toNat).toNat = x.toNat * 256 + y.toNat := by
    rw [BitVec.toNat_or, BitVec.toNat_shiftLeft, BitVec.toNat_ofNat, BitVec.toNat_ofNat, Nat.shiftLeft_eq, Nat.mod_eq_of_lt (by omega), Nat.mod_eq_of_lt (by omega), Nat.mod_eq_of_lt (by omega)]
    rw [show x.toNat * 2 ^ 8 = 2 ^ 8 * x.toNat by omega, ← Nat.two_pow_add_eq_or_of_lt (by omega)]
  have e1 : (((BitVec.ofNat 16 x.toNat <<< 8) ||| BitVec.ofNat 16 y.toNat) >>> 8).toNat = x.toNat := by
    rw [BitVec.toNat_ushiftRight, e, Nat.shiftRight_eq_div_pow]; omega
  rw [e, e1]
  congr 1
  · exact u8_of x
  · congr 1
    apply UInt8.toNat_inj.1
    rw [UInt8.toNat_ofNat']; omega
theorem first_sound {b : Bs} {s : Stm} {n : Nat} (h : firstM b = some (s, n)) : (printM [s]).2.1 = 0 ∧ b.take n = packM (printM [s]).1 ∧ n ≤ b.length := by
  unfold firstM at h
  split at h
  · cases h
  rename_i h1
  split at h
  · cases h
  rename_i h2
  split at h
  · cases h
  rename_i h3
  split at h
  · cases h
  rename_i h4
  split at h
  · rename_i s' hs'
    split at h
    · cases h
    rename_i h5
    injection h with h
    injection h with e1 e2
    subst e1 e2
    have h6 : (printM [s']).2.1 = 0 := Classical.byContradiction fun hc => h5 (.inl hc)
    have h7 : (printM [s']).1 = txM b := Classical.byContradiction fun hc => h5 (.inr hc)
    refine ⟨h6, ?_, by omega⟩
    have htl : (txM b).length = szM b := by unfold txM; rw [List.length_drop, List.length_take]; omega
    have h3' : crcM (b.take (szM b + 2)) = crM b (szM b + 2) := Classical.byContradiction h3
    have hh : hdrM (szM b) ++ txM b = b.take (szM b + 2) := by
      have e0 : b.take 2 = hdrM (szM b) := by
        have := take_two (b := b) (k := 0) (by omega)
        simp only [Nat.zero_add, List.take_zero, List.nil_append] at this
        rw [this]
        unfold hdrM szM
        have hx' := (b.getD 0 0).toNat_lt
        have hy' := (b.getD 1 0).toNat_lt
        congr 1
        · apply UInt8.toNat_inj.1
          rw [UInt8.toNat_ofNat']; omega
        · congr 1
          apply UInt8.toNat_inj.1
          rw [UInt8.toNat_ofNat']; omega
      have e1 : b.take (szM b + 2) = (b.take (szM b + 2)).take 2 ++ (b.take (szM b + 2)).drop 2 := (List.take_append_drop _ _).symm
      rw [List.take_take, Nat.min_eq_left (by omega), e0] at e1
      exact e1.symm
    rw [h7]
    unfold packM
    rw [htl, hh, h3', crM_tail]
    exact take_two (by omega)
  · cases h
theorem recL_sound : ∀ (f : Nat) (b : Bs), (∀ s ∈ (recL f b).1, (printM [s]).2.1 = 0) ∧ packs (recL f b).1 = b.take (recL f b).2 ∧ (recL f b).2 ≤ b.length
  | 0, b => ⟨fun s h => by (cases h), by simp [recL, packs], by simp [recL]⟩
  | f + 1, b => by
    rw [recL]
    cases h : firstM b with
    | none => exact ⟨fun s h => by (cases h), by simp [packs], by simp⟩
    | some p =>
      obtain ⟨s, n⟩ := p
      obtain ⟨h1, h2, h3⟩ := first_sound h
      obtain ⟨h4, h5, h6⟩ := recL_sound f (b.drop n)
      simp only
      rw [List.length_drop] at h6
      refine ⟨fun s' hs' => ?_, ?_, by omega⟩
      · rcases List.mem_cons.1 hs' with rfl | hs'
        · exact h1
        · exact h4 s' hs'
      · have e : packs (s :: (recL f (b.drop n)).1) = packM (printM [s]).1 ++ packs (recL f (b.drop n)).1 := rfl
        rw [e, h5, ← h2, List.take_add]
/-! a torn end -/
theorem recL_torn : ∀ {l : List Stm} (f at_ : Nat), (∀ s ∈ l, (printM [s]).2.1 = 0) → at_ < f → ∃ k, k ≤ l.length ∧ recL f ((packs l).take at_) = ((l.take k).map bareS, (packs (l.take k)).length) ∧ ((packs (l.take k)).length ≤ at_ ∨ k = l.length) ∧ (∀ s, l[k]? = some s → at_ < (packs (l.take k)).length + (packM (printM [s]).1).length)
  | [], f, at_, _, _ => ⟨0, Nat.le_refl _, by simp [packs, recL_nil], .inr rfl, fun s h => by simp at h⟩
  | s :: l, f, at_, h, hf => by
    obtain ⟨f, rfl⟩ : ∃ g, f = g + 1 := ⟨f - 1, by omega⟩
    have h1 := h s (List.mem_cons_self ..)
    have e : packs (s :: l) = packM (printM [s]).1 ++ packs l := rfl
    have hp := packM_len (printM [s]).1
    by_cases hat : at_ < (packM (printM [s]).1).length
    · refine ⟨0, Nat.zero_le _, ?_, .inl (by simp [packs]), fun s' hs' => ?_⟩
      · rw [e, List.take_append_of_le_length (by omega), recL, first_short (printM_le [s]) hat]
        simp [packs]
      · simp at hs'; subst hs'; simpa [packs] using hat
    · obtain ⟨k, hk, h2, h3, h4⟩ := recL_torn (l := l) f (at_ - (packM (printM [s]).1).length) (fun s hs => h s (List.mem_cons_of_mem _ hs)) (by omega)
      have e3 : ((s :: l).take (k + 1)) = s :: l.take k := rfl
      have e4 : packs (s :: l.take k) = packM (printM [s]).1 ++ packs (l.take k) := rfl
      refine ⟨k + 1, by simp; omega, ?_, ?_, fun s' hs' => ?_⟩
      · rw [e, List.take_append, List.take_of_length_le (by omega), recL, first_pack h1]
        simp only
        rw [List.drop_left, h2, e3, e4, List.length_append]
        rfl
      · rw [e3, e4, List.length_append, List.length_cons]
        rcases h3 with h3 | h3
        · left; omega
        · right; omega
      · have := h4 s' (by simpa using hs')
        rw [e3, e4, List.length_append]
        omega
end Go.Proofs.YtoainkbcfnlkcaaGreatDoor

namespace Go.Proofs.YtoainkbcfnlkcaaGreatDoor
open Go Vc
set_option linter.unusedSimpArgs false
set_option linter.unusedVariables false
set_option maxRecDepth 10000

end Go.Proofs.YtoainkbcfnlkcaaGreatDoor

namespace Go.Proofs.YtoainkbcfnlkcaaGreatDoor
open Go Vc
set_option linter.unusedSimpArgs false
set_option linter.unusedVariables false
set_option maxRecDepth 10000

/-! ### what is read is bare -/
def OkR {α : Type} (P : α → Prop) (r : Rs α) : Prop := ∀ a t, r = .ok a t → P a
def BX (x : X) : Prop := bareX x = x
section
variable {en : Int} {ex : List Tk → Rs X} (hx : ∀ t, OkR BX (ex t))
include hx
end
end Go.Proofs.YtoainkbcfnlkcaaGreatDoor


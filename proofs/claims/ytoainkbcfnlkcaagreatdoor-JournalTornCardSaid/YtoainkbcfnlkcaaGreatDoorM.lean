import Derived.Test.YtoainkbcfnlkcaaGreatDoorK
import Derived.Lib.ItoaLen
import Derived.Test.YtoainkbcfnlkcaaGreatDoorV2
set_option linter.all false
namespace Go.Proofs.YtoainkbcfnlkcaaGreatDoor
open Go Vc
set_option linter.unusedSimpArgs false
set_option linter.unusedVariables false
set_option maxRecDepth 10000

/-! ### a quote is doubled -/
def escL : Bs → Bs | [] => [] | c :: l => if c = 39 then 39 :: 39 :: escL l else c :: escL l
theorem replaceK_esc : ∀ (t : Bs), Lib.replaceK [39] [39, 39] (Lib.count t [39]) t = escL t
  | [] => by
    rw [Lib.count_miss (by rw [Lib.index_one]; rfl)]; rfl
  | c :: l => by
    have ih := replaceK_esc l
    by_cases hc : c = 39
    · subst hc
      have hi : Lib.index (39 :: l) [39] = ((0 : Nat) : Int) := by rw [Lib.index_one]; rfl
      rw [Lib.count_hit (by simp) hi, Nat.add_comm, Lib.replaceK_hit _ _ _ _ _ hi]
      simp only [List.take_zero, List.length_cons, List.length_nil, Nat.zero_add, List.drop_succ_cons, List.drop_zero, List.nil_append, ih, escL, if_true]
      rfl
    · have hx : Lib.index (c :: l) [39] = if Lib.index l [39] == -1 then -1 else Lib.index l [39] + 1 := by
        rw [Lib.index_one, Lib.index_one, Lib.indexByte, if_neg (by simpa using hc)]
      rw [escL, if_neg hc]
      by_cases hm : Lib.index l [39] = -1
      · rw [Lib.count_miss hm] at ih
        rw [Lib.count_miss (by rw [hx, hm]; rfl)]
        rw [← ih]; rfl
      · have hge := Lib.index_ge l [39]
        obtain ⟨i, hi⟩ : ∃ i : Nat, Lib.index l [39] = i := ⟨(Lib.index l [39]).toNat, by omega⟩
        have hi' : Lib.index (c :: l) [39] = ((i + 1 : Nat) : Int) := by
          rw [hx, if_neg (by simpa using hm), hi]; rfl
        rw [Lib.count_hit (by simp) hi, Nat.add_comm, Lib.replaceK_hit _ _ _ _ _ hi] at ih
        rw [Lib.count_hit (by simp) hi', Nat.add_comm, Lib.replaceK_hit _ _ _ _ _ hi', ← ih]
        simp only [List.length_cons, List.length_nil, Nat.zero_add, List.drop_succ_cons, List.take_succ_cons, List.cons_append]
theorem escM_eq (t : Bs) : escM t = escL t := by
  unfold escM Lib.replaceAll Lib.replace
  rw [if_neg (by decide)]
  have : Lib.replaceNum t [39] (-1) = Lib.count t [39] := by unfold Lib.replaceNum; rw [if_pos (.inl (by decide))]
  rw [this, replaceK_esc]
theorem escL_le : ∀ t : Bs, (escL t).length ≤ 2 * t.length
  | [] => Nat.le_refl _
  | c :: l => by
    have := escL_le l
    rw [escL]
    split <;> simp only [List.length_cons] <;> omega
/-! ### how long what is written is -/
theorem wLen_cons (s : Bs) (l : List Bs) : wLen (s :: l) = s.length + 1 + wLen l := rfl
theorem valP_le {v : V} (h : wrongV v = 0) : wLen (valP v) ≤ 140 := by
  unfold wrongV at h
  unfold valP
  split
  · decide
  rename_i h1
  rw [if_neg h1] at h
  split
  · split <;> decide
  rename_i h2
  rw [if_neg h2] at h
  split
  · rename_i h4
    rw [if_neg (by omega), if_pos h4] at h
    have ht : v.t.length ≤ 60 := by
      split at h
      · omega
      · omega
    have := escL_le v.t
    rw [escM_eq]
    simp only [wLen, List.length_cons, List.length_append, List.length_nil]
    omega
  rename_i h4
  split
  · rename_i h3
    rw [if_pos h3] at h
    have hn : ¬ (v.n > 1000000000000000 ∨ v.n < -1000000000000000) := by
      intro hh; rw [if_pos hh] at h; omega
    have hi := Lib.itoa_length_le v.n (by omega) (by omega)
    have ht : (Lib.trimPrefix (Lib.itoa v.n) [45]).length ≤ (Lib.itoa v.n).length := by
      unfold Lib.trimPrefix; split <;> simp
    rw [wLen_app]
    have : wLen (if v.n < 0 then [minus] else []) ≤ 2 := by split <;> decide
    simp only [wLen]
    omega
  · simp [wLen]
theorem tightL_le (k : Int) : ∀ (ls : List Lvl) (i : Nat), (∀ l ∈ ls, ∀ s ∈ l.signs, s.length ≤ 8) → (tightL k i ls).2.length ≤ 8
  | [], i, _ => by simp [tightL]
  | l :: ls, i, h => by
    rw [tightL]
    split
    · rw [List.getD_eq_getElem?_getD]
      cases hg : l.signs[(k - l.kind).toNat]? with
      | none => simp
      | some s => exact h l (List.mem_cons_self ..) s (List.mem_of_getElem? hg)
    · exact tightL_le k ls (i + 1) fun l' hl' => h l' (List.mem_cons_of_mem _ hl')
theorem tightM_le (k : Int) : (tightM k).2.length ≤ 8 := by
  unfold tightM
  split
  · decide
  split
  · decide
  · exact tightL_le k levelsL 0 (by decide)
theorem fnW_le (k : Int) : (fnW k).length ≤ 8 := by
  unfold fnW
  split; · decide
  split; · decide
  split; · decide
  split; · decide
  split <;> decide
theorem comL_le {c : Nat} : ∀ (K : List (Int → List Bs)) (f : Bool), (∀ g ∈ K, wLen (g 1) ≤ c) → wLen (comL f K) ≤ K.length * (c + 2)
  | [], f, _ => by simp [comL, wLen]
  | g :: K, f, h => by
    have h1 := h g (List.mem_cons_self ..)
    have h2 := comL_le K false fun g' hg => h g' (List.mem_cons_of_mem _ hg)
    have h3 : wLen (if f = true then [] else [sComma]) ≤ 2 := by split <;> decide
    rw [comL, wLen_app, wLen_app, List.length_cons, Nat.add_mul]
    omega
/-- as much as all kids -/
def sumK : List (Int → List Bs) → Nat → Prop
  | [], n => True
  | f :: l, n => ∃ a b, a + b ≤ n ∧ (∀ i, wLen (f i) ≤ a) ∧ sumK l b
theorem sumK_com : ∀ {K : List (Int → List Bs)} {n : Nat} (f : Bool), sumK K n → wLen (comL f K) ≤ n + 2 * K.length
  | [], n, f, _ => by simp [comL, wLen]
  | g :: K, n, f, ⟨a, b, h1, h2, h3⟩ => by
    have h4 := sumK_com false h3
    have h5 := h2 1
    have h6 : wLen (if f = true then [] else [sComma]) ≤ 2 := by split <;> decide
    rw [comL, wLen_app, wLen_app, List.length_cons]
    omega
theorem bodyP_le {k : Int} {v : V} {tab name : Bs} {K : List (Int → List Bs)} {n : Nat} (hK : sumK K n) (hl : (K.length : Int) = kidsN k) (hv : k = 1 → wrongV v = 0) (hn : k = 2 → name.length ≤ 12 ∧ tab.length ≤ 12) : wLen (bodyP k v tab name K) ≤ n + 150 := by
  have hlen : K.length ≤ 3 := by
    unfold kidsN at hl
    split at hl
    · omega
    split at hl
    · omega
    split at hl
    · omega
    split at hl <;> omega
  have ht := tightM_le k
  have hf := fnW_le k
  have h0 : ∃ a b c : Nat, a + b + c ≤ n ∧ (∀ i, wLen (K.getD 0 (fun _ => []) i) ≤ a) ∧ (∀ i, wLen (K.getD 1 (fun _ => []) i) ≤ b) ∧ (∀ i, wLen (K.getD 2 (fun _ => []) i) ≤ c) := by
    match K, hK with
    | [], _ => exact ⟨0, 0, 0, by omega, by simp [wLen], by simp [wLen], by simp [wLen]⟩
    | [f], ⟨a, b, h1, h2, _⟩ => exact ⟨a, 0, 0, by omega, h2, by simp [wLen], by simp [wLen]⟩
    | [f, g], ⟨a, b, h1, h2, a', b', h3, h4, _⟩ => exact ⟨a, a', 0, by omega, h2, h4, by simp [wLen]⟩
    | f :: g :: i :: l, ⟨a, b, h1, h2, a', b', h3, h4, a'', b'', h5, h6, _⟩ => exact ⟨a, a', a'', by omega, h2, h4, h6⟩
  obtain ⟨a, b, c, habc, ha, hb, hc⟩ := h0
  unfold bodyP
  split
  · rename_i h1
    have := valP_le (hv h1)
    omega
  split
  · rename_i h2
    obtain ⟨hn1, hn2⟩ := hn h2
    have : wLen (if tab = [] then [] else [tab, sDot]) ≤ 30 := by
      split
      · decide
      · simp only [wLen]; have : sDot.length = 1 := rfl; omega
    rw [wLen_app]
    simp only [wLen]
    omega
  split
  · have := ha 3
    rw [wLen_cons]
    have : wNot.length = 3 := rfl
    omega
  split
  · have := ha 5
    rw [wLen_app]
    have : wLen [wIs, wNull] = 8 := rfl
    omega
  split
  · have h1 := ha 1
    have h2 := hb 1
    have h3 := hc 1
    simp only [wLen_app, wLen_cons]
    have : wLen [] = 0 := rfl
    have : wCase.length = 4 := rfl
    have : wWhen.length = 4 := rfl
    have : wThen.length = 4 := rfl
    have : wElse.length = 4 := rfl
    have : wEnd.length = 3 := rfl
    omega
  split
  · have : wLen [wCount, sOpen, sStar, sClose] = 12 := rfl
    omega
  split
  · have := sumK_com true hK
    unfold comP
    simp only [wLen_app, wLen_cons]
    have : wLen [] = 0 := rfl
    have : sOpen.length = 1 := rfl
    have : sClose.length = 1 := rfl
    omega
  · have h1 := ha (if (tightM k).1 = 4 then (tightM k).1 + 1 else (tightM k).1)
    have h2 := hb ((tightM k).1 + 1)
    rw [wLen_app, wLen_cons]
    omega
mutual
theorem exprP_le : ∀ (x : X), OkX x → ∀ i, wLen (exprP x i) ≤ 160 * nodesX x
  | .mk k v tab name kids, h, i => by
    rw [OkX] at h
    obtain ⟨h1, h2, h3, h4, h5⟩ := h
    have h6 := kidsP_le kids h5
    have h7 := bodyP_le (k := k) (v := v) (tab := tab) (name := name) h6 (by rw [kidsP_map, List.length_map]; exact h1) h3 h4
    rw [exprP, nodesX]
    split
    · rw [wLen_cons, wLen_app]
      have : sOpen.length = 1 := rfl
      have : wLen [sClose] = 2 := rfl
      omega
    · omega
theorem kidsP_le : ∀ (l : List X), OkXs l → sumK (kidsP l) (160 * nodesL l)
  | [], _ => trivial
  | x :: l, h => ⟨160 * nodesX x, 160 * nodesL l, by rw [nodesL]; omega, exprP_le x h.1, kidsP_le l h.2⟩
end
/-- what Wrong lets -/
theorem exprW_le {x : X} (h : exprW x = 0) (i : Int) : wLen (exprP x i) ≤ 32000 := by
  have := exprP_le x (exprW_ok h).1 i
  have := (exprW_ok h).2
  omega
theorem orE_0 {a b : Int} (h : orE a b = 0) : a = 0 ∧ b = 0 := by
  unfold orE at h
  split at h
  · rename_i h1; exact (h1 h).elim
  · rename_i h1; exact ⟨by omega, h⟩
theorem exprsW_mem : ∀ {l : List X}, exprsW l = 0 → ∀ x ∈ l, exprW x = 0
  | [], _, x, hx => by cases hx
  | y :: l, h, x, hx => by
    obtain ⟨h1, h2⟩ := orE_0 h
    rcases List.mem_cons.1 hx with rfl | hx
    · exact h1
    · exact exprsW_mem h2 x hx
theorem namesW_le {s : Bs} (h : namesW [s] = 0) : s.length ≤ 12 := by
  unfold namesW at h
  split at h
  · rename_i h1
    exact namedB_len (by simpa using h1)
  · omega
theorem givenW_le {s : Bs} (h : givenW s = 0) : s.length ≤ 12 := by
  unfold givenW at h
  split at h
  · rename_i h1; rw [h1]; simp
  · exact namesW_le h
theorem asP_le {s : Bs} (h : s.length ≤ 12) : wLen (asP s) ≤ 20 := by
  unfold asP
  split
  · decide
  · simp only [wLen]; have : wAs.length = 2 := rfl; omega
theorem itemsW_ok : ∀ {l : List It} (f : Bool), itemsW l = 0 → (∀ i ∈ l, OkX i.x) ∧ wLen (itemsP f l) ≤ l.length * 32100
  | [], f, _ => ⟨fun i hi => (by cases hi), by simp [itemsP, wLen]⟩
  | x :: l, f, h => by
    obtain ⟨h1, h2⟩ := orE_0 h
    simp only [firstW] at h1
    obtain ⟨h3, h4⟩ := orE_0 h1
    obtain ⟨h4, _⟩ := orE_0 h4
    obtain ⟨h5, h6⟩ := itemsW_ok false h2
    refine ⟨fun i hi => ?_, ?_⟩
    · rcases List.mem_cons.1 hi with rfl | hi
      · exact (exprW_ok h3).1
      · exact h5 i hi
    · have h7 : wLen (if f = true then [] else [sComma]) ≤ 2 := by split <;> decide
      have h8 := exprW_le h3 1
      have h9 := asP_le (givenW_le h4)
      rw [itemsP, itemP, wLen_app, wLen_app, wLen_app, List.length_cons, Nat.add_mul]
      omega
theorem joinWd_le (k : Int) : wLen (joinWd k) ≤ 11 := by
  unfold joinWd
  split; · decide
  split; · decide
  split; · decide
  split <;> decide
theorem sourcesW_ok : ∀ {l : List So} (n : Nat), sourcesW n l = 0 → (∀ f ∈ l, 1 ≤ f.k ∧ f.k ≤ 5) ∧ (∀ f ∈ (if n = 0 then l.tail else l), OkX f.on) ∧ wLen (srcsP (decide (n = 0)) l) ≤ l.length * 32100
  | [], n, _ => ⟨fun i hi => (by cases hi), fun i hi => (by split at hi <;> cases hi), by simp [srcsP, wLen]⟩
  | x :: l, n, h => by
    rw [sourcesW] at h
    obtain ⟨h1, h2⟩ := orE_0 h
    obtain ⟨h3, h4, h5⟩ := sourcesW_ok (n + 1) h2
    unfold sourceW at h1
    split at h1
    · omega
    rename_i hk
    have hk' : 1 ≤ x.k ∧ x.k ≤ 5 := ⟨by have := fun h => hk (.inl (.inr h)); omega, by have := fun h => hk (.inr h); omega⟩
    have hf : firstW [namesW [x.name], givenW x.as] = 0 ∧ (n ≠ 0 → exprW x.on = 0) := by
      split at h1
      · rename_i hh
        rcases hh with hh | hh
        · exact (hh h1).elim
        · exact ⟨h1, fun h => (h hh).elim⟩
      · rename_i hh
        exact ⟨Classical.byContradiction fun hc => hh (.inl hc), fun _ => h1⟩
    obtain ⟨hf1, hf2⟩ := hf
    simp only [firstW] at hf1
    obtain ⟨hn1, hn2⟩ := orE_0 hf1
    obtain ⟨hn2, _⟩ := orE_0 hn2
    rw [if_neg (by omega)] at h4
    refine ⟨fun f hf => ?_, fun f hf => ?_, ?_⟩
    · rcases List.mem_cons.1 hf with rfl | hf
      · exact hk'
      · exact h3 f hf
    · split at hf
      · exact h4 f hf
      · rename_i hn0
        rcases List.mem_cons.1 hf with rfl | hf
        · exact (exprW_ok (hf2 hn0)).1
        · exact h4 f hf
    · have ha := asP_le (givenW_le hn2)
      have hb := namesW_le hn1
      have hj := joinWd_le x.k
      have hon : wLen (if decide (n = 0) = true then [] else [wOn] ++ exprP x.on 1) ≤ 32003 := by
        by_cases hn0 : n = 0
        · rw [if_pos (by simpa using hn0)]; simp [wLen]
        · rw [if_neg (by simpa using hn0), wLen_app]
          have := exprW_le (hf2 hn0) 1
          have : wLen [wOn] = 3 := rfl
          omega
      have he : (decide (n + 1 = 0)) = false := by simp
      rw [he] at h5
      rw [srcsP, srcP]
      simp only [wLen_app, List.length_cons, Nat.add_mul, wLen_cons]
      have : wLen [] = 0 := rfl
      omega
theorem whereP_le {f : Bool} {w : Bs} {x : X} (hw : w.length ≤ 8) (h : (if f = true then exprW x else 0) = 0) : (f = true → OkX x) ∧ wLen (whereP f w x) ≤ 32010 := by
  unfold whereP
  split at h
  · rename_i hf
    refine ⟨fun _ => (exprW_ok h).1, ?_⟩
    have := exprW_le h 1
    rw [if_pos hf, wLen_app, wLen_cons]
    have : wLen [] = 0 := rfl
    omega
  · rename_i hf
    refine ⟨fun h => (hf h).elim, ?_⟩
    rw [if_neg hf]
    simp [wLen]
theorem comX_le {l : List X} (h : exprsW l = 0) : (∀ x ∈ l, OkX x) ∧ wLen (comP (l.map exprP)) ≤ l.length * 32002 := by
  refine ⟨fun x hx => (exprW_ok (exprsW_mem h x hx)).1, ?_⟩
  have := comL_le (c := 32000) (l.map exprP) true fun g hg => by
    obtain ⟨x, hx, rfl⟩ := List.mem_map.1 hg
    exact exprW_le (exprsW_mem h x hx) 1
  rw [List.length_map] at this
  exact this
theorem selW_ok {s : Se} (h : selW s = 0) : OkSe s ∧ wLen (selP s) ≤ 1000000 := by
  unfold selW at h
  split at h
  · omega
  rename_i hm
  obtain ⟨h1, h2⟩ := orE_0 h
  obtain ⟨h2, h3⟩ := orE_0 h2
  obtain ⟨h3, h4⟩ := orE_0 h3
  obtain ⟨h4, h5⟩ := orE_0 h4
  have hm' : ¬ (((s.src.length : Int) < 1 ∨ 4 < (s.src.length : Int)) ∨ 8 < (s.group.length : Int)) ∧ (s.star = false → ¬ (8 < (s.items.length : Int))) := by
    unfold selMany at hm
    refine ⟨fun hc => hm (by rw [decide_eq_true hc]; rfl), fun hs hc => hm ?_⟩
    rw [hs, decide_eq_true hc]
    simp
  obtain ⟨hm1, hm2⟩ := hm'
  have hs := sourcesW_ok 0 h2
  have hw := whereP_le (w := wWhere) (by decide) h3
  have hv := whereP_le (w := wHaving) (by decide) h5
  have hg := comX_le h4
  have hi : (s.star = false → ∀ i ∈ s.items, OkX i.x) ∧ wLen (if s.star = true then [] else itemsP true s.items) ≤ 8 * 32100 := by
    cases hst : s.star with
    | true => exact ⟨fun h => by simp at h, by simp [wLen]⟩
    | false =>
      rw [hst, if_neg (by simp)] at h1
      have := itemsW_ok true h1
      have hm2 := hm2 hst
      refine ⟨fun _ => this.1, ?_⟩
      rw [if_neg (by simp)]
      have h88 : s.items.length ≤ 8 := by omega
      exact Nat.le_trans this.2 (Nat.mul_le_mul_right _ h88)
  refine ⟨⟨hi.1, hs.1, hs.2.1, hw.1, hg.1, hv.1⟩, ?_⟩
  have hgl : wLen (groupP s.group) ≤ 10 + 8 * 32002 := by
    unfold groupP
    split
    · simp [wLen]
    · have := hg.2
      have : s.group.length * 32002 ≤ 8 * 32002 := Nat.mul_le_mul_right _ (by omega)
      rw [wLen_app]
      have : wLen [wGroup, wBy] = 9 := rfl
      omega
  have hsl := hs.2.2
  have : s.src.length * 32100 ≤ 4 * 32100 := Nat.mul_le_mul_right _ (by omega)
  have hd : wLen (if s.distinct = true then [wDistinct] else []) ≤ 10 := by split <;> decide
  have hst : wLen (if s.star = true then [sStar] else []) ≤ 10 := by split <;> decide
  have h6 : wLen [wSelect] = 7 := rfl
  have e0 : decide ((0 : Nat) = 0) = true := rfl
  rw [e0] at hsl
  unfold selP
  simp only [wLen_app]
  have := hi.2
  have := hw.2
  have := hv.2
  omega
theorem setWd_le (k : Int) : wLen (setWd k) ≤ 12 := by
  unfold setWd
  split; · decide
  split; · decide
  split <;> decide
theorem partsW_ok {ops : List Int} : ∀ {l : List Se} (n : Nat), partsW ops n l = 0 → (∀ s ∈ l, OkSe s) ∧ (∀ j, n ≤ j → j < n + l.length → 0 < j → 1 ≤ ops.getD (j - 1) 0 ∧ ops.getD (j - 1) 0 ≤ 4) ∧ wLen (partsP ops n l) ≤ l.length * 1000012
  | [], n, _ => ⟨fun i hi => (by cases hi), fun j h1 h2 => (by simp at h2; omega), by simp [partsP, wLen]⟩
  | x :: l, n, h => by
    rw [partsW] at h
    split at h
    · omega
    rename_i hk
    obtain ⟨h1, h2⟩ := orE_0 h
    obtain ⟨h3, h4⟩ := selW_ok h1
    obtain ⟨h5, h6, h7⟩ := partsW_ok (n + 1) h2
    refine ⟨fun s hs => ?_, fun j hj1 hj2 hj0 => ?_, ?_⟩
    · rcases List.mem_cons.1 hs with rfl | hs
      · exact h3
      · exact h5 s hs
    · by_cases hjn : j = n
      · subst hjn
        have : ¬ (ops.getD (j - 1) 0 < 1 ∨ 4 < ops.getD (j - 1) 0) := fun h => hk ⟨hj0, h⟩
        omega
      · exact h6 j (by omega) (by rw [List.length_cons] at hj2; omega) hj0
    · have hs : wLen (if n = 0 then [] else setWd (ops.getD (n - 1) 0)) ≤ 12 := by
        split
        · decide
        · exact setWd_le _
      rw [partsP, wLen_app, wLen_app, List.length_cons, Nat.add_mul]
      omega
theorem decDigits_le50 {n : Nat} (h : n ≤ 50) : (Lib.decDigits n).length ≤ 21 := by
  have := Lib.itoa_length_le (n : Int) (by omega) (by omega)
  unfold Lib.itoa at this
  rw [if_neg (by omega)] at this
  exact this
theorem queryW_ok {q : Q} (h : queryW q = 0) : OkQ q ∧ wLen (queryP q) ≤ 4300000 := by
  unfold queryW at h
  split at h
  · omega
  rename_i hm
  split at h
  · omega
  rename_i hl
  obtain ⟨h1, h2⟩ := orE_0 h
  obtain ⟨h3, h4, h5⟩ := partsW_ok 0 h1
  unfold queryMany at hm
  rw [decide_eq_true_eq] at hm
  have hp : ¬ ((q.parts.length : Int) < 1 ∨ 4 < (q.parts.length : Int)) := fun h => hm (.inl (.inl h))
  have ho : (q.ops.length : Int) = (q.parts.length : Int) - 1 := Classical.byContradiction fun h => hm (.inl (.inr h))
  have hd : 0 ≤ q.limit → ¬ ((q.order.length : Int) < 1 ∨ 8 < (q.order.length : Int)) := fun h h' => hm (.inr ⟨h, h'⟩)
  refine ⟨⟨h3, by omega, fun k hk => ?_, fun hq => ⟨by omega, ?_⟩⟩, ?_⟩
  · obtain ⟨j, hj, rfl⟩ := List.mem_iff_getElem.1 hk
    have := h4 (j + 1) (by omega) (by omega) (by omega)
    rw [Nat.add_sub_cancel, List.getD_eq_getElem?_getD, List.getElem?_eq_getElem hj] at this
    exact this
  · unfold queryW1 at h2
    rw [if_neg (by omega)] at h2
    exact (comX_le h2).1
  · have hlim : wLen (limP q) ≤ 260000 := by
      unfold limP
      split
      · rename_i hq
        unfold queryW1 at h2
        rw [if_neg (by omega)] at h2
        have := (comX_le h2).2
        have := hd hq
        have : q.order.length * 32002 ≤ 8 * 32002 := Nat.mul_le_mul_right _ (by omega)
        have := decDigits_le50 (n := q.limit.toNat) (by omega)
        simp only [wLen_app, wLen_cons]
        have : wLen [] = 0 := rfl
        have : wOrder.length = 5 := rfl
        have : wBy.length = 2 := rfl
        have : wLimit.length = 5 := rfl
        omega
      · simp [wLen]
    have : q.parts.length * 1000012 ≤ 4 * 1000012 := Nat.mul_le_mul_right _ (by omega)
    rw [queryP, wLen_app]
    omega
theorem tyWd_le (t : Int) : (tyWd t).length ≤ 4 := by
  unfold tyWd
  split; · decide
  split <;> decide
theorem colsW_ok : ∀ {l : List Co} (f : Bool), colsW l = 0 → (∀ c ∈ l, 2 ≤ c.ty ∧ c.ty ≤ 4) ∧ wLen (colsP f l) ≤ l.length * 30
  | [], f, _ => ⟨fun i hi => (by cases hi), by simp [colsP, wLen]⟩
  | c :: l, f, h => by
    obtain ⟨h1, h2⟩ := orE_0 h
    split at h2
    · omega
    rename_i ht
    obtain ⟨h3, h4⟩ := colsW_ok false h2
    refine ⟨fun d hd => ?_, ?_⟩
    · rcases List.mem_cons.1 hd with rfl | hd
      · omega
      · exact h3 d hd
    · have h7 : wLen (if f = true then [] else [sComma]) ≤ 2 := by split <;> decide
      have h8 := namesW_le h1
      have h9 := tyWd_le c.ty
      rw [colsP, wLen_app, wLen_app, List.length_cons, Nat.add_mul]
      simp only [wLen]
      omega
theorem valsW_ok : ∀ {l : List V} (f : Bool), valsW l = 0 → (∀ v ∈ l, wrongV v = 0) ∧ wLen (rowVP f l) ≤ l.length * 142
  | [], f, _ => ⟨fun i hi => (by cases hi), by simp [rowVP, wLen]⟩
  | v :: l, f, h => by
    obtain ⟨h1, h2⟩ := orE_0 h
    obtain ⟨h3, h4⟩ := valsW_ok false h2
    refine ⟨fun d hd => ?_, ?_⟩
    · rcases List.mem_cons.1 hd with rfl | hd
      · exact h1
      · exact h3 d hd
    · have h7 : wLen [if f = true then sOpen else sComma] ≤ 2 := by cases f <;> decide
      have h8 := valP_le h1
      rw [rowVP, wLen_app, wLen_app, List.length_cons, Nat.add_mul]
      omega
theorem rowsW_ok : ∀ {l : List (List V)} (f : Bool), rowsW l = 0 → (∀ r ∈ l, ∀ v ∈ r, wrongV v = 0) ∧ wLen (rowsP f l) ≤ l.length * 1200
  | [], f, _ => ⟨fun i hi => (by cases hi), by simp [rowsP, wLen]⟩
  | r :: l, f, h => by
    rw [rowsW] at h
    split at h
    · omega
    rename_i hr
    obtain ⟨h1, h2⟩ := orE_0 h
    obtain ⟨h3, h4⟩ := rowsW_ok false h2
    obtain ⟨h5, h6⟩ := valsW_ok true h1
    refine ⟨fun d hd => ?_, ?_⟩
    · rcases List.mem_cons.1 hd with rfl | hd
      · exact h5
      · exact h3 d hd
    · have h7 : wLen (if f = true then [] else [sComma]) ≤ 2 := by split <;> decide
      have : r.length * 142 ≤ 8 * 142 := Nat.mul_le_mul_right _ (by omega)
      have h8 : wLen [sClose] = 2 := rfl
      rw [rowsP, wLen_app, wLen_app, wLen_app, List.length_cons, Nat.add_mul]
      omega
theorem stmtW_ok {s : Stm} (h : stmtW s = 0) : OkStm s ∧ wLen (stmtP s) ≤ 5000000 := by
  unfold stmtW at h
  split at h
  · omega
  rename_i hk
  have hk' : 1 ≤ s.k ∧ s.k ≤ 5 := by omega
  have hsemi : wLen [sSemi] = 2 := rfl
  rw [stmtP, wLen_app, hsemi]
  by_cases h5 : s.k = 5
  · rw [if_pos h5] at h
    obtain ⟨h1, h2⟩ := queryW_ok h
    refine ⟨⟨hk', fun h => by omega, fun _ => h1, fun h => by omega, fun h => by omega⟩, ?_⟩
    unfold bodyS
    rw [if_neg (by omega), if_neg (by omega), if_neg (by omega), if_neg (by omega), if_pos h5, wLen_app]
    have : wLen [wShow] = 5 := rfl
    omega
  rw [if_neg h5] at h
  obtain ⟨hn, h⟩ := orE_0 h
  have hn := namesW_le hn
  have : wLen [] = 0 := rfl
  by_cases h2 : s.k = 2
  · rw [if_pos h2] at h
    obtain ⟨h1, h3⟩ := queryW_ok h
    refine ⟨⟨hk', fun h => by omega, fun _ => h1, fun h => by omega, fun h => by omega⟩, ?_⟩
    unfold bodyS
    rw [if_neg (by omega), if_pos h2, wLen_app]
    simp only [wLen_cons]
    have : wCreate.length = 6 := rfl
    have : wView.length = 4 := rfl
    have : wAs.length = 2 := rfl
    omega
  rw [if_neg h2] at h
  by_cases h1 : s.k = 1
  · rw [if_pos h1] at h
    split at h
    · omega
    rename_i hl
    obtain ⟨h3, h4⟩ := colsW_ok true h
    refine ⟨⟨hk', fun _ => h3, fun h => by omega, fun h => by omega, fun h => by omega⟩, ?_⟩
    have : s.cols.length * 30 ≤ 8 * 30 := Nat.mul_le_mul_right _ (by omega)
    unfold bodyS
    rw [if_pos h1, wLen_app, wLen_app]
    simp only [wLen_cons]
    have : wCreate.length = 6 := rfl
    have : wTable.length = 5 := rfl
    have : sOpen.length = 1 := rfl
    have : sClose.length = 1 := rfl
    omega
  rw [if_neg h1] at h
  by_cases h3 : s.k = 3
  · rw [if_pos h3] at h
    split at h
    · omega
    rename_i hl
    obtain ⟨h3', h4⟩ := rowsW_ok true h
    refine ⟨⟨hk', fun h => by omega, fun h => by omega, fun _ => h3', fun h => by omega⟩, ?_⟩
    have : s.rows.length * 1200 ≤ 400 * 1200 := Nat.mul_le_mul_right _ (by omega)
    unfold bodyS
    rw [if_neg h1, if_neg h2, if_pos h3, wLen_app]
    simp only [wLen_cons]
    have : wInsert.length = 6 := rfl
    have : wInto.length = 4 := rfl
    have : wValues.length = 6 := rfl
    omega
  rw [if_neg h3] at h
  have h4 : s.k = 4 := by omega
  rw [if_pos h4] at h
  have hw := whereP_le (w := wWhere) (by decide) h
  refine ⟨⟨hk', fun h => by omega, fun h => by omega, fun h => by omega, fun _ => hw.1⟩, ?_⟩
  unfold bodyS
  rw [if_neg h1, if_neg h2, if_neg h3, if_pos h4, wLen_app]
  simp only [wLen_cons]
  have : wDelete.length = 6 := rfl
  have : wFrom.length = 4 := rfl
  have := hw.2
  omega
theorem wrongL_0 : ∀ {l : List Stm} {i : Nat}, (wrongL i l).1 = 0 → ∀ s ∈ l, stmtW s = 0
  | [], _, _, s, hs => by cases hs
  | x :: l, i, h, s, hs => by
    rw [wrongL] at h
    split at h
    · rename_i h1; exact (h1 h).elim
    rename_i h1
    rcases List.mem_cons.1 hs with rfl | hs
    · omega
    · exact wrongL_0 h s hs
/-- all that Wrong lets -/
theorem wrongS_ok {l : List Stm} (h : (wrongS l).1 = 0) : l.length ≤ 60 ∧ ∀ s ∈ l, stmtW s = 0 := by
  unfold wrongS at h
  split at h
  · simp at h
  · exact ⟨by omega, wrongL_0 h⟩
/-- statements, written -/
def stmtsP : List Stm → List Bs
  | [] => []
  | s :: l => stmtP s ++ stmtsP l
theorem stmtsP_le : ∀ {l : List Stm}, (∀ s ∈ l, stmtW s = 0) → wLen (stmtsP l) ≤ l.length * 5000000
  | [], _ => by simp [stmtsP, wLen]
  | s :: l, h => by
    have h1 := (stmtW_ok (h s (List.mem_cons_self ..))).2
    have h2 := stmtsP_le fun t ht => h t (List.mem_cons_of_mem _ ht)
    rw [stmtsP, wLen_app, List.length_cons, Nat.add_mul]
    omega
end Go.Proofs.YtoainkbcfnlkcaaGreatDoor

namespace Go.Proofs.YtoainkbcfnlkcaaGreatDoor
open Go Vc
set_option linter.unusedSimpArgs false
set_option linter.unusedVariables false
set_option maxRecDepth 10000

/-! ### Print -/
def printM (l : List Stm) : Bs × Int × Int :=
  if (wrongS l).1 ≠ 0 then ([], (wrongS l).1, ((wrongS l).2 : Int))
  else if 4000 < ((putM [] (stmtsP l)).length : Int) then ([], 4, 0) else (putM [] (stmtsP l), 0, 0)
theorem stmtsP_drop {l : List Stm} {i : Nat} (h : i < l.length) : stmtsP (l.drop i) = stmtP l[i] ++ stmtsP (l.drop (i + 1)) := by
  rw [List.drop_eq_getElem_cons h, stmtsP]
theorem putM_stmt (acc : Bs) (s : Stm) : putM acc (stmtP s) ≠ [] := by
  rw [stmtP, putM_app]
  intro h
  have : putM (putM acc (bodyS s)) [sSemi] = sepM (putM acc (bodyS s)) ++ sSemi := rfl
  rw [this] at h
  have := congrArg List.length h
  rw [List.length_append] at this
  have : sSemi.length = 1 := rfl
  simp at *
theorem stmt_b {F : Fi} {s : List Vc.Item} {e : Env} {ds : List Deferred} {dd : Option Nat} {N : Tm} {M : Mem} {b bx ox : Nat} {cs : List Value} {a : Option Addr} {c : Nat} {p : Value} {acc : Bs} {x : Stm} (L2 : LL) (hg : GlobP M) (hr : RStm M x cs) (ha : At M bx ox cs) (ho : OkStm x) (hN : N b = some 97) (hp : wrP b p) (hl : acc.length + wLen (stmtP x) ≤ 1000000000)
    (k : ∀ u M' p' a' c', Ext M M' → noneL M' ((b, [p', .slice a' (putM acc (stmtP x)).length c']) :: L2) → wrP b p' → Run Tryz.prog F s (updo e dd u) ds ⟨N, M', (b, [p', .slice a' (putM acc (stmtP x)).length c']) :: L2, [(.slice a' (putM acc (stmtP x)).length c', 5, 1, Lib.byteCells (putM acc (stmtP x)))]⟩ ⟨⟩) :
    rCall Tryz.prog F 46 [.pointer (some ⟨b, 0, none⟩), .pointer (some ⟨bx, ox, none⟩)] dd s e ds ⟨N, M, (b, [p, .slice a acc.length c]) :: L2, [(.slice a acc.length c, 5, 1, Lib.byteCells acc)]⟩ ⟨⟩ := by
  have h := rCall_of (P := Tryz.prog) (F := F) (s := s) (e := e) (ds := ds) (dd := dd) (N := N) [] (wrL b p a acc.length c) L2 [] (wrR a acc.length c acc) [] (ct_pwstmt hg hr ha ho hN hp hl)
    (fun u M' L' R' hM' _ _ hno' hq => by
      obtain ⟨p', a', c', hp', rfl, rfl⟩ := hq
      exact k u M' p' a' c' hM' hno' hp')
    (fun _ _ _ _ _ _ _ _ h => h.elim)
  exact h
theorem ct_Print {M : Mem} {l : List Stm} {sv : Value} (hg : GlobP M) (hs : RS M (RStm M) 16 l sv) : Ct Tryz.prog 17 [sv] M [] [] (fun r _ _ _ => r = .tuple ⟨[st (printM l).1, flt (printM l).2.1 (printM l).2.2]⟩) noPan := by
  intro T
  have hs' := hs
  obtain ⟨_, sa, sc, rfl, hsl, _, hsget⟩ := RS_elim (by decide) (fun _ _ => RStm_len) hs'
  have hsb := RS_le hs
  obtain ⟨W, hW⟩ : ∃ W, W = printM l := ⟨_, rfl⟩
  rw [← hW]
  unfold printM at hW
  refine ct_run mx bod17 Tryz.func17 rfl (by rw [nt17]; exact Nat.le_of_ble_eq_true rfl) (dr := dr17) (by kernel_rfl) rs17 ?_
  intro _ _
  simp +contextual only [go_sem, sevalprocAttr]
  intro b3 T3 hb3 hT3 hTb3
  refine rCall_pure (ct_Wrong hg.1 hs T3) ?_ (fun _ _ _ _ h => h.elim)
  rintro v M1 hM1 hno1 rfl
  simp only [noneL, and_true] at hno1
  simp +contextual only [go_sem, sevalprocAttr, flt]
  intro b4 T4 hb4 hap4 hT4 hTb4
  by_cases hw : (wrongS l).1 = 0
  · rw [if_neg (fun h => h hw)] at hW
    obtain ⟨hl60, hok⟩ := wrongS_ok hw
    have hlen := stmtsP_le hok
    simp +contextual only [go_sem, Rcb, Rbk, sevalprocAttr, hw, hb4, hb3, hap4, hno1]
    intro bw Tw hbw hapw hTw hTbw
    refine loop_rangeC l.length 17 [(3, .pointer (some ⟨b3, 0, none⟩)), (0, .slice sa l.length sc), (5, .pointer (some ⟨bw, 0, none⟩)), (16, .int .i64 (l.length : Int))] (fun i e h => ∃ M' A p a c, (i = 0 → a = none ∧ c = 0 ∧ A = []) ∧ (0 < i → A ≠ []) ∧ putM A (stmtsP (l.drop i)) = putM [] (stmtsP l) ∧ A.length + wLen (stmtsP (l.drop i)) ≤ 300000000 ∧ wrP bw p ∧ Ext M1 M' ∧ M' bw = none ∧ M' b4 = none ∧ M' b3 = none ∧ h = ⟨Tw, M', [(bw, [p, .slice a A.length c]), (b4, [.int .i64 (wrongS l).1, .int .i64 (wrongS l).2]), (b3, [.int .i64 0, .int .i64 0])], [(.slice a A.length c, 5, 1, Lib.byteCells A)]⟩) 0 (by omega) (by simp only [live, go_sem, Rcb, Rbk, sevalprocAttr]) (by simp only [go_sem, Rcb, Rbk, sevalprocAttr]) ?_ ?_
    · exact Close_addNil (Close_id ⟨M1, [], .pointer none, none, 0, fun _ => ⟨rfl, rfl, rfl⟩, fun h => absurd h (by omega), rfl, by rw [List.drop_zero]; simp only [List.length_nil]; omega, .inl rfl, Ext.rfl', hbw, hb4, hno1, rfl⟩)
    · rintro i e h hi hlv ht ⟨M2, A, p, a, c, hA0, hA1, hput, hlen2, hp, hM2, nw, n4, n3, rfl⟩
      simp only [live] at hlv
      have hT := hT3.trans (hT4.trans hTw)
      by_cases hlt : i < l.length
      · obtain ⟨bi, oi, ci, rfl, hat, hri⟩ := hsget i l[i] (List.getElem?_eq_getElem hlt)
        have hos := stmtW_ok (hok l[i] (List.getElem_mem hlt))
        rw [stmtsP_drop hlt] at hput hlen2
        rw [putM_app] at hput
        rw [wLen_app] at hlen2
        generalize l[i] = s at hput hlen2 hri hos
        have h2 := hM1.trans hM2
        simp +contextual only [go_sem, Rcb, Rbk, sevalprocAttr, hlv, ht, hlt]
        refine stmt_b _ (hg.ext h2) (RStm_ext h2 _ _ hri) (hat.ext h2) hos.1 hTbw hp (by omega) ?_
        rintro w M3 p3 a3 c3 hM3 hno3 hp3
        simp only [noneL, and_true] at hno3
        simp +contextual only [go_sem, Rcb, Rbk, sevalprocAttr, hlv, ht]
        have hle := putM_le (stmtP s) A
        refine lp_range hlt ?_ ?_ ⟨M3, _, p3, a3, c3, fun h => absurd h (by omega), fun _ => putM_stmt A s, hput, by omega, hp3, hM2.trans hM3, hno3.1, hno3.2.1, hno3.2.2, rfl⟩
        · simp only [live, hlv, go_sem, Rcb, Rbk, sevalprocAttr]
        · simp only [ht, go_sem, Rcb, Rbk, sevalprocAttr, wrap_succ i (by omega)]
      · have : i = l.length := by omega
        subst this
        rw [List.drop_length] at hput hlen2
        have hput : A = putM [] (stmtsP l) := hput
        have hnil : A = [] → Value.slice a A.length c = .slice none 0 0 := by
          intro h
          by_cases h0 : l.length = 0
          · obtain ⟨h1, h2, h3⟩ := hA0 h0; rw [h1, h2, h3]; rfl
          · exact absurd h (hA1 (by omega))
        simp +contextual only [go_sem, Rcb, Rbk, sevalprocAttr, hlv, ht, hlt]
        refine rCall_of [] [(bw, _)] [(b4, _), (b3, _)] [] [] [_] (ct_Len Tw) ?_ (fun _ _ _ _ _ _ _ _ h => h.elim)
        rintro v M3 L3 R3 hM3 _ _ hno3 ⟨rfl, rfl, rfl, rfl⟩
        simp only [List.cons_append, List.nil_append, noneL, and_true] at hno3
        rw [← hput] at hW
        by_cases hmuch : 4000 < (A.length : Int)
        · rw [if_pos hmuch] at hW
          simp +contextual only [go_sem, Rcb, Rbk, sevalprocAttr, hlv, hmuch, hno3, hap4, hapw]
          subst hW
          exact end_none hT rfl
        · rw [if_neg hmuch] at hW
          simp +contextual only [go_sem, Rcb, Rbk, sevalprocAttr, hlv, hmuch, hno3, hap4, hapw]
          refine rCall_of [] [(bw, _)] [(b4, _), (b3, _)] [] [_] [] (ct_String hTbw (by omega) hnil) ?_ (fun _ _ _ _ _ _ _ _ h => h.elim)
          rintro v M4 L4 R4 hM4 _ _ hno4 ⟨rfl, rfl, ⟨v', rfl⟩, rfl⟩
          simp only [List.cons_append, List.nil_append, noneL, and_true] at hno4
          simp +contextual only [go_sem, Rcb, Rbk, sevalprocAttr, hlv, hno4, hap4, hapw]
          subst hW
          exact end_none hT rfl
  · rw [if_pos hw] at hW
    simp +contextual only [go_sem, Rcb, Rbk, sevalprocAttr, hw, hb4, hb3, hap4, hno1]
    have n3 := hno1
    refine draw_at ⟨T4, fun _ => none, [(b4, [.int .i64 (wrongS l).1, .int .i64 (wrongS l).2])], []⟩ (Sub_hd hb4) ?_
    simp +contextual only [go_sem, Rcb, Rbk, sevalprocAttr, hw, hb4, hb3, hap4, hno1]
    subst hW
    exact end_none (hT3.trans hT4) rfl
end Go.Proofs.YtoainkbcfnlkcaaGreatDoor

namespace Go.Proofs.YtoainkbcfnlkcaaGreatDoor
open Go Vc
set_option linter.unusedSimpArgs false
set_option linter.unusedVariables false
set_option maxRecDepth 10000

/-! ### the check sum -/
def step1 (c : BitVec 16) : BitVec 16 := if c >>> 15 = 1#16 then (c <<< 1) ^^^ 0x1021#16 else c <<< 1
def stepN : Nat → BitVec 16 → BitVec 16 | 0, c => c | n + 1, c => step1 (stepN n c)
def stepB (c : BitVec 16) (x : UInt8) : BitVec 16 := stepN 8 (c ^^^ (BitVec.ofNat 16 x.toNat <<< 8))
def crcM (b : Bs) : BitVec 16 := b.foldl stepB 0x1D0F#16
def u16 (c : BitVec 16) : Value := .int .u16 (c.toNat : Int)
def RBy (c : UInt8) (cs : List Value) : Prop := cs = [.int .u8 (c.toNat : Int)]
theorem RBy_len {c : UInt8} {cs} (h : RBy c cs) : cs.length = 1 := by rw [h]; rfl
theorem w16 (n : Nat) : IntKind.u16.wrap (n : Int) = ((n % 65536 : Nat) : Int) := by
  unfold IntKind.wrap
  simp only [IntKind.bits, IntKind.signed]
  simp
theorem u16_shl (c : BitVec 16) (k : Nat) (hk : k ≤ 16) : IntKind.u16.wrap ((c.toNat : Int) * 2 ^ (min ((k : Int).toNat) 16)) = ((c <<< k).toNat : Int) := by
  rw [Int.toNat_natCast, Nat.min_eq_left hk]
  have : (c.toNat : Int) * 2 ^ k = ((c.toNat * 2 ^ k : Nat) : Int) := by push_cast; rfl
  rw [this, w16, BitVec.toNat_shiftLeft, Nat.shiftLeft_eq]
theorem u16_shr (c : BitVec 16) (k : Nat) (hk : k ≤ 16) : ((c.toNat : Int)).fdiv (2 ^ (min ((k : Int).toNat) 16)) = ((c >>> k).toNat : Int) := by
  rw [Int.toNat_natCast, Nat.min_eq_left hk, BitVec.toNat_ushiftRight, Nat.shiftRight_eq_div_pow]
  have : (2 : Int) ^ k = ((2 ^ k : Nat) : Int) := by push_cast; rfl
  rw [this, Int.fdiv_eq_ediv_of_nonneg _ (Int.natCast_nonneg _)]
  rfl
theorem ofInt16 (c : BitVec 16) : BitVec.ofInt 16 (c.toNat : Int) = c := by
  apply BitVec.eq_of_toNat_eq
  rw [BitVec.ofInt_natCast, BitVec.toNat_ofNat]
  exact Nat.mod_eq_of_lt c.isLt
theorem u16_xor (c d : BitVec 16) : IntKind.u16.wrap ((BitVec.ofInt 16 (c.toNat : Int) ^^^ BitVec.ofInt 16 (d.toNat : Int)).toNat : Int) = ((c ^^^ d).toNat : Int) := by
  rw [ofInt16, ofInt16, w16, Nat.mod_eq_of_lt (c ^^^ d).isLt]
theorem xor16 (c d : BitVec 16) : vBits .xor .u16 (c.toNat : Int) (d.toNat : Int) = some (.int .u16 ((c ^^^ d).toNat : Int)) := by
  show some (Value.int .u16 (IntKind.u16.wrap ((BitVec.ofInt 16 (c.toNat : Int) ^^^ BitVec.ofInt 16 (d.toNat : Int)).toNat : Int))) = _
  rw [u16_xor]
theorem xor16p (c : BitVec 16) : vBits .xor .u16 (c.toNat : Int) 4129 = some (.int .u16 ((c ^^^ 0x1021#16).toNat : Int)) := xor16 c 0x1021#16
theorem shl8 (x : Nat) (hx : x < 256) : IntKind.u16.wrap (IntKind.u16.wrap (x : Int) * 2 ^ min 8 16) = ((BitVec.ofNat 16 x <<< 8).toNat : Int) := by
  have h1 : IntKind.u16.wrap (x : Int) = ((BitVec.ofNat 16 x).toNat : Int) := by rw [w16, BitVec.toNat_ofNat]
  rw [h1]
  exact u16_shl _ 8 (by decide)
theorem shl1 (c : BitVec 16) : IntKind.u16.wrap ((c.toNat : Int) * 2 ^ min 1 16) = ((c <<< 1).toNat : Int) := u16_shl c 1 (by decide)
theorem shr15 (c : BitVec 16) : ((c.toNat : Int)).fdiv (2 ^ min 15 16) = ((c >>> 15).toNat : Int) := u16_shr c 15 (by decide)
theorem crcM_take {b : Bs} {i : Nat} (h : i < b.length) : crcM (b.take (i + 1)) = stepB (crcM (b.take i)) b[i] := by
  unfold crcM
  rw [List.take_add_one, List.getElem?_eq_getElem h, Option.toList_some, List.foldl_append]; rfl
theorem ct_sum {M : Mem} {l : Bs} {v : Value} (hv : RS M RBy 1 l v) : Ct Tryz.prog 89 [v] M [] [] (fun r _ _ _ => r = u16 (crcM l)) noPan := by
  intro T
  have hlb := hv.1
  obtain ⟨_, a, c, rfl, hal, _, hget⟩ := RS_elim (by decide) (fun _ _ => RBy_len) hv
  refine ct_run mx bod89 Tryz.func89 rfl (by rw [nt89]; exact Nat.le_of_ble_eq_true rfl) (dr := dr89) (by kernel_rfl) rs89 ?_
  intro _ _
  simp +contextual only [go_sem, Rcb, Rbk, sevalprocAttr]
  refine loop_range l.length 9 [(7, .slice a l.length c), (8, .int .i64 (l.length : Int))] (fun i e h => e 3 = u16 (crcM (l.take i)) ∧ h = ⟨T, M, [], []⟩) 0 (by omega) (by simp only [live, go_sem, Rcb, Rbk, sevalprocAttr]) (by simp only [go_sem, Rcb, Rbk, sevalprocAttr]) ⟨by simp only [go_sem, Rcb, Rbk, sevalprocAttr]; rfl, rfl⟩ ?_
  rintro i e h hi hlv ht ⟨e3, rfl⟩
  simp only [live] at hlv
  by_cases hlt : i < l.length
  · obtain ⟨bi, oi, ci, rfl, hat, hri⟩ := hget i l[i] (List.getElem?_eq_getElem hlt)
    rw [hri] at hat
    have w0 := At1 hat
    rw [Nat.mul_one] at w0
    simp +contextual only [go_sem, Rcb, Rbk, sevalprocAttr, hlv, ht, hlt, w0, e3, u16, shl8 _ (UInt8.toNat_lt l[i]), xor16]
    refine loop_range 8 18 [(7, .slice (some ⟨bi, oi, none⟩) l.length c), (8, .int .i64 (l.length : Int)), (9, .int .i64 (i : Int))] (fun j e h => e 3 = u16 (stepN j (crcM (l.take i) ^^^ (BitVec.ofNat 16 l[i].toNat <<< 8))) ∧ h = ⟨T, M, [], []⟩) 0 (by omega) (by simp only [live, hlv, ht, go_sem, Rcb, Rbk, sevalprocAttr]) (by simp only [go_sem, Rcb, Rbk, sevalprocAttr]) ⟨by simp only [go_sem, Rcb, Rbk, sevalprocAttr]; rfl, rfl⟩ ?_
    clear e3 ht hlv
    clear e
    rintro j e h hj hlv ht ⟨e3, rfl⟩
    simp only [live] at hlv
    generalize hc0 : crcM (l.take i) ^^^ (BitVec.ofNat 16 l[i].toNat <<< 8) = c0 at e3 ⊢
    by_cases hjt : j < 8
    · have hj8 : ((j : Nat) : Int) < 8 := by omega
      simp +contextual only [go_sem, Rcb, Rbk, sevalprocAttr, hlv, ht, hjt, hj8, e3, u16, shl1, shr15]
      by_cases hm : stepN j c0 >>> 15 = 1#16
      · have hm1 : ((stepN j c0 >>> 15).toNat : Int) = 1 := by rw [hm]; rfl
        rw [if_pos hm1]
        simp +contextual only [go_sem, Rcb, Rbk, sevalprocAttr, hlv, ht, xor16p]
        refine lp_range hjt ?_ ?_ ⟨?_, rfl⟩
        · simp only [live, hlv, go_sem, Rcb, Rbk, sevalprocAttr]
        · simp only [ht, go_sem, Rcb, Rbk, sevalprocAttr, wrap_succ j (by omega)]
        · simp only [go_sem, Rcb, Rbk, sevalprocAttr, stepN, step1, if_pos hm]
      · have hm1 : ¬ ((stepN j c0 >>> 15).toNat : Int) = 1 := fun h => hm (BitVec.eq_of_toNat_eq (by have : (1#16).toNat = 1 := rfl; omega))
        rw [if_neg hm1]
        refine lp_range hjt ?_ ?_ ⟨?_, rfl⟩
        · simp only [live, hlv, go_sem, Rcb, Rbk, sevalprocAttr]
        · simp only [ht, go_sem, Rcb, Rbk, sevalprocAttr, wrap_succ j (by omega)]
        · simp only [go_sem, Rcb, Rbk, sevalprocAttr, stepN, step1, if_neg hm]
    · have : j = 8 := by omega
      subst this
      simp +contextual only [go_sem, Rcb, Rbk, sevalprocAttr, hlv, ht, hjt, e3]
      refine lp_range hlt ?_ ?_ ⟨?_, rfl⟩
      · simp only [live, hlv, go_sem, Rcb, Rbk, sevalprocAttr]
      · simp only [hlv, go_sem, Rcb, Rbk, sevalprocAttr, wrap_succ i (by omega)]
      · simp only [go_sem, Rcb, Rbk, sevalprocAttr, e3, ← hc0]
        rw [crcM_take hlt]; rfl
  · have : i = l.length := by omega
    subst this
    rw [List.take_length] at e3
    simp +contextual only [go_sem, Rcb, Rbk, sevalprocAttr, hlv, ht, hlt, e3]
    exact end_none ExtT.rfl' rfl
end Go.Proofs.YtoainkbcfnlkcaaGreatDoor

namespace Go.Proofs.YtoainkbcfnlkcaaGreatDoor
open Go Vc
set_option linter.unusedSimpArgs false
set_option linter.unusedVariables false
set_option maxRecDepth 10000

/-! ### a record -/
def hdrM (n : Nat) : Bs := [UInt8.ofNat (n / 256), UInt8.ofNat n]
def tailM (c : BitVec 16) : Bs := [UInt8.ofNat (c >>> 8).toNat, UInt8.ofNat c.toNat]
def packM (t : Bs) : Bs := (hdrM t.length ++ t) ++ tailM (crcM (hdrM t.length ++ t))
def recordM (s : Stm) : Bs × Int := if (printM [s]).2.1 ≠ 0 then ([], (printM [s]).2.1) else (packM (printM [s]).1, 0)
theorem printM_le (l : List Stm) : (printM l).1.length ≤ 4000 := by
  unfold printM
  split
  · simp
  split
  · simp
  · simp only; omega
theorem printM_ne {s : Stm} (h : (printM [s]).2.1 = 0) : (printM [s]).1 ≠ [] := by
  unfold printM at h ⊢
  split at h
  · rename_i h1; exact (h1 h).elim
  rename_i h1
  rw [if_neg h1]
  split at h
  · simp at h
  rename_i h2
  rw [if_neg h2]
  show putM [] (stmtP s ++ []) ≠ []
  rw [List.append_nil]
  exact putM_stmt [] s
theorem RL_bytes : ∀ l : Bs, RL RBy l (Lib.byteCells l)
  | [] => rfl
  | c :: l => ⟨[.int .u8 (c.toNat : Int)], Lib.byteCells l, rfl, rfl, RL_bytes l⟩
theorem w8 (n : Nat) : IntKind.u8.wrap (n : Int) = ((UInt8.ofNat n).toNat : Int) := by
  unfold IntKind.wrap
  simp only [IntKind.bits, IntKind.signed]
  simp
theorem hdr_cells (n : Nat) : [Value.int IntKind.u8 (IntKind.u8.wrap ((n : Int).fdiv (2 ^ min 8 64))), Value.int IntKind.u8 (IntKind.u8.wrap (n : Int))] = Lib.byteCells (hdrM n) := by
  have h1 : (n : Int).fdiv (2 ^ min 8 64) = ((n / 256 : Nat) : Int) := by
    rw [Int.fdiv_eq_ediv_of_nonneg _ (by decide)]; rfl
  rw [h1, w8, w8]; rfl
theorem tail_cells (c : BitVec 16) : [Value.int IntKind.u8 (IntKind.u8.wrap ((c.toNat : Int).fdiv (2 ^ min 8 16))), Value.int IntKind.u8 (IntKind.u8.wrap (c.toNat : Int))] = Lib.byteCells (tailM c) := by
  have h1 : (c.toNat : Int).fdiv (2 ^ min 8 16) = ((c >>> 8).toNat : Int) := u16_shr c 8 (by decide)
  rw [h1, w8, w8]; rfl
theorem oneC_bytes : ∀ (l : Bs), ∀ u ∈ Lib.byteCells l, u.oneCell' = true := by
  intro l u hu
  obtain ⟨c, _, rfl⟩ := List.mem_map.1 hu
  rfl
theorem cons16 {cs : List Value} (h : cs.length = 16) : consO cs[0]? (consO cs[1]? (consO cs[2]? (consO cs[3]? (consO cs[4]? (consO cs[5]? (consO cs[6]? (consO cs[7]? (consO cs[8]? (consO cs[9]? (consO cs[10]? (consO cs[11]? (consO cs[12]? (consO cs[13]? (consO cs[14]? (consO cs[15]? (some [])))))))))))))))) = some cs := by
  match cs, h with
  | [_, _, _, _, _, _, _, _, _, _, _, _, _, _, _, _], _ => rfl
theorem ct_record {M : Mem} {s : Stm} {cs : List Value} (hg : GlobP M) (hs : RStm M s cs) : Ct Tryz.prog 53 [.agg ⟨cs⟩] M [] [] (fun r M' _ _ => ∃ v, r = .tuple ⟨[v, .int .i64 (recordM s).2]⟩ ∧ RS M' RBy 1 (recordM s).1 v) noPan := by
  intro T
  have hcl := RStm_len hs
  obtain ⟨W, hW⟩ : ∃ W, W = recordM s := ⟨_, rfl⟩
  rw [← hW]
  unfold recordM at hW
  refine ct_run mx bod53 Tryz.func53 rfl (by rw [nt53]; exact Nat.le_of_ble_eq_true rfl) (dr := dr53) (by kernel_rfl) rs53 ?_
  intro _ _
  simp +contextual only [go_sem, sevalprocAttr, hcl]
  intro b1 T1 hb1 hT1 hTb1
  simp +contextual only [go_sem, sevalprocAttr, cons16 hcl, hcl]
  intro b2 hb2 hap2
  refine rCall_frz bod17 fun M1 hM1 hb2' hno1 => ?_
  have hl1 : RS M1 (RStm M1) 16 [s] (.slice (some ⟨b2, 0, none⟩) 1 1) := RS_lit (fun _ _ => RStm_len) hb2' (RL_one (RStm_ext hM1 _ _ hs)) rfl (by decide)
  refine rCall_pure (ct_Print (hg.ext hM1) hl1 T1) ?_ (fun _ _ _ _ h => h.elim)
  rintro v M2 hM2 hno2 rfl
  have hpl := printM_le [s]
  have hne := printM_ne (s := s)
  obtain ⟨⟨tx, er, ar⟩, hp⟩ : ∃ p, p = printM [s] := ⟨_, rfl⟩
  rw [← hp] at hW hpl hne ⊢
  clear hp
  replace hne : er = 0 → tx ≠ [] := hne
  replace hpl : tx.length ≤ 4000 := hpl
  replace hW : W = if er ≠ 0 then ([], er) else (packM tx, 0) := hW
  simp only [List.cons_append, List.nil_append, noneL, noneL_pL] at hno2
  simp +contextual only [go_sem, sevalprocAttr, flt]
  intro b5 T5 hb5 hap5 hT5 hTb5
  by_cases he : er = 0
  · subst he
    rw [if_neg (fun h => h rfl)] at hW
    simp +contextual only [go_sem, Rcb, Rbk, sevalprocAttr, hb5, hap5, hno2]
    intro b6 hb6 hap6
    rw [hdr_cells]
    have htl : 0 < tx.length := List.length_pos_iff.2 (hne rfl)
    have hbc : byteCells (bs tx) = Lib.byteCells tx := by simp [byteCells, Lib.byteCells, bs]
    have hsn : (byteCells (bs tx)).length = tx.length := by rw [hbc]; simp [Lib.byteCells]
    have hhl : (Lib.byteCells (hdrM tx.length)).length = 2 := rfl
    refine app_read row37 okt37 (.str _ rfl Tryz.underlying9) (cells_own [] hb6 trivial rfl) (by omega) (by omega) ?_
    intro a1 m1 c1 hm1
    have hl1 : m1 = (hdrM tx.length ++ tx).length := by
      rw [List.length_append]; have : (hdrM tx.length).length = 2 := rfl
      omega
    subst hl1
    have hbb : Lib.byteCells (hdrM tx.length) ++ byteCells (bs tx) = Lib.byteCells (hdrM tx.length ++ tx) := by rw [hbc]; simp [Lib.byteCells]
    rw [hbb]
    have hll : (hdrM tx.length ++ tx).length ≤ 4002 := by rw [List.length_append]; have : (hdrM tx.length).length = 2 := rfl; omega
    have hpk : packM tx = (hdrM tx.length ++ tx) ++ tailM (crcM (hdrM tx.length ++ tx)) := rfl
    rw [hpk] at hW
    generalize hdrM tx.length ++ tx = pk at hW hll ⊢
    simp +contextual only [go_sem, Rcb, Rbk, sevalprocAttr]
    refine rCall_of [] [] [_, _, _] [] [_] [] (ctT_lend (Q := fun r => r = u16 (crcM pk)) (by decide) bod89 fun M' _ hsl => ct_sum ⟨by omega, _, hsl, RL_bytes pk⟩ T5) ?_ (fun _ _ _ _ _ _ _ _ h => h.elim)
    rintro v M3 L3 R3 hM3 hk3 _ hno3 ⟨rfl, rfl⟩
    have hL3 : L3 = [] := by simpa [keys] using hk3
    subst hL3
    simp only [List.nil_append, List.append_nil, noneL, and_true] at hno3 ⊢
    simp +contextual only [go_sem, Rcb, Rbk, sevalprocAttr, u16, hno3, hb5, hap5, hap6]
    intro b7 hb7 hap7
    rw [tail_cells]
    have htl2 : (Lib.byteCells (tailM (crcM pk))).length = 2 := rfl
    have hpl2 : (Lib.byteCells pk).length = pk.length := by simp [Lib.byteCells]
    refine app_row row37 okt37 (.slice _ 2 _ _ _ Tryz.underlying37 (cells_own [] hb7 trivial rfl) (oneC_bytes _)) (by omega) ?_
    intro a2 m2 c2 hm2
    have hl2 : m2 = (pk ++ tailM (crcM pk)).length := by
      rw [List.length_append]; have : (tailM (crcM pk)).length = 2 := rfl
      omega
    subst hl2
    have hbb2 : Lib.byteCells pk ++ Lib.byteCells (tailM (crcM pk)) = Lib.byteCells (pk ++ tailM (crcM pk)) := by simp [Lib.byteCells]
    rw [hbb2]
    simp +contextual only [go_sem, Rcb, Rbk, sevalprocAttr]
    subst hW
    refine Close_row fun M4 hM4 hno4 hsl => end_none (hT1.trans hT5) ⟨_, rfl, ?_, _, hsl, RL_bytes _⟩
    have : (tailM (crcM pk)).length = 2 := rfl
    simp only [List.length_append]
    omega
  · rw [if_pos he] at hW
    simp +contextual only [go_sem, Rcb, Rbk, sevalprocAttr, he, hb5, hap5, hno2]
    refine draw_at ⟨T5, fun _ => none, [(b5, _)], []⟩ (Sub_hd hb5) ?_
    simp +contextual only [go_sem, Rcb, Rbk, sevalprocAttr, he, hb5, hap5, hno2]
    subst hW
    exact end_none (hT1.trans hT5) ⟨_, rfl, RS_nil⟩
end Go.Proofs.YtoainkbcfnlkcaaGreatDoor

namespace Go.Proofs.YtoainkbcfnlkcaaGreatDoor
open Go Vc
set_option linter.unusedSimpArgs false
set_option linter.unusedVariables false
set_option maxRecDepth 10000

/-! ### Bytes -/
theorem bytes_eq : ∀ {l : Bs} {xs : List Value}, RL RBy l xs → xs = Lib.byteCells l
  | [], xs, h => h
  | c :: l, xs, ⟨cs, rest, h1, h2, h3⟩ => by rw [h1, h2, bytes_eq h3]; rfl
theorem wrap_nat (n : Nat) (h : n < 140737488355328) : IntKind.i64.wrap ((n : Nat) : Int) = (n : Int) := by
  cases n with
  | zero => rfl
  | succ n => exact wrap_succ n (by omega)
def bytesL (i : Nat) (acc : Bs) : List Stm → Bs × Int × Int
  | [] => (acc, 0, 0)
  | s :: l => if (recordM s).2 ≠ 0 then ([], (recordM s).2, (i : Int)) else if 100000 < ((acc ++ (recordM s).1).length : Int) then ([], 4, (i : Int)) else bytesL (i + 1) (acc ++ (recordM s).1) l
def bytesM (l : List Stm) : Bs × Int × Int := bytesL 0 [] l
theorem packM_len (t : Bs) : (packM t).length = t.length + 4 := by
  unfold packM
  simp only [List.length_append]
  have : (hdrM t.length).length = 2 := rfl
  have : (tailM (crcM (hdrM t.length ++ t))).length = 2 := rfl
  omega
theorem recordM_len (s : Stm) : (recordM s).1.length ≤ 4004 := by
  unfold recordM
  split
  · simp
  · simp only [packM_len]
    have := printM_le [s]
    omega
theorem form16 {cs : List Value} (h : cs.length = 16) : ∃ c0 c1 c2 c3 c4 c5 c6 c7 c8 c9 c10 c11 c12 c13 c14 c15, cs = [c0, c1, c2, c3, c4, c5, c6, c7, c8, c9, c10, c11, c12, c13, c14, c15] := by
  match cs, h with
  | [c0, c1, c2, c3, c4, c5, c6, c7, c8, c9, c10, c11, c12, c13, c14, c15], _ => exact ⟨c0, c1, c2, c3, c4, c5, c6, c7, c8, c9, c10, c11, c12, c13, c14, c15, rfl⟩
theorem ct_Bytes {M : Mem} {l : List Stm} {sv : Value} (hg : GlobP M) (hs : RS M (RStm M) 16 l sv) : Ct Tryz.prog 20 [sv] M [] [] (fun r M' _ _ => ∃ v, r = .tuple ⟨[v, flt (bytesM l).2.1 (bytesM l).2.2]⟩ ∧ RS M' RBy 1 (bytesM l).1 v) noPan := by
  intro T
  have hlb := RS_le hs
  obtain ⟨_, sa, sc, rfl, hsl, _, hsget⟩ := RS_elim (by decide) (fun _ _ => RStm_len) hs
  obtain ⟨W, hW⟩ : ∃ W, W = bytesM l := ⟨_, rfl⟩
  rw [← hW]
  unfold bytesM at hW
  refine ct_run mx bod20 Tryz.func20 rfl (by rw [nt20]; exact Nat.le_of_ble_eq_true rfl) (dr := dr20) (by kernel_rfl) rs20 ?_
  intro _ _
  simp +contextual only [go_sem, Rcb, Rbk, sevalprocAttr]
  intro b3 T3 hb3 hT3 hTb3
  refine loop_rangeC l.length 11 [(3, .pointer (some ⟨b3, 0, none⟩)), (9, .slice sa l.length sc), (10, .int .i64 (l.length : Int))] (fun i e h => ∃ N M' acc a c, ExtT T3 N ∧ acc.length ≤ 100000 ∧ W = bytesL i acc (l.drop i) ∧ e 4 = .slice a acc.length c ∧ Ext M M' ∧ M' b3 = none ∧ h = ⟨N, M', [(b3, [.int .i64 0, .int .i64 0])], [(.slice a acc.length c, 5, 1, Lib.byteCells acc)]⟩) 0 (by omega) (by simp only [live, go_sem, Rcb, Rbk, sevalprocAttr]) (by simp only [go_sem, Rcb, Rbk, sevalprocAttr]) ?_ ?_
  · exact Close_addNil (Close_id ⟨T3, M, [], none, 0, ExtT.rfl', Nat.zero_le _, hW, by simp only [go_sem, Rcb, Rbk, sevalprocAttr], Ext.rfl', hb3, rfl⟩)
  clear hW
  rintro i e h hi hlv ht ⟨N1, M1, acc, a, c, hN1, hacc, hW, e4, hM1, n3, rfl⟩
  simp only [live] at hlv
  by_cases hlt : i < l.length
  · obtain ⟨bi, oi, cs, rfl, hat, hri⟩ := hsget i l[i] (List.getElem?_eq_getElem hlt)
    rw [List.drop_eq_getElem_cons hlt, bytesL] at hW
    have hrl := recordM_len l[i]
    generalize l[i] = s at hW hri hrl
    have hri := RStm_ext hM1 _ _ hri
    have hat := hat.ext hM1
    obtain ⟨c0, c1, c2, c3, c4, c5, c6, c7, c8, c9, c10, c11, c12, c13, c14, c15, rfl⟩ := form16 (RStm_len hri)
    have hone := RStm_oneC hri
    simp only [List.forall_mem_cons] at hone
    obtain ⟨k0, k1, k2, k3, k4, k5, k6, k7, k8, k9, k10, k11, k12, k13, k14, k15, -⟩ := hone
    obtain ⟨y0, y1, y2, y3, y4, y5, y6, y7, y8, y9, y10, y11, y12, y13, y14, y15⟩ := At16 hat
    simp +contextual only [go_sem, Rcb, Rbk, sevalprocAttr, hlv, ht, hlt, y0, y1, y2, y3, y4, y5, y6, y7, y8, y9, y10, y11, y12, y13, y14, y15, k0, k1, k2, k3, k4, k5, k6, k7, k8, k9, k10, k11, k12, k13, k14, k15]
    intro b6 T6 hb6 hap6 hT6 hTb6
    refine rCall_pure (ct_record (hg.ext hM1) hri T6) ?_ (fun _ _ _ _ h => h.elim)
    rintro v M2 hM2 hno2 ⟨w, rfl, hw⟩
    simp only [List.cons_append, List.nil_append, noneL, noneL_pL] at hno2
    obtain ⟨⟨rb, re⟩, hrp⟩ : ∃ p, p = recordM s := ⟨_, rfl⟩
    rw [← hrp] at hW hrl hw ⊢
    clear hrp
    replace hW : W = if re ≠ 0 then ([], re, (i : Int)) else if 100000 < ((acc ++ rb).length : Int) then ([], 4, (i : Int)) else bytesL (i + 1) (acc ++ rb) (l.drop (i + 1)) := hW
    replace hw : RS M2 RBy 1 rb w := hw
    replace hrl : rb.length ≤ 4004 := hrl
    obtain ⟨xs, hx1, hx2, hx3⟩ := srcs_RS (Tryz.underlying37) (fun _ _ => RBy_len) (fun _ _ h => by rw [h]; intro u hu; simp only [List.mem_singleton] at hu; subst hu; rfl) hw
    rw [bytes_eq hx2] at hx1 hx3
    obtain ⟨_, wa, wc, rfl, _⟩ := RS_elim (by decide) (fun _ _ => RBy_len) hw
    have hwr : IntKind.i64.wrap (((acc.length : Nat) : Int) + ((rb.length : Nat) : Int)) = (((acc ++ rb).length : Nat) : Int) := by
      rw [List.length_append]
      exact wrap_nat (acc.length + rb.length) (by omega)
    by_cases hre : re = 0
    · subst hre
      rw [if_neg (fun h => h rfl)] at hW
      by_cases hbig : 100000 < ((acc ++ rb).length : Int)
      · rw [if_pos hbig] at hW
        simp +contextual only [go_sem, Rcb, Rbk, sevalprocAttr, hlv, ht, e4, hno2, hap6, hwr, hbig]
        subst hW
        exact end_none (hT3.trans (hN1.trans hT6)) ⟨_, rfl, RS_nil⟩
      · rw [if_neg hbig] at hW
        simp +contextual only [go_sem, Rcb, Rbk, sevalprocAttr, hlv, ht, e4, hno2, hap6, hwr, hbig]
        have hal : (Lib.byteCells acc).length = acc.length := by simp [Lib.byteCells]
        have hrl2 : (Lib.byteCells rb).length = rb.length := by simp [Lib.byteCells]
        refine app_row row37 okt37 (hx3 _ _ _) (by omega) ?_
        intro a2 m2 c2' hm2
        have hl2 : m2 = (acc ++ rb).length := by rw [List.length_append]; omega
        subst hl2
        have hbb2 : Lib.byteCells acc ++ Lib.byteCells rb = Lib.byteCells (acc ++ rb) := by simp [Lib.byteCells]
        rw [hbb2]
        simp +contextual only [go_sem, Rcb, Rbk, sevalprocAttr, hlv, ht]
        refine lp_close (Close_drop (Close_id ⟨l.length - (i + 1), by omega, rfl, i + 1, by omega, rfl, ?_, ?_, T6, M2, acc ++ rb, _, _, hN1.trans hT6, by omega, hW, ?_, hM1.trans hM2, hno2.2.1, rfl⟩))
        · simp only [live, hlv, go_sem, Rcb, Rbk, sevalprocAttr]
        · simp only [ht, go_sem, Rcb, Rbk, sevalprocAttr, wrap_succ i (by omega)]
        · simp only [go_sem, Rcb, Rbk, sevalprocAttr]
    · rw [if_pos hre] at hW
      simp +contextual only [go_sem, Rcb, Rbk, sevalprocAttr, hlv, ht, e4, hno2, hap6, hre]
      subst hW
      exact end_none (hT3.trans (hN1.trans hT6)) ⟨_, rfl, RS_nil⟩
  · have : i = l.length := by omega
    subst this
    rw [List.drop_length, bytesL] at hW
    simp +contextual only [go_sem, Rcb, Rbk, sevalprocAttr, hlv, ht, hlt, e4, n3]
    subst hW
    refine Close_row fun M4 hM4 hno4 hsl => end_none (hT3.trans hN1) ⟨_, rfl, by show acc.length ≤ _; omega, _, hsl, RL_bytes _⟩
end Go.Proofs.YtoainkbcfnlkcaaGreatDoor

namespace Go.Proofs.YtoainkbcfnlkcaaGreatDoor
open Go Vc
set_option linter.unusedSimpArgs false
set_option linter.unusedVariables false
set_option maxRecDepth 10000

/-! ### the first record -/
def szM (b : Bs) : Nat := (b.getD 0 0).toNat * 256 + (b.getD 1 0).toNat
def crM (b : Bs) (k : Nat) : BitVec 16 := (BitVec.ofNat 16 (b.getD k 0).toNat <<< 8) ||| BitVec.ofNat 16 (b.getD (k + 1) 0).toNat
def txM (b : Bs) : Bs := (b.take (szM b + 2)).drop 2
def firstM (b : Bs) : Option (Stm × Nat) :=
  if b.length < 4 then none
  else if b.length < szM b + 4 then none
  else if crcM (b.take (szM b + 2)) ≠ crM b (szM b + 2) then none
  else if (readM (txM b)).2.1 ≠ 0 then none
  else match (readM (txM b)).1 with
    | [s] => if (printM [s]).2.1 ≠ 0 ∨ (printM [s]).1 ≠ txM b then none else some (s, szM b + 4)
    | _ => none
theorem szM_le (b : Bs) : szM b ≤ 65535 := by
  have := UInt8.toNat_lt (b.getD 0 0)
  have := UInt8.toNat_lt (b.getD 1 0)
  unfold szM; omega
theorem RB_cut {M : Mem} {l : Bs} {a : Option Addr} {n c lo hi : Nat} (h : RS M RBy 1 l (.slice a n c)) (h1 : lo ≤ hi) (h2 : hi ≤ l.length) : RS M RBy 1 ((l.take hi).drop lo) (.slice (cutA a c lo 1) (hi - lo) (c - lo)) := by
  obtain ⟨hb, xs, hS, hR⟩ := h
  have hx := bytes_eq hR
  subst hx
  have hlen : ((l.take hi).drop lo).length = hi - lo := by simp; omega
  refine ⟨by omega, Lib.byteCells ((l.take hi).drop lo), ?_, RL_bytes _⟩
  rcases hS with ⟨a', c', h3, h4, hac⟩ | ⟨b, o, n', c', h3, h4, h5, h6⟩
  · injection h3 with e1 e2 e3
    subst e1 e2 e3
    have hl : l = [] := by simpa [Lib.byteCells] using h4
    subst hl
    have : hi = 0 := by simpa using h2
    subst this
    have : lo = 0 := by omega
    subst this
    refine .inl ⟨cutA a c 0 1, c - 0, rfl, rfl, fun h => ?_⟩
    have : a = none := by
      unfold cutA at h
      split at h
      · exact h
      · simpa using h
    have := hac this
    omega
  · injection h3 with e1 e2 e3
    subst e1 e2 e3
    have hnl : n = l.length := by simp [Lib.byteCells] at h5; omega
    subst hnl
    by_cases hc : c = lo
    · have : hi - lo = 0 := by omega
      have hnil : (l.take hi).drop lo = [] := List.length_eq_zero_iff.1 (by omega)
      rw [hnil]
      refine .inr ⟨b, o, hi - lo, c - lo, ?_, by omega, by simp [Lib.byteCells]; omega, trivial⟩
      unfold cutA; rw [if_pos hc]
    · refine .inr ⟨b, o + lo, hi - lo, c - lo, ?_, by omega, by simp [Lib.byteCells, hlen]; omega, ?_⟩
      · unfold cutA; rw [if_neg hc]
        simp only [Option.map_some, Nat.mul_one]
        congr 2
        unfold Addr.add; split <;> simp_all
      · have hsp : Lib.byteCells l = Lib.byteCells (l.take lo) ++ (Lib.byteCells ((l.take hi).drop lo) ++ Lib.byteCells (l.drop hi)) := by
          have : l = l.take lo ++ ((l.take hi).drop lo ++ l.drop hi) := by
            conv => lhs; rw [← List.take_append_drop hi l]
            rw [← List.append_assoc]
            congr 1
            conv => lhs; rw [← List.take_append_drop lo (l.take hi)]
            rw [List.take_take, Nat.min_eq_left h1]
          conv => lhs; rw [this]
          simp [Lib.byteCells]
        rw [hsp, At_app, At_app] at h6
        have hl2 : (Lib.byteCells (l.take lo)).length = lo := by simp [Lib.byteCells]; omega
        rw [hl2] at h6
        exact h6.2.1
theorem numsOf_bytes : ∀ l : Bs, numsOf (Lib.byteCells l) = some (l.map fun c => (c.toNat : Int))
  | [] => rfl
  | c :: l => by
    show (numsOf (Lib.byteCells l)).map _ = _
    rw [numsOf_bytes l]; rfl
theorem cutA_plain {b o c k sz : Nat} {a : Addr} (h : cutA (some ⟨b, o, none⟩) c k sz = some a) : a.spot = none := by
  unfold cutA at h
  split at h
  · injection h with h; subst h; rfl
  · simp only [Option.map_some, Option.some.injEq, Addr.add_lit] at h
    subst h; rfl
theorem vStr_RS {N : Tm} {M : Mem} {L : LL} {R : RR} {l : Bs} {v : Value} (h : RS M RBy 1 l v) (hp : ∀ a n c, v = .slice (some a) n c → a.spot = none) : vStr ⟨N, M, L, R⟩ v = some (st l) := by
  obtain ⟨hb, xs, hS, hR⟩ := h
  have hx := bytes_eq hR
  subst hx
  rcases hS with ⟨a', c', h3, h4, hac⟩ | ⟨b, o, n', c', h3, h4, h5, h6⟩
  · subst h3
    have hl : l = [] := by simpa [Lib.byteCells] using h4
    subst hl
    cases a' with
    | none => rw [hac rfl]; rfl
    | some a =>
      obtain ⟨b, o, s⟩ := a
      obtain rfl : s = none := hp _ _ _ rfl
      rfl
  · subst h3
    have hnl : n' = (Lib.byteCells l).length := by omega
    subst hnl
    show ((Sh.cells ⟨N, M, L, R⟩ ⟨b, o, none⟩ 0 (Lib.byteCells l).length).bind fun cs => (numsOf cs).map fun xs => Value.string (strOfNums xs)) = _
    rw [cells_At _ o 0 h6, Option.bind_some, numsOf_bytes, Option.map_some]
    congr 2
    apply ByteArray.ext
    apply Array.toList_inj.1
    rw [strOfNums_data, List.map_map]
    show _ = l
    conv => rhs; rw [← List.map_id l]
    apply List.map_congr_left
    intro c _
    simp
theorem RB_take {M : Mem} {l : Bs} {a : Option Addr} {n c hi : Nat} (h : RS M RBy 1 l (.slice a n c)) (h2 : hi ≤ l.length) : RS M RBy 1 (l.take hi) (.slice (cutA a c 0 1) hi c) := by
  have := RB_cut h (Nat.zero_le hi) h2
  simpa using this
theorem Sub_mem {T0 T : Tm} {M M' : Mem} {L : LL} {R : RR} (hM : Ext M M') : Vc.Sub ⟨T0, M, [], []⟩ ⟨T, M', L, R⟩ := by
  intro a v h
  simp only [Sh.cell, lcell] at h ⊢
  cases hm : mcell M a with
  | some u => rw [hm] at h; rw [mcell_ext hM hm]; exact h
  | none => rw [hm] at h; simp at h
theorem size_or (x y : UInt8) : vBits .or .i64 (IntKind.i64.wrap (IntKind.i64.wrap (x.toNat : Int) * 2 ^ min 8 64)) (IntKind.i64.wrap (y.toNat : Int)) = some (.int .i64 ((x.toNat * 256 + y.toNat : Nat) : Int)) := by
  have hx := UInt8.toNat_lt x
  have hy := UInt8.toNat_lt y
  rw [wrap_nat x.toNat (by omega), wrap_nat y.toNat (by omega)]
  have h1 : (x.toNat : Int) * 2 ^ min 8 64 = ((x.toNat * 256 : Nat) : Int) := by push_cast; rfl
  rw [h1, wrap_nat _ (by omega)]
  show some (Value.int .i64 (IntKind.i64.wrap ((BitVec.ofInt 64 ((x.toNat * 256 : Nat) : Int) ||| BitVec.ofInt 64 (y.toNat : Int)).toNat : Int))) = _
  have h2 : (BitVec.ofInt 64 ((x.toNat * 256 : Nat) : Int) ||| BitVec.ofInt 64 (y.toNat : Int)).toNat = x.toNat * 256 + y.toNat := by
    rw [BitVec.ofInt_natCast, BitVec.ofInt_natCast, BitVec.toNat_or, BitVec.toNat_ofNat, BitVec.toNat_ofNat, Nat.mod_eq_of_lt (by omega), Nat.mod_eq_of_lt (by omega)]
    have := Nat.shiftLeft_add_eq_or_of_lt (i := 8) (b := y.toNat) (by omega) x.toNat
    rw [Nat.shiftLeft_eq] at this
    exact this.symm
  rw [h2, wrap_nat _ (by omega)]
theorem crc_or (x y : UInt8) : vBits .or .u16 (IntKind.u16.wrap (IntKind.u16.wrap (x.toNat : Int) * 2 ^ min 8 16)) (IntKind.u16.wrap (y.toNat : Int)) = some (.int .u16 ((((BitVec.ofNat 16 x.toNat <<< 8) ||| BitVec.ofNat 16 y.toNat).toNat : Nat) : Int)) := by
  rw [shl8 _ (UInt8.toNat_lt x)]
  have h1 : IntKind.u16.wrap (y.toNat : Int) = ((BitVec.ofNat 16 y.toNat).toNat : Int) := by rw [w16, BitVec.toNat_ofNat]
  rw [h1]
  show some (Value.int .u16 (IntKind.u16.wrap ((BitVec.ofInt 16 _ ||| BitVec.ofInt 16 _).toNat : Int))) = _
  rw [ofInt16, ofInt16, w16, Nat.mod_eq_of_lt (BitVec.isLt _)]
def postFo (o : Option (Stm × Nat)) : PostP := fun r M' _ _ => match o with
  | some (s, n) => ∃ cs, r = .tuple ⟨[.agg ⟨cs⟩, .int .i64 (n : Int), .bool true]⟩ ∧ RStm M' s cs
  | none => ∃ cs, r = .tuple ⟨[.agg ⟨cs⟩, .int .i64 0, .bool false]⟩ ∧ cs.length = 16 ∧ ∀ u ∈ cs, u.oneCell' = true
theorem postF_none {r : Value} {M : Mem} (cs : List Value) (h : r = .tuple ⟨[.agg ⟨cs⟩, .int .i64 0, .bool false]⟩) (h1 : cs.length = 16) (h2 : ∀ u ∈ cs, u.oneCell' = true) : postFo none r M [] [] := ⟨cs, h, h1, h2⟩
theorem ct_jfirst {M : Mem} {l : Bs} {v : Value} (hg : GlobP M) (hv : RS M RBy 1 l v) : Ct Tryz.prog 56 [v] M [] [] (postFo (firstM l)) noPan := by
  intro T
  have hlb := hv.1
  have hv' := hv
  obtain ⟨_, a, c, rfl, hal, _, hget⟩ := RS_elim (by decide) (fun _ _ => RBy_len) hv'
  obtain ⟨W, hW⟩ : ∃ W, W = firstM l := ⟨_, rfl⟩
  rw [← hW]
  unfold firstM at hW
  refine ct_run mx bod56 Tryz.func56 rfl (by rw [nt56]; exact Nat.le_of_ble_eq_true rfl) (dr := dr56) (by kernel_rfl) rs56 ?_
  intro _ _
  simp +contextual only [go_sem, Rcb, Rbk, sevalprocAttr]
  intro b2 T2 hb2 hT2 hTb2
  by_cases h4 : (l.length : Int) < 4
  · rw [if_pos (by omega)] at hW
    simp +contextual only [go_sem, Rcb, Rbk, sevalprocAttr, h4]
    subst hW
    exact end_none hT2 (postF_none _ rfl rfl (by decide))
  · rw [if_neg (by omega)] at hW
    obtain ⟨x0, hx0⟩ : ∃ x0, l[0]? = some x0 := ⟨_, List.getElem?_eq_getElem (by omega)⟩
    obtain ⟨x1, hx1⟩ : ∃ x1, l[1]? = some x1 := ⟨_, List.getElem?_eq_getElem (by omega)⟩
    obtain ⟨bi, oi, _, rfl, hat0, hr0⟩ := hget 0 x0 hx0
    obtain ⟨_, _, _, he, hat1, hr1⟩ := hget 1 x1 hx1
    injection he with he
    injection he with e1 e2
    subst e1 e2
    rw [hr0] at hat0
    rw [hr1] at hat1
    have y0 : mcell M ⟨bi, oi, none⟩ = _ := At1 hat0
    have y1 : mcell M ⟨bi, oi + 1, none⟩ = _ := At1 hat1
    have l0 : (0 : Int) < (l.length : Int) := by omega
    have l1 : (1 : Int) < (l.length : Int) := by omega
    simp +contextual only [go_sem, Rcb, Rbk, sevalprocAttr, h4, l0, l1]
    refine draw_at ⟨T2, M, [], []⟩ (Sub_mem Ext.rfl') ?_
    simp +contextual only [go_sem, Rcb, Rbk, sevalprocAttr, h4, l0, l1, y0, y1, size_or]
    have hsz : szM l = x0.toNat * 256 + x1.toNat := by unfold szM; rw [List.getD_eq_getElem?_getD, List.getD_eq_getElem?_getD, hx0, hx1]; rfl
    rw [← hsz]
    have hsl := szM_le l
    have htx : txM l = (l.take (szM l + 2)).drop 2 := rfl
    generalize szM l = n at hW hsl htx ⊢
    have w4 : IntKind.i64.wrap ((n : Int) + 4) = ((n + 4 : Nat) : Int) := wrap_nat (n + 4) (by omega)
    have w2 : IntKind.i64.wrap ((n : Int) + 2) = ((n + 2 : Nat) : Int) := wrap_nat (n + 2) (by omega)
    have w3 : IntKind.i64.wrap ((n : Int) + 3) = ((n + 3 : Nat) : Int) := wrap_nat (n + 3) (by omega)
    refine draw_at ⟨T2, M, [], []⟩ (Sub_mem Ext.rfl') ?_
    by_cases hs : l.length < n + 4
    · rw [if_pos hs] at hW
      have hsi : ((l.length : Nat) : Int) < ((n + 4 : Nat) : Int) := by omega
      simp +contextual only [go_sem, Rcb, Rbk, sevalprocAttr, h4, l0, l1, w4, w2, w3, hsi, hb2]
      refine ⟨Sub_mem Ext.rfl', ?_⟩
      subst hW
      exact end_none hT2 (postF_none _ rfl rfl (by decide))
    · rw [if_neg hs] at hW
      have hsi : ¬ ((l.length : Nat) : Int) < ((n + 4 : Nat) : Int) := by omega
      have i2 : ((n + 2 : Nat) : Int) < ((l.length : Nat) : Int) := by omega
      have i3 : ((n + 3 : Nat) : Int) < ((l.length : Nat) : Int) := by omega
      have ic : ((n + 2 : Nat) : Int) ≤ ((c : Nat) : Int) := by omega
      obtain ⟨x2, hx2⟩ : ∃ x2, l[n + 2]? = some x2 := ⟨_, List.getElem?_eq_getElem (by omega)⟩
      obtain ⟨x3, hx3⟩ : ∃ x3, l[n + 3]? = some x3 := ⟨_, List.getElem?_eq_getElem (by omega)⟩
      obtain ⟨_, _, _, he, hat2, hr2⟩ := hget (n + 2) x2 hx2
      injection he with he
      injection he with e1 e2
      subst e1 e2
      obtain ⟨_, _, _, he, hat3, hr3⟩ := hget (n + 3) x3 hx3
      injection he with he
      injection he with e1 e2
      subst e1 e2
      rw [hr2] at hat2
      rw [hr3] at hat3
      have y2 := At1 hat2
      have y3 := At1 hat3
      rw [Nat.mul_one] at y2 y3
      have hcr : crM l (n + 2) = (BitVec.ofNat 16 x2.toNat <<< 8) ||| BitVec.ofNat 16 x3.toNat := by
        unfold crM; rw [List.getD_eq_getElem?_getD, List.getD_eq_getElem?_getD, hx2, hx3]; rfl
      simp +contextual only [go_sem, Rcb, Rbk, sevalprocAttr, h4, l0, l1, w4, w2, w3, hsi, i2, i3, ic, y2, y3, crc_or]
      rw [← hcr]
      generalize crM l (n + 2) = cr at hW
      refine rCall_pure (ct_sum (RB_take hv (by omega)) T2) ?_ (fun _ _ _ _ h => h.elim)
      rintro v M1 hM1 hno1 rfl
      simp only [noneL, and_true] at hno1
      by_cases hcq : crcM (l.take (n + 2)) = cr
      · rw [if_neg (fun h => h hcq)] at hW
        have q2 : (2 : Int) ≤ ((n + 2 : Nat) : Int) := by omega
        have hcut : ∀ {M'}, Ext M M' → RS M' RBy 1 (txM l) (.slice (cutA (some ⟨bi, oi, none⟩) c 2 1) n (c - 2)) := by
          intro M' hM'
          have := RB_cut (RS_ext hM' (fun _ _ h => h) hv) (lo := 2) (hi := n + 2) (by omega) (by omega)
          rw [← htx, Nat.add_sub_cancel] at this
          exact this
        have hstr : ∀ N L R, vStr ⟨N, M1, L, R⟩ (.slice (cutA (some ⟨bi, oi, none⟩) c 2 1) n (c - 2)) = some (.string (bs (txM l))) := fun N L R => vStr_RS (hcut hM1) (fun a n c h => by injection h with h; exact cutA_plain h)
        simp +contextual only [go_sem, Rcb, Rbk, sevalprocAttr, u16, hcq, h4, l0, l1, w4, w2, w3, hsi, i2, i3, ic, y2, y3, hno1, q2, hstr]
        refine ⟨Sub_mem hM1, ?_⟩
        refine rCall_pure (ct_Read (txM l) (hg.1.ext hM1) T2) ?_ (fun _ _ _ _ h => h.elim)
        rintro v M2 hM2 hno2 ⟨sv, rfl, hsv⟩
        simp only [noneL, and_true] at hno2
        have hstr2 : ∀ N L R, vStr ⟨N, M2, L, R⟩ (.slice (cutA (some ⟨bi, oi, none⟩) c 2 1) n (c - 2)) = some (.string (bs (txM l))) := fun N L R => vStr_RS (hcut (hM1.trans hM2)) (fun a n c h => by injection h with h; exact cutA_plain h)
        generalize txM l = tx at hW hstr2 hcut hsv ⊢
        obtain ⟨⟨ls, er, ar⟩, hrd⟩ : ∃ p, p = readM tx := ⟨_, rfl⟩
        rw [← hrd] at hW hsv ⊢
        clear hrd
        replace hsv : RS M2 (RStm M2) 16 ls sv := hsv
        replace hW : W = if er ≠ 0 then none else match ls with | [s] => if (printM [s]).2.1 ≠ 0 ∨ (printM [s]).1 ≠ tx then none else some (s, n + 4) | _ => none := hW
        have hsv' := hsv
        obtain ⟨_, sa, sc, rfl, hsl2, _, hsget⟩ := RS_elim (by decide) (fun _ _ => RStm_len) hsv'
        simp +contextual only [go_sem, Rcb, Rbk, sevalprocAttr, flt]
        intro b7 T7 hb7 hap7 hT7 hTb7
        have hT := hT2.trans hT7
        by_cases her : er = 0
        · rw [if_neg (fun h => h her)] at hW
          by_cases hl1 : (ls.length : Int) = 1
          · obtain ⟨s, rfl⟩ : ∃ s, ls = [s] := List.length_eq_one_iff.1 (by omega)
            replace hW : W = if (printM [s]).2.1 ≠ 0 ∨ (printM [s]).1 ≠ tx then none else some (s, n + 4) := hW
            simp +contextual only [go_sem, Rcb, Rbk, sevalprocAttr, her, hb7, hap7, hno2, hl1]
            refine rCall_pure (ct_Print (hg.ext (hM1.trans hM2)) hsv T7) ?_ (fun _ _ _ _ h => h.elim)
            rintro v M3 hM3 hno3 rfl
            simp only [List.cons_append, List.nil_append, noneL, noneL_pL] at hno3
            obtain ⟨⟨pt, pe, pa⟩, hpr⟩ : ∃ p, p = printM [s] := ⟨_, rfl⟩
            rw [← hpr] at hW ⊢
            clear hpr
            replace hW : W = if pe ≠ 0 ∨ pt ≠ tx then none else some (s, n + 4) := hW
            have hstr3 : ∀ N L R, vStr ⟨N, M3, L, R⟩ (.slice (cutA (some ⟨bi, oi, none⟩) c 2 1) n (c - 2)) = some (.string (bs tx)) := fun N L R => vStr_RS (hcut ((hM1.trans hM2).trans hM3)) (fun a n c h => by injection h with h; exact cutA_plain h)
            obtain ⟨bt, ot, cs, rfl, hats, hrs⟩ := hsget 0 s rfl
            have hrs := RStm_ext hM3 _ _ hrs
            have hats := hats.ext hM3
            obtain ⟨d0, d1, d2, d3, d4, d5, d6, d7, d8, d9, d10, d11, d12, d13, d14, d15, rfl⟩ := form16 (RStm_len hrs)
            have hone := RStm_oneC hrs
            simp only [List.forall_mem_cons] at hone
            obtain ⟨k0, k1, k2, k3, k4, k5, k6, k7, k8, k9, k10, k11, k12, k13, k14, k15, -⟩ := hone
            obtain ⟨z0, z1, z2, z3, z4, z5, z6, z7, z8, z9, z10, z11, z12, z13, z14, z15⟩ := At16 hats
            simp only [Nat.zero_mul, Nat.add_zero] at z0 z1 z2 z3 z4 z5 z6 z7 z8 z9 z10 z11 z12 z13 z14 z15
            simp +contextual only [go_sem, Rcb, Rbk, sevalprocAttr, flt, her]
            intro b9 T9 hb9 hap9 hT9 hTb9
            have hT9' := hT.trans hT9
            by_cases hpe : pe = 0
            · by_cases hpt : pt = tx
              · rw [if_neg (fun h => h.elim (fun h => h hpe) (fun h => h hpt))] at hW
                simp +contextual only [go_sem, Rcb, Rbk, sevalprocAttr, hpe, hpt, hb9, hap9, hno3, hap7, w2, q2, ic, hstr3, z0, z1, z2, z3, z4, z5, z6, z7, z8, z9, z10, z11, z12, z13, z14, z15, k0, k1, k2, k3, k4, k5, k6, k7, k8, k9, k10, k11, k12, k13, k14, k15, w4]
                subst hW
                exact end_none hT9' ⟨_, rfl, hrs⟩
              · rw [if_pos (.inr hpt)] at hW
                simp +contextual only [go_sem, Rcb, Rbk, sevalprocAttr, hpe, hpt, hb9, hap9, hno3, hap7, w2, q2, ic, hstr3]
                subst hW
                exact end_none hT9' (postF_none _ rfl rfl (by decide))
            · rw [if_pos (.inl hpe)] at hW
              simp +contextual only [go_sem, Rcb, Rbk, sevalprocAttr, hpe, hb9, hap9, hno3, hap7]
              subst hW
              exact end_none hT9' (postF_none _ rfl rfl (by decide))
          · have hW : W = none := by
              rw [hW]
              match ls, hl1 with
              | [], _ => rfl
              | [s], h => exact absurd rfl h
              | _ :: _ :: _, _ => rfl
            simp +contextual only [go_sem, Rcb, Rbk, sevalprocAttr, her, hb7, hap7, hno2, hl1]
            subst hW
            exact end_none hT (postF_none _ rfl rfl (by decide))
        · rw [if_pos her] at hW
          simp +contextual only [go_sem, Rcb, Rbk, sevalprocAttr, her, hb7, hap7, hno2]
          subst hW
          exact end_none hT (postF_none _ rfl rfl (by decide))
      · rw [if_pos hcq] at hW
        have hcq' : ¬ (((crcM (l.take (n + 2))).toNat : Nat) : Int) = ((cr.toNat : Nat) : Int) := fun h => hcq (BitVec.eq_of_toNat_eq (by omega))
        simp +contextual only [go_sem, Rcb, Rbk, sevalprocAttr, u16, hcq', h4, l0, l1, w4, w2, w3, hsi, i2, i3, ic, y2, y3, hno1]
        refine ⟨Sub_mem hM1, ?_⟩
        subst hW
        exact end_none hT2 (postF_none _ rfl rfl (by decide))
end Go.Proofs.YtoainkbcfnlkcaaGreatDoor

namespace Go.Proofs.YtoainkbcfnlkcaaGreatDoor
open Go Vc
set_option linter.unusedSimpArgs false
set_option linter.unusedVariables false
set_option maxRecDepth 10000

/-! ### Recover -/
def recL : Nat → Bs → List Stm × Nat
  | 0, _ => ([], 0)
  | f + 1, b => match firstM b with
    | none => ([], 0)
    | some (s, n) => (s :: (recL f (b.drop n)).1, n + (recL f (b.drop n)).2)
def recoverM (b : Bs) : List Stm × Int × Int := if 100000 < (b.length : Int) then ([], 0, 4) else ((recL (b.length + 1) b).1, ((recL (b.length + 1) b).2 : Int), 0)
theorem firstM_le {b : Bs} {s : Stm} {n : Nat} (h : firstM b = some (s, n)) : 4 ≤ n ∧ n ≤ b.length := by
  unfold firstM at h
  split at h
  · cases h
  split at h
  · cases h
  split at h
  · cases h
  split at h
  · cases h
  split at h
  · split at h
    · cases h
    · injection h with h; injection h with h1 h2; omega
  · cases h
theorem ct_Recover {M : Mem} {l : Bs} {v : Value} (hg : GlobP M) (hv : RS M RBy 1 l v) : Ct Tryz.prog 23 [v] M [] [] (fun r M' _ _ => ∃ w, r = .tuple ⟨[w, .int .i64 (recoverM l).2.1, .int .i64 (recoverM l).2.2]⟩ ∧ RS M' (RStm M') 16 (recoverM l).1 w) noPan := by
  intro T
  have hlb := hv.1
  have hv' := hv
  obtain ⟨_, a0, c0', rfl, hal, _, _⟩ := RS_elim (by decide) (fun _ _ => RBy_len) hv'
  obtain ⟨W, hW⟩ : ∃ W, W = recoverM l := ⟨_, rfl⟩
  rw [← hW]
  unfold recoverM at hW
  refine ct_run mx bod23 Tryz.func23 rfl (by rw [nt23]; exact Nat.le_of_ble_eq_true rfl) (dr := dr23) (by kernel_rfl) rs23 ?_
  intro _ _
  by_cases hbig : 100000 < (l.length : Int)
  · rw [if_pos hbig] at hW
    simp +contextual only [go_sem, Rcb, Rbk, sevalprocAttr, hbig]
    subst hW
    exact end_none ExtT.rfl' ⟨_, rfl, RS_nil⟩
  rw [if_neg hbig] at hW
  simp +contextual only [go_sem, Rcb, Rbk, sevalprocAttr, hbig]
  refine ⟨fun m e ds h => ds = [] ∧ e 0 = .slice a0 l.length c0' ∧ ∃ N M' acc a c at_ xs, ExtT T N ∧ Ext M M' ∧ e 5 = .slice a acc.length c ∧ e 6 = .int .i64 (at_ : Nat) ∧ at_ ≤ l.length ∧ acc.length * 4 ≤ at_ ∧ l.length - at_ < m ∧
    W = (acc ++ (recL m (l.drop at_)).1, ((at_ + (recL m (l.drop at_)).2 : Nat) : Int), 0) ∧ RL (RStm M') acc xs ∧ h = ⟨N, M', [], [(.slice a acc.length c, 67, 16, xs)]⟩,
    Close_addNil (Close_id ⟨l.length + 1, rfl, ?_, T, M, [], none, 0, 0, [], ExtT.rfl', Ext.rfl', ?_, ?_, Nat.zero_le _, Nat.le_refl _, by omega, by rw [hW, List.drop_zero, Nat.zero_add]; rfl, rfl, rfl⟩), ?_⟩
  · simp only [go_sem, Rcb, Rbk, sevalprocAttr]
  · simp only [go_sem, Rcb, Rbk, sevalprocAttr]
  · simp only [go_sem, Rcb, Rbk, sevalprocAttr]
  clear hW
  rintro m e ds h ⟨rfl, e0, N, M1, acc, a, c, at_, xs, hN, hM1, e5, e6, hat, hacc, hm, hW, hxs, rfl⟩
  obtain ⟨m, rfl⟩ : ∃ k, m = k + 1 := ⟨m - 1, by omega⟩
  have hcut : RS M1 RBy 1 (l.drop at_) (.slice (cutA a0 c0' at_ 1) (l.length - at_) (c0' - at_)) := by
    have := RB_cut (RS_ext hM1 (fun _ _ h => h) hv) (lo := at_) (hi := l.length) hat (Nat.le_refl _)
    rw [List.take_length] at this
    exact this
  have ha1 : ((at_ : Nat) : Int) ≤ ((l.length : Nat) : Int) := by omega
  have ha2 : ((l.length : Nat) : Int) ≤ ((c0' : Nat) : Int) := by omega
  simp +contextual only [go_sem, Rcb, Rbk, sevalprocAttr, e0, e5, e6, hat, hal]
  refine rCall_pure (ct_jfirst (hg.ext hM1) hcut N) ?_ (fun _ _ _ _ h => h.elim)
  rintro v M2 hM2 hno2 hq
  rw [recL] at hW
  obtain ⟨fo, hfo⟩ : ∃ fo, fo = firstM (l.drop at_) := ⟨_, rfl⟩
  rw [← hfo] at hW hq
  match fo, hfo, hW, hq with
  | none, hfo, hW, hq =>
    obtain ⟨cs, rfl, hcl, hco⟩ := hq
    obtain ⟨c0, c1, c2, c3, c4, c5, c6, c7, c8, c9, c10, c11, c12, c13, c14, c15, rfl⟩ := form16 hcl
    simp only [List.forall_mem_cons] at hco
    obtain ⟨k0, k1, k2, k3, k4, k5, k6, k7, k8, k9, k10, k11, k12, k13, k14, k15, -⟩ := hco
    simp +contextual only [go_sem, Rcb, Rbk, sevalprocAttr, e0, e5, e6, k0, k1, k2, k3, k4, k5, k6, k7, k8, k9, k10, k11, k12, k13, k14, k15]
    intro b Tn hb hTn hTb
    replace hW : W = (acc ++ [], ((at_ + 0 : Nat) : Int), 0) := hW
    rw [List.append_nil, Nat.add_zero] at hW
    subst hW
    refine Close_row fun M4 hM4 hno4 hsl => end_none (hN.trans hTn) ⟨_, rfl, by show acc.length ≤ _; omega, _, hsl, ?_⟩
    exact RL_mono (fun x cs h => RStm_ext (hM2.trans hM4) _ _ h) hxs
  | some (s, n), hfo, hW, hq =>
    obtain ⟨cs, rfl, hrs⟩ := hq
    obtain ⟨c0, c1, c2, c3, c4, c5, c6, c7, c8, c9, c10, c11, c12, c13, c14, c15, rfl⟩ := form16 (RStm_len hrs)
    have hco := RStm_oneC hrs
    simp only [List.forall_mem_cons] at hco
    obtain ⟨k0, k1, k2, k3, k4, k5, k6, k7, k8, k9, k10, k11, k12, k13, k14, k15, -⟩ := hco
    simp +contextual only [go_sem, Rcb, Rbk, sevalprocAttr, e0, e5, e6, k0, k1, k2, k3, k4, k5, k6, k7, k8, k9, k10, k11, k12, k13, k14, k15]
    intro b7 T7 hb7 hT7 hTb7
    intro b8 hb8 hap8
    have hx16 := RL_len (fun _ _ => RStm_len) hxs
    have hfl := firstM_le hfo.symm
    rw [List.length_drop] at hfl
    refine app_row row22 okt22 (.slice _ 1 _ _ _ Tryz.underlying22 (cells_own [] hb8 trivial rfl) (RStm_oneC hrs)) (by rw [hx16]; simp only [List.length_cons, List.length_nil]; omega) ?_
    intro ra rm rc hrm
    have hrm1 : rm = (acc ++ [s]).length := by
      rw [hx16] at hrm
      rw [List.length_append]
      simp only [List.length_cons, List.length_nil] at hrm ⊢
      omega
    subst hrm1
    have hacc2 := RL_append (RL_mono (fun x cs h => RStm_ext hM2 _ _ h) hxs) (RL_one hrs)
    replace hW : W = (acc ++ (s :: (recL m ((l.drop at_).drop n)).1), ((at_ + (n + (recL m ((l.drop at_).drop n)).2) : Nat) : Int), 0) := hW
    rw [List.drop_drop] at hW
    have hwn : IntKind.i64.wrap (((at_ : Nat) : Int) + ((n : Nat) : Int)) = ((at_ + n : Nat) : Int) := wrap_nat (at_ + n) (by omega)
    simp +contextual only [go_sem, Rcb, Rbk, sevalprocAttr, e0, e5, e6, hwn]
    rw [Run_lp]
    refine Close_drop (Close_drop (Close_id ⟨m, by omega, rfl, ?_, T7, M2, acc ++ [s], ra, rc, at_ + n, _, hN.trans hT7, hM1.trans hM2, ?_, ?_, by omega, ?_, by omega, ?_, hacc2, rfl⟩))
    · simp only [e0, go_sem, Rcb, Rbk, sevalprocAttr]
    · simp only [go_sem, Rcb, Rbk, sevalprocAttr]
    · simp only [go_sem, Rcb, Rbk, sevalprocAttr]
    · rw [List.length_append]; simp only [List.length_cons, List.length_nil]; omega
    · rw [hW, List.append_assoc]
      have : at_ + n + (recL m (l.drop (at_ + n))).2 = at_ + (n + (recL m (l.drop (at_ + n))).2) := by omega
      rw [this]; rfl
end Go.Proofs.YtoainkbcfnlkcaaGreatDoor

namespace Go.Proofs.YtoainkbcfnlkcaaGreatDoor
open Go Vc
set_option linter.unusedSimpArgs false
set_option linter.unusedVariables false
set_option maxRecDepth 10000

/-! ### the journal's law: alive, same -/
def tabS (n : Bs) : Stm := ⟨1, n, [⟨[97], 3⟩], zeroQ, [], false, zeroX⟩
theorem ct_table {M : Mem} (n : Bs) : Ct Tryz.prog 57 [st n] M [] [] (fun r M' _ _ => encStm (tabS n) r M') noPan := by
  intro T
  refine ct_run mx bod57 Tryz.func57 rfl (by rw [nt57]; exact Nat.le_of_ble_eq_true rfl) (dr := dr57) (by kernel_rfl) rs57 ?_
  intro _ _
  simp +contextual only [go_sem, Rcb, Rbk, sevalprocAttr]
  intro b2 T2 hb2 hT2 hTb2 b3 hb3 hap3
  refine Close_freeze fun he hb hno => end_none hT2 ⟨_, rfl, _, _, _, _, RS_lit (fun _ _ => RCo_len) hb (RL_one (x := (⟨[97], 3⟩ : Co)) rfl) rfl (by show 1 ≤ 140737488355328; omega), RQ_zero, RS_nil, RX_zero, rfl⟩
def aliveJ : Bool := (bytesM [tabS [116]]).2.1 == 0 && ((bytesM [tabS [116]]).1.length == 30 && ((recoverM (bytesM [tabS [116]]).1).2.1 == 30 && ((recoverM (bytesM [tabS [116]]).1).2.2 == 0 && (match (recoverM (bytesM [tabS [116]]).1).1 with | [s] => s.name == [116] | _ => false))))
theorem aliveJ_ok : aliveJ = true := by kernel_rfl
theorem ct_jalive {M : Mem} (hg : GlobP M) : Ct Tryz.prog 25 [] M [] [] (fun r _ _ _ => r = .bool true) noPan := by
  intro T
  have hal := aliveJ_ok
  unfold aliveJ at hal
  simp only [Bool.and_eq_true, beq_iff_eq] at hal
  obtain ⟨a1, a2, a3, a4, a5⟩ := hal
  refine ct_run mx bod25 Tryz.func25 rfl (by rw [nt25]; exact Nat.le_of_ble_eq_true rfl) (dr := dr25) (by kernel_rfl) rs25 ?_
  intro _ _
  simp +contextual only [go_sem, Rcb, Rbk, sevalprocAttr]
  refine rCall_pure (ct_table [116] T) ?_ (fun _ _ _ _ h => h.elim)
  rintro v M1 hM1 hno1 ⟨cs, rfl, hrs⟩
  have hcl := RStm_len hrs
  simp +contextual only [go_sem, Rcb, Rbk, sevalprocAttr, hcl]
  intro b2 hb2
  refine rCall_frz bod20 fun M2 hM2 hb2' hno2 => ?_
  have hl1 : RS M2 (RStm M2) 16 [tabS [116]] (.slice (some ⟨b2, 0, none⟩) 1 1) := RS_lit (fun _ _ => RStm_len) hb2' (RL_one (RStm_ext hM2 _ _ hrs)) rfl (by decide)
  refine rCall_pure (ct_Bytes (hg.ext (hM1.trans hM2)) hl1 T) ?_ (fun _ _ _ _ h => h.elim)
  rintro v M3 hM3 hno3 ⟨w, rfl, hw⟩
  generalize bytesM [tabS [116]] = B at *
  obtain ⟨bb, be, ba⟩ := B
  obtain ⟨_, wa, wc, rfl, _⟩ := RS_elim (by decide) (fun _ _ => RBy_len) hw
  simp +contextual only [go_sem, Rcb, Rbk, sevalprocAttr, flt]
  intro b4 T4 hb4 hT4 hTb4
  refine rCall_pure (ct_Recover (hg.ext ((hM1.trans hM2).trans hM3)) hw T4) ?_ (fun _ _ _ _ h => h.elim)
  rintro v M4 hM4 hno4 ⟨u, rfl, hu⟩
  simp only [List.cons_append, List.nil_append, noneL, noneL_pL] at hno4
  simp only at a1 a2 a3 a4 a5 hu ⊢
  generalize recoverM bb = Rc at *
  obtain ⟨rl, rn, re⟩ := Rc
  simp only at a3 a4 a5 hu ⊢
  subst a1 a3 a4
  match rl, a5, hu with
  | [s], a5, hu =>
    simp only [beq_iff_eq] at a5
    obtain ⟨_, ua, uc, rfl, _⟩ := RS_elim (by decide) (fun _ _ => RStm_len) hu
    obtain ⟨b, o, cs, rfl, hat, hs1⟩ := RS_get (i := 0) (x := s) (by decide) (fun _ _ => RStm_len) hu rfl
    obtain ⟨ac, ad, ap, aq, ao, an, ar, ae, au, av, aw, rfl, _⟩ := RStm_form hs1
    obtain ⟨y0, y1, _⟩ := At16 hat
    rw [a5] at y1
    simp only [Nat.zero_mul, Nat.add_zero] at y1
    have c30 : ((30 : Nat) : Int) = 30 := rfl
    simp +contextual only [go_sem, Rcb, Rbk, sevalprocAttr, y1, a2, hno4, c30]
    exact end_none hT4 rfl
end Go.Proofs.YtoainkbcfnlkcaaGreatDoor

namespace Go.Proofs.YtoainkbcfnlkcaaGreatDoor
open Go Vc
set_option linter.unusedSimpArgs false
set_option linter.unusedVariables false
set_option maxRecDepth 10000

theorem bytesL_le : ∀ (l : List Stm) (i : Nat) (acc : Bs), acc.length ≤ 100000 → (bytesL i acc l).1.length ≤ 104004
  | [], i, acc, h => by simp only [bytesL]; omega
  | s :: l, i, acc, h => by
    simp only [bytesL]
    split
    · simp
    split
    · simp
    · exact bytesL_le l _ _ (by omega)
theorem bytesM_le (l : List Stm) : (bytesM l).1.length ≤ 104004 := bytesL_le l 0 [] (by simp)
end Go.Proofs.YtoainkbcfnlkcaaGreatDoor


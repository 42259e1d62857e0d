import Derived.Test.YtoainkbcfnlkcaaGreatDoorK
import Derived.Lib.ItoaLen
import Derived.Test.YtoainkbcfnlkcaaGreatDoorV2
set_option linter.all false
namespace Go.Proofs.YtoainkbcfnlkcaaGreatDoor
open Go Vc
set_option linter.unusedSimpArgs false
set_option linter.unusedVariables false
set_option maxRecDepth 10000

/-! ### a quote is doubled -/
def escL : Bs → Bs | [] => [] | c :: l => if c = 39 then 39 :: 39 :: escL l else c :: escL l
theorem replaceK_esc : ∀ (t : Bs), Lib.replaceK [39] [39, 39] (Lib.count t [39]) t = escL t
  | [] => by
    rw [Lib.count_miss (by rw [Lib.index_one]; rfl)]; rfl
  | c :: l => by
    have ih := replaceK_esc l
    by_cases hc : c = 39
    · subst hc
      have hi : Lib.index (39 :: l) [39] = ((0 : Nat) : Int) := by rw [Lib.index_one]; rfl
      rw [Lib.count_hit (by simp) hi, Nat.add_comm, Lib.replaceK_hit _ _ _ _ _ hi]
      simp only [List.take_zero, List.length_cons, List.length_nil, Nat.zero_add, List.drop_succ_cons, List.drop_zero, List.nil_append, ih, escL, if_true]
      rfl
    · have hx : Lib.index (c :: l) [39] = if Lib.index l [39] == -1 then -1 else Lib.index l [39] + 1 := by
        rw [Lib.index_one, Lib.index_one, Lib.indexByte, if_neg (by simpa using hc)]
      rw [escL, if_neg hc]
      by_cases hm : Lib.index l [39] = -1
      · rw [Lib.count_miss hm] at ih
        rw [Lib.count_miss (by rw [hx, hm]; rfl)]
        rw [← ih]; rfl
      · have hge := Lib.index_ge l [39]
        obtain ⟨i, hi⟩ : ∃ i : Nat, Lib.index l [39] = i := ⟨(Lib.index l [39]).toNat, by omega⟩
        have hi' : Lib.index (c :: l) [39] = ((i + 1 : Nat) : Int) := by
          rw [hx, if_neg (by simpa using hm), hi]; rfl
        rw [Lib.count_hit (by simp) hi, Nat.add_comm, Lib.replaceK_hit _ _ _ _ _ hi] at ih
        rw [Lib.count_hit (by simp) hi', Nat.add_comm, Lib.replaceK_hit _ _ _ _ _ hi', ← ih]
        simp only [List.length_cons, List.length_nil, Nat.zero_add, List.drop_succ_cons, List.take_succ_cons, List.cons_append]
theorem escM_eq (t : Bs) : escM t = escL t := by
  unfold escM Lib.replaceAll Lib.replace
  rw [if_neg (by decide)]
  have : Lib.replaceNum t [39] (-1) = Lib.count t [39] := by unfold Lib.replaceNum; rw [if_pos (.inl (by decide))]
  rw [this, replaceK_esc]
theorem escL_le : ∀ t : Bs, (escL t).length ≤ 2 * t.length
  | [] => Nat.le_refl _
  | c :: l => by
    have := escL_le l
    rw [escL]
    split <;> simp only [List.length_cons] <;> omega
/-! ### how long what is written is -/
theorem wLen_cons (s : Bs) (l : List Bs) : wLen (s :: l) = s.length + 1 + wLen l := rfl
theorem valP_le {v : V} (h : wrongV v = 0) : wLen (valP v) ≤ 140 := by
  unfold wrongV at h
  unfold valP
  split
  · decide
  rename_i h1
  rw [if_neg h1] at h
  split
  · split <;> decide
  rename_i h2
  rw [if_neg h2] at h
  split
  · rename_i h4
    rw [if_neg (by omega), if_pos h4] at h
    have ht : v.t.length ≤ 60 := by
      split at h
      · omega
      · omega
    have := escL_le v.t
    rw [escM_eq]
    simp only [wLen, List.length_cons, List.length_append, List.length_nil]
    omega
  rename_i h4
  split
  · rename_i h3
    rw [if_pos h3] at h
    have hn : ¬ (v.n > 1000000000000000 ∨ v.n < -1000000000000000) := by
      intro hh; rw [if_pos hh] at h; omega
    have hi := Lib.itoa_length_le v.n (by omega) (by omega)
    have ht : (Lib.trimPrefix (Lib.itoa v.n) [45]).length ≤ (Lib.itoa v.n).length := by
      unfold Lib.trimPrefix; split <;> simp
    rw [wLen_app]
    have : wLen (if v.n < 0 then [minus] else []) ≤ 2 := by split <;> decide
    simp only [wLen]
    omega
  · simp [wLen]
theorem tightL_le (k : Int) : ∀ (ls : List Lvl) (i : Nat), (∀ l ∈ ls, ∀ s ∈ l.signs, s.length ≤ 8) → (tightL k i ls).2.length ≤ 8
  | [], i, _ => by simp [tightL]
  | l :: ls, i, h => by
    rw [tightL]
    split
    · rw [List.getD_eq_getElem?_getD]
      cases hg : l.signs[(k - l.kind).toNat]? with
      | none => simp
      | some s => exact h l (List.mem_cons_self ..) s (List.mem_of_getElem? hg)
    · exact tightL_le k ls (i + 1) fun l' hl' => h l' (List.mem_cons_of_mem _ hl')
theorem tightM_le (k : Int) : (tightM k).2.length ≤ 8 := by
  unfold tightM
  split
  · decide
  split
  · decide
  · exact tightL_le k levelsL 0 (by decide)
theorem fnW_le (k : Int) : (fnW k).length ≤ 8 := by
  unfold fnW
  split; · decide
  split; · decide
  split; · decide
  split; · decide
  split <;> decide
theorem comL_le {c : Nat} : ∀ (K : List (Int → List Bs)) (f : Bool), (∀ g ∈ K, wLen (g 1) ≤ c) → wLen (comL f K) ≤ K.length * (c + 2)
  | [], f, _ => by simp [comL, wLen]
  | g :: K, f, h => by
    have h1 := h g (List.mem_cons_self ..)
    have h2 := comL_le K false fun g' hg => h g' (List.mem_cons_of_mem _ hg)
    have h3 : wLen (if f = true then [] else [sComma]) ≤ 2 := by split <;> decide
    rw [comL, wLen_app, wLen_app, List.length_cons, Nat.add_mul]
    omega
/-- as much as all kids -/
def sumK : List (Int → List Bs) → Nat → Prop
  | [], n => True
  | f :: l, n => ∃ a b, a + b ≤ n ∧ (∀ i, wLen (f i) ≤ a) ∧ sumK l b
theorem sumK_com : ∀ {K : List (Int → List Bs)} {n : Nat} (f : Bool), sumK K n → wLen (comL f K) ≤ n + 2 * K.length
  | [], n, f, _ => by simp [comL, wLen]
  | g :: K, n, f, ⟨a, b, h1, h2, h3⟩ => by
    have h4 := sumK_com false h3
    have h5 := h2 1
    have h6 : wLen (if f = true then [] else [sComma]) ≤ 2 := by split <;> decide
    rw [comL, wLen_app, wLen_app, List.length_cons]
    omega
theorem bodyP_le {k : Int} {v : V} {tab name : Bs} {K : List (Int → List Bs)} {n : Nat} (hK : sumK K n) (hl : (K.length : Int) = kidsN k) (hv : k = 1 → wrongV v = 0) (hn : k = 2 → name.length ≤ 12 ∧ tab.length ≤ 12) : wLen (bodyP k v tab name K) ≤ n + 150 := by
  have hlen : K.length ≤ 3 := by
    unfold kidsN at hl
    split at hl
    · omega
    split at hl
    · omega
    split at hl
    · omega
    split at hl <;> omega
  have ht := tightM_le k
  have hf := fnW_le k
  have h0 : ∃ a b c : Nat, a + b + c ≤ n ∧ (∀ i, wLen (K.getD 0 (fun _ => []) i) ≤ a) ∧ (∀ i, wLen (K.getD 1 (fun _ => []) i) ≤ b) ∧ (∀ i, wLen (K.getD 2 (fun _ => []) i) ≤ c) := by
    match K, hK with
    | [], _ => exact ⟨0, 0, 0, by omega, by simp [wLen], by simp [wLen], by simp [wLen]⟩
    | [f], ⟨a, b, h1, h2, _⟩ => exact ⟨a, 0, 0, by omega, h2, by simp [wLen], by simp [wLen]⟩
    | [f, g], ⟨a, b, h1, h2, a', b', h3, h4, _⟩ => exact ⟨a, a', 0, by omega, h2, h4, by simp [wLen]⟩
    | f :: g :: i :: l, ⟨a, b, h1, h2, a', b', h3, h4, a'', b'', h5, h6, _⟩ => exact ⟨a, a', a'', by omega, h2, h4, h6⟩
  obtain ⟨a, b, c, habc, ha, hb, hc⟩ := h0
  unfold bodyP
  split
  · rename_i h1
    have := valP_le (hv h1)
    omega
  split
  · rename_i h2
    obtain ⟨hn1, hn2⟩ := hn h2
    have : wLen (if tab = [] then [] else [tab, sDot]) ≤ 30 := by
      split
      · decide
      · simp only [wLen]; have : sDot.length = 1 := rfl; omega
    rw [wLen_app]
    simp only [wLen]
    omega
  split
  · have := ha 3
    rw [wLen_cons]
    have : wNot.length = 3 := rfl
    omega
  split
  · have := ha 5
    rw [wLen_app]
    have : wLen [wIs, wNull] = 8 := rfl
    omega
  split
  · have h1 := ha 1
    have h2 := hb 1
    have h3 := hc 1
    simp only [wLen_app, wLen_cons]
    have : wLen [] = 0 := rfl
    have : wCase.length = 4 := rfl
    have : wWhen.length = 4 := rfl
    have : wThen.length = 4 := rfl
    have : wElse.length = 4 := rfl
    have : wEnd.length = 3 := rfl
    omega
  split
  · have : wLen [wCount, sOpen, sStar, sClose] = 12 := rfl
    omega
  split
  · have := sumK_com true hK
    unfold comP
    simp only [wLen_app, wLen_cons]
    have : wLen [] = 0 := rfl
    have : sOpen.length = 1 := rfl
    have : sClose.length = 1 := rfl
    omega
  · have h1 := ha (if (tightM k).1 = 4 then (tightM k).1 + 1 else (tightM k).1)
    have h2 := hb ((tightM k).1 + 1)
    rw [wLen_app, wLen_cons]
    omega
mutual
theorem exprP_le : ∀ (x : X), OkX x → ∀ i, wLen (exprP x i) ≤ 160 * nodesX x
  | .mk k v tab name kids, h, i => by
    rw [OkX] at h
    obtain ⟨h1, h2, h3, h4, h5⟩ := h
    have h6 := kidsP_le kids h5
    have h7 := bodyP_le (k := k) (v := v) (tab := tab) (name := name) h6 (by rw [kidsP_map, List.length_map]; exact h1) h3 h4
    rw [exprP, nodesX]
    split
    · rw [wLen_cons, wLen_app]
      have : sOpen.length = 1 := rfl
      have : wLen [sClose] = 2 := rfl
      omega
    · omega
theorem kidsP_le : ∀ (l : List X), OkXs l → sumK (kidsP l) (160 * nodesL l)
  | [], _ => trivial
  | x :: l, h => ⟨160 * nodesX x, 160 * nodesL l, by rw [nodesL]; omega, exprP_le x h.1, kidsP_le l h.2⟩
end
/-- what Wrong lets -/
theorem exprW_le {x : X} (h : exprW x = 0) (i : Int) : wLen (exprP x i) ≤ 32000 := by
  have := exprP_le x (exprW_ok h).1 i
  have := (exprW_ok h).2
  omega
theorem orE_0 {a b : Int} (h : orE a b = 0) : a = 0 ∧ b = 0 := by
  unfold orE at h
  split at h
  · rename_i h1; exact (h1 h).elim
  · rename_i h1; exact ⟨by omega, h⟩
theorem exprsW_mem : ∀ {l : List X}, exprsW l = 0 → ∀ x ∈ l, exprW x = 0
  | [], _, x, hx => by cases hx
  | y :: l, h, x, hx => by
    obtain ⟨h1, h2⟩ := orE_0 h
    rcases List.mem_cons.1 hx with rfl | hx
    · exact h1
    · exact exprsW_mem h2 x hx
theorem namesW_le {s : Bs} (h : namesW [s] = 0) : s.length ≤ 12 := by
  unfold namesW at h
  split at h
  · rename_i h1
    exact namedB_len (by simpa using h1)
  · omega
theorem givenW_le {s : Bs} (h : givenW s = 0) : s.length ≤ 12 := by
  unfold givenW at h
  split at h
  · rename_i h1; rw [h1]; simp
  · exact namesW_le h
theorem asP_le {s : Bs} (h : s.length ≤ 12) : wLen (asP s) ≤ 20 := by
  unfold asP
  split
  · decide
  · simp only [wLen]; have : wAs.length = 2 := rfl; omega
theorem itemsW_ok : ∀ {l : List It} (f : Bool), itemsW l = 0 → (∀ i ∈ l, OkX i.x) ∧ wLen (itemsP f l) ≤ l.length * 32100
  | [], f, _ => ⟨fun i hi => (by cases hi), by simp [itemsP, wLen]⟩
  | x :: l, f, h => by
    obtain ⟨h1, h2⟩ := orE_0 h
    simp only [firstW] at h1
    obtain ⟨h3, h4⟩ := orE_0 h1
    obtain ⟨h4, _⟩ := orE_0 h4
    obtain ⟨h5, h6⟩ := itemsW_ok false h2
    refine ⟨fun i hi => ?_, ?_⟩
    · rcases List.mem_cons.1 hi with rfl | hi
      · exact (exprW_ok h3).1
      · exact h5 i hi
    · have h7 : wLen (if f = true then [] else [sComma]) ≤ 2 := by split <;> decide
      have h8 := exprW_le h3 1
      have h9 := asP_le (givenW_le h4)
      rw [itemsP, itemP, wLen_app, wLen_app, wLen_app, List.length_cons, Nat.add_mul]
      omega
theorem joinWd_le (k : Int) : wLen (joinWd k) ≤ 11 := by
  unfold joinWd
  split; · decide
  split; · decide
  split; · decide
  split <;> decide
theorem sourcesW_ok : ∀ {l : List So} (n : Nat), sourcesW n l = 0 → (∀ f ∈ l, 1 ≤ f.k ∧ f.k ≤ 5) ∧ (∀ f ∈ (if n = 0 then l.tail else l), OkX f.on) ∧ wLen (srcsP (decide (n = 0)) l) ≤ l.length * 32100
  | [], n, _ => ⟨fun i hi => (by cases hi), fun i hi => (by split at hi <;> cases hi), by simp [srcsP, wLen]⟩
  | x :: l, n, h => by
    rw [sourcesW] at h
    obtain ⟨h1, h2⟩ := orE_0 h
    obtain ⟨h3, h4, h5⟩ := sourcesW_ok (n + 1) h2
    unfold sourceW at h1
    split at h1
    · omega
    rename_i hk
    have hk' : 1 ≤ x.k ∧ x.k ≤ 5 := ⟨by have := fun h => hk (.inl (.inr h)); omega, by have := fun h => hk (.inr h); omega⟩
    have hf : firstW [namesW [x.name], givenW x.as] = 0 ∧ (n ≠ 0 → exprW x.on = 0) := by
      split at h1
      · rename_i hh
        rcases hh with hh | hh
        · exact (hh h1).elim
        · exact ⟨h1, fun h => (h hh).elim⟩
      · rename_i hh
        exact ⟨Classical.byContradiction fun hc => hh (.inl hc), fun _ => h1⟩
    obtain ⟨hf1, hf2⟩ := hf
    simp only [firstW] at hf1
    obtain ⟨hn1, hn2⟩ := orE_0 hf1
    obtain ⟨hn2, _⟩ := orE_0 hn2
    rw [if_neg (by omega)] at h4
    refine ⟨fun f hf => ?_, fun f hf => ?_, ?_⟩
    · rcases List.mem_cons.1 hf with rfl | hf
      · exact hk'
      · exact h3 f hf
    · split at hf
      · exact h4 f hf
      · rename_i hn0
        rcases List.mem_cons.1 hf with rfl | hf
        · exact (exprW_ok (hf2 hn0)).1
        · exact h4 f hf
    · have ha := asP_le (givenW_le hn2)
      have hb := namesW_le hn1
      have hj := joinWd_le x.k
      have hon : wLen (if decide (n = 0) = true then [] else [wOn] ++ exprP x.on 1) ≤ 32003 := by
        by_cases hn0 : n = 0
        · rw [if_pos (by simpa using hn0)]; simp [wLen]
        · rw [if_neg (by simpa using hn0), wLen_app]
          have := exprW_le (hf2 hn0) 1
          have : wLen [wOn] = 3 := rfl
          omega
      have he : (decide (n + 1 = 0)) = false := by simp
      rw [he] at h5
      rw [srcsP, srcP]
      simp only [wLen_app, List.length_cons, Nat.add_mul, wLen_cons]
      have : wLen [] = 0 := rfl
      omega
theorem whereP_le {f : Bool} {w : Bs} {x : X} (hw : w.length ≤ 8) (h : (if f = true then exprW x else 0) = 0) : (f = true → OkX x) ∧ wLen (whereP f w x) ≤ 32010 := by
  unfold whereP
  split at h
  · rename_i hf
    refine ⟨fun _ => (exprW_ok h).1, ?_⟩
    have := exprW_le h 1
    rw [if_pos hf, wLen_app, wLen_cons]
    have : wLen [] = 0 := rfl
    omega
  · rename_i hf
    refine ⟨fun h => (hf h).elim, ?_⟩
    rw [if_neg hf]
    simp [wLen]
theorem comX_le {l : List X} (h : exprsW l = 0) : (∀ x ∈ l, OkX x) ∧ wLen (comP (l.map exprP)) ≤ l.length * 32002 := by
  refine ⟨fun x hx => (exprW_ok (exprsW_mem h x hx)).1, ?_⟩
  have := comL_le (c := 32000) (l.map exprP) true fun g hg => by
    obtain ⟨x, hx, rfl⟩ := List.mem_map.1 hg
    exact exprW_le (exprsW_mem h x hx) 1
  rw [List.length_map] at this
  exact this
theorem selW_ok {s : Se} (h : selW s = 0) : OkSe s ∧ wLen (selP s) ≤ 1000000 := by
  unfold selW at h
  split at h
  · omega
  rename_i hm
  obtain ⟨h1, h2⟩ := orE_0 h
  obtain ⟨h2, h3⟩ := orE_0 h2
  obtain ⟨h3, h4⟩ := orE_0 h3
  obtain ⟨h4, h5⟩ := orE_0 h4
  have hm' : ¬ (((s.src.length : Int) < 1 ∨ 4 < (s.src.length : Int)) ∨ 8 < (s.group.length : Int)) ∧ (s.star = false → ¬ (8 < (s.items.length : Int))) := by
    unfold selMany at hm
    refine ⟨fun hc => hm (by rw [decide_eq_true hc]; rfl), fun hs hc => hm ?_⟩
    rw [hs, decide_eq_true hc]
    simp
  obtain ⟨hm1, hm2⟩ := hm'
  have hs := sourcesW_ok 0 h2
  have hw := whereP_le (w := wWhere) (by decide) h3
  have hv := whereP_le (w := wHaving) (by decide) h5
  have hg := comX_le h4
  have hi : (s.star = false → ∀ i ∈ s.items, OkX i.x) ∧ wLen (if s.star = true then [] else itemsP true s.items) ≤ 8 * 32100 := by
    cases hst : s.star with
    | true => exact ⟨fun h => by simp at h, by simp [wLen]⟩
    | false =>
      rw [hst, if_neg (by simp)] at h1
      have := itemsW_ok true h1
      have hm2 := hm2 hst
      refine ⟨fun _ => this.1, ?_⟩
      rw [if_neg (by simp)]
      have h88 : s.items.length ≤ 8 := by omega
      exact Nat.le_trans this.2 (Nat.mul_le_mul_right _ h88)
  refine ⟨⟨hi.1, hs.1, hs.2.1, hw.1, hg.1, hv.1⟩, ?_⟩
  have hgl : wLen (groupP s.group) ≤ 10 + 8 * 32002 := by
    unfold groupP
    split
    · simp [wLen]
    · have := hg.2
      have : s.group.length * 32002 ≤ 8 * 32002 := Nat.mul_le_mul_right _ (by omega)
      rw [wLen_app]
      have : wLen [wGroup, wBy] = 9 := rfl
      omega
  have hsl := hs.2.2
  have : s.src.length * 32100 ≤ 4 * 32100 := Nat.mul_le_mul_right _ (by omega)
  have hd : wLen (if s.distinct = true then [wDistinct] else []) ≤ 10 := by split <;> decide
  have hst : wLen (if s.star = true then [sStar] else []) ≤ 10 := by split <;> decide
  have h6 : wLen [wSelect] = 7 := rfl
  have e0 : decide ((0 : Nat) = 0) = true := rfl
  rw [e0] at hsl
  unfold selP
  simp only [wLen_app]
  have := hi.2
  have := hw.2
  have := hv.2
  omega
theorem setWd_le (k : Int) : wLen (setWd k) ≤ 12 := by
  unfold setWd
  split; · decide
  split; · decide
  split <;> decide
theorem partsW_ok {ops : List Int} : ∀ {l : List Se} (n : Nat), partsW ops n l = 0 → (∀ s ∈ l, OkSe s) ∧ (∀ j, n ≤ j → j < n + l.length → 0 < j → 1 ≤ ops.getD (j - 1) 0 ∧ ops.getD (j - 1) 0 ≤ 4) ∧ wLen (partsP ops n l) ≤ l.length * 1000012
  | [], n, _ => ⟨fun i hi => (by cases hi), fun j h1 h2 => (by simp at h2; omega), by simp [partsP, wLen]⟩
  | x :: l, n, h => by
    rw [partsW] at h
    split at h
    · omega
    rename_i hk
    obtain ⟨h1, h2⟩ := orE_0 h
    obtain ⟨h3, h4⟩ := selW_ok h1
    obtain ⟨h5, h6, h7⟩ := partsW_ok (n + 1) h2
    refine ⟨fun s hs => ?_, fun j hj1 hj2 hj0 => ?_, ?_⟩
    · rcases List.mem_cons.1 hs with rfl | hs
      · exact h3
      · exact h5 s hs
    · by_cases hjn : j = n
      · subst hjn
        have : ¬ (ops.getD (j - 1) 0 < 1 ∨ 4 < ops.getD (j - 1) 0) := fun h => hk ⟨hj0, h⟩
        omega
      · exact h6 j (by omega) (by rw [List.length_cons] at hj2; omega) hj0
    · have hs : wLen (if n = 0 then [] else setWd (ops.getD (n - 1) 0)) ≤ 12 := by
        split
        · decide
        · exact setWd_le _
      rw [partsP, wLen_app, wLen_app, List.length_cons, Nat.add_mul]
      omega
theorem decDigits_le50 {n : Nat} (h : n ≤ 50) : (Lib.decDigits n).length ≤ 21 := by
  have := Lib.itoa_length_le (n : Int) (by omega) (by omega)
  unfold Lib.itoa at this
  rw [if_neg (by omega)] at this
  exact this
theorem queryW_ok {q : Q} (h : queryW q = 0) : OkQ q ∧ wLen (queryP q) ≤ 4300000 := by
  unfold queryW at h
  split at h
  · omega
  rename_i hm
  split at h
  · omega
  rename_i hl
  obtain ⟨h1, h2⟩ := orE_0 h
  obtain ⟨h3, h4, h5⟩ := partsW_ok 0 h1
  unfold queryMany at hm
  rw [decide_eq_true_eq] at hm
  have hp : ¬ ((q.parts.length : Int) < 1 ∨ 4 < (q.parts.length : Int)) := fun h => hm (.inl (.inl h))
  have ho : (q.ops.length : Int) = (q.parts.length : Int) - 1 := Classical.byContradiction fun h => hm (.inl (.inr h))
  have hd : 0 ≤ q.limit → ¬ ((q.order.length : Int) < 1 ∨ 8 < (q.order.length : Int)) := fun h h' => hm (.inr ⟨h, h'⟩)
  refine ⟨⟨h3, by omega, fun k hk => ?_, fun hq => ⟨by omega, ?_⟩⟩, ?_⟩
  · obtain ⟨j, hj, rfl⟩ := List.mem_iff_getElem.1 hk
    have := h4 (j + 1) (by omega) (by omega) (by omega)
    rw [Nat.add_sub_cancel, List.getD_eq_getElem?_getD, List.getElem?_eq_getElem hj] at this
    exact this
  · unfold queryW1 at h2
    rw [if_neg (by omega)] at h2
    exact (comX_le h2).1
  · have hlim : wLen (limP q) ≤ 260000 := by
      unfold limP
      split
      · rename_i hq
        unfold queryW1 at h2
        rw [if_neg (by omega)] at h2
        have := (comX_le h2).2
        have := hd hq
        have : q.order.length * 32002 ≤ 8 * 32002 := Nat.mul_le_mul_right _ (by omega)
        have := decDigits_le50 (n := q.limit.toNat) (by omega)
        simp only [wLen_app, wLen_cons]
        have : wLen [] = 0 := rfl
        have : wOrder.length = 5 := rfl
        have : wBy.length = 2 := rfl
        have : wLimit.length = 5 := rfl
        omega
      · simp [wLen]
    have : q.parts.length * 1000012 ≤ 4 * 1000012 := Nat.mul_le_mul_right _ (by omega)
    rw [queryP, wLen_app]
    omega
theorem tyWd_le (t : Int) : (tyWd t).length ≤ 4 := by
  unfold tyWd
  split; · decide
  split <;> decide
theorem colsW_ok : ∀ {l : List Co} (f : Bool), colsW l = 0 → (∀ c ∈ l, 2 ≤ c.ty ∧ c.ty ≤ 4) ∧ wLen (colsP f l) ≤ l.length * 30
  | [], f, _ => ⟨fun i hi => (by cases hi), by simp [colsP, wLen]⟩
  | c :: l, f, h => by
    obtain ⟨h1, h2⟩ := orE_0 h
    split at h2
    · omega
    rename_i ht
    obtain ⟨h3, h4⟩ := colsW_ok false h2
    refine ⟨fun d hd => ?_, ?_⟩
    · rcases List.mem_cons.1 hd with rfl | hd
      · omega
      · exact h3 d hd
    · have h7 : wLen (if f = true then [] else [sComma]) ≤ 2 := by split <;> decide
      have h8 := namesW_le h1
      have h9 := tyWd_le c.ty
      rw [colsP, wLen_app, wLen_app, List.length_cons, Nat.add_mul]
      simp only [wLen]
      omega
theorem valsW_ok : ∀ {l : List V} (f : Bool), valsW l = 0 → (∀ v ∈ l, wrongV v = 0) ∧ wLen (rowVP f l) ≤ l.length * 142
  | [], f, _ => ⟨fun i hi => (by cases hi), by simp [rowVP, wLen]⟩
  | v :: l, f, h => by
    obtain ⟨h1, h2⟩ := orE_0 h
    obtain ⟨h3, h4⟩ := valsW_ok false h2
    refine ⟨fun d hd => ?_, ?_⟩
    · rcases List.mem_cons.1 hd with rfl | hd
      · exact h1
      · exact h3 d hd
    · have h7 : wLen [if f = true then sOpen else sComma] ≤ 2 := by cases f <;> decide
      have h8 := valP_le h1
      rw [rowVP, wLen_app, wLen_app, List.length_cons, Nat.add_mul]
      omega
theorem rowsW_ok : ∀ {l : List (List V)} (f : Bool), rowsW l = 0 → (∀ r ∈ l, ∀ v ∈ r, wrongV v = 0) ∧ wLen (rowsP f l) ≤ l.length * 1200
  | [], f, _ => ⟨fun i hi => (by cases hi), by simp [rowsP, wLen]⟩
  | r :: l, f, h => by
    rw [rowsW] at h
    split at h
    · omega
    rename_i hr
    obtain ⟨h1, h2⟩ := orE_0 h
    obtain ⟨h3, h4⟩ := rowsW_ok false h2
    obtain ⟨h5, h6⟩ := valsW_ok true h1
    refine ⟨fun d hd => ?_, ?_⟩
    · rcases List.mem_cons.1 hd with rfl | hd
      · exact h5
      · exact h3 d hd
    · have h7 : wLen (if f = true then [] else [sComma]) ≤ 2 := by split <;> decide
      have : r.length * 142 ≤ 8 * 142 := Nat.mul_le_mul_right _ (by omega)
      have h8 : wLen [sClose] = 2 := rfl
      rw [rowsP, wLen_app, wLen_app, wLen_app, List.length_cons, Nat.add_mul]
      omega
theorem stmtW_ok {s : Stm} (h : stmtW s = 0) : OkStm s ∧ wLen (stmtP s) ≤ 5000000 := by
  unfold stmtW at h
  split at h
  · omega
  rename_i hk
  have hk' : 1 ≤ s.k ∧ s.k ≤ 5 := by omega
  have hsemi : wLen [sSemi] = 2 := rfl
  rw [stmtP, wLen_app, hsemi]
  by_cases h5 : s.k = 5
  · rw [if_pos h5] at h
    obtain ⟨h1, h2⟩ := queryW_ok h
    refine ⟨⟨hk', fun h => by omega, fun _ => h1, fun h => by omega, fun h => by omega⟩, ?_⟩
    unfold bodyS
    rw [if_neg (by omega), if_neg (by omega), if_neg (by omega), if_neg (by omega), if_pos h5, wLen_app]
    have : wLen [wShow] = 5 := rfl
    omega
  rw [if_neg h5] at h
  obtain ⟨hn, h⟩ := orE_0 h
  have hn := namesW_le hn
  have : wLen [] = 0 := rfl
  by_cases h2 : s.k = 2
  · rw [if_pos h2] at h
    obtain ⟨h1, h3⟩ := queryW_ok h
    refine ⟨⟨hk', fun h => by omega, fun _ => h1, fun h => by omega, fun h => by omega⟩, ?_⟩
    unfold bodyS
    rw [if_neg (by omega), if_pos h2, wLen_app]
    simp only [wLen_cons]
    have : wCreate.length = 6 := rfl
    have : wView.length = 4 := rfl
    have : wAs.length = 2 := rfl
    omega
  rw [if_neg h2] at h
  by_cases h1 : s.k = 1
  · rw [if_pos h1] at h
    split at h
    · omega
    rename_i hl
    obtain ⟨h3, h4⟩ := colsW_ok true h
    refine ⟨⟨hk', fun _ => h3, fun h => by omega, fun h => by omega, fun h => by omega⟩, ?_⟩
    have : s.cols.length * 30 ≤ 8 * 30 := Nat.mul_le_mul_right _ (by omega)
    unfold bodyS
    rw [if_pos h1, wLen_app, wLen_app]
    simp only [wLen_cons]
    have : wCreate.length = 6 := rfl
    have : wTable.length = 5 := rfl
    have : sOpen.length = 1 := rfl
    have : sClose.length = 1 := rfl
    omega
  rw [if_neg h1] at h
  by_cases h3 : s.k = 3
  · rw [if_pos h3] at h
    split at h
    · omega
    rename_i hl
    obtain ⟨h3', h4⟩ := rowsW_ok true h
    refine ⟨⟨hk', fun h => by omega, fun h => by omega, fun _ => h3', fun h => by omega⟩, ?_⟩
    have : s.rows.length * 1200 ≤ 400 * 1200 := Nat.mul_le_mul_right _ (by omega)
    unfold bodyS
    rw [if_neg h1, if_neg h2, if_pos h3, wLen_app]
    simp only [wLen_cons]
    have : wInsert.length = 6 := rfl
    have : wInto.length = 4 := rfl
    have : wValues.length = 6 := rfl
    omega
  rw [if_neg h3] at h
  have h4 : s.k = 4 := by omega
  rw [if_pos h4] at h
  have hw := whereP_le (w := wWhere) (by decide) h
  refine ⟨⟨hk', fun h => by omega, fun h => by omega, fun h => by omega, fun _ => hw.1⟩, ?_⟩
  unfold bodyS
  rw [if_neg h1, if_neg h2, if_neg h3, if_pos h4, wLen_app]
  simp only [wLen_cons]
  have : wDelete.length = 6 := rfl
  have : wFrom.length = 4 := rfl
  have := hw.2
  omega
theorem wrongL_0 : ∀ {l : List Stm} {i : Nat}, (wrongL i l).1 = 0 → ∀ s ∈ l, stmtW s = 0
  | [], _, _, s, hs => by cases hs
  | x :: l, i, h, s, hs => by
    rw [wrongL] at h
    split at h
    · rename_i h1; exact (h1 h).elim
    rename_i h1
    rcases List.mem_cons.1 hs with rfl | hs
    · omega
    · exact wrongL_0 h s hs
/-- all that Wrong lets -/
theorem wrongS_ok {l : List Stm} (h : (wrongS l).1 = 0) : l.length ≤ 60 ∧ ∀ s ∈ l, stmtW s = 0 := by
  unfold wrongS at h
  split at h
  · simp at h
  · exact ⟨by omega, wrongL_0 h⟩
/-- statements, written -/
def stmtsP : List Stm → List Bs
  | [] => []
  | s :: l => stmtP s ++ stmtsP l
theorem stmtsP_le : ∀ {l : List Stm}, (∀ s ∈ l, stmtW s = 0) → wLen (stmtsP l) ≤ l.length * 5000000
  | [], _ => by simp [stmtsP, wLen]
  | s :: l, h => by
    have h1 := (stmtW_ok (h s (List.mem_cons_self ..))).2
    have h2 := stmtsP_le fun t ht => h t (List.mem_cons_of_mem _ ht)
    rw [stmtsP, wLen_app, List.length_cons, Nat.add_mul]
    omega
end Go.Proofs.YtoainkbcfnlkcaaGreatDoor

namespace Go.Proofs.YtoainkbcfnlkcaaGreatDoor
open Go Vc
set_option linter.unusedSimpArgs false
set_option linter.unusedVariables false
set_option maxRecDepth 10000

/-! ### Print -/
def printM (l : List Stm) : Bs × Int × Int :=
  if (wrongS l).1 ≠ 0 then ([], (wrongS l).1, ((wrongS l).2 : Int))
  else if 4000 < ((putM [] (stmtsP l)).length : Int) then ([], 4, 0) else (putM [] (stmtsP l), 0, 0)
theorem stmtsP_drop {l : List Stm} {i : Nat} (h : i < l.length) : stmtsP (l.drop i) = stmtP l[i] ++ stmtsP (l.drop (i + 1)) := by
  rw [List.drop_eq_getElem_cons h, stmtsP]
theorem putM_stmt (acc : Bs) (s : Stm) : putM acc (stmtP s) ≠ [] := by
  rw [stmtP, putM_app]
  intro h
  have : putM (putM acc (bodyS s)) [sSemi] = sepM (putM acc (bodyS s)) ++ sSemi := rfl
  rw [this] at h
  have := congrArg List.length h
  rw [List.length_append] at this
  have : sSemi.length = 1 := rfl
  simp at *
theorem stmt_b {F : Fi} {s : List Vc.Item} {e : Env} {ds : List Deferred} {dd : Option Nat} {N : Tm} {M : Mem} {b bx ox : Nat} {cs : List Value} {a : Option Addr} {c : Nat} {p : Value} {acc : Bs} {x : Stm} (L2 : LL) (hg : GlobP M) (hr : RStm M x cs) (ha : At M bx ox cs) (ho : OkStm x) (hN : N b = some 97) (hp : wrP b p) (hl : acc.length + wLen (stmtP x) ≤ 1000000000)
    (k : ∀ u M' p' a' c', Ext M M' → noneL M' ((b, [p', .slice a' (putM acc (stmtP x)).length c']) :: L2) → wrP b p' → Run Tryz.prog F s (updo e dd u) ds ⟨N, M', (b, [p', .slice a' (putM acc (stmtP x)).length c']) :: L2, [(.slice a' (putM acc (stmtP x)).length c', 5, 1, Lib.byteCells (putM acc (stmtP x)))]⟩ ⟨⟩) :
    rCall Tryz.prog F 46 [.pointer (some ⟨b, 0, none⟩), .pointer (some ⟨bx, ox, none⟩)] dd s e ds ⟨N, M, (b, [p, .slice a acc.length c]) :: L2, [(.slice a acc.length c, 5, 1, Lib.byteCells acc)]⟩ ⟨⟩ := by
  have h := rCall_of (P := Tryz.prog) (F := F) (s := s) (e := e) (ds := ds) (dd := dd) (N := N) [] (wrL b p a acc.length c) L2 [] (wrR a acc.length c acc) [] (ct_pwstmt hg hr ha ho hN hp hl)
    (fun u M' L' R' hM' _ _ hno' hq => by
      obtain ⟨p', a', c', hp', rfl, rfl⟩ := hq
      exact k u M' p' a' c' hM' hno' hp')
    (fun _ _ _ _ _ _ _ _ h => h.elim)
  exact h
theorem ct_Print {M : Mem} {l : List Stm} {sv : Value} (hg : GlobP M) (hs : RS M (RStm M) 16 l sv) : Ct Tryz.prog 17 [sv] M [] [] (fun r _ _ _ => r = .tuple ⟨[st (printM l).1, flt (printM l).2.1 (printM l).2.2]⟩) noPan := by
  intro T
  have hs' := hs
  obtain ⟨_, sa, sc, rfl, hsl, _, hsget⟩ := RS_elim (by decide) (fun _ _ => RStm_len) hs'
  have hsb := RS_le hs
  obtain ⟨W, hW⟩ : ∃ W, W = printM l := ⟨_, rfl⟩
  rw [← hW]
  unfold printM at hW
  refine ct_run mx bod17 Tryz.func17 rfl (by rw [nt17]; exact Nat.le_of_ble_eq_true rfl) (dr := dr17) (by kernel_rfl) rs17 ?_
  intro _ _
  simp +contextual only [go_sem, sevalprocAttr]
  intro b3 T3 hb3 hT3 hTb3
  refine rCall_pure (ct_Wrong hg.1 hs T3) ?_ (fun _ _ _ _ h => h.elim)
  rintro v M1 hM1 hno1 rfl
  simp only [noneL, and_true] at hno1
  simp +contextual only [go_sem, sevalprocAttr, flt]
  intro b4 T4 hb4 hap4 hT4 hTb4
  by_cases hw : (wrongS l).1 = 0
  · rw [if_neg (fun h => h hw)] at hW
    obtain ⟨hl60, hok⟩ := wrongS_ok hw
    have hlen := stmtsP_le hok
    simp +contextual only [go_sem, Rcb, Rbk, sevalprocAttr, hw, hb4, hb3, hap4, hno1]
    intro bw Tw hbw hapw hTw hTbw
    refine loop_rangeC l.length 17 [(3, .pointer (some ⟨b3, 0, none⟩)), (0, .slice sa l.length sc), (5, .pointer (some ⟨bw, 0, none⟩)), (16, .int .i64 (l.length : Int))] (fun i e h => ∃ M' A p a c, (i = 0 → a = none ∧ c = 0 ∧ A = []) ∧ (0 < i → A ≠ []) ∧ putM A (stmtsP (l.drop i)) = putM [] (stmtsP l) ∧ A.length + wLen (stmtsP (l.drop i)) ≤ 300000000 ∧ wrP bw p ∧ Ext M1 M' ∧ M' bw = none ∧ M' b4 = none ∧ M' b3 = none ∧ h = ⟨Tw, M', [(bw, [p, .slice a A.length c]), (b4, [.int .i64 (wrongS l).1, .int .i64 (wrongS l).2]), (b3, [.int .i64 0, .int .i64 0])], [(.slice a A.length c, 5, 1, Lib.byteCells A)]⟩) 0 (by omega) (by simp only [live, go_sem, Rcb, Rbk, sevalprocAttr]) (by simp only [go_sem, Rcb, Rbk, sevalprocAttr]) ?_ ?_
    · exact Close_addNil (Close_id ⟨M1, [], .pointer none, none, 0, fun _ => ⟨rfl, rfl, rfl⟩, fun h => absurd h (by omega), rfl, by rw [List.drop_zero]; simp only [List.length_nil]; omega, .inl rfl, Ext.rfl', hbw, hb4, hno1, rfl⟩)
    · rintro i e h hi hlv ht ⟨M2, A, p, a, c, hA0, hA1, hput, hlen2, hp, hM2, nw, n4, n3, rfl⟩
      simp only [live] at hlv
      have hT := hT3.trans (hT4.trans hTw)
      by_cases hlt : i < l.length
      · obtain ⟨bi, oi, ci, rfl, hat, hri⟩ := hsget i l[i] (List.getElem?_eq_getElem hlt)
        have hos := stmtW_ok (hok l[i] (List.getElem_mem hlt))
        rw [stmtsP_drop hlt] at hput hlen2
        rw [putM_app] at hput
        rw [wLen_app] at hlen2
        generalize l[i] = s at hput hlen2 hri hos
        have h2 := hM1.trans hM2
        simp +contextual only [go_sem, Rcb, Rbk, sevalprocAttr, hlv, ht, hlt]
        refine stmt_b _ (hg.ext h2) (RStm_ext h2 _ _ hri) (hat.ext h2) hos.1 hTbw hp (by omega) ?_
        rintro w M3 p3 a3 c3 hM3 hno3 hp3
        simp only [noneL, and_true] at hno3
        simp +contextual only [go_sem, Rcb, Rbk, sevalprocAttr, hlv, ht]
        have hle := putM_le (stmtP s) A
        refine lp_range hlt ?_ ?_ ⟨M3, _, p3, a3, c3, fun h => absurd h (by omega), fun _ => putM_stmt A s, hput, by omega, hp3, hM2.trans hM3, hno3.1, hno3.2.1, hno3.2.2, rfl⟩
        · simp only [live, hlv, go_sem, Rcb, Rbk, sevalprocAttr]
        · simp only [ht, go_sem, Rcb, Rbk, sevalprocAttr, wrap_succ i (by omega)]
      · have : i = l.length := by omega
        subst this
        rw [List.drop_length] at hput hlen2
        have hput : A = putM [] (stmtsP l) := hput
        have hnil : A = [] → Value.slice a A.length c = .slice none 0 0 := by
          intro h
          by_cases h0 : l.length = 0
          · obtain ⟨h1, h2, h3⟩ := hA0 h0; rw [h1, h2, h3]; rfl
          · exact absurd h (hA1 (by omega))
        simp +contextual only [go_sem, Rcb, Rbk, sevalprocAttr, hlv, ht, hlt]
        refine rCall_of [] [(bw, _)] [(b4, _), (b3, _)] [] [] [_] (ct_Len Tw) ?_ (fun _ _ _ _ _ _ _ _ h => h.elim)
        rintro v M3 L3 R3 hM3 _ _ hno3 ⟨rfl, rfl, rfl, rfl⟩
        simp only [List.cons_append, List.nil_append, noneL, and_true] at hno3
        rw [← hput] at hW
        by_cases hmuch : 4000 < (A.length : Int)
        · rw [if_pos hmuch] at hW
          simp +contextual only [go_sem, Rcb, Rbk, sevalprocAttr, hlv, hmuch, hno3, hap4, hapw]
          subst hW
          exact end_none hT rfl
        · rw [if_neg hmuch] at hW
          simp +contextual only [go_sem, Rcb, Rbk, sevalprocAttr, hlv, hmuch, hno3, hap4, hapw]
          refine rCall_of [] [(bw, _)] [(b4, _), (b3, _)] [] [_] [] (ct_String hTbw (by omega) hnil) ?_ (fun _ _ _ _ _ _ _ _ h => h.elim)
          rintro v M4 L4 R4 hM4 _ _ hno4 ⟨rfl, rfl, ⟨v', rfl⟩, rfl⟩
          simp only [List.cons_append, List.nil_append, noneL, and_true] at hno4
          simp +contextual only [go_sem, Rcb, Rbk, sevalprocAttr, hlv, hno4, hap4, hapw]
          subst hW
          exact end_none hT rfl
  · rw [if_pos hw] at hW
    simp +contextual only [go_sem, Rcb, Rbk, sevalprocAttr, hw, hb4, hb3, hap4, hno1]
    have n3 := hno1
    refine draw_at ⟨T4, fun _ => none, [(b4, [.int .i64 (wrongS l).1, .int .i64 (wrongS l).2])], []⟩ (Sub_hd hb4) ?_
    simp +contextual only [go_sem, Rcb, Rbk, sevalprocAttr, hw, hb4, hb3, hap4, hno1]
    subst hW
    exact end_none (hT3.trans hT4) rfl
end Go.Proofs.YtoainkbcfnlkcaaGreatDoor

namespace Go.Proofs.YtoainkbcfnlkcaaGreatDoor
open Go Vc
set_option linter.unusedSimpArgs false
set_option linter.unusedVariables false
set_option maxRecDepth 10000

def u16 (c : BitVec 16) : Value := .int .u16 (c.toNat : Int)
end Go.Proofs.YtoainkbcfnlkcaaGreatDoor

namespace Go.Proofs.YtoainkbcfnlkcaaGreatDoor
open Go Vc
set_option linter.unusedSimpArgs false
set_option linter.unusedVariables false
set_option maxRecDepth 10000

theorem w8 (n : Nat) : IntKind.u8.wrap (n : Int) = ((UInt8.ofNat n).toNat : Int) := by
  unfold IntKind.wrap
  simp only [IntKind.bits, IntKind.signed]
  simp
end Go.Proofs.YtoainkbcfnlkcaaGreatDoor

namespace Go.Proofs.YtoainkbcfnlkcaaGreatDoor
open Go Vc
set_option linter.unusedSimpArgs false
set_option linter.unusedVariables false
set_option maxRecDepth 10000

theorem form16 {cs : List Value} (h : cs.length = 16) : ∃ c0 c1 c2 c3 c4 c5 c6 c7 c8 c9 c10 c11 c12 c13 c14 c15, cs = [c0, c1, c2, c3, c4, c5, c6, c7, c8, c9, c10, c11, c12, c13, c14, c15] := by
  match cs, h with
  | [c0, c1, c2, c3, c4, c5, c6, c7, c8, c9, c10, c11, c12, c13, c14, c15], _ => exact ⟨c0, c1, c2, c3, c4, c5, c6, c7, c8, c9, c10, c11, c12, c13, c14, c15, rfl⟩
end Go.Proofs.YtoainkbcfnlkcaaGreatDoor

namespace Go.Proofs.YtoainkbcfnlkcaaGreatDoor
open Go Vc
set_option linter.unusedSimpArgs false
set_option linter.unusedVariables false
set_option maxRecDepth 10000

end Go.Proofs.YtoainkbcfnlkcaaGreatDoor

namespace Go.Proofs.YtoainkbcfnlkcaaGreatDoor
open Go Vc
set_option linter.unusedSimpArgs false
set_option linter.unusedVariables false
set_option maxRecDepth 10000

end Go.Proofs.YtoainkbcfnlkcaaGreatDoor

namespace Go.Proofs.YtoainkbcfnlkcaaGreatDoor
open Go Vc
set_option linter.unusedSimpArgs false
set_option linter.unusedVariables false
set_option maxRecDepth 10000

end Go.Proofs.YtoainkbcfnlkcaaGreatDoor

namespace Go.Proofs.YtoainkbcfnlkcaaGreatDoor
open Go Vc
set_option linter.unusedSimpArgs false
set_option linter.unusedVariables false
set_option maxRecDepth 10000

end Go.Proofs.YtoainkbcfnlkcaaGreatDoor


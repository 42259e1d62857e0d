import Derived.Test.YtoainkbcfnlkcaaGreatDoorG
set_option linter.all false
namespace Go.Proofs.YtoainkbcfnlkcaaGreatDoor
open Go Vc
set_option linter.unusedSimpArgs false
set_option linter.unusedVariables false
set_option maxRecDepth 10000

/-! ### a part of the parser looks at what it reads, and at one token more -/
def Eqv (t t' : List Tk) : Prop := t.map (fun x => (x.k, x.s)) = t'.map (fun x => (x.k, x.s))
theorem Eqv.rfl' {t : List Tk} : Eqv t t := rfl
theorem Eqv.nil {t' : List Tk} (h : Eqv [] t') : t' = [] := by simpa [Eqv] using h.symm
theorem Eqv.cons {x : Tk} {t t' : List Tk} (h : Eqv (x :: t) t') : ∃ x' t1, t' = x' :: t1 ∧ x'.k = x.k ∧ x'.s = x.s ∧ Eqv t t1 := by
  cases t' with
  | nil => simp [Eqv] at h
  | cons x' t1 =>
    simp only [Eqv, List.map_cons, List.cons.injEq, Prod.mk.injEq] at h
    exact ⟨x', t1, rfl, h.1.1.symm, h.1.2.symm, h.2⟩
theorem Eqv.tail {t t' : List Tk} (h : Eqv t t') : Eqv t.tail t'.tail := by
  cases t with
  | nil => rw [h.nil]; rfl
  | cons x t => obtain ⟨x', t1, rfl, _, _, h⟩ := h.cons; exact h
theorem tail_app {t' u : List Tk} (h : t' ≠ []) : (t' ++ u).tail = t'.tail ++ u := by
  cases t' with
  | nil => exact (h rfl).elim
  | cons x t => rfl
theorem Eqv.ne {t t' : List Tk} (h : Eqv t t') (hn : t ≠ []) : t' ≠ [] := by
  cases t with
  | nil => exact (hn rfl).elim
  | cons x t => obtain ⟨x', t1, rfl, _, _, h⟩ := h.cons; simp
theorem ne_of_le {r t : List Tk} (h : r.length ≤ t.length) (hr : r ≠ []) : t ≠ [] := by
  rintro rfl
  exact hr (List.length_eq_zero_iff.1 (by simpa using h))
theorem seesM_eqv {s : Bs} {t t' : List Tk} (h : Eqv t t') : seesM s t' = seesM s t := by
  cases t with
  | nil => rw [h.nil]
  | cons x t => obtain ⟨x', t1, rfl, h1, h2, h⟩ := h.cons; simp only [seesM, h1, h2]
theorem seesM_app {s : Bs} {t' u : List Tk} (h : t' ≠ []) : seesM s (t' ++ u) = seesM s t' := by
  cases t' with
  | nil => exact (h rfl).elim
  | cons x t => rfl
theorem seesM_ne {s : Bs} {t : List Tk} (h : seesM s t = true) : t ≠ [] := by rintro rfl; cases h
theorem idx_eqv {l : List Bs} {t t' : List Tk} (h : Eqv t t') : idxSign l t' = idxSign l t := by
  induction l with
  | nil => rfl
  | cons s l ih => simp only [idxSign, seesM_eqv h, ih]
theorem idx_app {l : List Bs} {t' u : List Tk} (h : t' ≠ []) : idxSign l (t' ++ u) = idxSign l t' := by
  induction l with
  | nil => rfl
  | cons s l ih => simp only [idxSign, seesM_app h, ih]
theorem idx_ne {l : List Bs} {t : List Tk} {j : Nat} (h : idxSign l t = some j) : t ≠ [] := by
  rintro rfl
  induction l generalizing j with
  | nil => cases h
  | cons s l ih =>
    simp only [idxSign, seesM, Bool.false_eq_true, if_false, Option.map_eq_some_iff] at h
    obtain ⟨k, h, _⟩ := h
    exact ih h
def Loc1 {α : Type} (g h : List Tk → Rs α) : Prop := ∀ t t' u a r, Eqv t t' → g t = .ok a r → r.length ≤ t.length ∧ (r ≠ [] → ∃ r', Eqv r r' ∧ h (t' ++ u) = .ok a (r' ++ u))
def Loc {α : Type} (g : Int → List Tk → Rs α) : Prop := ∀ en en', Loc1 (g en) (g en')
theorem loc_ok {α : Type} {a : α} : Loc1 (fun t => .ok a t) (fun t => .ok a t) := by
  intro t t' u b r he h
  injection h with h1 h2; subst h1 h2
  exact ⟨Nat.le_refl _, fun _ => ⟨t', he, rfl⟩⟩
theorem loc_err {α : Type} {e : Int} {f g : List Tk → Int} : Loc1 (fun t => (.err e (f t) : Rs α)) (fun t => .err e (g t)) := by
  intro t t' u b r he h; cases h
theorem loc_bind {α β : Type} {g g' : List Tk → Rs α} {f f' : α → List Tk → Rs β} (hg : Loc1 g g') (hf : ∀ a, Loc1 (f a) (f' a)) : Loc1 (fun t => (g t).bind (f)) (fun t => (g' t).bind f') := by
  intro t t' u b r he h
  have h : (g t).bind f = .ok b r := h
  cases hgt : g t with
  | err e a => rw [hgt] at h; cases h
  | out => rw [hgt] at h; cases h
  | ok a t1 =>
    rw [hgt] at h
    have h2 : f a t1 = .ok b r := h
    obtain ⟨l1, n1⟩ := hg t t' u a t1 he hgt
    obtain ⟨l2, _⟩ := hf a t1 t1 u b r rfl h2
    refine ⟨Nat.le_trans l2 l1, fun hr => ?_⟩
    obtain ⟨t1', e1, h1'⟩ := n1 (ne_of_le l2 hr)
    obtain ⟨_, n2⟩ := hf a t1 t1' u b r e1 h2
    obtain ⟨r', e2, h2'⟩ := n2 hr
    refine ⟨r', e2, ?_⟩
    show (g' (t' ++ u)).bind f' = _
    rw [h1']; exact h2'
theorem loc_if {α : Type} {s : Bs} {g g' k k' : List Tk → Rs α} (hg : Loc1 g g') (hk : Loc1 k k') : Loc1 (fun t => if seesM s t = true then g t.tail else k t) (fun t => if seesM s t = true then g' t.tail else k' t) := by
  intro t t' u b r he h
  simp only at h
  by_cases hs : seesM s t = true
  · rw [if_pos hs] at h
    have hne := seesM_ne hs
    have hne' := he.ne hne
    obtain ⟨l1, n1⟩ := hg t.tail t'.tail u b r he.tail h
    refine ⟨Nat.le_trans l1 (by simp), fun hr => ?_⟩
    obtain ⟨r', e1, h1⟩ := n1 hr
    refine ⟨r', e1, ?_⟩
    simp only
    rw [if_pos (by rw [seesM_app hne', seesM_eqv he]; exact hs), tail_app hne']
    exact h1
  · rw [if_neg hs] at h
    obtain ⟨l1, n1⟩ := hk t t' u b r he h
    refine ⟨l1, fun hr => ?_⟩
    obtain ⟨r', e1, h1⟩ := n1 hr
    have hne' := he.ne (ne_of_le l1 hr)
    refine ⟨r', e1, ?_⟩
    simp only
    rw [if_neg (by rw [seesM_app hne', seesM_eqv he]; exact hs)]
    exact h1
theorem loc_idx {α : Type} {l : List Bs} {g g' : Nat → List Tk → Rs α} {k k' : List Tk → Rs α} (hg : ∀ j, Loc1 (g j) (g' j)) (hk : Loc1 k k') :
    Loc1 (fun t => match idxSign l t with | some j => g j t.tail | none => k t) (fun t => match idxSign l t with | some j => g' j t.tail | none => k' t) := by
  intro t t' u b r he h
  simp only at h
  cases hs : idxSign l t with
  | some j =>
    rw [hs] at h
    have hne := idx_ne hs
    have hne' := he.ne hne
    obtain ⟨l1, n1⟩ := hg j t.tail t'.tail u b r he.tail h
    refine ⟨Nat.le_trans l1 (by simp), fun hr => ?_⟩
    obtain ⟨r', e1, h1⟩ := n1 hr
    refine ⟨r', e1, ?_⟩
    simp only
    rw [idx_app hne', idx_eqv he, hs, tail_app hne']
    exact h1
  | none =>
    rw [hs] at h
    obtain ⟨l1, n1⟩ := hk t t' u b r he h
    refine ⟨l1, fun hr => ?_⟩
    obtain ⟨r', e1, h1⟩ := n1 hr
    have hne' := he.ne (ne_of_le l1 hr)
    refine ⟨r', e1, ?_⟩
    simp only
    rw [idx_app hne', idx_eqv he, hs]
    exact h1
theorem loc_cond {α : Type} (c : Prop) [Decidable c] {g g' k k' : List Tk → Rs α} (hg : Loc1 g g') (hk : Loc1 k k') : Loc1 (fun t => if c then g t else k t) (fun t => if c then g' t else k' t) := by
  by_cases h : c
  · simp only [if_pos h]; exact hg
  · simp only [if_neg h]; exact hk
theorem loc_need : ∀ (l : List Bs), Loc fun en => needM en l
  | [], en, en' => loc_ok
  | s :: l, en, en' => loc_if (loc_need l en en') loc_err
theorem loc_name : Loc fun en => nameM en := by
  intro en en' t t' u a r he h
  cases t with
  | nil => cases h
  | cons x t =>
    obtain ⟨x', t1, rfl, h1, h2, he⟩ := he.cons
    simp only [nameM] at h
    split at h
    · rename_i hk
      split at h
      · rename_i hn
        injection h with h3 h4; subst h3 h4
        refine ⟨by simp, fun _ => ⟨t1, he, ?_⟩⟩
        simp only [List.cons_append, nameM, h1, h2, if_pos hk, if_pos hn]
      · cases h
    · cases h
theorem loc_int : Loc fun en => intM en := by
  have key : ∀ (neg : Bool) (at0 at1 en en' : Int), Loc1 (intT neg at0 en) (intT neg at1 en') := by
    intro neg at0 at1 en en' t t' u a r he h
    cases t with
    | nil => cases h
    | cons x t =>
      obtain ⟨x', t1, rfl, h1, h2, he⟩ := he.cons
      simp only [intT] at h
      split at h
      · rename_i hk
        split at h
        · cases h
        · rename_i hn
          injection h with h3 h4; subst h3 h4
          refine ⟨by simp, fun _ => ⟨t1, he, ?_⟩⟩
          simp only [List.cons_append, intT, h1, h2, if_pos hk, if_neg hn]
      · cases h
  intro en en' t t' u a r he h
  have h : intT (seesM minus t) (atM en t) en (if seesM minus t = true then t.tail else t) = .ok a r := h
  by_cases hs : seesM minus t = true
  · have hne := seesM_ne hs
    have hne' := he.ne hne
    have hs' : seesM minus (t' ++ u) = true := by rw [seesM_app hne', seesM_eqv he]; exact hs
    rw [if_pos hs, hs] at h
    obtain ⟨l1, n1⟩ := key true (atM en t) (atM en' (t' ++ u)) en en' t.tail t'.tail u a r he.tail h
    refine ⟨Nat.le_trans l1 (by simp), fun hr => ?_⟩
    obtain ⟨r', e1, h1⟩ := n1 hr
    refine ⟨r', e1, ?_⟩
    show intT _ _ _ _ = _
    rw [if_pos hs', hs', tail_app hne']
    exact h1
  · rw [if_neg hs] at h
    simp only [Bool.not_eq_true] at hs
    rw [hs] at h
    obtain ⟨l1, n1⟩ := key false (atM en t) (atM en' (t' ++ u)) en en' t t' u a r he h
    refine ⟨l1, fun hr => ?_⟩
    obtain ⟨r', e1, h1⟩ := n1 hr
    have hne' := he.ne (ne_of_le l1 hr)
    have hs' : seesM minus (t' ++ u) = false := by rw [seesM_app hne', seesM_eqv he]; exact hs
    refine ⟨r', e1, ?_⟩
    show intT _ _ _ _ = _
    rw [hs', if_neg Bool.false_ne_true]
    exact h1
theorem head_eqv {k : Int} {t t' : List Tk} (h : Eqv t t') : headIs k t' = headIs k t := by
  cases t with
  | nil => rw [h.nil]
  | cons x t => obtain ⟨x', t1, rfl, h1, h2, h⟩ := h.cons; simp only [headIs, h1]
theorem head_app {k : Int} {t' u : List Tk} (h : t' ≠ []) : headIs k (t' ++ u) = headIs k t' := by
  cases t' with
  | nil => exact (h rfl).elim
  | cons x t => rfl
theorem text_eqv {t t' u : List Tk} (h : Eqv t t') (hn : t ≠ []) : textV (t' ++ u) = textV t := by
  cases t with
  | nil => exact (hn rfl).elim
  | cons x t => obtain ⟨x', t1, rfl, h1, h2, h⟩ := h.cons; simp only [List.cons_append, textV, h2]
theorem head_ne {k : Int} {t : List Tk} (h : headIs k t = true) : t ≠ [] := by rintro rfl; cases h
theorem loc_map {α β : Type} {f : α → β} {g g' : List Tk → Rs α} (hg : Loc1 g g') : Loc1 (fun t => (g t).map f) (fun t => (g' t).map f) := by
  have h := loc_bind (f := fun a t => .ok (f a) t) (f' := fun a t => .ok (f a) t) hg (fun a => loc_ok)
  have e : ∀ (g : List Tk → Rs α), (fun t => (g t).map f) = fun t => (g t).bind fun a t => .ok (f a) t := by
    intro g; funext t; cases g t <;> rfl
  rw [e, e]; exact h
theorem loc_value : Loc fun en => valueM en := by
  intro en en'
  refine loc_if loc_ok (loc_if loc_ok (loc_if loc_ok ?_))
  have hint := loc_map (f := fun n => some (⟨3, n, []⟩ : V)) (loc_int en en')
  intro t t' u a r he h
  simp only at h
  by_cases h1 : seesM minus t = true ∨ headIs 2 t = true
  · rw [if_pos h1] at h
    have hne : t ≠ [] := by rcases h1 with h1 | h1; exact seesM_ne h1; exact head_ne h1
    have hne' := he.ne hne
    obtain ⟨l1, n1⟩ := hint t t' u a r he h
    refine ⟨l1, fun hr => ?_⟩
    obtain ⟨r', e1, h2⟩ := n1 hr
    refine ⟨r', e1, ?_⟩
    simp only
    rw [if_pos (by rw [seesM_app hne', seesM_eqv he, head_app hne', head_eqv he]; exact h1)]
    exact h2
  · rw [if_neg h1] at h
    by_cases h3 : headIs 3 t = true
    · rw [if_pos h3] at h
      have hne := head_ne h3
      have hne' := he.ne hne
      injection h with h4 h5
      subst h4 h5
      refine ⟨by simp, fun hr => ⟨t'.tail, he.tail, ?_⟩⟩
      simp only
      rw [if_neg (by rw [seesM_app hne', seesM_eqv he, head_app hne', head_eqv he]; exact h1), if_pos (by rw [head_app hne', head_eqv he]; exact h3), text_eqv he hne, tail_app hne']
    · rw [if_neg h3] at h
      injection h with h4 h5
      subst h4 h5
      refine ⟨Nat.le_refl _, fun hr => ⟨t', he, ?_⟩⟩
      have hne' := he.ne hr
      simp only
      rw [if_neg (by rw [seesM_app hne', seesM_eqv he, head_app hne', head_eqv he]; exact h1), if_neg (by rw [head_app hne', head_eqv he]; exact h3)]
theorem loc_is {x : X} : Loc fun en => fun t => if seesM wNot t = true then (needM en [wNull] t.tail).bind fun _ t => .ok (mkX 3 [mkX 16 [x]]) t else (needM en [wNull] t).bind fun _ t => .ok (mkX 16 [x]) t := fun en en' =>
  loc_if (g := fun t => (needM en [wNull] t).bind fun _ t => .ok (mkX 3 [mkX 16 [x]]) t) (loc_bind (loc_need _ en en') fun _ => loc_ok) (loc_bind (loc_need _ en en') fun _ => loc_ok)
theorem isM_eq (en : Int) (x : X) (t : List Tk) : isM en x t = if seesM wNot t.tail = true then (needM en [wNull] t.tail.tail).bind fun _ t => .ok (mkX 3 [mkX 16 [x]]) t else (needM en [wNull] t.tail).bind fun _ t => .ok (mkX 16 [x]) t := by
  unfold isM
  by_cases h : seesM wNot t.tail = true
  · simp only [if_pos h]
  · simp only [if_neg h]
theorem loc_loop {g g' : List Tk → Rs X} (hg : Loc1 g g') (l : Lvl) : ∀ (k k' : Nat) (x : X), k ≤ k' → Loc1 (loopM g l k x) (loopM g' l k' x)
  | 0, k', x, hk => by intro t t' u a r he h; cases h
  | k + 1, 0, x, hk => by omega
  | k + 1, k' + 1, x, hk => by
    have := loc_idx (l := l.signs) (g := fun j t => (g t).bind fun y t' => if l.once = true then .ok (mkX (l.kind + j) [x, y]) t' else loopM g l k (mkX (l.kind + j) [x, y]) t')
      (g' := fun j t => (g' t).bind fun y t' => if l.once = true then .ok (mkX (l.kind + j) [x, y]) t' else loopM g' l k' (mkX (l.kind + j) [x, y]) t') (k := fun t => .ok x t) (k' := fun t => .ok x t)
      (fun j => loc_bind hg fun y => loc_cond _ loc_ok (loc_loop hg l k k' _ (by omega))) loc_ok
    have e : ∀ (g : List Tk → Rs X) (k : Nat), loopM g l (k + 1) x = fun t => match idxSign l.signs t with
      | some j => (fun j t => (g t).bind fun y t' => if l.once = true then .ok (mkX (l.kind + j) [x, y]) t' else loopM g l k (mkX (l.kind + j) [x, y]) t') j t.tail
      | none => (fun t => .ok x t) t := by
      intro g k; funext t
      rw [loopM]
      cases idxSign l.signs t <;> rfl
    rw [e, e]; exact this
theorem loc_piece {en en' : Int} {ex ex' : List Tk → Rs X} (hex : Loc1 ex ex') : Loc1 (pieceM en ex) (pieceM en' ex') := by
  refine loc_bind (loc_value en en') fun v => ?_
  cases v with
  | some v => exact loc_ok
  | none =>
    simp only
    refine loc_if (g := fun t => (ex t).bind fun x t => (needM en [sClose] t).bind fun _ t => .ok x t) (loc_bind hex fun x => loc_bind (loc_need _ en en') fun _ => loc_ok) ?_
    refine loc_if (g := fun t => (needM en [wWhen] t).bind fun _ t => (ex t).bind fun a t => (needM en [wThen] t).bind fun _ t => (ex t).bind fun b t => (needM en [wElse] t).bind fun _ t => (ex t).bind fun c t => (needM en [wEnd] t).bind fun _ t => .ok (mkX 17 [a, b, c]) t)
      (loc_bind (loc_need _ en en') fun _ => loc_bind hex fun _ => loc_bind (loc_need _ en en') fun _ => loc_bind hex fun _ => loc_bind (loc_need _ en en') fun _ => loc_bind hex fun _ => loc_bind (loc_need _ en en') fun _ => loc_ok) ?_
    refine loc_if (g := fun t => (needM en [sOpen] t).bind fun _ t => (ex t).bind fun a t => (needM en [sComma] t).bind fun _ t => (ex t).bind fun b t => (needM en [sClose] t).bind fun _ t => .ok (mkX 18 [a, b]) t)
      (loc_bind (loc_need _ en en') fun _ => loc_bind hex fun _ => loc_bind (loc_need _ en en') fun _ => loc_bind hex fun _ => loc_bind (loc_need _ en en') fun _ => loc_ok) ?_
    refine loc_if (g := fun t => (needM en [sOpen] t).bind fun _ t => if seesM sStar t = true then (needM en [sClose] t.tail).bind fun _ t => .ok (mkX 19 []) t else (ex t).bind fun a t => (needM en [sClose] t).bind fun _ t => .ok (mkX 20 [a]) t)
      (loc_bind (loc_need _ en en') fun _ => loc_if (g := fun t => (needM en [sClose] t).bind fun _ t => .ok (mkX 19 []) t) (loc_bind (loc_need _ en en') fun _ => loc_ok) (loc_bind hex fun _ => loc_bind (loc_need _ en en') fun _ => loc_ok)) ?_
    refine loc_idx (g := fun i t => (needM en [sOpen] t).bind fun _ t => (ex t).bind fun a t => (needM en [sClose] t).bind fun _ t => .ok (mkX (21 + i) [a]) t) (fun i => loc_bind (loc_need _ en en') fun _ => loc_bind hex fun _ => loc_bind (loc_need _ en en') fun _ => loc_ok) ?_
    exact loc_bind (loc_name en en') fun n => loc_if (g := fun t => (nameM en t).bind fun m t => .ok (X.mk 2 ⟨0, 0, []⟩ n m []) t) (loc_bind (loc_name en en') fun m => loc_ok) loc_ok
theorem loc_bin : ∀ (f n : Nat) (op : Int), Loc fun en => binM en f n op
  | 0, n, op, en, en' => by intro t t' u a r he h; cases h
  | f + 1, n, op, en, en' => by
    have ih := loc_bin f
    by_cases h7 : n = 7
    · have e : ∀ en, binM en (f + 1) n op = pieceM en (fun t => if op + 1 > 100 then .err 4 (atM en t) else binM en f 0 (op + 1) t) := by
        intro en; funext t; rw [binM, if_pos h7]
      show Loc1 (binM en (f + 1) n op) (binM en' (f + 1) n op)
      rw [e, e]
      exact loc_piece (loc_cond _ loc_err (ih 0 (op + 1) en en'))
    by_cases h2 : n = 2
    · have e : ∀ en, binM en (f + 1) n op = fun t => if seesM wNot t = true then (fun t => if op + 1 > 100 then .err 4 (atM en t) else (binM en f 2 (op + 1) t).bind fun x t => .ok (mkX 3 [x]) t) t.tail else binM en f 3 op t := by
        intro en; funext t; rw [binM, if_neg h7, if_pos h2]
      show Loc1 (binM en (f + 1) n op) (binM en' (f + 1) n op)
      rw [e, e]
      exact loc_if (loc_cond _ loc_err (loc_bind (ih 2 (op + 1) en en') fun x => loc_ok)) (ih 3 op en en')
    · by_cases h3 : n = 3
      · have e : ∀ en, binM en (f + 1) n op = fun t => (binM en f (n + 1) op t).bind fun x t => if seesM wIs t = true then (fun t => if seesM wNot t = true then (needM en [wNull] t.tail).bind fun _ t => .ok (mkX 3 [mkX 16 [x]]) t else (needM en [wNull] t).bind fun _ t => .ok (mkX 16 [x]) t) t.tail
          else (fun t => loopM (binM en f (n + 1) op) (lvlAt n) (t.length + 1) x t) t := by
          intro en; funext t; rw [binM, if_neg h7, if_neg h2]
          congr 1; funext x t
          by_cases hi : seesM wIs t = true
          · rw [if_pos ⟨h3, hi⟩, if_pos hi, isM_eq]
          · rw [if_neg (fun h => hi h.2), if_neg hi]
        show Loc1 (binM en (f + 1) n op) (binM en' (f + 1) n op)
        rw [e, e]
        refine loc_bind (ih (n + 1) op en en') fun x => loc_if (loc_is en en') ?_
        intro t t' u a r he h
        have hlen : t.length = t'.length := by have := congrArg List.length he; simpa [Eqv] using this
        exact loc_loop (ih (n + 1) op en en') (lvlAt n) (t.length + 1) ((t' ++ u).length + 1) x (by rw [List.length_append]; omega) t t' u a r he h
      · have e : ∀ en, binM en (f + 1) n op = fun t => (binM en f (n + 1) op t).bind fun x t => (fun t => loopM (binM en f (n + 1) op) (lvlAt n) (t.length + 1) x t) t := by
          intro en; funext t; rw [binM, if_neg h7, if_neg h2]
          congr 1; funext x t
          rw [if_neg (fun h => h3 h.1)]
        show Loc1 (binM en (f + 1) n op) (binM en' (f + 1) n op)
        rw [e, e]
        refine loc_bind (ih (n + 1) op en en') fun x => ?_
        intro t t' u a r he h
        have hlen : t.length = t'.length := by have := congrArg List.length he; simpa [Eqv] using this
        exact loc_loop (ih (n + 1) op en en') (lvlAt n) (t.length + 1) ((t' ++ u).length + 1) x (by rw [List.length_append]; omega) t t' u a r he h
end Go.Proofs.YtoainkbcfnlkcaaGreatDoor

namespace Go.Proofs.YtoainkbcfnlkcaaGreatDoor
open Go Vc
set_option linter.unusedSimpArgs false
set_option linter.unusedVariables false
set_option maxRecDepth 10000

/-! ### the rest of the parser's parts -/
section
variable {en en' : Int} {ex ex' : List Tk → Rs X}
end
end Go.Proofs.YtoainkbcfnlkcaaGreatDoor

namespace Go.Proofs.YtoainkbcfnlkcaaGreatDoor
open Go Vc
set_option linter.unusedSimpArgs false
set_option linter.unusedVariables false
set_option maxRecDepth 10000

theorem loop_ne {g : List Tk → Rs X} (hg : ∀ t, g t ≠ .out) (hle : ∀ t a r, g t = .ok a r → r.length ≤ t.length) (l : Lvl) : ∀ (k : Nat) (x : X) (t : List Tk), t.length < k → loopM g l k x t ≠ .out
  | 0, x, t, h => by omega
  | k + 1, x, t, h => by
    rw [loopM]
    cases hi : idxSign l.signs t with
    | none => simp
    | some j =>
      simp only
      cases hgt : g t.tail with
      | out => exact (hg _ hgt).elim
      | err e a => simp [Rs.bind]
      | ok y t' =>
        simp only [Rs.bind]
        split
        · simp
        · refine loop_ne hg hle l k _ t' ?_
          have := hle _ _ _ hgt
          have hne := idx_ne hi
          have : t.tail.length < t.length := by
            cases t with
            | nil => exact (hne rfl).elim
            | cons _ _ => simp
          omega
theorem piece_ne {en : Int} {ex : List Tk → Rs X} (hex : ∀ t, ex t ≠ .out) (t : List Tk) : pieceM en ex t ≠ .out := by
  have hn : ∀ {α : Type} {l t} {f : Unit → List Tk → Rs α}, (∀ a t, f a t ≠ .out) → (needM en l t).bind f ≠ .out := fun h => bind_ne needM_ne h
  have hx : ∀ {α : Type} {t} {f : X → List Tk → Rs α}, (∀ a t, f a t ≠ .out) → (ex t).bind f ≠ .out := fun h => bind_ne (hex _) h
  unfold pieceM
  refine bind_ne valueM_ne fun v t => ?_
  cases v with
  | some v => simp
  | none =>
    simp only
    split
    · exact hx fun _ _ => hn fun _ _ => by simp
    split
    · exact hn fun _ _ => hx fun _ _ => hn fun _ _ => hx fun _ _ => hn fun _ _ => hx fun _ _ => hn fun _ _ => by simp
    split
    · exact hn fun _ _ => hx fun _ _ => hn fun _ _ => hx fun _ _ => hn fun _ _ => by simp
    split
    · refine hn fun _ _ => ?_
      split
      · exact hn fun _ _ => by simp
      · exact hx fun _ _ => hn fun _ _ => by simp
    split
    · exact hn fun _ _ => hx fun _ _ => hn fun _ _ => by simp
    · refine bind_ne nameM_ne fun _ _ => ?_
      split
      · exact bind_ne nameM_ne fun _ _ => by simp
      · simp
theorem bin_le {en : Int} {f n : Nat} {op : Int} {t : List Tk} {a r} (h : binM en f n op t = .ok a r) : r.length ≤ t.length := (loc_bin f n op en en t t [] a r rfl h).1
theorem bin_ne {en : Int} : ∀ (f n : Nat) (op : Int), n ≤ 7 → op ≤ 100 → 9 * (101 - op) + 8 - n < f → ∀ t, binM en f n op t ≠ .out
  | 0, n, op, h1, h2, h3, t => by omega
  | f + 1, n, op, h1, h2, h3, t => by
    rw [binM]
    split
    · rename_i h7
      refine piece_ne (fun t => ?_) t
      split
      · simp
      · exact bin_ne f 0 (op + 1) (by omega) (by omega) (by omega) t
    split
    · rename_i h7 h2'
      split
      · split
        · simp
        · exact bind_ne (bin_ne f 2 (op + 1) (by omega) (by omega) (by omega) _) fun _ _ => by simp
      · exact bin_ne f 3 op (by omega) (by omega) (by omega) t
    · rename_i h7 h2'
      refine bind_ne (bin_ne f (n + 1) op (by omega) h2 (by omega) t) fun x t => ?_
      split
      · unfold isM
        exact bind_ne needM_ne fun _ _ => by simp
      · exact loop_ne (fun t => bin_ne f (n + 1) op (by omega) h2 (by omega) t) (fun t a r h => bin_le h) _ _ _ _ (by omega)
/-- expressions -/
def exF (en : Int) (t : List Tk) : Rs X := exprM en 1000 0 t
theorem exF_ne {en : Int} (t : List Tk) : exF en t ≠ .out := by
  unfold exF exprM
  split
  · simp
  · exact bin_ne 1000 0 (0 + 1) (by omega) (by omega) (by omega) t
section
variable {en : Int} {ex : List Tk → Rs X}
theorem item_ne (hex : ∀ t, ex t ≠ .out) (t : List Tk) : itemM en ex t ≠ .out := by
  refine bind_ne (hex t) fun x t => ?_
  split
  · exact bind_ne nameM_ne fun _ _ => by simp
  · simp
theorem source_ne (hex : ∀ t, ex t ≠ .out) (k : Int) (t : List Tk) : sourceM en ex k t ≠ .out := by
  refine bind_ne nameM_ne fun n t => bind_ne ?_ fun a t => ?_
  · unfold asM; split
    · exact nameM_ne
    · simp
  · split
    · exact bind_ne needM_ne fun _ _ => bind_ne (hex _) fun _ _ => by simp
    · simp
theorem joins_ne (hex : ∀ t, ex t ≠ .out) : ∀ (room : Nat) (t : List Tk), joinsM en ex room t ≠ .out
  | 0, t => by
    rw [joinsM_eq]
    refine bind_ne joinM_ne fun k t => ?_
    unfold joinsB; split <;> simp
  | n + 1, t => by
    rw [joinsM_eq]
    refine bind_ne joinM_ne fun k t => ?_
    unfold joinsB
    split
    · exact bind_ne (source_ne hex k t) fun _ _ => bind_ne (joins_ne hex n _) fun _ _ => by simp
    · simp
theorem optX_ne (hex : ∀ t, ex t ≠ .out) {w : Bs} {t : List Tk} : optX ex w t ≠ .out := by
  unfold optX; split
  · exact hex _
  · simp
theorem sel_ne (hex : ∀ t, ex t ≠ .out) (t : List Tk) : selM en ex t ≠ .out := by
  refine bind_ne needM_ne fun _ t0 => bind_ne ?_ fun items t => ?_
  · split
    · simp
    · exact someM_ne (fun t => item_ne hex t)
  · refine bind_ne needM_ne fun _ _ => bind_ne (source_ne hex 1 _) fun _ _ => bind_ne (joins_ne hex 3 _) fun _ _ => bind_ne (optX_ne hex) fun _ _ => bind_ne ?_ fun _ _ => bind_ne (optX_ne hex) fun _ _ => by simp
    unfold optG; split
    · exact bind_ne needM_ne fun _ _ => someM_ne hex
    · simp
theorem setsB_ne (hex : ∀ t, ex t ≠ .out) : ∀ (room : Nat) (k : Int) (t : List Tk), setsB en ex room k t ≠ .out
  | 0, k, t => by unfold setsB; split <;> simp
  | n + 1, k, t => by
    rw [setsB]
    split
    · exact bind_ne (sel_ne hex t) fun _ _ => bind_ne setM_ne fun k' t' => bind_ne (setsB_ne hex n k' t') fun _ _ => by simp
    · simp
theorem query_ne (hex : ∀ t, ex t ≠ .out) (t : List Tk) : queryM en ex t ≠ .out := by
  refine bind_ne (sel_ne hex t) fun _ _ => bind_ne setM_ne fun _ _ => bind_ne (setsB_ne hex 3 _ _) fun _ _ => bind_ne ?_ fun _ _ => by simp
  unfold orderM
  split
  · refine bind_ne needM_ne fun _ _ => bind_ne (someM_ne hex) fun _ _ => bind_ne needM_ne fun _ _ => bind_ne ?_ fun _ _ => by simp
    unfold limM
    refine bind_ne intM_ne fun _ _ => ?_
    split <;> simp
  · simp
theorem stmt_ne (hex : ∀ t, ex t ≠ .out) (t : List Tk) : stmtM en ex t ≠ .out := by
  unfold stmtM
  split
  · split
    · exact bind_ne nameM_ne fun _ _ => bind_ne needM_ne fun _ _ => bind_ne (query_ne hex _) fun _ _ => by simp
    · exact bind_ne needM_ne fun _ _ => bind_ne nameM_ne fun _ _ => bind_ne needM_ne fun _ _ => bind_ne (someM_ne fun _ => columnM_ne) fun _ _ => bind_ne needM_ne fun _ _ => by simp
  split
  · exact bind_ne needM_ne fun _ _ => bind_ne nameM_ne fun _ _ => bind_ne needM_ne fun _ _ => bind_ne (someM_ne fun _ => rowM_ne) fun _ _ => by simp
  split
  · exact bind_ne needM_ne fun _ _ => bind_ne nameM_ne fun _ _ => bind_ne (optX_ne hex) fun _ _ => by simp
  · exact bind_ne needM_ne fun _ _ => bind_ne (query_ne hex _) fun _ _ => by simp
end
/-- statements, one behind the other -/
def stmtsM (en : Int) : Nat → List Tk → Rs (List Stm)
  | room, t => if t = [] then .ok [] [] else match room with
    | 0 => .err 5 (atM en t)
    | r + 1 => (stmtM en (exF en) t).bind fun s t => (needM en [sSemi] t).bind fun _ t => (stmtsM en r t).bind fun l t => .ok (s :: l) t
def stmtsB (en : Int) (room : Nat) (t : List Tk) : Rs (List Stm) := match room with
    | 0 => .err 5 (atM en t)
    | r + 1 => (stmtM en (exF en) t).bind fun s t => (needM en [sSemi] t).bind fun _ t => (stmtsM en r t).bind fun l t => .ok (s :: l) t
theorem stmtsM_cons (en : Int) (room : Nat) (t : List Tk) (h : t ≠ []) : stmtsM en room t = stmtsB en room t := by
  cases room <;> (rw [stmtsM, if_neg h]; rfl)
theorem stmtsM_nil (en : Int) (room : Nat) : stmtsM en room [] = .ok [] [] := by cases room <;> rfl
theorem stmts_ne {en : Int} : ∀ (room : Nat) (t : List Tk), stmtsM en room t ≠ .out
  | 0, t => by
    by_cases h : t = []
    · rw [h, stmtsM_nil]; simp
    · rw [stmtsM_cons _ _ _ h]; simp [stmtsB]
  | n + 1, t => by
    by_cases h : t = []
    · rw [h, stmtsM_nil]; simp
    · rw [stmtsM_cons _ _ _ h]
      exact bind_ne (stmt_ne (fun t => exF_ne t) t) fun _ _ => bind_ne needM_ne fun _ _ => bind_ne (stmts_ne n _) fun _ _ => by simp
/-- Read: statements, or a fault -/
def readM (s : Bs) : List Stm × Int × Int := match tokensM s with
  | .error x => ([], x.1, x.2)
  | .ok ts => match stmtsM s.length 60 ts with
    | .err e a => ([], e, a)
    | .out => ([], 0, 0)
    | .ok l _ => if (wrongS l).1 ≠ 0 then ([], (wrongS l).1, 0) else (l, 0, 0)
end Go.Proofs.YtoainkbcfnlkcaaGreatDoor

namespace Go.Proofs.YtoainkbcfnlkcaaGreatDoor
open Go Vc
set_option linter.unusedSimpArgs false
set_option linter.unusedVariables false
set_option maxRecDepth 10000

theorem rdFi_ret {T dr ts post} : (rdFi T dr ts post).ret = rdRet T ts post := (rfl)
theorem rdFi_pan {T dr ts post} : (rdFi T dr ts post).pan = rdPan T post := (rfl)
theorem rdFi_dr {T dr ts post} : (rdFi T dr ts post).dr = dr := (rfl)
theorem PanOk_rd {T post} (ops : List Oper) (h : (ops.all fun o => match o.dst with | some d => d != 2 && d != 3 | none => true) = true) : PanOk (rdPan T post) ops := by
  intro o ho d hd ch e v ds h' hp
  have := List.all_eq_true.1 h o ho
  rw [hd] at this
  simp at this
  obtain ⟨b2, b3, ag, er, a, h1, h2, h3, h4, h5, h6⟩ := hp
  unfold upd at h3 h4
  rw [if_neg (fun h => this.1 h.symm)] at h3
  rw [if_neg (fun h => this.2 h.symm)] at h4
  exact ⟨b2, b3, ag, er, a, h1, h2, h3, h4, h5, h6⟩
theorem RStm_oneC {M : Mem} {x : Stm} {cs : List Value} (h : RStm M x cs) : ∀ u ∈ cs, u.oneCell' = true := by
  obtain ⟨c, q, r, w, h1, ⟨p, o, g, q1, q2, q3, rfl⟩, h3, h4, rfl⟩ := h
  intro u hu
  simp only [List.cons_append, List.nil_append, List.mem_cons, List.mem_append, List.not_mem_nil, or_false] at hu
  rcases hu with rfl | rfl | rfl | rfl | rfl | rfl | rfl | rfl | rfl | hu
  · rfl
  · rfl
  · exact (RS_one h1).1
  · exact (RS_one q1).1
  · exact (RS_one q2).1
  · exact (RS_one q3).1
  · rfl
  · exact (RS_one h3).1
  · rfl
  · exact RX_oneC h4 u hu
def postRead (s : Bs) : PostP := fun r M' _ _ => ∃ sv, r = .tuple ⟨[sv, flt (readM s).2.1 (readM s).2.2]⟩ ∧ RS M' (RStm M') 16 (readM s).1 sv
theorem rd_fault {T N : Tm} {M : Mem} {s : Bs} {A B : LL} {R : RR} {b2 b3 : Nat} {v1 v2 v3 : Value} {er a : Int} {ag : Array Value} {e : Env} (hr : readM s = ([], er, a)) (hT : ExtT T N) (hag : ag.toList = []) (e2 : e 2 = .pointer (some ⟨b2, 0, none⟩)) (e3 : e 3 = .pointer (some ⟨b3, 0, none⟩)) :
    rdPan T (postRead s) (oopsV er a) e [rdD b2 b3 ag] ⟨N, M, A ++ (b3, [v2, v3]) :: (b2, [v1]) :: B, R⟩ := by
  refine ⟨b2, b3, ag, er, a, rfl, hag, e2, e3, rfl, Close_dropL A (Close_dropAllR (Close_perm (L' := B ++ [(b2, [v1]), (b3, [v2, v3])]) ?_ (Close_dropL B (Close_id ⟨hT, rfl, ⟨_, _, _, rfl⟩, ?_⟩))))⟩
  · refine List.Perm.trans (List.Perm.swap _ _ _) ?_
    exact List.perm_append_comm (l₁ := [(b2, [v1]), (b3, [v2, v3])])
  · refine ⟨.slice none 0 0, ?_, ?_⟩
    · rw [hr]
    · rw [hr]; exact RS_nil
theorem postRead_intro {s : Bs} {M : Mem} {L : LL} {R : RR} {l : List Stm} {er a : Int} {sv : Value} (hr : readM s = (l, er, a)) (hrs : RS M (RStm M) 16 l sv) : postRead s (.tuple ⟨[sv, .agg ⟨[.int .i64 er, .int .i64 a]⟩]⟩) M L R := ⟨sv, by rw [hr]; rfl, by rw [hr]; exact hrs⟩
theorem ct_Read {M : Mem} (s : Bs) (hg : Glob M) : Ct Tryz.prog 11 [st s] M [] [] (postRead s) noPan := by
  intro T
  refine ct_runR bod11 Tryz.func11 rfl (by rw [nt11]; exact Nat.le_of_ble_eq_true rfl) (dr := dr11) (by kernel_rfl) rs11 ?_
  rw [rs11]
  simp +contextual only [go_sem, Rcb, Rbk, sevalprocAttr, rdFi_ret, rdFi_dr]
  intro b2 T2 hb2 hT2 hTb2 b3 T3 hb3 hap3 hT3 hTb3
  have hT := hT2.trans hT3
  have htk : tokensM s = tokensM s := rfl
  refine rCall_pure (ct_tokens s T3) ?_ ?_
  rotate_left
  · rintro ch M1 hM1 hno1 ⟨er, a, herr, rfl⟩
    rw [rdFi_pan]
    refine rd_fault (A := []) (B := []) (by unfold readM; rw [herr]) hT rfl ?_ ?_
    · simp only [go_sem, Rcb, Rbk, sevalprocAttr]
    · simp only [go_sem, Rcb, Rbk, sevalprocAttr]
  rintro lv M1 hM1 hno1 ⟨ts, hts, hl⟩
  simp only [noneL, and_true] at hno1
  have hread : readM s = match stmtsM s.length 60 ts with
    | .err e a => ([], e, a)
    | .out => ([], 0, 0)
    | .ok l _ => if (wrongS l).1 ≠ 0 then ([], (wrongS l).1, 0) else (l, 0, 0) := by unfold readM; rw [hts] <;> rfl
  obtain ⟨lo1, lo2⟩ := RS_one hl
  have lo2m := lo2
  simp only [Value.cells] at lo2m
  simp +contextual only [go_sem, Rcb, Rbk, sevalprocAttr, rdFi_ret, rdFi_dr, hno1, hap3, lo1, lo2, lo2m]
  intro pb T4 hbp hapb hT4 hTbp
  generalize hen : (s.length : Int) = en at hread ⊢
  have hg1 := hg.ext hM1
  refine ⟨fun m e ds h => (∃ ag, ds = [rdD b2 b3 ag] ∧ ag.toList = []) ∧ e 2 = .pointer (some ⟨b2, 0, none⟩) ∧ e 3 = .pointer (some ⟨b3, 0, none⟩) ∧ e 4 = .pointer (some ⟨pb, 0, none⟩) ∧
    ∃ M' t lv' acc a c xs, m + acc.length = 60 ∧ Ext M1 M' ∧ M' b3 = none ∧ M' b2 = none ∧ M' pb = none ∧ RS M' RTk 3 t lv' ∧ RL (RStm M') acc xs ∧ (acc = [] → a = none ∧ c = 0) ∧
      stmtsM en 60 ts = (stmtsM en m t).bind (fun l t => .ok (acc ++ l) t) ∧
      h = ⟨T4, M', (b3, [.int .i64 0, .int .i64 0]) :: (b2, [.slice a acc.length c]) :: pL pb lv' en 0, [(.slice a acc.length c, 67, 16, xs)]⟩,
    Close_perm (List.perm_append_comm (l₁ := [(pb, [lv, .int .i64 en, .int .i64 0])]) (l₂ := [(b3, _), (b2, _)])) (Close_addNil (Close_id ⟨60, ⟨_, rfl, rfl⟩, ?_, ?_, ?_, M1, ts, lv, [], none, 0, [], rfl, Ext.rfl', hno1.1, hno1.2, hbp, hl, rfl, fun _ => ⟨rfl, rfl⟩, ?_, rfl⟩)), ?_⟩
  · simp only [go_sem, Rcb, Rbk, sevalprocAttr]
  · simp only [go_sem, Rcb, Rbk, sevalprocAttr]
  · simp only [go_sem, Rcb, Rbk, sevalprocAttr]
  · cases stmtsM en 60 ts <;> rfl
  clear hno1 hl lo1 lo2 hts htk hbp
  rintro m e ds h ⟨⟨ag, rfl, hag⟩, e2, e3, e4, M2, t, lv1, acc, a, c, xs, hm, hM2, n3, n2, np, hl, hxs, hnil, hres, rfl⟩
  have hT4' := hT.trans hT4
  have hx16 := RL_len (fun _ _ => RStm_len) hxs
  rcases toks_cases hl with ⟨rfl, ta, tc, rfl⟩ | ⟨tk, tr, tb, tof, tc, rfl, rfl, htc, h0, h1, h2⟩
  · rw [stmtsM_nil] at hres
    simp only [Rs.bind, List.append_nil] at hres
    rw [hres] at hread
    simp only at hread
    simp +contextual only [go_sem, Rcb, Rbk, sevalprocAttr, rdFi_ret, rdFi_dr, e2, e3, e4, n3, n2, np, hap3, hapb]
    refine rCall_close (k := fun h' => ∃ M', Ext M2 M' ∧ noneL M' ((b3, [.int .i64 0, .int .i64 0]) :: (b2, [.slice a acc.length c]) :: pL pb (.slice ta 0 tc) en 0) ∧ Sl M' (.slice a acc.length c) 16 xs ∧ h' = ⟨T4, M', (b3, [.int .i64 0, .int .i64 0]) :: (b2, [.slice a acc.length c]) :: pL pb (.slice ta 0 tc) en 0, []⟩)
      (Close_row fun M3 hM3 hno3 hsl => Close_id ⟨M3, hM3, hno3, hsl, rfl⟩) ?_ bod19
    rintro h' ⟨M3, hM3, hno3, hsl, rfl⟩
    have hrs : RS M3 (RStm M3) 16 acc (.slice a acc.length c) := ⟨by omega, xs, hsl, RL_mono (fun x cs h => RStm_ext hM3 _ _ h) hxs⟩
    refine rCall_pure (ct_Wrong (hg1.ext (hM2.trans hM3)) hrs T4) ?_ (fun _ _ _ _ h => h.elim)
    rintro v M4 hM4 hno4 rfl
    simp only [noneL, noneL_pL] at hno4
    simp +contextual only [go_sem, sevalprocAttr, rdFi_ret, rdFi_dr, e2, e3, e4, flt]
    intro b5 T5 hb5 hap5 hT5 hTb5
    rw [rCond_bool]
    by_cases hw : (wrongS acc).1 = 0
    · rw [if_neg (fun h => h hw)] at hread
      simp +contextual only [go_sem, Rcb, Rbk, sevalprocAttr, rdFi_ret, rdFi_dr, rdFi_pan, e2, e3, e4, hw, hno4, hb5, hap5, hap3, hapb]
      refine ⟨PanOk_rd _ rfl, draw_all ?_⟩
      simp +contextual only [go_sem, Rcb, Rbk, sevalprocAttr, rdFi_ret, rdFi_dr, rdFi_pan, e2, e3, e4, hw, hno4, hb5, hap5, hap3, hapb]
      refine ⟨Sub.refl _, b2, b3, ag, rfl, hag, ?_⟩
      simp +contextual only [go_sem, Rcb, Rbk, sevalprocAttr, rdFi_ret, rdFi_dr, rdFi_pan, e2, e3, e4, hw, hno4, hb5, hap5, hap3, hapb]
      exact end_none (hT4'.trans hT5) (postRead_intro hread (RS_ext hM4 (RStm_ext hM4) hrs))
    · rw [if_pos hw] at hread
      simp +contextual only [go_sem, Rcb, Rbk, sevalprocAttr, rdFi_ret, rdFi_dr, rdFi_pan, e2, e3, e4, hw, hno4, hb5, hap5, hap3, hapb]
      refine ⟨PanOk_rd _ rfl, draw_at ⟨T, fun _ => none, [(b5, _)], []⟩ (Sub_hd hb5) ?_⟩
      simp +contextual only [go_sem, Rcb, Rbk, sevalprocAttr, rdFi_ret, rdFi_dr, rdFi_pan, e2, e3, e4, hw, hno4, hb5, hap5, hap3, hapb]
      refine ⟨Sub_hd hb5, b2, b3, ag, rfl, hag, ?_⟩
      simp +contextual only [go_sem, Rcb, Rbk, sevalprocAttr, rdFi_ret, rdFi_dr, rdFi_pan, e2, e3, e4, hw, hno4, hb5, hap5, hap3, hapb]
      exact end_none (hT4'.trans hT5) (postRead_intro hread RS_nil)
  · rw [stmtsM_cons en m (tk :: tr) (by simp)] at hres
    have hfault : ∀ {er ar : Int}, stmtsM en 60 ts = .err er ar → readM s = ([], er, ar) := fun h => by rw [hread, h]
    cases m with
    | zero =>
      have hl60 : (acc.length : Int) = 60 := by omega
      have herr : stmtsM en 60 ts = .err 5 (atM en (tk :: tr)) := hres
      simp +contextual only [go_sem, Rcb, Rbk, sevalprocAttr, rdFi_ret, rdFi_dr, e2, e3, e4, n3, n2, np, hap3, hapb, hl60]
      refine at_p [(b3, _), (b2, _)] hl ?_
      simp +contextual only [go_sem, Rcb, Rbk, sevalprocAttr, rdFi_ret, rdFi_dr, e2, e3, e4]
      refine rCall_pure (ct_sql_fail 5 _ M2 T4) (fun _ _ _ _ h => h.elim) ?_
      rintro ch M3 hM3 hno3 rfl
      rw [rdFi_pan]
      refine rd_fault (A := []) (hfault herr) hT4' hag ?_ ?_
      · simp only [e2, go_sem, Rcb, Rbk, sevalprocAttr]
      · simp only [e3, go_sem, Rcb, Rbk, sevalprocAttr]
    | succ m =>
      have hl60 : ¬ (acc.length : Int) = 60 := by omega
      simp only [stmtsB, Rs.bind_assoc] at hres
      simp +contextual only [go_sem, Rcb, Rbk, sevalprocAttr, rdFi_ret, rdFi_dr, rdFi_pan, e2, e3, e4, n3, n2, np, hap3, hapb, hl60]
      refine ⟨PanOk_rd _ rfl, draw_at ⟨T, fun _ => none, [(b2, [.slice a acc.length c])], []⟩ ?_ ?_⟩
      · exact Sub_own [(b3, _)] n2 ⟨⟨hap3.2, hap3.1⟩, trivial⟩
      simp +contextual only [go_sem, Rcb, Rbk, sevalprocAttr, rdFi_ret, rdFi_dr, rdFi_pan, e2, e3, e4, n3, n2, np, hap3, hapb, hl60]
      have hg2 := hg1.ext hM2
      have hne := stmt_ne (en := en) (ex := exF en) (fun t => exF_ne t) (tk :: tr)
      have hex : ExC en pb (exF en) 0 := ct_expr (ct_binary 1000) (by decide) (by decide)
      refine part_p [(b3, _), (b2, _)] (ct_stmt hg2 hl hex hne T4) ?_ ?_
      rotate_left
      · rintro er ar M3 lv' op' hM3 hst
        refine rd_fault (A := []) (hfault (by rw [hres, hst]; rfl)) hT4' hag ?_ ?_
        · simp only [e2, go_sem, Rcb, Rbk, sevalprocAttr]
        · simp only [e3, go_sem, Rcb, Rbk, sevalprocAttr]
      rintro v M3 x t2 lv2 hM3 hno3 hst hl2 ⟨cs, rfl, hx⟩
      rw [hst] at hres
      simp only [Rs.bind] at hres
      have hcl := RStm_len hx
      simp only [List.cons_append, List.nil_append, noneL, noneL_pL] at hno3
      simp +contextual only [go_sem, Rcb, Rbk, sevalprocAttr, rdFi_ret, rdFi_dr, rdFi_pan, e2, e3, e4, hno3, hap3, hapb, hcl]
      refine ⟨Sub_own [(b3, _)] hno3.2.1 ⟨⟨hap3.2, hap3.1⟩, trivial⟩, ?_⟩
      intro b8 hb8 hap8
      refine ⟨Sub_own [(b8, _), (b3, _)] hno3.2.1 ⟨⟨hap8.2.1.2, hap8.2.1.1⟩, ⟨hap3.2, hap3.1⟩, trivial⟩, ?_⟩
      refine app_row row22 okt22 (.slice _ 1 _ _ _ Tryz.underlying22 (cells_own [] hb8 trivial (by rw [hcl])) (RStm_oneC hx)) (by rw [hcl, hx16]; omega) ?_
      intro ra rm rc hrm
      have hrm1 : rm = (acc ++ [x]).length := by
        rw [hcl, hx16] at hrm
        rw [List.length_append]
        simp only [List.length_cons, List.length_nil]
        omega
      subst hrm1
      have hacc2 := RL_append (RL_mono (fun x cs h => RStm_ext hM3 _ _ h) hxs) (RL_one hx)
      simp +contextual only [go_sem, Rcb, Rbk, sevalprocAttr, rdFi_ret, rdFi_dr, rdFi_pan, e2, e3, e4, hno3, hap3, hapb, hb8, hap8]
      intro b9 hb9 hap9
      refine rCall_frz bod31 fun M4 hM4 hb9' hno4 => ?_
      have hl4 := RS_ext hM4 (fun _ _ h => h) hl2
      have hsm : RS M4 RSt 1 [sSemi] (.slice (some ⟨b9, 0, none⟩) 1 1) := RS_lit (fun _ _ => RSt_len) hb9' (RL_strs [sSemi]) rfl (by decide)
      refine part_p [(b8, _), (b3, _), (b2, _)] (ct_p_need hl4 hsm T4) ?_ ?_
      rotate_left
      · rintro er ar M5 lv' op' hM5 hnd
        refine rd_fault (A := [(b8, _)]) (hfault (by rw [hres, hnd]; try rfl)) (hT4') hag ?_ ?_
        · simp only [e2, go_sem, Rcb, Rbk, sevalprocAttr]
        · simp only [e3, go_sem, Rcb, Rbk, sevalprocAttr]
      rintro v M5 u5 t5 lv5 hM5 hno5 hnd hl5 rfl
      rw [hnd] at hres
      simp only [Rs.bind] at hres
      simp only [List.cons_append, List.nil_append, noneL, noneL_pL] at hno5
      simp +contextual only [go_sem, Rcb, Rbk, sevalprocAttr, rdFi_ret, rdFi_dr, rdFi_pan, e2, e3, e4]
      rw [Run_lp]
      refine Close_drop (Close_id ⟨m, by omega, ⟨ag, rfl, hag⟩, ?_, ?_, ?_, M5, t5, lv5, acc ++ [x], ra, rc, xs ++ cs, ?_, ((hM2.trans hM3).trans hM4).trans hM5, hno5.2.1, hno5.2.2.1, hno5.2.2.2, hl5, ?_, ?_, ?_, rfl⟩)
      · simp only [e2, go_sem, Rcb, Rbk, sevalprocAttr]
      · simp only [e3, go_sem, Rcb, Rbk, sevalprocAttr]
      · simp only [e4, go_sem, Rcb, Rbk, sevalprocAttr]
      · rw [List.length_append]; simp only [List.length_cons, List.length_nil]; omega
      · exact RL_mono (fun x cs h => RStm_ext (hM4.trans hM5) _ _ h) hacc2
      · intro h; simp at h
      · rw [hres]
        cases stmtsM en m t5 <;> simp [Rs.bind]
end Go.Proofs.YtoainkbcfnlkcaaGreatDoor

namespace Go.Proofs.YtoainkbcfnlkcaaGreatDoor
open Go Vc
set_option linter.unusedSimpArgs false
set_option linter.unusedVariables false
set_option maxRecDepth 10000

/-! ### equal things are the same (ref) -/
theorem sigVal : sigT Tryz.prog 63 = some [1, 1, 2] := by kernel_rfl
theorem sigCol : sigT Tryz.prog 80 = some [2, 1] := by kernel_rfl
theorem eqlVal (k n : Int) (t : ByteArray) : vBinP Tryz.prog .eql 63 (.agg ⟨[.int .i64 k, .int .i64 n, .string t]⟩) (.agg ⟨[.int .i64 k, .int .i64 n, .string t]⟩) = some (.bool true) := by
  show (match sigT Tryz.prog 63 with | some ks => (eqK ks _ _).map Value.bool | none => none) = _
  rw [sigVal]; simp [eqK, eqV]
theorem neqVal (k n : Int) (t : ByteArray) : vBinP Tryz.prog .neq 63 (.agg ⟨[.int .i64 k, .int .i64 n, .string t]⟩) (.agg ⟨[.int .i64 k, .int .i64 n, .string t]⟩) = some (.bool false) := by
  show (match sigT Tryz.prog 63 with | some ks => (eqK ks _ _).map fun r => Value.bool (!r) | none => none) = _
  rw [sigVal]; simp [eqK, eqV]
theorem neqCol (n : Int) (t : ByteArray) : vBinP Tryz.prog .neq 80 (.agg ⟨[.string t, .int .i64 n]⟩) (.agg ⟨[.string t, .int .i64 n]⟩) = some (.bool false) := by
  show (match sigT Tryz.prog 80 with | some ks => (eqK ks _ _).map fun r => Value.bool (!r) | none => none) = _
  rw [sigCol]; simp [eqK, eqV]
def SmX (x : X) : Prop := ∀ (M : Mem) (T : Tm) (cs1 cs2 : List Value), RX M x cs1 → RX M x cs2 → CtT Tryz.prog 39 [.agg ⟨cs1⟩, .agg ⟨cs2⟩] T M [] [] (fun r _ _ _ => r = .bool true) noPan
theorem ct_sameText {l : List X} (hA : ∀ x ∈ l, SmX x) {M : Mem} {v1 v2 : Value} (h1 : RS M (RX M) 7 l v1) (h2 : RS M (RX M) 7 l v2) (T : Tm) : CtT Tryz.prog 77 [v1, v2] T M [] [] (fun r _ _ _ => r = .bool true) noPan := by
  obtain ⟨hb, a1, c1, rfl, hle1, _, hget1⟩ := RS_elim (by decide) (fun _ _ => RX_len) h1
  obtain ⟨_, a2, c2, rfl, hle2, _, hget2⟩ := RS_elim (by decide) (fun _ _ => RX_len) h2
  refine ct_run mx bod77 Tryz.func77 rfl (by rw [nt77]; exact Nat.le_of_ble_eq_true rfl) (dr := dr77) (by kernel_rfl) rs77 ?_
  intro hno _
  simp +contextual only [go_sem, Rcb, Rbk, sevalprocAttr, eq_self]
  refine loop_range l.length 13 [(0, .slice a1 l.length c1), (1, .slice a2 l.length c2), (12, .int .i64 (l.length : Int))] (fun i e h => ∃ M', Ext M M' ∧ h = ⟨T, M', [], []⟩) 0 (by omega) (by simp only [live, go_sem, Rcb, Rbk, sevalprocAttr]) (by simp only [go_sem, Rcb, Rbk, sevalprocAttr]) ⟨M, Ext.rfl', rfl⟩ ?_
  rintro i e h hi hlv ht ⟨M1, hM1, rfl⟩
  simp only [live] at hlv
  by_cases hlt : i < l.length
  · obtain ⟨b1, o1, cs1, rfl, hat1, hr1⟩ := hget1 i l[i] (List.getElem?_eq_getElem hlt)
    obtain ⟨b2, o2, cs2, rfl, hat2, hr2⟩ := hget2 i l[i] (List.getElem?_eq_getElem hlt)
    obtain ⟨s1, rfl, k1, p0, p1, p2, p3, p4, p5, p6⟩ := RX_atf (RX_ext hM1 _ _ hr1) (hat1.ext hM1)
    obtain ⟨s2, rfl, k2, q0, q1, q2, q3, q4, q5, q6⟩ := RX_atf (RX_ext hM1 _ _ hr2) (hat2.ext hM1)
    simp +contextual only [go_sem, Rcb, Rbk, sevalprocAttr, hlv, ht, hlt]
    refine draw_all ?_
    simp +contextual only [go_sem, Rcb, Rbk, sevalprocAttr, hlv, ht, hlt, p0, p1, p2, p3, p4, p5, p6, q0, q1, q2, q3, q4, q5, q6]
    refine rCall_pure (hA l[i] (List.getElem_mem hlt) M1 T _ _ (RX_ext hM1 _ _ hr1) (RX_ext hM1 _ _ hr2)) ?_ (fun _ _ _ _ h => h.elim)
    rintro v M2 hM2 _ rfl
    simp +contextual only [go_sem, Rcb, Rbk, sevalprocAttr, hlv, ht]
    refine lp_range hlt ?_ ?_ ⟨M2, hM1.trans hM2, rfl⟩
    · simp only [live, hlv, go_sem, Rcb, Rbk, sevalprocAttr]
    · simp only [ht, go_sem, Rcb, Rbk, sevalprocAttr, wrap_succ i (by omega)]
  · have : i = l.length := by omega
    subst this
    simp +contextual only [go_sem, Rcb, Rbk, sevalprocAttr, hlv, ht, hlt]
    exact end_none ExtT.rfl' rfl
theorem ct_sameExpr : ∀ (sz : Nat) (x : X), SizeOf.sizeOf x ≤ sz → SmX x := by
  intro sz
  induction sz with
  | zero => intro x hx; cases x; simp at hx
  | succ sz ih =>
    intro x hsz M T cs1 cs2 h1 h2
    obtain ⟨s1, rfl, k1, hk1⟩ := RX_form h1
    obtain ⟨s2, rfl, k2, hk2⟩ := RX_form h2
    refine ct_run mx bod39 Tryz.func39 rfl (by rw [nt39]; exact Nat.le_of_ble_eq_true rfl) (dr := dr39) (by kernel_rfl) rs39 ?_
    intro hno _
    simp +contextual only [go_sem, Rcb, Rbk, sevalprocAttr, k1, k2]
    intro b2 T2 hb2 hT2 hTb2 b3 T3 hb3 hap3 hT3 hTb3
    have hkids : ∀ y ∈ x.kids, SmX y := fun y hy => ih y (by
      have := List.sizeOf_lt_of_mem hy
      cases x
      simp only [X.mk.sizeOf_spec, X.kids] at hsz this
      omega)
    simp +contextual only [go_sem, Rcb, Rbk, sevalprocAttr, eq_self, hb2, hb3, hap3, eqlVal]
    refine rCall_pure (ct_sameText hkids hk1 hk2 T3) ?_ (fun _ _ _ _ h => h.elim)
    rintro v M2 hM2 _ rfl
    simp +contextual only [go_sem, Rcb, Rbk, sevalprocAttr]
    exact end_none (hT2.trans hT3) rfl
theorem sameX (x : X) : SmX x := ct_sameExpr _ x (Nat.le_refl _)
end Go.Proofs.YtoainkbcfnlkcaaGreatDoor

namespace Go.Proofs.YtoainkbcfnlkcaaGreatDoor
open Go Vc
set_option linter.unusedSimpArgs false
set_option linter.unusedVariables false
set_option maxRecDepth 10000

section
variable {en : Int} {ex : List Tk → Rs X}
end
theorem one_nz {at_ : Int} {s : Bs} {x : Int × Int} (h : oneM at_ s = .error x) : x.1 ≠ 0 := by
  cases s with
  | nil => simp only [oneM] at h; injection h with h; subst h; simp
  | cons c l =>
    simp only [oneM] at h
    split at h
    · cases h
    split at h
    · split at h
      · injection h with h; subst h; simp
      · cases h
    split at h
    · split at h
      · injection h with h; subst h; simp
      · split at h
        · injection h with h; subst h; simp
        · cases h
    · split at h
      · injection h with h; subst h; simp
      · cases h
theorem toks_nz : ∀ (f : Nat) (at_ : Int) (s : Bs) (x : Int × Int), toksM f at_ s = .error x → x.1 ≠ 0
  | 0, at_, s, x, h => by simp only [toksM] at h; cases h
  | f + 1, at_, [], x, h => by simp only [toksM] at h; cases h
  | f + 1, at_, c :: l, x, h => by
    simp only [toksM] at h
    split at h
    · exact toks_nz f _ _ x h
    · split at h
      · rename_i y hy
        injection h with h; subst h
        exact one_nz hy
      · split at h
        · rename_i y hy
          injection h with h; subst h
          exact toks_nz f _ _ _ hy
        · cases h
end Go.Proofs.YtoainkbcfnlkcaaGreatDoor


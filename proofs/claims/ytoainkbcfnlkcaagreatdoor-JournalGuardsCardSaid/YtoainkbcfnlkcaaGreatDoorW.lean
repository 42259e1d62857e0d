import Derived.Test.YtoainkbcfnlkcaaGreatDoorM
import Derived.Test.YtoainkbcfnlkcaaGreatDoorP
import Derived.Test.YtoainkbcfnlkcaaGreatDoorI
set_option linter.all false
namespace Go.Proofs.YtoainkbcfnlkcaaGreatDoor
open Go Vc
set_option linter.unusedSimpArgs false
set_option linter.unusedVariables false
set_option maxRecDepth 10000

section
variable {α : Type} {el : TypeId} {sz : Nat} {r : α → List Value → Prop} {R0 R : RR} {fv : Value} {acc : List α}
end
end Go.Proofs.YtoainkbcfnlkcaaGreatDoor

namespace Go.Proofs.YtoainkbcfnlkcaaGreatDoor
open Go Vc
set_option linter.unusedSimpArgs false
set_option linter.unusedVariables false
set_option maxRecDepth 10000

end Go.Proofs.YtoainkbcfnlkcaaGreatDoor

namespace Go.Proofs.YtoainkbcfnlkcaaGreatDoor
open Go Vc
set_option linter.unusedSimpArgs false
set_option linter.unusedVariables false
set_option maxRecDepth 10000

section
variable {α : Type} {el : TypeId} {sz : Nat} {r : Mem → α → List Value → Prop} {R0 R : RR} {n i : Nat} {M : Mem} {fv : Value} {acc : List α}
end
end Go.Proofs.YtoainkbcfnlkcaaGreatDoor

namespace Go.Proofs.YtoainkbcfnlkcaaGreatDoor
open Go Vc
set_option linter.unusedSimpArgs false
set_option linter.unusedVariables false
set_option maxRecDepth 10000

end Go.Proofs.YtoainkbcfnlkcaaGreatDoor

namespace Go.Proofs.YtoainkbcfnlkcaaGreatDoor
open Go Vc
set_option linter.unusedSimpArgs false
set_option linter.unusedVariables false
set_option maxRecDepth 10000

end Go.Proofs.YtoainkbcfnlkcaaGreatDoor

namespace Go.Proofs.YtoainkbcfnlkcaaGreatDoor
open Go Vc
set_option linter.unusedSimpArgs false
set_option linter.unusedVariables false
set_option maxRecDepth 10000

/-- a slice of entries, from the k-th up to another -/
theorem RL_take {α : Type} {r : α → List Value → Prop} {sz : Nat} (hsz : ∀ x cs, r x cs → cs.length = sz) : ∀ {l : List α} {xs : List Value} (k : Nat), RL r l xs → RL r (l.take k) (xs.take (k * sz))
  | [], xs, k, h => by have : xs = [] := h; subst this; simp [RL]
  | x :: l, xs, 0, h => by simp [RL]
  | x :: l, xs, k + 1, h => by
    obtain ⟨cs, rest, rfl, h1, h2⟩ := h
    have hcs := hsz x cs h1
    have : (cs ++ rest).take ((k + 1) * sz) = cs ++ rest.take (k * sz) := by
      rw [Nat.add_mul, Nat.one_mul, Nat.add_comm, ← hcs, List.take_append, List.take_of_length_le (Nat.le_add_right _ _), Nat.add_sub_cancel_left]
    rw [this]
    exact ⟨cs, _, rfl, h1, RL_take hsz k h2⟩
theorem RS_take {α : Type} {r : α → List Value → Prop} {sz : Nat} (hpos : 0 < sz) (hsz : ∀ x cs, r x cs → cs.length = sz) {M : Mem} {l : List α} {a : Option Addr} {n c k : Nat} (h : RS M r sz l (.slice a n c)) (hk : k ≤ l.length) :
    RS M r sz (l.take k) (.slice a k c) := by
  obtain ⟨hb, xs, hs, hl⟩ := h
  have hlen := RL_len hsz hl
  refine ⟨by rw [List.length_take]; omega, xs.take (k * sz), ?_, RL_take hsz k hl⟩
  rcases hs with ⟨a', c', hv, rfl, hac⟩ | ⟨b, o, n', c', hv, hle, hn, ha⟩
  · injection hv with h1 h2 h3
    subst h1 h2 h3
    left
    have hk0 : k = 0 := by
      have : l.length = 0 := by
        simp only [List.length_nil] at hlen
        rcases Nat.mul_eq_zero.1 hlen.symm with h | h
        · exact h
        · omega
      omega
    subst hk0
    exact ⟨a, c, rfl, by simp, hac⟩
  · injection hv with h1 h2 h3
    subst h1 h2 h3
    right
    have hnl : n = l.length := Nat.eq_of_mul_eq_mul_right hpos (hn.symm.trans hlen)
    have hle2 : k * sz ≤ xs.length := by rw [hn]; exact Nat.mul_le_mul_right _ (by omega)
    refine ⟨b, o, k, c, rfl, by omega, by rw [List.length_take]; omega, ?_⟩
    have h2 : xs = xs.take (k * sz) ++ xs.drop (k * sz) := (List.take_append_drop _ _).symm
    rw [h2] at ha
    exact (At_app.1 ha).1
theorem cutA_zero {b o c sz : Nat} : cutA (some ⟨b, o, none⟩) c 0 sz = some ⟨b, o, none⟩ := by
  unfold cutA; split
  · rfl
  · simp [Addr.add]
/-- .. [:k] -/
theorem RS_hi {α : Type} {r : α → List Value → Prop} {sz : Nat} (hpos : 0 < sz) (hsz : ∀ x cs, r x cs → cs.length = sz) {M : Mem} {l : List α} {a : Option Addr} {n c k : Nat} (h : RS M r sz l (.slice a n c)) (hk : k ≤ l.length) :
    RS M r sz (l.take k) (.slice (cutA a c 0 sz) k c) := by
  have h1 := RS_take hpos hsz h hk
  obtain ⟨hb, xs, hs, hl⟩ := h1
  refine ⟨hb, xs, ?_, hl⟩
  rcases hs with ⟨a', c', hv, rfl, hac⟩ | ⟨b, o, n', c', hv, hle, hn, ha⟩
  · injection hv with h1 h2 h3
    subst h1 h2 h3
    exact .inl ⟨_, c, rfl, rfl, fun h => hac (by
      unfold cutA at h
      split at h
      · exact h
      · simpa using h)⟩
  · injection hv with h1 h2 h3
    subst h1 h2 h3
    exact .inr ⟨b, o, k, c, by rw [cutA_zero], hle, hn, ha⟩
/-- .. [lo:hi] -/
theorem RS_mid {α : Type} {r : α → List Value → Prop} {sz : Nat} (hpos : 0 < sz) (hsz : ∀ x cs, r x cs → cs.length = sz) {M : Mem} {l : List α} {a : Option Addr} {n c lo hi : Nat} (h : RS M r sz l (.slice a n c)) (h1 : lo ≤ hi) (h2 : hi ≤ l.length) :
    RS M r sz ((l.take hi).drop lo) (.slice (cutA a c lo sz) (hi - lo) (c - lo)) :=
  RS_cut hpos hsz (RS_take hpos hsz h h2) (by rw [List.length_take]; omega)
theorem mid_one {α : Type} {l : List α} {k : Nat} {x : α} (h : l[k]? = some x) : (l.take (k + 1)).drop k = [x] := by
  obtain ⟨h1, rfl⟩ := List.getElem?_eq_some_iff.1 h
  rw [List.take_succ_eq_append_getElem h1, List.drop_append]
  simp [Nat.min_eq_left (Nat.le_of_lt h1)]
end Go.Proofs.YtoainkbcfnlkcaaGreatDoor

namespace Go.Proofs.YtoainkbcfnlkcaaGreatDoor
open Go Vc
set_option linter.unusedSimpArgs false
set_option linter.unusedVariables false
set_option maxRecDepth 100000

theorem xor8 (x y : UInt8) : vBits .xor .u8 (x.toNat : Int) (y.toNat : Int) = some (.int .u8 ((x ^^^ y).toNat : Int)) := by
  have hx := UInt8.toNat_lt x
  have hy := UInt8.toNat_lt y
  have h1 : BitVec.ofInt 8 (x.toNat : Int) = x.toBitVec := by
    apply BitVec.eq_of_toInt_eq
    rw [BitVec.toInt_ofInt, BitVec.toInt_eq_toNat_bmod]
    rfl
  have h2 : BitVec.ofInt 8 (y.toNat : Int) = y.toBitVec := by
    apply BitVec.eq_of_toInt_eq
    rw [BitVec.toInt_ofInt, BitVec.toInt_eq_toNat_bmod]
    rfl
  show some (Value.int IntKind.u8 (IntKind.u8.wrap ((BitVec.ofInt 8 (x.toNat : Int) ^^^ BitVec.ofInt 8 (y.toNat : Int)).toNat : Int))) = _
  rw [h1, h2]
  have h3 : (x.toBitVec ^^^ y.toBitVec).toNat = (x ^^^ y).toNat := rfl
  rw [h3, w8]
  congr 3
  simp
theorem getD_cells {b : Bs} {k : Nat} (h : k < b.length) (junk : List Value) : (Lib.byteCells b ++ junk)[k]? = some (.int .u8 ((b.getD k 0).toNat : Int)) := by
  rw [List.getElem?_append_left (by simp [Lib.byteCells]; omega)]
  simp [Lib.byteCells, List.getElem?_eq_getElem h]
theorem setR {α : Type} (a b : List α) (i : Nat) (x : α) : (a ++ b).set (a.length + i) x = a ++ b.set i x := by
  rw [List.set_append_right _ _ (by omega), Nat.add_sub_cancel_left]
/-- one byte changed, or two -/
theorem guards_all {l : List Stm} (h : (bytesM l).2.1 = 0) {w k : Nat} (hw : w < l.length) {one two : UInt8} (hne : one ≠ 0 ∨ two ≠ 0) {s : Stm} (hs : l[w]? = some s) (hk : 2 ≤ k) (hk2 : k + 1 < (packM (printM [s]).1).length) :
    (packs (l.take w)).length + k + 1 < (bytesM l).1.length ∧
    recoverM (((bytesM l).1.set ((packs (l.take w)).length + k) ((bytesM l).1.getD ((packs (l.take w)).length + k) 0 ^^^ one)).set ((packs (l.take w)).length + k + 1) ((bytesM l).1.getD ((packs (l.take w)).length + k + 1) 0 ^^^ two)) = ((l.take w).map bareS, ((packs (l.take w)).length : Int), 0) := by
  obtain ⟨h1, h2, h3⟩ := bytesM_ok h
  rw [h2]
  simp only
  have hsp : l = l.take w ++ (s :: l.drop (w + 1)) := by
    conv => lhs; rw [← List.take_append_drop w l]
    congr 1
    obtain ⟨hlt, rfl⟩ := List.getElem?_eq_some_iff.1 hs
    exact List.drop_eq_getElem_cons hlt
  generalize hP : packM (printM [s]).1 = P at *
  generalize hpre : l.take w = pre at *
  generalize hpost : l.drop (w + 1) = post at *
  have hpk : packs l = packs pre ++ (P ++ packs post) := by
    rw [hsp]; simp [packs, hP]
  rw [hpk]
  obtain ⟨u, x, y, v, hu, hPu⟩ : ∃ u x y v, u.length = k ∧ P = u ++ x :: y :: v := by
    refine ⟨P.take k, P[k]'(by omega), P[k+1]'(by omega), P.drop (k + 2), by rw [List.length_take]; omega, ?_⟩
    conv => lhs; rw [← List.take_append_drop k P]
    congr 1
    rw [List.drop_eq_getElem_cons (by omega), List.drop_eq_getElem_cons (by omega)]
  refine ⟨by rw [List.length_append, List.length_append]; omega, ?_⟩
  have e1 : (packs pre ++ (P ++ packs post)).getD ((packs pre).length + k) 0 = x := by
    rw [hPu, ← hu]
    simp
  have e2 : (packs pre ++ (P ++ packs post)).getD ((packs pre).length + k + 1) 0 = y := by
    rw [hPu, ← hu, Nat.add_assoc]
    simp
  rw [e1, e2]
  have e3 : ((packs pre ++ (P ++ packs post)).set ((packs pre).length + k) (x ^^^ one)).set ((packs pre).length + k + 1) (y ^^^ two) = packs pre ++ (u ++ (x ^^^ one) :: (y ^^^ two) :: v ++ packs post) := by
    rw [hPu, ← hu]
    rw [Nat.add_assoc, setR, setR, List.append_assoc]
    have h0 := setR u (x :: y :: v ++ packs post) 0 (x ^^^ one)
    rw [Nat.add_zero] at h0
    rw [h0, setR]
    simp
  rw [e3]
  have hx : x ≠ x ^^^ one ∨ y ≠ y ^^^ two := by
    rcases hne with hn | hn
    · left; intro he; apply hn; have := congrArg (x ^^^ ·) he; simpa [← UInt8.xor_assoc] using this.symm
    · right; intro he; apply hn; have := congrArg (y ^^^ ·) he; simpa [← UInt8.xor_assoc] using this.symm
  have hlen : (packs pre ++ (u ++ (x ^^^ one) :: (y ^^^ two) :: v ++ packs post)).length = (packs l).length := by
    rw [hpk, hPu]; simp
  have hpl := packs_len l
  have hwl : pre.length ≤ l.length := by rw [← hpre, List.length_take]; omega
  unfold recoverM
  rw [hlen, if_neg (by omega), guard_all (pre := pre) (f := (packs l).length + 1) (fun a ha => h1 a (by rw [hsp]; exact List.mem_append.2 (.inl ha))) (printM_le [s]) (hP.trans hPu) (by omega) hx (by omega)]
theorem byteCells_set (b : Bs) (k : Nat) (x : UInt8) (junk : List Value) (h : k < b.length) : (Lib.byteCells b ++ junk).set k (.int .u8 (x.toNat : Int)) = Lib.byteCells (b.set k x) ++ junk := by
  rw [List.set_append_left _ _ (by simp [Lib.byteCells]; omega)]
  simp [Lib.byteCells, List.map_set]
theorem ct_jguards {M : Mem} {l : List Stm} {which at_ one two : Int} {v : Value} (hg : GlobP M) (hs : RS M (RStm M) 16 l v) (hat : -9223372036854775808 ≤ at_ ∧ at_ ≤ 9223372036854775807) :
    CtT Tryz.prog 9 [v, .int .i64 which, .int .i64 at_, .int .i64 one, .int .i64 two] (fun _ => none) M [] [] (fun r _ _ _ => r = .bool true) noPan := by
  have hs' := hs
  obtain ⟨_, a1, k1, rfl, hl1, _⟩ := RS_elim (by decide) (fun _ _ => RStm_len) hs'
  have hga := @guards_all l
  refine ct_run mx bod9 Tryz.func9 rfl (by rw [nt9]; exact Nat.le_of_ble_eq_true rfl) (dr := dr9) (by kernel_rfl) rs9 ?_
  intro hno _
  simp (maxSteps := 1000000) +contextual only [go_sem, rCond_bool, Run_block, sevalprocAttr, -Int.reduceAdd, -Int.reduceSub, -Int.reduceMul]
  refine rCall_pure (ct_jalive hg _) ?_ (fun _ _ _ _ h => h.elim)
  rintro v M1 hM1 _ rfl
  simp (maxSteps := 1000000) +contextual only [go_sem, rCond_bool, Run_block, sevalprocAttr, -Int.reduceAdd, -Int.reduceSub, -Int.reduceMul]
  have hg1 := hg.ext hM1
  refine rCall_pure (ct_Bytes hg1 (RS_ext hM1 (RStm_ext hM1) hs) _) ?_ (fun _ _ _ _ h => h.elim)
  rintro v M2 hM2 hno2 ⟨w1, rfl, hw1⟩
  have hbm := @bytesM_ok l
  have hlm := bytesM_le l
  obtain ⟨⟨fb, fe, fa⟩, hff⟩ : ∃ p, p = bytesM l := ⟨_, rfl⟩
  rw [← hff] at hw1 hga hbm hlm ⊢
  clear hff
  simp only at hw1 hga hbm hlm ⊢
  have hw1' := hw1
  obtain ⟨hlb, a3, k3, rfl, hl3, _⟩ := RS_elim (by decide) (fun _ _ => RBy_len) hw1'
  have h02 := hM1.trans hM2
  by_cases hfe : fe = 0
  rotate_left
  · simp (maxSteps := 1000000) +contextual only [go_sem, rCond_bool, Run_block, sevalprocAttr, -Int.reduceAdd, -Int.reduceSub, -Int.reduceMul, flt, hfe]
    intro b6 T6 hb6 hT6 hTb6
    exact end_none (fun _ _ h => by cases h) rfl
  by_cases c1 : which < 0
  · simp (maxSteps := 1000000) +contextual only [go_sem, rCond_bool, Run_block, sevalprocAttr, -Int.reduceAdd, -Int.reduceSub, -Int.reduceMul, flt, hfe, c1]
    intro b6 T6 hb6 hT6 hTb6
    exact end_none (fun _ _ h => by cases h) rfl
  obtain ⟨w, rfl⟩ : ∃ k : Nat, which = k := ⟨which.toNat, by omega⟩
  by_cases c2 : l.length ≤ w
  · have c2' : ((l.length : Nat) : Int) ≤ (w : Int) := by omega
    simp (maxSteps := 1000000) +contextual only [go_sem, rCond_bool, Run_block, sevalprocAttr, -Int.reduceAdd, -Int.reduceSub, -Int.reduceMul, flt, hfe, c1, c2, c2']
    intro b6 T6 hb6 hT6 hTb6
    exact end_none (fun _ _ h => by cases h) rfl
  have c2' : ¬ ((l.length : Nat) : Int) ≤ (w : Int) := by omega
  by_cases c3 : one < 0
  · simp (maxSteps := 1000000) +contextual only [go_sem, rCond_bool, Run_block, sevalprocAttr, -Int.reduceAdd, -Int.reduceSub, -Int.reduceMul, flt, hfe, c1, c2, c2', c3]
    intro b6 T6 hb6 hT6 hTb6
    exact end_none (fun _ _ h => by cases h) rfl
  by_cases c4 : 255 < one
  · simp (maxSteps := 1000000) +contextual only [go_sem, rCond_bool, Run_block, sevalprocAttr, -Int.reduceAdd, -Int.reduceSub, -Int.reduceMul, flt, hfe, c1, c2, c2', c3, c4]
    intro b6 T6 hb6 hT6 hTb6
    exact end_none (fun _ _ h => by cases h) rfl
  by_cases c5 : two < 0
  · simp (maxSteps := 1000000) +contextual only [go_sem, rCond_bool, Run_block, sevalprocAttr, -Int.reduceAdd, -Int.reduceSub, -Int.reduceMul, flt, hfe, c1, c2, c2', c3, c4, c5]
    intro b6 T6 hb6 hT6 hTb6
    exact end_none (fun _ _ h => by cases h) rfl
  by_cases c6 : 255 < two
  · simp (maxSteps := 1000000) +contextual only [go_sem, rCond_bool, Run_block, sevalprocAttr, -Int.reduceAdd, -Int.reduceSub, -Int.reduceMul, flt, hfe, c1, c2, c2', c3, c4, c5, c6]
    intro b6 T6 hb6 hT6 hTb6
    exact end_none (fun _ _ h => by cases h) rfl
  have hw12 : IntKind.i64.wrap (one + two) = one + two := wrap64 (by omega) (by omega)
  by_cases c7 : one + two = 0
  · simp (maxSteps := 1000000) +contextual only [go_sem, rCond_bool, Run_block, sevalprocAttr, -Int.reduceAdd, -Int.reduceSub, -Int.reduceMul, flt, hfe, c1, c2, c2', c3, c4, c5, c6, hw12, c7]
    intro b6 T6 hb6 hT6 hTb6
    exact end_none (fun _ _ h => by cases h) rfl
  have hwl : w < l.length := by omega
  have hwk : w ≤ k1 := by omega
  obtain ⟨hpr, hpk, hpl⟩ := hbm hfe
  injection hpk with hpk _
  subst hfe
  obtain ⟨s, hsw⟩ : ∃ s, l[w]? = some s := ⟨_, List.getElem?_eq_getElem hwl⟩
  have hps := hpr s (List.mem_of_getElem? hsw)
  have hsplit : packs (l.take w) ++ packs (l.drop w) = packs l := by
    simp only [packs, ← List.flatMap_append, List.take_append_drop]
  have hpw : (packs (l.take w)).length ≤ 100000 := by
    have := congrArg List.length hsplit
    rw [List.length_append] at this
    omega
  have hB1 : bytesM (l.take w) = (packs (l.take w), 0, 0) := bytesM_of (fun a ha => hpr a (List.mem_of_mem_take ha)) hpw
  have hps1 : packs [s] = packM (printM [s]).1 := by simp [packs]
  have hB2 : bytesM [s] = (packM (printM [s]).1, 0, 0) := by
    have hp := packM_len (printM [s]).1
    have hq := printM_le [s]
    rw [← hps1]
    refine bytesM_of (fun a ha => ?_) (by rw [hps1]; omega)
    simp only [List.mem_singleton] at ha; subst ha; exact hps
  simp (maxSteps := 1000000) +contextual only [go_sem, rCond_bool, Run_block, sevalprocAttr, -Int.reduceAdd, -Int.reduceSub, -Int.reduceMul, flt, c1, c2, c2', c3, c4, c5, c6, hw12, c7, hwk]
  intro b12 T12 hb12 hT12 hTb12
  refine rCall_pure (ct_Bytes (hg.ext h02) (RS_hi (by decide) (fun _ _ => RStm_len) (RS_ext h02 (RStm_ext h02) hs) (Nat.le_of_lt hwl)) _) ?_ (fun _ _ _ _ h => h.elim)
  rintro v M3 hM3 hno3 ⟨w2, rfl, hw2⟩
  rw [hB1] at hw2 ⊢
  simp only at hw2 ⊢
  have hw2' := hw2
  obtain ⟨_, a4, k4, rfl, hl4, _⟩ := RS_elim (by decide) (fun _ _ => RBy_len) hw2'
  simp only [List.cons_append, List.nil_append, noneL, noneL_pL] at hno3
  have h03 := h02.trans hM3
  have hwj : IntKind.i64.wrap ((w : Int) + 1) = ((w + 1 : Nat) : Int) := wrap_succ w (by omega)
  have q1 : ((w : Nat) : Int) ≤ ((w + 1 : Nat) : Int) ∧ w + 1 ≤ k1 := ⟨by omega, by omega⟩
  have q2 : w + 1 - w = 1 := by omega
  have hmid := RS_mid (lo := w) (hi := w + 1) (by decide) (fun _ _ => RStm_len) (RS_ext h03 (RStm_ext h03) hs) (by omega) (by omega)
  rw [mid_one hsw, q2] at hmid
  simp (maxSteps := 1000000) +contextual only [go_sem, rCond_bool, Run_block, sevalprocAttr, -Int.reduceAdd, -Int.reduceSub, -Int.reduceMul, flt, hno3, hwj, q1, q2]
  refine rCall_pure (ct_Bytes (hg.ext h03) hmid _) ?_ (fun _ _ _ _ h => h.elim)
  rintro v M4 hM4 hno4 ⟨w3, rfl, hw3⟩
  rw [hB2] at hw3 ⊢
  simp only at hw3 ⊢
  have hw3' := hw3
  obtain ⟨_, a5, k5, rfl, hl5, _⟩ := RS_elim (by decide) (fun _ _ => RBy_len) hw3'
  simp only [List.cons_append, List.nil_append, noneL, noneL_pL] at hno4
  have h04 := h03.trans hM4
  have hpl2 := packM_len (printM [s]).1
  have hpm := printM_le [s]
  have hwo : IntKind.i64.wrap (((packM (printM [s]).1).length : Int) - 1) = ((packM (printM [s]).1).length : Int) - 1 := wrap64 (by omega) (by omega)
  by_cases c8 : at_ < 2
  · simp (maxSteps := 1000000) +contextual only [go_sem, rCond_bool, Run_block, sevalprocAttr, -Int.reduceAdd, -Int.reduceSub, -Int.reduceMul, flt, hno4, c8]
    intro b15 T15 hb15 hap15 hT15 hTb15
    exact end_none (fun _ _ h => by cases h) rfl
  by_cases c9 : ((packM (printM [s]).1).length : Int) - 1 ≤ at_
  · simp (maxSteps := 1000000) +contextual only [go_sem, rCond_bool, Run_block, sevalprocAttr, -Int.reduceAdd, -Int.reduceSub, -Int.reduceMul, flt, hno4, c8, hwo, c9]
    intro b15 T15 hb15 hap15 hT15 hTb15
    exact end_none (fun _ _ h => by cases h) rfl
  obtain ⟨k, rfl⟩ : ∃ k : Nat, at_ = k := ⟨at_.toNat, by omega⟩
  obtain ⟨o, rfl⟩ : ∃ o : UInt8, one = (o.toNat : Int) := ⟨UInt8.ofNat one.toNat, by simp; omega⟩
  obtain ⟨t, rfl⟩ : ∃ o : UInt8, two = (o.toNat : Int) := ⟨UInt8.ofNat two.toNat, by simp; omega⟩
  have hne : o ≠ 0 ∨ t ≠ 0 := by
    by_cases h1 : o = 0
    · right; rintro rfl; subst h1; exact c7 rfl
    · exact .inl h1
  obtain ⟨hg1', hg2'⟩ := hga rfl hwl hne hsw (k := k) (by omega) (by omega)
  simp (maxSteps := 1000000) +contextual only [go_sem, rCond_bool, Run_block, sevalprocAttr, -Int.reduceAdd, -Int.reduceSub, -Int.reduceMul, flt, hno4, c8, hwo, c9]
  intro b15 T15 hb15 hap15 hT15 hTb15 b16 hb16 hap16
  have h24 := hM3.trans hM4
  obtain ⟨xs, hx1, hx2, hx3⟩ := srcs_RS (Tryz.underlying37) (fun _ _ => RBy_len) (fun _ _ h => by rw [h]; intro u hu; simp only [List.mem_singleton] at hu; subst hu; rfl) (RS_ext h24 (fun _ _ h => h) hw1)
  obtain rfl := bytes_eq hx2
  have hfb : 0 < fb.length := by omega
  have hbc : (Lib.byteCells fb).length = fb.length := by simp [Lib.byteCells]
  refine app_open (xs := []) row37 okt37 (hx3 _ _ _) rfl (by rw [hbc]; omega) (by simp only [List.length_nil, hbc]; omega) fun g m c junk hgM hgL hm hmc hlen => ?_
  simp only [List.nil_append, List.length_nil, Nat.zero_add, Nat.mul_one, hbc] at hm hlen
  subst hm
  have hK : IntKind.i64.wrap (((packs (l.take w)).length : Int) + (k : Int)) = (((packs (l.take w)).length + k : Nat) : Int) := wrap64 (by omega) (by omega)
  have hK1 : IntKind.i64.wrap ((((packs (l.take w)).length + k : Nat) : Int) + 1) = (((packs (l.take w)).length + k + 1 : Nat) : Int) := wrap_succ _ (by omega)
  generalize hKK : (packs (l.take w)).length + k = K at *
  have hwo1 : IntKind.u8.wrap (o.toNat : Int) = (o.toNat : Int) := by rw [w8]; simp
  have hwt1 : IntKind.u8.wrap (t.toNat : Int) = (t.toNat : Int) := by rw [w8]; simp
  have q3 : ((K : Nat) : Int) < ((fb.length : Nat) : Int) := by omega
  have q4 : ((K + 1 : Nat) : Int) < ((fb.length : Nat) : Int) := by omega
  have g1 := getD_cells (b := fb) (k := K) (by omega) junk
  have g2 := getD_cells (b := fb) (k := K + 1) (by omega) junk
  simp (maxSteps := 1000000) +contextual only [go_sem, rCond_bool, Run_block, sevalprocAttr, -Int.reduceAdd, -Int.reduceSub, -Int.reduceMul, hK, hK1]
  refine draw_all ?_
  have q5 : K + 1 ≤ c := by omega
  have q6 : K + 1 + 1 ≤ c := by omega
  simp (maxSteps := 1000000) +contextual only [go_sem, rCond_bool, Run_block, sevalprocAttr, -Int.reduceAdd, -Int.reduceSub, -Int.reduceMul, hK, hK1, hgM, q3, q4, g1, g2, xor8, hwo1, hwt1, hlen, q5, q6]
  refine rCall_frz bod23 fun M5 hM5 hg5 hno5 => ?_
  rw [byteCells_set fb K _ junk (by omega), byteCells_set (fb.set K _) (K + 1) _ junk (by rw [List.length_set]; omega)] at hg5
  have h05 := h04.trans hM5
  generalize hfb2 : (fb.set K (fb.getD K 0 ^^^ o)).set (K + 1) (fb.getD (K + 1) 0 ^^^ t) = fb2 at *
  have hl2 : fb2.length = fb.length := by rw [← hfb2]; simp
  have hrs : RS M5 RBy 1 fb2 (.slice (some ⟨g, 0, none⟩) fb.length c) := by
    refine ⟨by omega, Lib.byteCells fb2, .inr ⟨g, 0, fb.length, c, rfl, hmc, by simp [Lib.byteCells, hl2], ?_⟩, RL_bytes _⟩
    refine At_of hg5 _ 0 fun i v hv => ?_
    rw [Nat.zero_add, List.getElem?_append_left (List.getElem?_eq_some_iff.1 hv).1]
    exact hv
  refine rCall_pure (ct_Recover (hg.ext h05) hrs _) ?_ (fun _ _ _ _ h => h.elim)
  rintro v M6 hM6 hno6 ⟨w4, rfl, hw4⟩
  rw [hg2'] at hw4 ⊢
  simp only at hw4 ⊢
  obtain ⟨_, a6, k6, rfl, hl6, _⟩ := RS_elim (by decide) (fun _ _ => RStm_len) hw4
  have hjl : (List.map bareS (List.take w l)).length = w := by rw [List.length_map, List.length_take]; omega
  simp (maxSteps := 1000000) +contextual only [go_sem, rCond_bool, Run_block, sevalprocAttr, -Int.reduceAdd, -Int.reduceSub, -Int.reduceMul, hjl]
  exact end_none (fun _ _ h => by cases h) rfl
end Go.Proofs.YtoainkbcfnlkcaaGreatDoor


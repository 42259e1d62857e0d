import Derived.Test.YtoainkbcfnlkcaaGreatDoorH
set_option linter.all false
namespace Go.Proofs.YtoainkbcfnlkcaaGreatDoor
open Go Vc
set_option linter.unusedSimpArgs false
set_option linter.unusedVariables false
set_option maxRecDepth 10000

theorem At21 {M : Mem} {b o : Nat} {v0 v1 v2 v3 v4 v5 v6 v7 v8 v9 v10 v11 v12 v13 v14 v15 v16 v17 v18 v19 v20 : Value} (h : At M b o [v0, v1, v2, v3, v4, v5, v6, v7, v8, v9, v10, v11, v12, v13, v14, v15, v16, v17, v18, v19, v20]) : mcell M ⟨b, o, none⟩ = some v0 ∧ mcell M ⟨b, o + 1, none⟩ = some v1 ∧ mcell M ⟨b, o + 2, none⟩ = some v2 ∧ mcell M ⟨b, o + 3, none⟩ = some v3 ∧ mcell M ⟨b, o + 4, none⟩ = some v4 ∧ mcell M ⟨b, o + 5, none⟩ = some v5 ∧ mcell M ⟨b, o + 6, none⟩ = some v6 ∧ mcell M ⟨b, o + 7, none⟩ = some v7 ∧ mcell M ⟨b, o + 8, none⟩ = some v8 ∧ mcell M ⟨b, o + 9, none⟩ = some v9 ∧ mcell M ⟨b, o + 10, none⟩ = some v10 ∧ mcell M ⟨b, o + 11, none⟩ = some v11 ∧ mcell M ⟨b, o + 12, none⟩ = some v12 ∧ mcell M ⟨b, o + 13, none⟩ = some v13 ∧ mcell M ⟨b, o + 14, none⟩ = some v14 ∧ mcell M ⟨b, o + 15, none⟩ = some v15 ∧ mcell M ⟨b, o + 16, none⟩ = some v16 ∧ mcell M ⟨b, o + 17, none⟩ = some v17 ∧ mcell M ⟨b, o + 18, none⟩ = some v18 ∧ mcell M ⟨b, o + 19, none⟩ = some v19 ∧ mcell M ⟨b, o + 20, none⟩ = some v20 :=
  ⟨h.1, h.2.1, h.2.2.1, h.2.2.2.1, h.2.2.2.2.1, h.2.2.2.2.2.1, h.2.2.2.2.2.2.1, h.2.2.2.2.2.2.2.1, h.2.2.2.2.2.2.2.2.1, h.2.2.2.2.2.2.2.2.2.1, h.2.2.2.2.2.2.2.2.2.2.1, h.2.2.2.2.2.2.2.2.2.2.2.1, h.2.2.2.2.2.2.2.2.2.2.2.2.1, h.2.2.2.2.2.2.2.2.2.2.2.2.2.1, h.2.2.2.2.2.2.2.2.2.2.2.2.2.2.1, h.2.2.2.2.2.2.2.2.2.2.2.2.2.2.2.1, h.2.2.2.2.2.2.2.2.2.2.2.2.2.2.2.2.1, h.2.2.2.2.2.2.2.2.2.2.2.2.2.2.2.2.2.1, h.2.2.2.2.2.2.2.2.2.2.2.2.2.2.2.2.2.2.1, h.2.2.2.2.2.2.2.2.2.2.2.2.2.2.2.2.2.2.2.1, h.2.2.2.2.2.2.2.2.2.2.2.2.2.2.2.2.2.2.2.2.1⟩
theorem At10 {M : Mem} {b o : Nat} {v0 v1 v2 v3 v4 v5 v6 v7 v8 v9 : Value} (h : At M b o [v0, v1, v2, v3, v4, v5, v6, v7, v8, v9]) : mcell M ⟨b, o, none⟩ = some v0 ∧ mcell M ⟨b, o + 1, none⟩ = some v1 ∧ mcell M ⟨b, o + 2, none⟩ = some v2 ∧ mcell M ⟨b, o + 3, none⟩ = some v3 ∧ mcell M ⟨b, o + 4, none⟩ = some v4 ∧ mcell M ⟨b, o + 5, none⟩ = some v5 ∧ mcell M ⟨b, o + 6, none⟩ = some v6 ∧ mcell M ⟨b, o + 7, none⟩ = some v7 ∧ mcell M ⟨b, o + 8, none⟩ = some v8 ∧ mcell M ⟨b, o + 9, none⟩ = some v9 :=
  ⟨h.1, h.2.1, h.2.2.1, h.2.2.2.1, h.2.2.2.2.1, h.2.2.2.2.2.1, h.2.2.2.2.2.2.1, h.2.2.2.2.2.2.2.1, h.2.2.2.2.2.2.2.2.1, h.2.2.2.2.2.2.2.2.2.1⟩
theorem At8 {M : Mem} {b o : Nat} {v0 v1 v2 v3 v4 v5 v6 v7 : Value} (h : At M b o [v0, v1, v2, v3, v4, v5, v6, v7]) : mcell M ⟨b, o, none⟩ = some v0 ∧ mcell M ⟨b, o + 1, none⟩ = some v1 ∧ mcell M ⟨b, o + 2, none⟩ = some v2 ∧ mcell M ⟨b, o + 3, none⟩ = some v3 ∧ mcell M ⟨b, o + 4, none⟩ = some v4 ∧ mcell M ⟨b, o + 5, none⟩ = some v5 ∧ mcell M ⟨b, o + 6, none⟩ = some v6 ∧ mcell M ⟨b, o + 7, none⟩ = some v7 :=
  ⟨h.1, h.2.1, h.2.2.1, h.2.2.2.1, h.2.2.2.2.1, h.2.2.2.2.2.1, h.2.2.2.2.2.2.1, h.2.2.2.2.2.2.2.1⟩
theorem RSe_form {M : Mem} {s : Se} {cs : List Value} (h : RSe M s cs) : ∃ ai aj af ag aw ah ap aq, cs = [.bool s.distinct, .bool s.star, .slice ai s.items.length aj, .slice af s.src.length ag, .bool s.hasW, .bool s.hasH, .int .i64 s.wh.k, .int .i64 s.wh.v.k, .int .i64 s.wh.v.n, st s.wh.v.t, st s.wh.tab, st s.wh.name, aw, .int .i64 s.hv.k, .int .i64 s.hv.v.k, .int .i64 s.hv.v.n, st s.hv.v.t, st s.hv.tab, st s.hv.name, ah, .slice ap s.group.length aq] ∧ RS M (RIt M) 8 s.items (.slice ai s.items.length aj) ∧ RS M (RSo M) 10 s.src (.slice af s.src.length ag) ∧
    RX M s.wh [.int .i64 s.wh.k, .int .i64 s.wh.v.k, .int .i64 s.wh.v.n, st s.wh.v.t, st s.wh.tab, st s.wh.name, aw] ∧ RX M s.hv [.int .i64 s.hv.k, .int .i64 s.hv.v.k, .int .i64 s.hv.v.n, st s.hv.v.t, st s.hv.tab, st s.hv.name, ah] ∧ RS M (RX M) 7 s.group (.slice ap s.group.length aq) ∧ aw.oneCell' = true ∧ ah.oneCell' = true := by
  obtain ⟨i, f, w, hh, g, h1, h2, h3, h4, h5, rfl⟩ := h
  obtain ⟨_, ai, aj, rfl, _⟩ := RS_elim (by decide) (fun _ _ => RIt_len) h1
  obtain ⟨_, af, ag, rfl, _⟩ := RS_elim (by decide) (fun _ _ => RSo_len) h2
  obtain ⟨_, ap, aq, rfl, _⟩ := RS_elim (by decide) (fun _ _ => RX_len) h5
  obtain ⟨aw, rfl, k1, _⟩ := RX_form h3
  obtain ⟨ah, rfl, k2, _⟩ := RX_form h4
  exact ⟨ai, aj, af, ag, aw, ah, ap, aq, rfl, h1, h2, h3, h4, h5, k1, k2⟩
theorem RSo_formC {M : Mem} {s : So} {cs : List Value} (h : RSo M s cs) : ∃ aw, cs = [.int .i64 s.k, st s.name, st s.as, .int .i64 s.on.k, .int .i64 s.on.v.k, .int .i64 s.on.v.n, st s.on.v.t, st s.on.tab, st s.on.name, aw] ∧ RX M s.on [.int .i64 s.on.k, .int .i64 s.on.v.k, .int .i64 s.on.v.n, st s.on.v.t, st s.on.tab, st s.on.name, aw] ∧ aw.oneCell' = true := by
  obtain ⟨c, h1, rfl⟩ := h
  obtain ⟨aw, rfl, k1, _⟩ := RX_form h1
  exact ⟨aw, rfl, h1, k1⟩
theorem RIt_form {M : Mem} {s : It} {cs : List Value} (h : RIt M s cs) : ∃ aw, cs = [.int .i64 s.x.k, .int .i64 s.x.v.k, .int .i64 s.x.v.n, st s.x.v.t, st s.x.tab, st s.x.name, aw, st s.as] ∧ RX M s.x [.int .i64 s.x.k, .int .i64 s.x.v.k, .int .i64 s.x.v.n, st s.x.v.t, st s.x.tab, st s.x.name, aw] ∧ aw.oneCell' = true := by
  obtain ⟨c, h1, rfl⟩ := h
  obtain ⟨aw, rfl, k1, _⟩ := RX_form h1
  exact ⟨aw, rfl, h1, k1⟩
theorem RS_get {α : Type} {M : Mem} {r : α → List Value → Prop} {sz : Nat} {l : List α} {a n c} (hpos : 0 < sz) (hsz : ∀ x cs, r x cs → cs.length = sz) (hs : RS M r sz l (.slice a n c)) {i : Nat} {x : α} (h : l[i]? = some x) : ∃ b o cs, a = some ⟨b, o, none⟩ ∧ At M b (o + i * sz) cs ∧ r x cs := by
  obtain ⟨_, a', c', he, _, _, hg⟩ := RS_elim hpos hsz hs
  injection he with h1 h2 h3
  rw [h1]; exact hg i x h
theorem RS_le {α : Type} {M : Mem} {r : α → List Value → Prop} {sz : Nat} {l : List α} {v : Value} (hs : RS M r sz l v) : l.length ≤ 140737488355328 := hs.1
end Go.Proofs.YtoainkbcfnlkcaaGreatDoor

namespace Go.Proofs.YtoainkbcfnlkcaaGreatDoor
open Go Vc
set_option linter.unusedSimpArgs false
set_option linter.unusedVariables false
set_option maxRecDepth 10000

theorem At16 {M : Mem} {b o : Nat} {v0 v1 v2 v3 v4 v5 v6 v7 v8 v9 v10 v11 v12 v13 v14 v15 : Value} (h : At M b o [v0, v1, v2, v3, v4, v5, v6, v7, v8, v9, v10, v11, v12, v13, v14, v15]) : mcell M ⟨b, o, none⟩ = some v0 ∧ mcell M ⟨b, o + 1, none⟩ = some v1 ∧ mcell M ⟨b, o + 2, none⟩ = some v2 ∧ mcell M ⟨b, o + 3, none⟩ = some v3 ∧ mcell M ⟨b, o + 4, none⟩ = some v4 ∧ mcell M ⟨b, o + 5, none⟩ = some v5 ∧ mcell M ⟨b, o + 6, none⟩ = some v6 ∧ mcell M ⟨b, o + 7, none⟩ = some v7 ∧ mcell M ⟨b, o + 8, none⟩ = some v8 ∧ mcell M ⟨b, o + 9, none⟩ = some v9 ∧ mcell M ⟨b, o + 10, none⟩ = some v10 ∧ mcell M ⟨b, o + 11, none⟩ = some v11 ∧ mcell M ⟨b, o + 12, none⟩ = some v12 ∧ mcell M ⟨b, o + 13, none⟩ = some v13 ∧ mcell M ⟨b, o + 14, none⟩ = some v14 ∧ mcell M ⟨b, o + 15, none⟩ = some v15 :=
  ⟨h.1, h.2.1, h.2.2.1, h.2.2.2.1, h.2.2.2.2.1, h.2.2.2.2.2.1, h.2.2.2.2.2.2.1, h.2.2.2.2.2.2.2.1, h.2.2.2.2.2.2.2.2.1, h.2.2.2.2.2.2.2.2.2.1, h.2.2.2.2.2.2.2.2.2.2.1, h.2.2.2.2.2.2.2.2.2.2.2.1, h.2.2.2.2.2.2.2.2.2.2.2.2.1, h.2.2.2.2.2.2.2.2.2.2.2.2.2.1, h.2.2.2.2.2.2.2.2.2.2.2.2.2.2.1, h.2.2.2.2.2.2.2.2.2.2.2.2.2.2.2.1⟩
theorem At2 {M : Mem} {b o : Nat} {v0 v1 : Value} (h : At M b o [v0, v1]) : mcell M ⟨b, o, none⟩ = some v0 ∧ mcell M ⟨b, o + 1, none⟩ = some v1 :=
  ⟨h.1, h.2.1⟩
theorem At3 {M : Mem} {b o : Nat} {v0 v1 v2 : Value} (h : At M b o [v0, v1, v2]) : mcell M ⟨b, o, none⟩ = some v0 ∧ mcell M ⟨b, o + 1, none⟩ = some v1 ∧ mcell M ⟨b, o + 2, none⟩ = some v2 :=
  ⟨h.1, h.2.1, h.2.2.1⟩
theorem At1 {M : Mem} {b o : Nat} {v0 : Value} (h : At M b o [v0]) : mcell M ⟨b, o, none⟩ = some v0 := h.1
theorem RCo_len {c : Co} {cs} (h : RCo c cs) : cs.length = 2 := by unfold RCo at h; subst h; rfl
theorem RVs_len {M : Mem} {l : List V} {cs} (h : RVs M l cs) : cs.length = 1 := by obtain ⟨s, _, rfl⟩ := h; rfl
theorem RStm_form {M : Mem} {s : Stm} {cs : List Value} (h : RStm M s cs) : ∃ ac ad ap aq ao an ar ae au av aw, cs = [.int .i64 s.k, st s.name, .slice ac s.cols.length ad, .slice ap s.q.parts.length aq, .slice ao s.q.ops.length an, .slice ar s.q.order.length ae, .int .i64 s.q.limit, .slice au s.rows.length av, .bool s.hasW, .int .i64 s.wh.k, .int .i64 s.wh.v.k, .int .i64 s.wh.v.n, st s.wh.v.t, st s.wh.tab, st s.wh.name, aw] ∧ RS M RCo 2 s.cols (.slice ac s.cols.length ad) ∧ RQ M s.q [.slice ap s.q.parts.length aq, .slice ao s.q.ops.length an, .slice ar s.q.order.length ae, .int .i64 s.q.limit] ∧
    RS M (RVs M) 1 s.rows (.slice au s.rows.length av) ∧ RX M s.wh [.int .i64 s.wh.k, .int .i64 s.wh.v.k, .int .i64 s.wh.v.n, st s.wh.v.t, st s.wh.tab, st s.wh.name, aw] ∧ aw.oneCell' = true := by
  obtain ⟨c, qq, r, w, h1, h2, h3, h4, rfl⟩ := h
  obtain ⟨_, ac, ad, rfl, _⟩ := RS_elim (by decide) (fun _ _ => RCo_len) h1
  obtain ⟨_, au, av, rfl, _⟩ := RS_elim (by decide) (fun _ _ => RVs_len) h3
  obtain ⟨aw, rfl, k1, _⟩ := RX_form h4
  obtain ⟨p, o, rr, g1, g2, g3, rfl⟩ := h2
  obtain ⟨_, ap, aq, rfl, _⟩ := RS_elim (by decide) (fun _ _ => RSe_len) g1
  obtain ⟨_, ao, an, rfl, _⟩ := RS_elim (by decide) (fun _ _ => RI_len) g2
  obtain ⟨_, ar, ae, rfl, _⟩ := RS_elim (by decide) (fun _ _ => RX_len) g3
  exact ⟨ac, ad, ap, aq, ao, an, ar, ae, au, av, aw, rfl, h1, ⟨_, _, _, g1, g2, g3, rfl⟩, h3, h4, k1⟩
end Go.Proofs.YtoainkbcfnlkcaaGreatDoor

namespace Go.Proofs.YtoainkbcfnlkcaaGreatDoor
open Go Vc
set_option linter.unusedSimpArgs false
set_option linter.unusedVariables false
set_option maxRecDepth 10000

end Go.Proofs.YtoainkbcfnlkcaaGreatDoor

namespace Go.Proofs.YtoainkbcfnlkcaaGreatDoor
open Go Vc
set_option linter.unusedSimpArgs false
set_option linter.unusedVariables false
set_option maxRecDepth 10000

theorem cells_At {N : Tm} {M : Mem} {L : LL} {R : RR} {b : Nat} : ∀ (xs : List Value) (o i : Nat), At M b (o + i) xs → Sh.cells ⟨N, M, L, R⟩ ⟨b, o, none⟩ i xs.length = some xs
  | [], o, i, h => rfl
  | x :: xs, o, i, h => by
    rw [List.length_cons, cells_succ, cells_At xs o (i + 1) h.2]
    have : Sh.cell ⟨N, M, L, R⟩ ⟨b, o + i, none⟩ = some x := by simp only [Sh.cell, h.1]
    rw [this]; rfl
theorem RL_oneC {α : Type} {r : α → List Value → Prop} (hr : ∀ x cs, r x cs → ∀ u ∈ cs, u.oneCell' = true) : ∀ {l xs}, RL r l xs → ∀ u ∈ xs, u.oneCell' = true
  | [], xs, h, u, hu => by have : xs = [] := h; subst this; cases hu
  | x :: l, xs, h, u, hu => by
    obtain ⟨cs, rest, rfl, h1, h2⟩ := h
    rcases List.mem_append.1 hu with hu | hu
    · exact hr x cs h1 u hu
    · exact RL_oneC hr h2 u hu
theorem srcs_RS {P : Program} {tx e' : TypeId} {α : Type} {r : α → List Value → Prop} {sz : Nat} {M : Mem} {l : List α} {v : Value} (hu : P.underlying tx = some (.slice e')) (hsz : ∀ x cs, r x cs → cs.length = sz) (hr : ∀ x cs, r x cs → ∀ u ∈ cs, u.oneCell' = true) (hs : RS M r sz l v) :
    ∃ xs, xs.length = l.length * sz ∧ RL r l xs ∧ ∀ N L R, Srcs P tx sz ⟨N, M, L, R⟩ v xs := by
  obtain ⟨_, xs, h, hl⟩ := hs
  refine ⟨xs, RL_len hsz hl, hl, fun N L R => ?_⟩
  rcases h with ⟨a, c, rfl, rfl, hac⟩ | ⟨b, o, n, c, rfl, hle, hn, ha⟩
  · cases a with
    | none => rw [hac rfl]; exact .nil 0 e' hu
    | some a => exact .slice a 0 c [] e' hu (by rw [Nat.zero_mul]; rfl) (fun u hu => by cases hu)
  · refine .slice _ n c xs e' hu ?_ (RL_oneC hr hl)
    rw [← hn]
    exact cells_At xs o 0 ha
theorem RL_append {α : Type} {r : α → List Value → Prop} : ∀ {l m : List α} {xs ys : List Value}, RL r l xs → RL r m ys → RL r (l ++ m) (xs ++ ys)
  | [], m, xs, ys, h, h' => by have : xs = [] := h; subst this; exact h'
  | x :: l, m, xs, ys, h, h' => by
    obtain ⟨cs, rest, rfl, h1, h2⟩ := h
    exact ⟨cs, rest ++ ys, by rw [List.append_assoc], h1, RL_append h2 h'⟩
end Go.Proofs.YtoainkbcfnlkcaaGreatDoor


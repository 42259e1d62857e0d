import Derived.Test.YtmccpbcbofhmlaaGreatDoorA
import Derived.Defers
import Derived.Lib.LaidTab
import Derived.Lib.ConvBytes
import Derived.Attr
set_option linter.all false
namespace Vc
open Go
inductive Item where
  | code (c : Code)
  | ops (all r : List Oper)
  | sch (all : List Oper) (s : Sched) (h0 : Sh)
  | chk (t : Bool) (h0 : Sh)
  | anew (t : Bool) (all : List Oper) (sc : Sched) (h0 : Sh)
  | blk (id : Nat)
  | lp (I : Nat → Env → List Deferred → Sh → Prop) (m : Nat)
structure Fi where
  dr : List (Nat × Sched)
  ret : Env → List Deferred → Sh → Prop
  pan : List PanicEntry → Env → List Deferred → Sh → Prop
def Fi.k (F : Fi) : KontL where
  nrm := F.ret
  exi := fun _ _ _ _ => False
  ret := F.ret
  pan := F.pan
def kont (P : Program) (F : Fi) : List Item → KontL
  | [] => F.k
  | .code c :: s => { kont P F s with nrm := vcL P F.dr c (kont P F s) }
  | .ops all r :: s => { kont P F s with nrm := vOpsL P all (kont P F s) r }
  | .sch all sc h0 :: s => { kont P F s with nrm := vS P all (kont P F s) h0 sc }
  | .chk t h0 :: s => { kont P F s with nrm := fun e ds h => (t = false → Sub h0 h) ∧ (kont P F s).nrm e ds h }
  | .anew t all sc h0 :: s => { kont P F s with nrm := fun e ds h => ∃ h1, Sub h0 h1 ∧ (t = false → Sub h1 h) ∧ vS P all (kont P F s) h1 sc e ds h }
  | .blk id :: s => { kont P F s with exi := fun i => if i = id then (kont P F s).nrm else (kont P F s).exi i }
  | .lp I m :: s => { kont P F s with nrm := fun e ds h => Close h fun h => ∃ m', m' < m ∧ I m' e ds h }
structure Tok {α : Type} (a : α) : Type
def Run (P : Program) (F : Fi) (s : List Item) (e : Env) (ds : List Deferred) (h : Sh) (_k : Tok (F, s, e, ds, h)) : Prop := (kont P F s).nrm e ds h
def Exi (P : Program) (F : Fi) (id : Nat) (s : List Item) (e : Env) (ds : List Deferred) (h : Sh) (_k : Tok (F, s, e, ds, h)) : Prop := (kont P F s).exi id e ds h
theorem kont_ret {P F} : ∀ s, (kont P F s).ret = F.ret
  | [] => rfl
  | .code _ :: s => kont_ret s
  | .ops _ _ :: s => kont_ret s
  | .sch _ _ _ :: s => kont_ret s
  | .chk _ _ :: s => kont_ret s
  | .anew _ _ _ _ :: s => kont_ret s
  | .blk _ :: s => kont_ret s
  | .lp _ _ :: s => kont_ret s
theorem kont_pan {P F} : ∀ s, (kont P F s).pan = F.pan
  | [] => rfl
  | .code _ :: s => kont_pan s
  | .ops _ _ :: s => kont_pan s
  | .sch _ _ _ :: s => kont_pan s
  | .chk _ _ :: s => kont_pan s
  | .anew _ _ _ _ :: s => kont_pan s
  | .blk _ :: s => kont_pan s
  | .lp _ _ :: s => kont_pan s
section
variable {P : Program} {F : Fi} {s : List Item} {e : Env} {ds : List Deferred} {h h0 : Sh} {all r : List Oper} {dd : Option Nat} {ty : TypeId} {pos : String} {af : Array Edge}
theorem Run_nil : Run P F [] e ds h ⟨⟩ = F.ret e ds h := (rfl)
theorem Run_skip : Run P F (.code .skip :: s) e ds h ⟨⟩ = Run P F s e ds h ⟨⟩ := (rfl)
theorem Run_seq (a b) : Run P F (.code (.seq a b) :: s) e ds h ⟨⟩ = Run P F (.code a :: .code b :: s) e ds h ⟨⟩ := (rfl)
theorem Run_block (id b) : Run P F (.code (.block id b) :: s) e ds h ⟨⟩ = Run P F (.code b :: .blk id :: s) e ds h ⟨⟩ := (rfl)
theorem Run_blk (id) : Run P F (.blk id :: s) e ds h ⟨⟩ = Run P F s e ds h ⟨⟩ := (rfl)
theorem Run_ret : Run P F (.code .ret :: s) e ds h ⟨⟩ = F.ret e ds h := by
  show (kont P F s).ret e ds h = _; rw [kont_ret]
theorem Run_exit (id) : Run P F (.code (.exit id) :: s) e ds h ⟨⟩ = Exi P F id s e ds h ⟨⟩ := (rfl)
theorem Exi_code (id c) : Exi P F id (.code c :: s) e ds h ⟨⟩ = Exi P F id s e ds h ⟨⟩ := (rfl)
theorem Exi_ops (id a r) : Exi P F id (.ops a r :: s) e ds h ⟨⟩ = Exi P F id s e ds h ⟨⟩ := (rfl)
theorem Exi_sch (id a r) : Exi P F id (.sch a r h0 :: s) e ds h ⟨⟩ = Exi P F id s e ds h ⟨⟩ := (rfl)
theorem Exi_chk (id t) : Exi P F id (.chk t h0 :: s) e ds h ⟨⟩ = Exi P F id s e ds h ⟨⟩ := (rfl)
theorem Exi_anew (id t a sc) : Exi P F id (.anew t a sc h0 :: s) e ds h ⟨⟩ = Exi P F id s e ds h ⟨⟩ := (rfl)
theorem Exi_lp (id I m) : Exi P F id (.lp I m :: s) e ds h ⟨⟩ = Exi P F id s e ds h ⟨⟩ := (rfl)
theorem Exi_blk (i id) : Exi P F i (.blk id :: s) e ds h ⟨⟩ = if i = id then Run P F s e ds h ⟨⟩ else Exi P F i s e ds h ⟨⟩ := by
  simp only [Exi, kont, Run]; split <;> rfl
theorem Run_region (id ops) : Run P F (.code (.region id ⟨ops⟩ false) :: s) e ds h ⟨⟩ = Run P F (.ops ops ops :: s) e ds h ⟨⟩ := (rfl)
theorem Run_ops_nil : Run P F (.ops all [] :: s) e ds h ⟨⟩ = Run P F s e ds h ⟨⟩ := (rfl)
def rDraw (P : Program) (F : Fi) (ops : List Oper) (sc : Sched) (s : List Item) (e : Env) (ds : List Deferred) (h : Sh) (_k : Tok (F, ops, s, e, ds, h)) : Prop :=
  ∃ h0, Sub h0 h ∧ Run P F (.sch ops sc h0 :: s) e ds h ⟨⟩
theorem Run_draw (id ops) : Run P F (.code (.region id ⟨ops⟩ true) :: s) e ds h ⟨⟩ = (PanOk F.pan ops ∧ rDraw P F ops (look F.dr id) s e ds h ⟨⟩) := by
  show vRegion P F.dr id ops true (kont P F s) e ds h = _
  unfold vRegion
  rw [if_pos rfl, kont_pan]
  rfl
theorem draw_at {ops : List Oper} {sc : Sched} (h0 : Sh) (hs : Sub h0 h) (hr : Run P F (.sch ops sc h0 :: s) e ds h ⟨⟩) : rDraw P F ops sc s e ds h ⟨⟩ := ⟨h0, hs, hr⟩
theorem draw_all {ops : List Oper} {sc : Sched} (hr : Run P F (.sch ops sc h :: s) e ds h ⟨⟩) : rDraw P F ops sc s e ds h ⟨⟩ := ⟨h, Sub.refl h, hr⟩
theorem Run_done : Run P F (.sch all .done h0 :: s) e ds h ⟨⟩ = Run P F s e ds h ⟨⟩ := (rfl)
theorem Run_no : Run P F (.sch all .no h0 :: s) e ds h ⟨⟩ = True := (rfl)
def rCond (P : Program) (F : Fi) (v : Value) (a b : Code) (s : List Item) (e : Env) (ds : List Deferred) (h : Sh) (_k : Tok (F, a, b, s, e, ds, h)) : Prop :=
  match v with
  | .bool t => if t = true then Run P F (.code a :: s) e ds h ⟨⟩ else Run P F (.code b :: s) e ds h ⟨⟩
  | _ => False
theorem Run_cond (c a b) : Run P F (.code (.cond c a b) :: s) e ds h ⟨⟩ = rCond P F (ev e c) a b s e ds h ⟨⟩ := (rfl)
theorem rCond_bool (t a b) : rCond P F (.bool t) a b s e ds h ⟨⟩ = if t = true then Run P F (.code a :: s) e ds h ⟨⟩ else Run P F (.code b :: s) e ds h ⟨⟩ := (rfl)
def rVal (P : Program) (F : Fi) (o : Option Value) (dd : Option Nat) (s : List Item) (e : Env) (ds : List Deferred) (h : Sh) (_k : Tok (F, s, e, ds, h)) : Prop :=
  match o with
  | some v => Run P F s (updo e dd v) ds h ⟨⟩
  | none => False
theorem rVal_some (v) : rVal P F (some v) dd s e ds h ⟨⟩ = Run P F s (updo e dd v) ds h ⟨⟩ := (rfl)
def rTake (P : Program) (F : Fi) (o : Option Oper) (all : List Oper) (sc : Sched) (h0 : Sh) (s : List Item) (e : Env) (ds : List Deferred) (h : Sh) (_k : Tok (F, all, sc, h0, s, e, ds, h)) : Prop :=
  match o with
  | some o => if want all e o.guard = true then rVal P F (pv P e h0 o.op) o.dst (.sch all sc h0 :: s) e ds h ⟨⟩ else Run P F (.sch all sc h0 :: s) (updo e o.dst undef) ds h ⟨⟩
  | none => False
theorem Run_take (i sc) : Run P F (.sch all (.take i sc) h0 :: s) e ds h ⟨⟩ = rTake P F all[i]? all sc h0 s e ds h ⟨⟩ := by
  show xOpt all[i]? _ = _
  unfold rTake xOpt
  cases all[i]? with
  | none => rfl
  | some o =>
    simp only []
    split
    · unfold rVal
      cases pv P e h0 o.op <;> rfl
    · rfl
theorem rTake_some (d op ty pos af g sc) : rTake P F (some ⟨d, op, ty, pos, af, g⟩) all sc h0 s e ds h ⟨⟩ =
    if want all e g = true then rVal P F (pv P e h0 op) d (.sch all sc h0 :: s) e ds h ⟨⟩ else Run P F (.sch all sc h0 :: s) (updo e d undef) ds h ⟨⟩ := (rfl)
theorem pureG_none {d op ty pos af} : pureG ⟨d, op, ty, pos, af, none⟩ = false := (rfl)
def rEff (P : Program) (F : Fi) (o : Option Oper) (all : List Oper) (t : Bool) (sc alt : Sched) (h0 : Sh) (s : List Item) (e : Env) (ds : List Deferred) (h : Sh) (_k : Tok (F, all, sc, alt, h0, s, e, ds, h)) : Prop :=
  match o with
  | some o => if pureG o = true then (vGo P (kont P F s) all o e ds h fun v ds h' => (t = false → Sub h0 h') ∧ vS P all (kont P F s) h0 sc (updo e o.dst v) ds h') ∧ vS P all (kont P F s) h0 alt e ds h
    else Run P F (.ops all [o] :: .chk t h0 :: .sch all sc h0 :: s) e ds h ⟨⟩ ∧ Run P F (.sch all alt h0 :: s) e ds h ⟨⟩
  | none => False
theorem Run_eff (i t sc alt) : Run P F (.sch all (.eff i t sc alt) h0 :: s) e ds h ⟨⟩ = rEff P F all[i]? all t sc alt h0 s e ds h ⟨⟩ := by
  show (xOpt all[i]? _ ∧ _) = _
  unfold rEff xOpt
  cases all[i]? with
  | none => simp
  | some o =>
    by_cases hp : pureG o = true
    · simp only [hp, if_true]
    · simp only [hp, if_false]
      show _ = (vOpsL P all _ [o] e ds h ∧ _)
      unfold vOpsL
      rw [if_neg hp]
      rfl
theorem rEff_some (d op ty pos af g t sc alt) (hp : isPv op = false) : rEff P F (some ⟨d, op, ty, pos, af, g⟩) all t sc alt h0 s e ds h ⟨⟩ = (Run P F (.ops all [⟨d, op, ty, pos, af, g⟩] :: .chk t h0 :: .sch all sc h0 :: s) e ds h ⟨⟩ ∧ Run P F (.sch all alt h0 :: s) e ds h ⟨⟩) := by
  show (if pureG _ = true then _ else _) = _
  rw [if_neg (by simp [pureG, hp])]
def rEffN (P : Program) (F : Fi) (o : Option Oper) (all : List Oper) (t : Bool) (sc alt : Sched) (h0 : Sh) (s : List Item) (e : Env) (ds : List Deferred) (h : Sh) (_k : Tok (F, all, sc, alt, h0, s, e, ds, h)) : Prop :=
  match o with
  | some o => if pureG o = true then (vGo P (kont P F s) all o e ds h fun v ds h' => ∃ h1, Sub h0 h1 ∧ (t = false → Sub h1 h') ∧ vS P all (kont P F s) h1 sc (updo e o.dst v) ds h') ∧ vS P all (kont P F s) h0 alt e ds h
    else Run P F (.ops all [o] :: .anew t all sc h0 :: s) e ds h ⟨⟩ ∧ Run P F (.sch all alt h0 :: s) e ds h ⟨⟩
  | none => False
theorem Run_effN (i t sc alt) : Run P F (.sch all (.effN i t sc alt) h0 :: s) e ds h ⟨⟩ = rEffN P F all[i]? all t sc alt h0 s e ds h ⟨⟩ := by
  show (xOpt all[i]? _ ∧ _) = _
  unfold rEffN xOpt
  cases all[i]? with
  | none => simp
  | some o =>
    by_cases hp : pureG o = true
    · simp only [hp, if_true]
    · simp only [hp, if_false]
      show _ = (vOpsL P all _ [o] e ds h ∧ _)
      unfold vOpsL
      rw [if_neg hp]
      rfl
theorem rEffN_some (d op ty pos af g t sc alt) (hp : isPv op = false) : rEffN P F (some ⟨d, op, ty, pos, af, g⟩) all t sc alt h0 s e ds h ⟨⟩ = (Run P F (.ops all [⟨d, op, ty, pos, af, g⟩] :: .anew t all sc h0 :: s) e ds h ⟨⟩ ∧ Run P F (.sch all alt h0 :: s) e ds h ⟨⟩) := by
  show (if pureG _ = true then _ else _) = _
  rw [if_neg (by simp [pureG, hp])]
def rAnew (P : Program) (F : Fi) (t : Bool) (all : List Oper) (sc : Sched) (h0 : Sh) (s : List Item) (e : Env) (ds : List Deferred) (h : Sh) (_k : Tok (F, all, sc, h0, s, e, ds, h)) : Prop :=
  ∃ h1, Sub h0 h1 ∧ (t = false → Sub h1 h) ∧ Run P F (.sch all sc h1 :: s) e ds h ⟨⟩
theorem Run_anew (t sc) : Run P F (.anew t all sc h0 :: s) e ds h ⟨⟩ = rAnew P F t all sc h0 s e ds h ⟨⟩ := (rfl)
theorem Run_chk_true : Run P F (.chk true h0 :: s) e ds h ⟨⟩ = Run P F s e ds h ⟨⟩ := by
  simp [Run, kont]
theorem Run_chk_false : Run P F (.chk false h0 :: s) e ds h ⟨⟩ = (Sub h0 h ∧ Run P F s e ds h ⟨⟩) := by
  simp [Run, kont]
theorem Run_guardP (op : Op) (g : Nat × Bool) (hp : isPv op = true) : Run P F (.ops all (⟨dd, op, ty, pos, af, some g⟩ :: r) :: s) e ds h ⟨⟩ =
    rVal P F (if want all e (some g) = true then pv P e h op else some undef) dd (.ops all r :: s) e ds h ⟨⟩ := by
  show vOpsL P all (kont P F s) (⟨dd, op, ty, pos, af, some g⟩ :: r) e ds h = _
  unfold vOpsL
  rw [if_pos (by simp [pureG, hp])]
  show xOpt (if want all e (some g) = true then pv P e h op else some undef) _ = _
  unfold xOpt rVal
  cases (if want all e (some g) = true then pv P e h op else some undef) <;> rfl
theorem Run_guardE (op : Op) (g : Nat × Bool) (hp : isPv op = false) : Run P F (.ops all (⟨dd, op, ty, pos, af, some g⟩ :: r) :: s) e ds h ⟨⟩ =
    if want all e (some g) = true then Run P F (.ops all (⟨dd, op, ty, pos, af, none⟩ :: r) :: s) e ds h ⟨⟩ else Run P F (.ops all r :: s) (updo e dd undef) ds h ⟨⟩ := by
  show vOpsL P all (kont P F s) (⟨dd, op, ty, pos, af, some g⟩ :: r) e ds h = _
  unfold vOpsL
  rw [if_neg (by simp [pureG, hp])]
  rfl
theorem isPv_move (x) : isPv (.move x) = true := (rfl)
theorem isPv_assign (x) : isPv (.assign x) = true := (rfl)
theorem isPv_pick (c a b) : isPv (.pick c a b) = true := (rfl)
theorem isPv_nilCheck (x) : isPv (.nilCheck x) = true := (rfl)
theorem isPv_field (t x i) : isPv (.fieldAddr t x i) = true := (rfl)
theorem isPv_idx (t x i) : isPv (.indexAddr t x i) = true := (rfl)
theorem isPv_index (t x i) : isPv (.index t x i) = true := (rfl)
theorem isPv_bin (op t x y u) : isPv (.binOp op t x y u) = true := (rfl)
theorem isPv_un (op t x) : isPv (.unOp op t x) = true := (rfl)
theorem isPv_extract (x i) : isPv (.extract x i) = true := (rfl)
theorem isPv_build (t ps) : isPv (.build t ps) = true := (rfl)
theorem isPv_convert (a b x) : isPv (.convert a b x) = true := (rfl)
theorem isPv_iface (t x) : isPv (.makeInterface t x) = true := (rfl)
theorem isPv_func (fn a b) : isPv (.makeFunc fn a b) = true := (rfl)
theorem isPv_slice (t x lo hi c) : isPv (.slice t x lo hi c) = true := (rfl)
theorem isPv_fieldV (t x i) : isPv (.field t x i) = true := (rfl)
theorem isPv_load (t x) : isPv (.load t x) = true := (rfl)
theorem isPv_len (a t) : isPv (.call ⟨.builtin .len, a, t⟩) = true := (rfl)
theorem isPv_cap (a t) : isPv (.call ⟨.builtin .cap, a, t⟩) = true := (rfl)
theorem isPv_append (a t) : isPv (.call ⟨.builtin .append, a, t⟩) = false := (rfl)
theorem isPv_call (f a t) : isPv (.call ⟨.value f, a, t⟩) = false := (rfl)
theorem isPv_box (t x) : isPv (.box t x) = false := (rfl)
theorem isPv_alloc (t) : isPv (.alloc t) = false := (rfl)
theorem isPv_row (t n ps) : isPv (.buildSlice t n ps) = false := (rfl)
theorem isPv_store (t x y) : isPv (.store t x y) = false := (rfl)
theorem isPv_panic (x) : isPv (.panic x) = false := (rfl)
theorem isPv_defer (c) : isPv (.defer c) = false := (rfl)
theorem ite_some {α : Type} (c : Prop) [Decidable c] (a b : α) : (if c then some a else some b) = some (if c then a else b) := by split <;> rfl
theorem ite_bool (c : Prop) [Decidable c] (a b : Bool) : (if c then Value.bool a else Value.bool b) = Value.bool (if c then a else b) := by split <;> rfl
theorem updo_get (d v t) : updo e (some d) v t = if t = d then v else e t := (rfl)
theorem xOpt_rVal (o : Option Value) : (xOpt o fun v => Run P F (.ops all r :: s) (updo e dd v) ds h ⟨⟩) = rVal P F o dd (.ops all r :: s) e ds h ⟨⟩ := by
  unfold xOpt rVal; cases o <;> rfl
theorem Run_move (x) : Run P F (.ops all (⟨dd, .move x, ty, pos, af, none⟩ :: r) :: s) e ds h ⟨⟩ = rVal P F (some (ev e x)) dd (.ops all r :: s) e ds h ⟨⟩ := (rfl)
theorem Run_assign (x) : Run P F (.ops all (⟨dd, .assign x, ty, pos, af, none⟩ :: r) :: s) e ds h ⟨⟩ = rVal P F (some (ev e x)) dd (.ops all r :: s) e ds h ⟨⟩ := (rfl)
theorem Run_pick (c a b) : Run P F (.ops all (⟨dd, .pick c a b, ty, pos, af, none⟩ :: r) :: s) e ds h ⟨⟩ = rVal P F (vPick (ev e c) (ev e a) (ev e b)) dd (.ops all r :: s) e ds h ⟨⟩ := xOpt_rVal _
theorem Run_nilCheck (x) : Run P F (.ops all (⟨dd, .nilCheck x, ty, pos, af, none⟩ :: r) :: s) e ds h ⟨⟩ = rVal P F (vNil (ev e x)) dd (.ops all r :: s) e ds h ⟨⟩ := xOpt_rVal _
theorem Run_field (t x i) : Run P F (.ops all (⟨dd, .fieldAddr t x i, ty, pos, af, none⟩ :: r) :: s) e ds h ⟨⟩ = rVal P F (vField (fOff P t i) (ev e x)) dd (.ops all r :: s) e ds h ⟨⟩ := xOpt_rVal _
theorem Run_idx (t x i) : Run P F (.ops all (⟨dd, .indexAddr t x i, ty, pos, af, none⟩ :: r) :: s) e ds h ⟨⟩ = rVal P F (vIdx (elSize P t) (ev e x) (ev e i)) dd (.ops all r :: s) e ds h ⟨⟩ := xOpt_rVal _
theorem Run_index (t x i) : Run P F (.ops all (⟨dd, .index t x i, ty, pos, af, none⟩ :: r) :: s) e ds h ⟨⟩ = rVal P F (vAt (isStrT P t) (ev e x) (ev e i)) dd (.ops all r :: s) e ds h ⟨⟩ := xOpt_rVal _
theorem Run_not (t x) : Run P F (.ops all (⟨dd, .unOp .not t x, ty, pos, af, none⟩ :: r) :: s) e ds h ⟨⟩ = rVal P F (vNot (ev e x)) dd (.ops all r :: s) e ds h ⟨⟩ := xOpt_rVal _
theorem Run_neg (t x) : Run P F (.ops all (⟨dd, .unOp .neg t x, ty, pos, af, none⟩ :: r) :: s) e ds h ⟨⟩ = rVal P F (vNeg (ev e x)) dd (.ops all r :: s) e ds h ⟨⟩ := xOpt_rVal _
theorem Run_extract (x i) : Run P F (.ops all (⟨dd, .extract x i, ty, pos, af, none⟩ :: r) :: s) e ds h ⟨⟩ = rVal P F (vExt (ev e x) i) dd (.ops all r :: s) e ds h ⟨⟩ := xOpt_rVal _
def evParts (e : Env) : List (Nat × Operand) → List (Nat × List Value)
  | [] => []
  | (i, x) :: r => (i, (ev e x).cells.toList) :: evParts e r
theorem evParts_eq (e : Env) (l : List (Nat × Operand)) : (l.map fun x => (x.1, (ev e x.2).cells.toList)) = evParts e l := by
  induction l with
  | nil => rfl
  | cons p l ih => obtain ⟨i, x⟩ := p; simp [evParts, ih]
theorem Run_build (t ps) : Run P F (.ops all (⟨dd, .build t ⟨ps⟩, ty, pos, af, none⟩ :: r) :: s) e ds h ⟨⟩ = rVal P F (vBuild (bt P t) (evParts e ps)) dd (.ops all r :: s) e ds h ⟨⟩ := by
  rw [← evParts_eq]; exact xOpt_rVal _
def rConv (P : Program) (F : Fi) (k : Nat) (o : Option Value) (x : Value) (dd : Option Nat) (s : List Item) (e : Env) (ds : List Deferred) (h : Sh) (_k : Tok (F, s, e, ds, h)) : Prop := match k with
  | 1 => (match x with
    | .string t => ∀ b c junk, h.M b = none → apart1 b h.L → Run P F s (updo e dd (.slice (some ⟨b, 0, none⟩) t.size c)) ds { h with M := h.M.add b (t.data.toList.map (fun b => Value.int .u8 b.toNat) ++ junk) } ⟨⟩
    | _ => False)
  | 2 => (match x, h.L with
    | .slice (some ⟨b, 0, none⟩) _ _, (b', cs) :: L => b = b' ∧ (apart1 b L → Run P F s (updo e dd x) ds { h with M := h.M.add b cs, L := L } ⟨⟩)
    | _, _ => False)
  | _ => rVal P F o dd s e ds h ⟨⟩
theorem Run_convert (a b x) : Run P F (.ops all (⟨dd, .convert a b x, ty, pos, af, none⟩ :: r) :: s) e ds h ⟨⟩ = rConv P F (cvK P a b) (vConvP P h a b (ev e x)) (ev e x) dd (.ops all r :: s) e ds h ⟨⟩ := by
  show xConv P a b (ev e x) h (fun v h' => Run P F (.ops all r :: s) (updo e dd v) ds h' ⟨⟩) = _
  unfold xConv rConv
  generalize cvK P a b = k
  rcases k with _ | _ | _ | k
  · exact xOpt_rVal _
  · rfl
  · rfl
  · exact xOpt_rVal _
theorem rConv_0 (o x) : rConv P F 0 o x dd s e ds h ⟨⟩ = rVal P F o dd s e ds h ⟨⟩ := (rfl)
theorem rConv_1 (o t N M L R) : rConv P F 1 o (.string t) dd s e ds ⟨N, M, L, R⟩ ⟨⟩ = ∀ b c junk, M b = none → apart1 b L → Run P F s (updo e dd (.slice (some ⟨b, 0, none⟩) t.size c)) ds ⟨N, M.add b (t.data.toList.map (fun b => Value.int .u8 b.toNat) ++ junk), L, R⟩ ⟨⟩ := (rfl)
theorem rConv_2 (o b n c cs N M L R) : rConv P F 2 o (.slice (some ⟨b, 0, none⟩) n c) dd s e ds ⟨N, M, (b, cs) :: L, R⟩ ⟨⟩ = (apart1 b L → Run P F s (updo e dd (.slice (some ⟨b, 0, none⟩) n c)) ds ⟨N, M.add b cs, L, R⟩ ⟨⟩) := by
  simp [rConv]
def rRange (P : Program) (F : Fi) (k : Bool) (t : TypeId) (x : Value) (dd : Option Nat) (s : List Item) (e : Env) (ds : List Deferred) (h : Sh) (_k : Tok (F, s, e, ds, h)) : Prop := k = true ∧ (match x with
  | .string u => ∀ g, Run P F s (updo e dd (.pointer (some ⟨g, 0, none⟩))) ds { h with R := (.pointer (some ⟨g, 0, none⟩), t, 0, [.string u, .int .i64 ((0 : Nat) : Int)]) :: h.R } ⟨⟩
  | _ => False)
theorem Run_range (t x) : Run P F (.ops all (⟨dd, .range t x, ty, pos, af, none⟩ :: r) :: s) e ds h ⟨⟩ = rRange P F (isStrT P t) t (ev e x) dd (.ops all r :: s) e ds h ⟨⟩ := (rfl)
theorem rRange_str (t u N M L R) : rRange P F true t (.string u) dd s e ds ⟨N, M, L, R⟩ ⟨⟩ = ∀ g, Run P F s (updo e dd (.pointer (some ⟨g, 0, none⟩))) ds ⟨N, M, L, (.pointer (some ⟨g, 0, none⟩), t, 0, [.string u, .int .i64 ((0 : Nat) : Int)]) :: R⟩ ⟨⟩ := by
  simp [rRange]
def rNext (P : Program) (F : Fi) (it : Value) (dd : Option Nat) (s : List Item) (e : Env) (ds : List Deferred) (h : Sh) (_k : Tok (F, s, e, ds, h)) : Prop := xNext it h fun v h' => Run P F s (updo e dd v) ds h' ⟨⟩
theorem Run_next (it) : Run P F (.ops all (⟨dd, .next it true, ty, pos, af, none⟩ :: r) :: s) e ds h ⟨⟩ = rNext P F (ev e it) dd (.ops all r :: s) e ds h ⟨⟩ := (rfl)
theorem rNext_it (g t u N M L R) (pos : Nat) : rNext P F (.pointer (some ⟨g, 0, none⟩)) dd s e ds ⟨N, M, L, (.pointer (some ⟨g, 0, none⟩), t, 0, [.string u, .int .i64 (pos : Int)]) :: R⟩ ⟨⟩ =
    if pos < u.size then Run P F s (updo e dd (.tuple #[.bool true, .int .i64 (pos : Int), .int .i32 ((Utf8.decode u pos).1 : Nat)])) ds ⟨N, M, L, (.pointer (some ⟨g, 0, none⟩), t, 0, [.string u, .int .i64 ((pos + (Utf8.decode u pos).2 : Nat) : Int)]) :: R⟩ ⟨⟩
    else Run P F s (updo e dd (.tuple #[.bool false])) ds ⟨N, M, L, (.pointer (some ⟨g, 0, none⟩), t, 0, [.string u, .int .i64 (pos : Int)]) :: R⟩ ⟨⟩ := by
  simp only [rNext, xNext, Int.toNat_natCast, true_and, and_self]
theorem isPv_range (t x) : isPv (.range t x) = false := (rfl)
theorem isPv_next (x b) : isPv (.next x b) = false := (rfl)
theorem Run_iface (t x) : Run P F (.ops all (⟨dd, .makeInterface t x, ty, pos, af, none⟩ :: r) :: s) e ds h ⟨⟩ = rVal P F (vIface (P.concrete t) t (ev e x)) dd (.ops all r :: s) e ds h ⟨⟩ := xOpt_rVal _
theorem Run_func (fn a b) : Run P F (.ops all (⟨dd, .makeFunc fn a b, ty, pos, af, none⟩ :: r) :: s) e ds h ⟨⟩ = rVal P F (some (.func fn (a.map (ev e)) (b.map (ev e)))) dd (.ops all r :: s) e ds h ⟨⟩ := (rfl)
def vCut (P : Program) (t : TypeId) (x : Value) (lo hi : Option Value) : Option Value := if isStrT P t = true then vCutS true x lo hi else vCutL (elSize P t) x lo hi
theorem Run_slice (t x lo hi) : Run P F (.ops all (⟨dd, .slice t x lo hi none, ty, pos, af, none⟩ :: r) :: s) e ds h ⟨⟩ = rVal P F (vCut P t (ev e x) (lo.map (ev e)) (hi.map (ev e))) dd (.ops all r :: s) e ds h ⟨⟩ := xOpt_rVal _
theorem Run_fieldV (t x i) : Run P F (.ops all (⟨dd, .field t x i, ty, pos, af, none⟩ :: r) :: s) e ds h ⟨⟩ = rVal P F (vFd (fdP P t i) (ev e x)) dd (.ops all r :: s) e ds h ⟨⟩ := xOpt_rVal _
theorem Run_load (t x) : Run P F (.ops all (⟨dd, .load t x, ty, pos, af, none⟩ :: r) :: s) e ds h ⟨⟩ = rVal P F (vLoad h (tk P t) (ev e x)) dd (.ops all r :: s) e ds h ⟨⟩ := xOpt_rVal _
theorem Run_len (x t) : Run P F (.ops all (⟨dd, .call ⟨.builtin .len, ⟨[x]⟩, ⟨[t]⟩⟩, ty, pos, af, none⟩ :: r) :: s) e ds h ⟨⟩ = rVal P F (vLen (isStrT P t) (isSlT P t) (ev e x)) dd (.ops all r :: s) e ds h ⟨⟩ := xOpt_rVal _
theorem Run_cap (x t) : Run P F (.ops all (⟨dd, .call ⟨.builtin .cap, ⟨[x]⟩, ⟨[t]⟩⟩, ty, pos, af, none⟩ :: r) :: s) e ds h ⟨⟩ = rVal P F (vCap (isSlT P t) (ev e x)) dd (.ops all r :: s) e ds h ⟨⟩ := xOpt_rVal _
theorem pv_move (x) : pv P e h (.move x) = some (ev e x) := (rfl)
theorem pv_assign (x) : pv P e h (.assign x) = some (ev e x) := (rfl)
theorem pv_pick (c a b) : pv P e h (.pick c a b) = vPick (ev e c) (ev e a) (ev e b) := (rfl)
theorem pv_nilCheck (x) : pv P e h (.nilCheck x) = vNil (ev e x) := (rfl)
theorem pv_field (t x i) : pv P e h (.fieldAddr t x i) = vField (fOff P t i) (ev e x) := (rfl)
theorem pv_idx (t x i) : pv P e h (.indexAddr t x i) = vIdx (elSize P t) (ev e x) (ev e i) := (rfl)
theorem pv_index (t x i) : pv P e h (.index t x i) = vAt (isStrT P t) (ev e x) (ev e i) := (rfl)
theorem pv_bin (op t x y u) : pv P e h (.binOp op t x y u) = vBinP P op t (ev e x) (ev e y) := (rfl)
theorem pv_not (t x) : pv P e h (.unOp .not t x) = vNot (ev e x) := (rfl)
theorem pv_neg (t x) : pv P e h (.unOp .neg t x) = vNeg (ev e x) := (rfl)
theorem pv_extract (x i) : pv P e h (.extract x i) = vExt (ev e x) i := (rfl)
theorem pv_build (t ps) : pv P e h (.build t ⟨ps⟩) = vBuild (bt P t) (evParts e ps) := by rw [← evParts_eq]; rfl
theorem pv_convert (a b x) : pv P e h (.convert a b x) = vConvP P h a b (ev e x) := (rfl)
theorem pv_iface (t x) : pv P e h (.makeInterface t x) = vIface (P.concrete t) t (ev e x) := (rfl)
theorem pv_func (fn a b) : pv P e h (.makeFunc fn a b) = some (.func fn (a.map (ev e)) (b.map (ev e))) := (rfl)
theorem pv_slice (t x lo hi) : pv P e h (.slice t x lo hi none) = vCut P t (ev e x) (lo.map (ev e)) (hi.map (ev e)) := (rfl)
theorem pv_fieldV (t x i) : pv P e h (.field t x i) = vFd (fdP P t i) (ev e x) := (rfl)
theorem vFd_one (o n cs) : vFd (some (false, o, n)) (.agg ⟨cs⟩) = cs[o]? := by simp [vFd]
theorem vFd_agg (o n cs) : vFd (some (true, o, n)) (.agg ⟨cs⟩) = some (.agg ⟨(cs.drop o).take n⟩) := by
  simp only [vFd, Option.some.injEq, Value.agg.injEq]
  apply Array.toList_inj.1
  simp [List.extract_eq_drop_take]
theorem pv_load (t x) : pv P e h (.load t x) = vLoad h (tk P t) (ev e x) := (rfl)
theorem pv_len (x t) : pv P e h (.call ⟨.builtin .len, ⟨[x]⟩, ⟨[t]⟩⟩) = vLen (isStrT P t) (isSlT P t) (ev e x) := (rfl)
theorem pv_cap (x t) : pv P e h (.call ⟨.builtin .cap, ⟨[x]⟩, ⟨[t]⟩⟩) = vCap (isSlT P t) (ev e x) := (rfl)
theorem vCap_sl (a n c) : vCap true (.slice a n c) = some (.int .i64 (c : Nat)) := (rfl)
def rBin (P : Program) (F : Fi) (o : Option Value) (op : BinOp) (t : TypeId) (x y : Operand) (dd : Option Nat) (s : List Item) (e : Env) (ds : List Deferred) (h : Sh) (_k : Tok (F, op, t, x, y, s, e, ds, h)) : Prop :=
  match o with
  | some v => Run P F s (updo e dd v) ds h ⟨⟩
  | none => xAny P (do eqGuard op t x y (ev e x) (ev e y); binOp op t (ev e x) (ev e y)) h fun v => Run P F s (updo e dd v) ds h ⟨⟩
theorem Run_bin (op t x y u) : Run P F (.ops all (⟨dd, .binOp op t x y u, ty, pos, af, none⟩ :: r) :: s) e ds h ⟨⟩ = rBin P F (vBinP P op t (ev e x) (ev e y)) op t x y dd (.ops all r :: s) e ds h ⟨⟩ := by
  simp only [Run, kont, vOpsL, pureG_none, Bool.false_eq_true, if_false, want, if_true, vOpL]
  unfold rBin
  cases vBinP P op t (ev e x) (ev e y) <;> rfl
theorem rBin_some (v op t x y) : rBin P F (some v) op t x y dd s e ds h ⟨⟩ = Run P F s (updo e dd v) ds h ⟨⟩ := (rfl)
def rNew (P : Program) (F : Fi) (t : TypeId) (cs : List Value) (dd : Option Nat) (s : List Item) (e : Env) (ds : List Deferred) (h : Sh) (_k : Tok (F, s, e, ds, h)) : Prop :=
  xNewT t cs h fun b h' => Run P F s (updo e dd (.pointer (some ⟨b, 0, none⟩))) ds h' ⟨⟩
def rNewS (P : Program) (F : Fi) (o : Option (List Value)) (n : Nat) (dd : Option Nat) (s : List Item) (e : Env) (ds : List Deferred) (h : Sh) (_k : Tok (F, s, e, ds, h)) : Prop :=
  match o with
  | some cs => xNewL cs h fun b h' => Run P F s (updo e dd (.slice (some ⟨b, 0, none⟩) n n)) ds h' ⟨⟩
  | none => False
theorem rNew_eq (t) (cs : List Value) (N M L R) : rNew P F t cs dd s e ds ⟨N, M, L, R⟩ ⟨⟩ = ∀ b T, M b = none → apart1 b L → ExtT N T → T b = some t → Run P F s (updo e dd (.pointer (some ⟨b, 0, none⟩))) ds ⟨T, M, (b, cs) :: L, R⟩ ⟨⟩ := (rfl)
theorem rNewS_eq (cs : List Value) (n N M L R) : rNewS P F (some cs) n dd s e ds ⟨N, M, L, R⟩ ⟨⟩ = ∀ b, M b = none → apart1 b L → Run P F s (updo e dd (.slice (some ⟨b, 0, none⟩) n n)) ds ⟨N, M, (b, cs) :: L, R⟩ ⟨⟩ := (rfl)
theorem Run_box (t x) : Run P F (.ops all (⟨dd, .box t x, ty, pos, af, none⟩ :: r) :: s) e ds h ⟨⟩ = rNew P F t (ev e x).cells.toList dd (.ops all r :: s) e ds h ⟨⟩ := (rfl)
def rAlloc (P : Program) (F : Fi) (t : TypeId) (o : Option (Bool × Nat × Value)) (dd : Option Nat) (s : List Item) (e : Env) (ds : List Deferred) (h : Sh) (_k : Tok (F, s, e, ds, h)) : Prop :=
  match o with
  | some (_, _, z) => rNew P F t z.cells.toList dd s e ds h ⟨⟩
  | none => False
theorem Run_alloc (t) : Run P F (.ops all (⟨dd, .alloc t, ty, pos, af, none⟩ :: r) :: s) e ds h ⟨⟩ = rAlloc P F t (tk P t) dd (.ops all r :: s) e ds h ⟨⟩ := by
  show xOpt (tk P t) _ = _
  unfold xOpt rAlloc
  cases tk P t <;> rfl
theorem rAlloc_some (t g n z) : rAlloc P F t (some (g, n, z)) dd s e ds h ⟨⟩ = rNew P F t z.cells.toList dd s e ds h ⟨⟩ := (rfl)
def rRow (P : Program) (F : Fi) (o : Option (TypeId × Nat × List Value)) (n : Nat) (ps : List (Nat × List Value)) (dd : Option Nat) (s : List Item) (e : Env) (ds : List Deferred) (h : Sh) (_k : Tok (F, s, e, ds, h)) : Prop :=
  match o with
  | some (_, sz, z) => n * sz ≤ 16777216 ∧ rNewS P F (vRow sz z n ps) n dd s e ds h ⟨⟩
  | none => False
theorem Run_row (t n ps) : Run P F (.ops all (⟨dd, .buildSlice t n ⟨ps⟩, ty, pos, af, none⟩ :: r) :: s) e ds h ⟨⟩ = rRow P F (rowT P t) n (evParts e ps) dd (.ops all r :: s) e ds h ⟨⟩ := by
  rw [← evParts_eq]
  show xOpt (rowT P t) _ = _
  unfold xOpt rRow
  cases rowT P t with
  | none => rfl
  | some p =>
    obtain ⟨el, sz, z⟩ := p
    simp only [rNewS]
    show (_ ∧ xOpt _ _) = _
    unfold xOpt
    cases vRow sz z n (ps.map fun x => (x.1, (ev e x.2).cells.toList)) <;> rfl
theorem rRow_some (el sz z n ps) : rRow P F (some (el, sz, z)) n ps dd s e ds h ⟨⟩ = (n * sz ≤ 16777216 ∧ rNewS P F (vRow sz z n ps) n dd s e ds h ⟨⟩) := (rfl)
def okParts (sz : Nat) : Nat → List (Nat × List Value) → Bool
  | _, [] => true
  | i, (j, cs) :: r => j == i && cs.length == sz && okParts sz (i + 1) r
def flatP : List (Nat × List Value) → List Value
  | [] => []
  | (_, cs) :: r => cs ++ flatP r
theorem setL_append (vs : List Value) : ∀ (pre z post : List Value), z.length = vs.length → setL (pre ++ z ++ post) pre.length vs = pre ++ vs ++ post := by
  induction vs with
  | nil => intro pre z post hz; cases z <;> simp_all [setL]
  | cons v vs ih =>
    intro pre z post hz
    cases z with
    | nil => simp at hz
    | cons y z =>
      simp only [setL]
      have h1 : (pre ++ (y :: z) ++ post).set pre.length v = (pre ++ [v]) ++ z ++ post := by simp
      rw [h1]
      have := ih (pre ++ [v]) z post (by simpa using hz)
      rw [show (pre ++ [v]).length = pre.length + 1 from by simp] at this
      rw [this]; simp
theorem vRow_full_aux {sz n : Nat} {z : List Value} (hz : z.length = sz) : ∀ (ps : List (Nat × List Value)) (i : Nat) (pre : List Value), okParts sz i ps = true → i + ps.length = n → pre.length = i * sz →
    fillL ((List.range n).map fun i => (i * sz, sz)) (pre ++ (List.range (n - i)).flatMap fun _ => z) ps = some (pre ++ flatP ps) := by
  intro ps
  induction ps with
  | nil => intro i pre hok hn hp; simp at hn; subst hn; simp [fillL, flatP]
  | cons p ps ih =>
    obtain ⟨j, cs⟩ := p
    intro i pre hok hn hp
    simp only [okParts, Bool.and_eq_true, beq_iff_eq] at hok
    obtain ⟨⟨rfl, hcs⟩, hok⟩ := hok
    simp only [List.length_cons] at hn
    have hlt : j < n := by omega
    simp only [fillL, List.getElem?_map, List.getElem?_range hlt, Option.map_some]
    have hsplit : (List.range (n - j)).flatMap (fun _ => z) = z ++ (List.range (n - (j + 1))).flatMap (fun _ => z) := by
      rw [show n - j = (n - (j + 1)) + 1 from by omega, List.range_succ_eq_map, List.flatMap_cons, List.flatMap_map]
    rw [hsplit, if_pos]
    · rw [← hp]
      have := setL_append cs pre z ((List.range (n - (j + 1))).flatMap fun _ => z) (by rw [hz, hcs])
      rw [← List.append_assoc, this]
      have := ih (j + 1) (pre ++ cs) hok (by omega) (by rw [List.length_append, hp, hcs, Nat.add_mul]; omega)
      rw [this]; simp [flatP]
    · refine ⟨hcs, ?_⟩
      simp only [List.length_append]
      omega
theorem vRow_full {sz n : Nat} {z : List Value} {ps : List (Nat × List Value)} (h1 : okParts sz 0 ps = true) (h2 : ps.length = n) (hz : z.length = sz) : vRow sz z n ps = some (flatP ps) := by
  have := vRow_full_aux (n := n) hz ps 0 [] h1 (by omega) (by simp)
  simpa [vRow] using this
def rPut (P : Program) (F : Fi) (o : Option (List (Nat × List Value))) (dd : Option Nat) (s : List Item) (e : Env) (ds : List Deferred) (h : Sh) (_k : Tok (F, s, e, ds, h)) : Prop :=
  match o with
  | some L => Run P F s (updo e dd undef) ds ⟨h.N, h.M, L, h.R⟩ ⟨⟩
  | none => False
theorem rPut_some (L N M L0 R) : rPut P F (some L) dd s e ds ⟨N, M, L0, R⟩ ⟨⟩ = Run P F s (updo e dd undef) ds ⟨N, M, L, R⟩ ⟨⟩ := (rfl)
def rStore (P : Program) (F : Fi) (o : Option (Bool × Nat × Value)) (x : Value) (vs : List Value) (dd : Option Nat) (s : List Item) (e : Env) (ds : List Deferred) (h : Sh) (_k : Tok (F, s, e, ds, h)) : Prop :=
  match o, x with
  | some (_, n, _), .pointer (some ⟨b, i, none⟩) => (vs.length = n ∧ vs.all (·.oneCell') = true) ∧ rPut P F (lput h.L b i vs) dd s e ds h ⟨⟩
  | _, _ => False
theorem Run_store (t x y) : Run P F (.ops all (⟨dd, .store t x y, ty, pos, af, none⟩ :: r) :: s) e ds h ⟨⟩ = rStore P F (tk P t) (ev e x) (ev e y).cells.toList dd (.ops all r :: s) e ds h ⟨⟩ := by
  show xOpt (tk P t) _ = _
  unfold xOpt xPtr rStore
  cases tk P t with
  | none => rfl
  | some p =>
    obtain ⟨g, n, z⟩ := p
    simp only []
    generalize ev e x = v
    cases v <;> try rfl
    rename_i a
    cases a with
    | none => rfl
    | some a =>
      obtain ⟨b, i, sp⟩ := a
      cases sp with
      | some q => simp
      | none =>
        simp only [true_and]
        unfold rPut
        cases lput h.L b i (ev e y).cells.toList <;> rfl
theorem rStore_some (g n z b i vs) (N M L R) : rStore P F (some (g, n, z)) (.pointer (some ⟨b, i, none⟩)) vs dd s e ds ⟨N, M, L, R⟩ ⟨⟩ = ((vs.length = n ∧ vs.all (·.oneCell') = true) ∧ rPut P F (lput L b i vs) dd s e ds ⟨N, M, L, R⟩ ⟨⟩) := (rfl)
theorem lput_cons (b cs l k i vs) : lput ((b, cs) :: l) k i vs = if k = b then (if i + vs.length ≤ cs.length then some ((b, setL cs i vs) :: l) else none) else (lput l k i vs).map ((b, cs) :: ·) := (rfl)
def rCall (P : Program) (F : Fi) (f : FuncId) (args : List Value) (dd : Option Nat) (s : List Item) (e : Env) (ds : List Deferred) (h : Sh) (_k : Tok (F, s, e, ds, h)) : Prop :=
  xCallL P f args h (fun v h' => Run P F s (updo e dd v) ds h' ⟨⟩) (fun ch h' => F.pan ch e ds h')
def rFn (P : Program) (F : Fi) (v : Value) (args : List Value) (dd : Option Nat) (s : List Item) (e : Env) (ds : List Deferred) (h : Sh) (_k : Tok (F, s, e, ds, h)) : Prop :=
  match v with
  | .func (.func f) first cap => rCall P F f (first.toList ++ args ++ cap.toList) dd s e ds h ⟨⟩
  | _ => False
theorem Run_call (f args tys) : Run P F (.ops all (⟨dd, .call ⟨.value f, ⟨args⟩, tys⟩, ty, pos, af, none⟩ :: r) :: s) e ds h ⟨⟩ = rFn P F (ev e f) (args.map (ev e)) dd (.ops all r :: s) e ds h ⟨⟩ := by
  simp only [Run, kont, vOpsL, pureG_none, Bool.false_eq_true, if_false, want, if_true, vOpL, xFn, rFn, rCall, kont_pan]
  generalize ev e f = v
  cases v <;> try rfl
theorem rFn_func (f a c args) : rFn P F (.func (.func f) ⟨a⟩ ⟨c⟩) args dd s e ds h ⟨⟩ = rCall P F f (a ++ args ++ c) dd s e ds h ⟨⟩ := (rfl)
def rApp (P : Program) (F : Fi) (t tx : TypeId) (x y : Value) (dd : Option Nat) (s : List Item) (e : Env) (ds : List Deferred) (h : Sh) (_k : Tok (F, s, e, ds, h)) : Prop :=
  xAppend P t tx x y h fun v h' => Run P F s (updo e dd v) ds h' ⟨⟩
theorem Run_append (x y t tx) : Run P F (.ops all (⟨dd, .call ⟨.builtin .append, ⟨[x, y]⟩, ⟨[t, tx]⟩⟩, ty, pos, af, none⟩ :: r) :: s) e ds h ⟨⟩ = rApp P F t tx (ev e x) (ev e y) dd (.ops all r :: s) e ds h ⟨⟩ := (rfl)
theorem Run_makeMap (t) {N M L R} : Run P F (.ops all (⟨dd, .makeMap t none, ty, pos, af, none⟩ :: r) :: s) e ds ⟨N, M, L, R⟩ ⟨⟩ = ∀ g, Run P F (.ops all r :: s) (updo e dd (.map (some g))) ds ⟨N, M, L, (.map (some g), t, 0, []) :: R⟩ ⟨⟩ := (rfl)
def rIns (P : Program) (F : Fi) (K : Option IntKind) (m k x : Value) (dd : Option Nat) (s : List Item) (e : Env) (ds : List Deferred) (h : Sh) (_k : Tok (F, s, e, ds, h)) : Prop :=
  xIns K m k x h fun h' => Run P F s (updo e dd undef) ds h' ⟨⟩
theorem Run_insert (t m k x) : Run P F (.ops all (⟨dd, .insert t m k x, ty, pos, af, none⟩ :: r) :: s) e ds h ⟨⟩ = rIns P F (mapT P t) (ev e m) (ev e k) (ev e x) dd (.ops all r :: s) e ds h ⟨⟩ := (rfl)
theorem rIns_some (K g n x t' xs) {N M L R} : rIns P F (some K) (.map (some g)) (.int K n) x dd s e ds ⟨N, M, L, (.map (some g), t', 0, xs) :: R⟩ ⟨⟩ = (absentK K n xs = true ∧ Run P F s (updo e dd undef) ds ⟨N, M, L, (.map (some g), t', 0, xs ++ [.int K n, x]) :: R⟩ ⟨⟩) := by
  simp only [rIns, xIns, true_and]
def rLook (P : Program) (F : Fi) (K : Option IntKind) (m k : Value) (dd : Option Nat) (s : List Item) (e : Env) (ds : List Deferred) (h : Sh) (_k : Tok (F, s, e, ds, h)) : Prop :=
  xLook K m k h fun v => Run P F s (updo e dd v) ds h ⟨⟩
theorem Run_lookup (t m k) : Run P F (.ops all (⟨dd, .lookup t m k false, ty, pos, af, none⟩ :: r) :: s) e ds h ⟨⟩ = rLook P F (mapT P t) (ev e m) (ev e k) dd (.ops all r :: s) e ds h ⟨⟩ := (rfl)
theorem rLook_some (K g n t' xs) {N M L R} : rLook P F (some K) (.map (some g)) (.int K n) dd s e ds ⟨N, M, L, (.map (some g), t', 0, xs) :: R⟩ ⟨⟩ = rVal P F (mgetK K n xs) dd s e ds ⟨N, M, L, (.map (some g), t', 0, xs) :: R⟩ ⟨⟩ := by
  simp only [rLook, xLook, true_and, and_self]
  cases mgetK K n xs <;> rfl
theorem Run_min (x y tys) : Run P F (.ops all (⟨dd, .call ⟨.builtin .min, ⟨[x, y]⟩, tys⟩, ty, pos, af, none⟩ :: r) :: s) e ds h ⟨⟩ = rVal P F (vMin (ev e x) (ev e y)) dd (.ops all r :: s) e ds h ⟨⟩ := by
  show xOpt (vMin (ev e x) (ev e y)) _ = _
  unfold rVal
  cases vMin (ev e x) (ev e y) <;> rfl
theorem vMin_int (k a b) : vMin (.int k a) (.int k b) = some (.int k (if b < a then b else a)) := by simp [vMin]
theorem isPv_min (a t) : isPv (.call ⟨.builtin .min, a, t⟩) = false := (rfl)
theorem absentK_nil (K n) : absentK K n [] = true := (rfl)
theorem absentK_cons (K n a v r) : absentK K n (.int K a :: v :: r) = (!decide (a = n) && absentK K n r) := by simp [absentK]
theorem mgetK_cons (K n a v r) : mgetK K n (.int K a :: v :: r) = if a = n then some v else mgetK K n r := by simp [mgetK]
theorem isPv_makeMap (t r) : isPv (.makeMap t r) = false := (rfl)
theorem isPv_insert (t m k x) : isPv (.insert t m k x) = false := (rfl)
theorem isPv_lookup (t m k c) : isPv (.lookup t m k c) = false := (rfl)
def rDefer (P : Program) (F : Fi) (v : Value) (args : Array Value) (dd : Option Nat) (s : List Item) (e : Env) (ds : List Deferred) (h : Sh) (_k : Tok (F, s, e, ds, h)) : Prop :=
  match v with
  | .func fn first captured => Run P F s (updo e dd undef) ({ target := .fn fn captured, args := first ++ args } :: ds) h ⟨⟩
  | _ => False
theorem Run_defer (f args tys) : Run P F (.ops all (⟨dd, .defer ⟨.value f, args, tys⟩, ty, pos, af, none⟩ :: r) :: s) e ds h ⟨⟩ = rDefer P F (ev e f) (args.map (ev e)) dd (.ops all r :: s) e ds h ⟨⟩ := by
  simp only [Run, kont, vOpsL, pureG_none, Bool.false_eq_true, if_false, want, if_true, vOpL, rDefer]
  generalize ev e f = v
  cases v <;> rfl
theorem rDefer_func (fn a c args) : rDefer P F (.func fn a c) args dd s e ds h ⟨⟩ = Run P F s (updo e dd undef) ({ target := .fn fn c, args := a ++ args } :: ds) h ⟨⟩ := (rfl)
theorem Run_panic (x) : Run P F (.ops all (⟨dd, .panic x, ty, pos, af, none⟩ :: r) :: s) e ds h ⟨⟩ = (vIsIf (ev e x) = true ∧ F.pan [{ v := ev e x, recovered := false }] e ds h) := by
  simp only [Run, kont, vOpsL, pureG_none, Bool.false_eq_true, if_false, want, if_true, vOpL, kont_pan]
def rLoop (P : Program) (F : Fi) (b : Code) (s : List Item) (e : Env) (ds : List Deferred) (h : Sh) (_k : Tok (F, b, s, e, ds, h)) : Prop :=
  ∃ (I : Nat → Env → List Deferred → Sh → Prop), (Close h fun h => ∃ m, I m e ds h) ∧ ∀ m e ds h, I m e ds h → Run P F (.code b :: .lp I m :: s) e ds h ⟨⟩
theorem Run_loop (b) : Run P F (.code (.loop b) :: s) e ds h ⟨⟩ = rLoop P F b s e ds h ⟨⟩ := (rfl)
theorem Run_lp (I m) : Run P F (.lp I m :: s) e ds h ⟨⟩ = Close h fun h => ∃ m', m' < m ∧ I m' e ds h := (rfl)
theorem vPick_bool (t a b) : vPick (.bool t) a b = some (if t = true then a else b) := (rfl)
theorem vNil_ptr (a) : vNil (.pointer (some a)) = some (.pointer (some a)) := (rfl)
theorem vField_ptr (k b i) : vField (some k) (.pointer (some ⟨b, i, none⟩)) = some (.pointer (some ⟨b, i + k, none⟩)) := by simp [vField, Addr.add_lit]
theorem vNot_bool (t) : vNot (.bool t) = some (.bool !t) := (rfl)
theorem vNeg_int (k n) : vNeg (.int k n) = some (.int k (k.wrap (0 - n))) := (rfl)
theorem vExt_tup (l i) : vExt (.tuple ⟨l⟩) i = l[i]? := by simp [vExt]
theorem vLen_str (sl x) : vLen true sl (.string x) = some (.int .i64 x.size) := (rfl)
theorem vLen_sl (a n c) : vLen false true (.slice a n c) = some (.int .i64 n) := (rfl)
theorem vConvP_int (P : Program) (h : Sh) (a b k n) : vConvP P h a b (.int k n) = vConv (cvT P a b) (.int k n) := (rfl)
theorem vConvP_sl (P : Program) (h : Sh) (a b x n c) : vConvP P h a b (.slice x n c) = if isB2S P a b = true then vStr h (.slice x n c) else none := (rfl)
theorem vConv_int (k j n) : vConv (some k) (.int j n) = some (.int k (k.wrap n)) := (rfl)
theorem vIface_true (t v) : vIface true t v = some (.iface t v) := (rfl)
theorem vLoad_one (n z a) : vLoad h (some (false, n, z)) (.pointer (some a)) = h.cell a := (rfl)
theorem vLoad_agg (n z a) : vLoad h (some (true, n, z)) (.pointer (some a)) = (h.cells a 0 n).map fun cs => .agg cs.toArray := (rfl)
theorem vIdx_int (sz b i n c k x) : vIdx (some sz) (.slice (some ⟨b, i, none⟩) n c) (.int k x) = if 0 ≤ x ∧ x < n then some (.pointer (some ⟨b, i + x.toNat * sz, none⟩)) else none := by simp [vIdx, Addr.add_lit]
theorem vAt_int (x k n) : vAt true (.string x) (.int k n) = if 0 ≤ n ∧ n < x.size then some (.int .u8 (byteAt x n.toNat).toNat) else none := (rfl)
theorem vBinP_int (op t k a b) : vBinP P op t (.int k a) (.int k b) = match cmpI op k a b with | some v => some v | none => vBits op k a b := by
  simp only [vBinP, vBin, vBin2, if_true]
  cases cmpI op k a b <;> rfl
theorem vBinP_shl (t k j a b) (hk : ¬ k = j) (hb : 0 ≤ b) : vBinP P .shl t (.int k a) (.int j b) = some (.int k (k.wrap (a * 2 ^ (min b.toNat k.bits)))) := by
  simp [vBinP, vBin, vBin2, hk, vShift, hb]
theorem vBinP_shr (t k j a b) (hk : ¬ k = j) (hb : 0 ≤ b) : vBinP P .shr t (.int k a) (.int j b) = some (.int k (a.fdiv (2 ^ (min b.toNat k.bits)))) := by
  simp [vBinP, vBin, vBin2, hk, vShift, hb]
theorem cmpI_add (k a b) : cmpI .add k a b = some (.int k (k.wrap (a + b))) := (rfl)
theorem cmpI_sub (k a b) : cmpI .sub k a b = some (.int k (k.wrap (a - b))) := (rfl)
theorem cmpI_mul (k a b) : cmpI .mul k a b = some (.int k (k.wrap (a * b))) := (rfl)
theorem cmpI_eql (k a b) : cmpI .eql k a b = some (.bool (decide (a = b))) := (rfl)
theorem cmpI_neq (k a b) : cmpI .neq k a b = some (.bool (!decide (a = b))) := (rfl)
theorem cmpI_lss (k a b) : cmpI .lss k a b = some (.bool (decide (a < b))) := (rfl)
theorem cmpI_leq (k a b) : cmpI .leq k a b = some (.bool (decide (a ≤ b))) := (rfl)
theorem cmpI_gtr (k a b) : cmpI .gtr k a b = some (.bool (decide (a > b))) := (rfl)
theorem cmpI_geq (k a b) : cmpI .geq k a b = some (.bool (decide (a ≥ b))) := (rfl)
theorem cmpI_quo (k a b) : cmpI .quo k a b = none := (rfl)
theorem cmpI_rem (k a b) : cmpI .rem k a b = none := (rfl)
theorem cmpI_and (k a b) : cmpI .and k a b = none := (rfl)
theorem cmpI_or (k a b) : cmpI .or k a b = none := (rfl)
theorem cmpI_xor (k a b) : cmpI .xor k a b = none := (rfl)
theorem vBinP_eqS (t a b) : vBinP P .eql t (.string a) (.string b) = some (.bool (decide (a = b))) := (rfl)
theorem vBinP_neS (t a b) : vBinP P .neq t (.string a) (.string b) = some (.bool (!decide (a = b))) := (rfl)
theorem vBinP_cat (t a b) : vBinP P .add t (.string a) (.string b) = if a.size + b.size ≤ 9223372036854775807 then some (.string (a ++ b)) else none := (rfl)
theorem vBinP_eqB (t a b) : vBinP P .eql t (.bool a) (.bool b) = if isBoolT P t = true then some (.bool (a == b)) else none := (rfl)
theorem vBinP_neB (t a b) : vBinP P .neq t (.bool a) (.bool b) = if isBoolT P t = true then some (.bool (!(a == b))) else none := (rfl)
theorem cells_agg (l) : (Value.agg ⟨l⟩).cells.toList = l := (rfl)
theorem cells_int (k n) : (Value.int k n).cells.toList = [.int k n] := (rfl)
theorem cells_str (x) : (Value.string x).cells.toList = [.string x] := (rfl)
theorem cells_bool (x) : (Value.bool x).cells.toList = [.bool x] := (rfl)
theorem cells_sl (a l c) : (Value.slice a l c).cells.toList = [.slice a l c] := (rfl)
theorem cells_ptr (a) : (Value.pointer a).cells.toList = [.pointer a] := (rfl)
theorem ev_tmp (t) : ev e (.tmp t) = e t := (rfl)
theorem ev_const (v) : ev e (.const v) = v := (rfl)
theorem ev_func (f) : ev e (.func f) = .func (.func f) #[] #[] := (rfl)
theorem ev_global (g) : ev e (.global g) = .pointer (some ⟨g, 0, none⟩) := (rfl)
theorem evParts_nil : evParts e [] = [] := (rfl)
theorem evParts_cons (i x r) : evParts e ((i, x) :: r) = (i, (ev e x).cells.toList) :: evParts e r := (rfl)
theorem updo_none (v) : updo e none v = e := (rfl)
theorem want_none (ops : List Oper) : want ops e none = true := (rfl)
def isB (v : Value) (b : Bool) : Bool := match v with | .bool c => c == b | _ => false
theorem isB_bool (c b) : isB (.bool c) b = (c == b) := (rfl)
theorem isB_undef (b) : isB undef b = false := (rfl)
theorem isB_ite (c : Prop) [Decidable c] (x y : Value) (b) : isB (if c then x else y) b = if c then isB x b else isB y b := by split <;> rfl
theorem want_some (ops : List Oper) (j b) : want ops e (some (j, b)) = match (ops[j]?).bind (·.dst) with
    | some t => isB (e t) b
    | none => false := (rfl)
end
theorem cell_eq (N M L R a) : Sh.cell ⟨N, M, L, R⟩ a = match mcell M a with | some v => some v | none => (lcell L a).getD none := (rfl)
theorem cells_zero (h : Sh) (a i) : h.cells a i 0 = some [] := (rfl)
theorem cells_succ (h : Sh) (b o i n) : h.cells ⟨b, o, none⟩ i (n + 1) = consO (h.cell ⟨b, o + i, none⟩) (h.cells ⟨b, o, none⟩ (i + 1) n) := by simp [Sh.cells, Addr.add_lit]
theorem consO_some (v l) : consO (some v) (some l) = some (v :: l) := (rfl)
theorem lcell_cons (b cs l k o) : lcell ((b, cs) :: l) ⟨k, o, none⟩ = if k = b then some cs[o]? else lcell l ⟨k, o, none⟩ := (rfl)
def Ext (M M' : Mem) : Prop := ∀ b cs, M b = some cs → M' b = some cs
theorem Ext.rfl' {M : Mem} : Ext M M := fun _ _ h => h
theorem Ext.trans {M M' M'' : Mem} (h : Ext M M') (h' : Ext M' M'') : Ext M M'' := fun b cs hb => h' b cs (h b cs hb)
theorem Ext.add {M : Mem} {b cs} (h : M b = none) : Ext M (M.add b cs) := by
  intro k x hk
  unfold Mem.add
  rw [if_neg]
  · exact hk
  · rintro rfl; rw [h] at hk; cases hk
def keys (L : List (Nat × List Value)) : List Nat := L.map (·.1)
def noneL (M : Mem) : List (Nat × List Value) → Prop
  | [] => True
  | (b, _) :: l => M b = none ∧ noneL M l
def apartL : List (Nat × List Value) → Prop
  | [] => True
  | (b, _) :: l => apart1 b l ∧ apartL l
theorem noneL_of {M : Mem} : ∀ {L : List (Nat × List Value)}, (∀ b ∈ keys L, M b = none) → noneL M L
  | [], _ => trivial
  | (b, _) :: l, h => ⟨h b (by simp [keys]), noneL_of fun k hk => h k (by simp only [keys, List.map_cons, List.mem_cons]; exact .inr hk)⟩
theorem apartL_of : ∀ {L : List (Nat × List Value)}, (keys L).Nodup → apartL L
  | [], _ => trivial
  | (b, _) :: l, h => by
    simp only [keys, List.map_cons, List.nodup_cons] at h
    exact ⟨apart1_of h.1, apartL_of h.2⟩
theorem noneL_iff {M : Mem} : ∀ {L : List (Nat × List Value)}, noneL M L → ∀ b ∈ keys L, M b = none
  | [], _, b, hb => by simp [keys] at hb
  | (k, _) :: l, h, b, hb => by
    simp only [keys, List.map_cons, List.mem_cons] at hb
    rcases hb with rfl | hb
    · exact h.1
    · exact noneL_iff h.2 b hb
abbrev LL := List (Nat × List Value)
abbrev RR := List (Value × TypeId × Nat × List Value)
def Pre (w : World) (U : List Nat) (T : Tm) (M : Mem) (L : LL) (R : RR) : Prop := ∃ bs, U = keys L ++ bs.filterMap id ∧ Hp ⟨w, M, U⟩ ⟨T, M, L, R⟩ w bs
def Post (w : World) (U : List Nat) (T : Tm) (M : Mem) (ks : List Nat) (n : Nat) (M' : Mem) (L' : LL) (R' : RR) (w' : World) : Prop :=
  Is ⟨w, M, U⟩ ⟨T, M', L', R'⟩ w' ∧ keys L' = ks ∧ R'.length = n
abbrev PostP := Value → Mem → LL → RR → Prop
abbrev PanP := List PanicEntry → Mem → LL → RR → Prop
def noPan : PanP := fun _ _ _ _ => False
def CtR (U : List Nat) (T : Tm) (M : Mem) (ks : List Nat) (n : Nat) (post : PostP) (pan : PanP) (w : World) : Ending → World → Prop
  | .returned v, w' => ∃ M' L' R', Post w U T M ks n M' L' R' w' ∧ post v M' L' R'
  | .panicked ch, w' => ∃ M' L' R', Post w U T M ks n M' L' R' w' ∧ pan ch M' L' R'
  | .outgrown, _ => False
def CtT (P : Program) (f : FuncId) (args : List Value) (T : Tm) (M : Mem) (L : LL) (R : RR) (post : PostP) (pan : PanP) : Prop :=
  bodied P f = true ∧ ∀ w U, Pre w U T M L R → Calls P f args.toArray w (CtR U T M (keys L) R.length post pan w)
def Ct (P : Program) (f : FuncId) (args : List Value) (M : Mem) (L : LL) (R : RR) (post : PostP) (pan : PanP) : Prop := ∀ T, CtT P f args T M L R post pan
def CtD (P : Program) (f : FuncId) (args : List Value) (T : Tm) (M : Mem) (L : LL) (R : RR) (post : PostP) (pan : PanP) : Prop :=
  bodied P f = true ∧ ∀ u w U, Pre w U T M L R → CallsD P f args.toArray u w fun e u' w' => u' = u ∧ CtR U T M (keys L) R.length post pan w e w'
theorem Post.ext {w U T M ks n M' L' R' w'} (h : Post w U T M ks n M' L' R' w') : Ext M M' := by
  obtain ⟨⟨_, hi⟩, _⟩ := h
  exact fun b cs hb => hi.le b cs hb
theorem CtT.mono {P f args T M L R post pan} {post' : PostP} {pan' : PanP} (h : CtT P f args T M L R post pan) (hp : ∀ v M' L' R', Ext M M' → keys L' = keys L → R'.length = R.length → post v M' L' R' → post' v M' L' R')
    (hq : ∀ ch M' L' R', Ext M M' → keys L' = keys L → R'.length = R.length → pan ch M' L' R' → pan' ch M' L' R') : CtT P f args T M L R post' pan' := by
  refine ⟨h.1, fun w U hw => Calls.mono (h.2 w U hw) ?_⟩
  intro e w' hr
  cases e with
  | returned v => obtain ⟨M', L', R', hp1, hp2⟩ := hr; exact ⟨M', L', R', hp1, hp v M' L' R' hp1.ext hp1.2.1 hp1.2.2 hp2⟩
  | panicked ch => obtain ⟨M', L', R', hp1, hp2⟩ := hr; exact ⟨M', L', R', hp1, hq ch M' L' R' hp1.ext hp1.2.1 hp1.2.2 hp2⟩
  | outgrown => exact hr.elim
theorem split3 {α β : Type} {A B C : List α} {bs : List β} (h : (A ++ B ++ C).length = bs.length) : ∃ b1 b2 b3, bs = b1 ++ b2 ++ b3 ∧ b1.length = A.length ∧ b2.length = B.length ∧ b3.length = C.length := by
  simp only [List.length_append] at h
  refine ⟨bs.take A.length, (bs.drop A.length).take B.length, (bs.drop A.length).drop B.length, ?_, ?_, ?_, ?_⟩
  · rw [List.append_assoc, List.take_append_drop, List.take_append_drop]
  · rw [List.length_take]; omega
  · rw [List.length_take, List.length_drop]; omega
  · rw [List.length_drop, List.length_drop]; omega
theorem Hp.enter {c N M L1 Lp L2 R1 Rp R2 w b1 bp b2} (hi : Hp c ⟨N, M, L1 ++ Lp ++ L2, R1 ++ Rp ++ R2⟩ w (b1 ++ bp ++ b2)) (h1 : b1.length = R1.length) (hp : bp.length = Rp.length) :
    Hp ⟨w, M, keys Lp ++ bp.filterMap id⟩ ⟨N, M, Lp, Rp⟩ w bp := by
  have hmem : ∀ b, b ∈ keys Lp ++ bp.filterMap id → b ∈ (L1 ++ Lp ++ L2).map (·.1) ++ (b1 ++ bp ++ b2).filterMap id := by
    intro b hb
    simp only [keys, List.map_append, List.filterMap_append, List.mem_append] at hb ⊢
    rcases hb with hb | hb
    · exact .inl (.inl (.inr hb))
    · exact .inr (.inl (.inr hb))
  exact
  { typ := fun b t hu => ⟨(hi.typ b t hu).1, fun hb => (hi.typ b t hu).2 (by simp only [List.map_append, List.mem_append]; exact .inl (.inr hb))⟩
    holds := hi.holds
    blk := fun b cs hb => hi.blk b cs (by simp only [List.mem_append]; exact .inl (.inr hb))
    rows := ⟨hp.symm, fun i v e sz xs o h2 h3 => hi.rows.2 (R1.length + i) v e sz xs o
      (by
        have hlt := (List.getElem?_eq_some_iff.1 h2).1
        show (R1 ++ Rp ++ R2)[R1.length + i]? = _
        rw [List.append_assoc, List.getElem?_append_right (by omega), List.getElem?_append_left (by show _ < Rp.length; simp only at hlt; omega)]
        rw [← h2]; congr 1; omega)
      (by
        have hlt := (List.getElem?_eq_some_iff.1 h3).1
        rw [List.append_assoc, List.getElem?_append_right (by omega), List.getElem?_append_left (by omega)]
        rw [← h3]; congr 1; omega)⟩
    nodup := by
      have := hi.nodup
      simp only [List.map_append, List.filterMap_append] at this
      rw [List.nodup_append] at this ⊢
      obtain ⟨n1, n2, n3⟩ := this
      refine ⟨(List.nodup_append.1 (List.nodup_append.1 n1).1).2.1, (List.nodup_append.1 (List.nodup_append.1 n2).1).2.1, ?_⟩
      intro a ha b hb
      exact n3 a (by simp only [List.mem_append]; exact .inl (.inr ha)) b (by simp only [List.mem_append]; exact .inl (.inr hb))
    apart := fun b hb => ⟨(hi.apart b (hmem b hb)).1, .inl hb⟩
    os := rfl
    tape := rfl
    output := rfl
    size := Nat.le_refl _
    old := fun _ _ _ => rfl
    mem := fun _ _ _ => rfl
    le := fun _ _ h => h }
theorem Hp.frameN {c N M L1 Lp L2 R1 Rp R2 w b1 bp b2 M' Lp' Rp' bp' w'} (hi : Hp c ⟨N, M, L1 ++ Lp ++ L2, R1 ++ Rp ++ R2⟩ w (b1 ++ bp ++ b2)) (h1 : b1.length = R1.length) (hp : bp.length = Rp.length) (_h2 : b2.length = R2.length)
    (hc : Hp ⟨w, M, keys Lp ++ bp.filterMap id⟩ ⟨N, M', Lp', Rp'⟩ w' bp') (hk : keys Lp' = keys Lp) :
    Hp c ⟨N, M', L1 ++ Lp' ++ L2, R1 ++ Rp' ++ R2⟩ w' (b1 ++ bp' ++ b2) := by
  have hbp' : bp'.length = Rp'.length := hc.rows.1.symm
  have hk' : Lp'.map (·.1) = Lp.map (·.1) := hk
  have hnd := hi.nodup
  simp only [List.map_append, List.filterMap_append] at hnd
  have hnd1 := List.nodup_append.1 hnd
  have hL12 := List.nodup_append.1 hnd1.1
  have hL1p := List.nodup_append.1 hL12.1
  have hB12 := List.nodup_append.1 hnd1.2.1
  have hB1p := List.nodup_append.1 hB12.1
  have lt : ∀ b, b ∈ (L1 ++ Lp ++ L2).map (·.1) ++ (b1 ++ bp ++ b2).filterMap id → b < w.heap.size := fun b hb => hi.own_lt hb
  have oth : ∀ b, b < w.heap.size → b ∉ keys Lp ++ bp.filterMap id → w'.heap[b]? = w.heap[b]? := hc.old
  -- the four groups that are not lent
  have apL1 : ∀ b, b ∈ L1.map (·.1) → b ∉ keys Lp ++ bp.filterMap id := by
    intro b hb hn
    simp only [keys, List.mem_append] at hn
    rcases hn with hn | hn
    · exact hL1p.2.2 b hb b hn rfl
    · exact hnd1.2.2 b (by simp only [List.mem_append]; exact .inl (.inl hb)) b (by simp only [List.mem_append]; exact .inl (.inr hn)) rfl
  have apL2 : ∀ b, b ∈ L2.map (·.1) → b ∉ keys Lp ++ bp.filterMap id := by
    intro b hb hn
    simp only [keys, List.mem_append] at hn
    rcases hn with hn | hn
    · exact hL12.2.2 b (by simp only [List.mem_append]; exact .inr hn) b hb rfl
    · exact hnd1.2.2 b (by simp only [List.mem_append]; exact .inr hb) b (by simp only [List.mem_append]; exact .inl (.inr hn)) rfl
  have apB1 : ∀ b, b ∈ b1.filterMap id → b ∉ keys Lp ++ bp.filterMap id := by
    intro b hb hn
    simp only [keys, List.mem_append] at hn
    rcases hn with hn | hn
    · exact hnd1.2.2 b (by simp only [List.mem_append]; exact .inl (.inr hn)) b (by simp only [List.mem_append]; exact .inl (.inl hb)) rfl
    · exact hB1p.2.2 b hb b hn rfl
  have apB2 : ∀ b, b ∈ b2.filterMap id → b ∉ keys Lp ++ bp.filterMap id := by
    intro b hb hn
    simp only [keys, List.mem_append] at hn
    rcases hn with hn | hn
    · exact hnd1.2.2 b (by simp only [List.mem_append]; exact .inl (.inr hn)) b (by simp only [List.mem_append]; exact .inr hb) rfl
    · exact hB12.2.2 b (by simp only [List.mem_append]; exact .inr hn) b hb rfl
  have inL1 : ∀ b, b ∈ L1.map (·.1) → b ∈ (L1 ++ Lp ++ L2).map (·.1) ++ (b1 ++ bp ++ b2).filterMap id := fun b hb => by
    simp only [List.map_append, List.mem_append]; exact .inl (.inl (.inl hb))
  have inL2 : ∀ b, b ∈ L2.map (·.1) → b ∈ (L1 ++ Lp ++ L2).map (·.1) ++ (b1 ++ bp ++ b2).filterMap id := fun b hb => by
    simp only [List.map_append, List.mem_append]; exact .inl (.inr hb)
  have inB1 : ∀ b, b ∈ b1.filterMap id → b ∈ (L1 ++ Lp ++ L2).map (·.1) ++ (b1 ++ bp ++ b2).filterMap id := fun b hb => by
    simp only [List.filterMap_append, List.mem_append]; exact .inr (.inl (.inl hb))
  have inB2 : ∀ b, b ∈ b2.filterMap id → b ∈ (L1 ++ Lp ++ L2).map (·.1) ++ (b1 ++ bp ++ b2).filterMap id := fun b hb => by
    simp only [List.filterMap_append, List.mem_append]; exact .inr (.inr hb)
  have inU : ∀ b, b ∈ keys Lp ++ bp.filterMap id → b ∈ (L1 ++ Lp ++ L2).map (·.1) ++ (b1 ++ bp ++ b2).filterMap id := fun b hb => by
    simp only [keys, List.mem_append] at hb
    simp only [List.map_append, List.filterMap_append, List.mem_append]
    rcases hb with hb | hb
    · exact .inl (.inl (.inr hb))
    · exact .inr (.inl (.inr hb))
  -- a block of the callee's is lent, or new
  have own' : ∀ b, b ∈ keys Lp' ++ bp'.filterMap id → M' b = none ∧ (b ∈ keys Lp ++ bp.filterMap id ∨ w.heap.size ≤ b) := fun b hb => hc.apart b hb
  have keepM : ∀ b, b ∈ (L1 ++ Lp ++ L2).map (·.1) ++ (b1 ++ bp ++ b2).filterMap id → b ∉ keys Lp ++ bp.filterMap id → M' b = none := fun b hb hn =>
    (hc.mem b (lt b hb) hn).trans (hi.apart b hb).1
  have far : ∀ a, a ∈ (L1 ++ Lp ++ L2).map (·.1) ++ (b1 ++ bp ++ b2).filterMap id → a ∉ keys Lp ++ bp.filterMap id → ∀ b, b ∈ keys Lp' ++ bp'.filterMap id → a ≠ b := by
    rintro a ha hn b hb rfl
    rcases (own' a hb).2 with h | h
    · exact hn h
    · have := lt a ha; omega
  exact
  { typ := fun b t hu => by
      obtain ⟨hlt, hc0⟩ := hi.typ b t hu
      refine ⟨Nat.lt_of_lt_of_le hlt hc.size, fun hb => ?_⟩
      have hb : b ∈ (L1 ++ Lp' ++ L2).map (·.1) := hb
      have keep : b ∉ keys Lp ++ bp.filterMap id → (∃ cs f, w.heap[b]? = some (.cells cs t f)) → ∃ cs f, w'.heap[b]? = some (.cells cs t f) := by
        rintro hn ⟨cs, f, h⟩
        exact ⟨cs, f, by rw [oth b (heap_lt h) hn]; exact h⟩
      simp only [List.map_append, List.mem_append] at hb hc0
      rcases hb with (hb | hb) | hb
      · exact keep (apL1 b hb) (hc0 (.inl (.inl hb)))
      · exact (hc.typ b t hu).2 hb
      · exact keep (apL2 b hb) (hc0 (.inr hb))
    holds := hc.holds
    blk := fun b cs hb => by
      have keep : b ∉ keys Lp ++ bp.filterMap id → Blk w b cs → Blk w' b cs := by
        intro hn hb2
        have hl := hb2.lt
        obtain ⟨t, ht⟩ := hb2
        exact ⟨t, by rw [oth b hl hn]; exact ht⟩
      rcases List.mem_append.1 hb with hb | hb
      · rcases List.mem_append.1 hb with hb | hb
        · exact keep (apL1 b (List.mem_map.2 ⟨_, hb, rfl⟩)) (hi.blk b cs (by simp [hb]))
        · exact hc.blk b cs hb
      · exact keep (apL2 b (List.mem_map.2 ⟨_, hb, rfl⟩)) (hi.blk b cs (by simp [hb]))
    rows := by
      refine ⟨by simp only [List.length_append, h1, hbp', _h2], ?_⟩
      intro i v e sz xs o h3 h4
      have h3 : (R1 ++ Rp' ++ R2)[i]? = some (v, e, sz, xs) := h3
      have keep : ∀ (j : Nat), (R1 ++ Rp ++ R2)[j]? = some (v, e, sz, xs) → (b1 ++ bp ++ b2)[j]? = some o → (∀ g, o = some g → g ∉ keys Lp ++ bp.filterMap id) → Row w' v e sz xs o := by
        intro j hj1 hj2 hn
        refine (hi.rows.2 j v e sz xs o hj1 hj2).keep fun g hg => ?_
        subst hg
        exact oth g (lt g (List.mem_append.2 (.inr (List.mem_filterMap.2 ⟨some g, List.mem_of_getElem? hj2, rfl⟩)))) (hn g rfl)
      rw [List.append_assoc] at h3 h4
      by_cases hi1 : i < R1.length
      · rw [List.getElem?_append_left hi1] at h3
        rw [List.getElem?_append_left (by omega)] at h4
        refine keep i (by rw [List.append_assoc, List.getElem?_append_left hi1]; exact h3) (by rw [List.append_assoc, List.getElem?_append_left (by omega)]; exact h4) ?_
        rintro g rfl
        exact apB1 g (List.mem_filterMap.2 ⟨some g, List.mem_of_getElem? h4, rfl⟩)
      · rw [List.getElem?_append_right (by omega)] at h3 h4
        rw [h1] at h4
        by_cases hi2 : i - R1.length < Rp'.length
        · rw [List.getElem?_append_left hi2] at h3
          rw [List.getElem?_append_left (by omega)] at h4
          exact hc.rows.2 _ v e sz xs o h3 h4
        · rw [List.getElem?_append_right (by omega)] at h3 h4
          rw [hbp'] at h4
          refine keep (R1.length + (Rp.length + (i - R1.length - Rp'.length))) ?_ ?_ ?_
          · rw [List.append_assoc, List.getElem?_append_right (by omega), List.getElem?_append_right (by omega), ← h3]
            congr 1; omega
          · rw [List.append_assoc, List.getElem?_append_right (by omega), List.getElem?_append_right (by omega), ← h4]
            congr 1; omega
          · rintro g rfl
            exact apB2 g (List.mem_filterMap.2 ⟨some g, List.mem_of_getElem? h4, rfl⟩)
    nodup := by
      show ((L1 ++ Lp' ++ L2).map (·.1) ++ (b1 ++ bp' ++ b2).filterMap id).Nodup
      simp only [List.map_append, List.filterMap_append, hk']
      have hcn := List.nodup_append.1 hc.nodup
      simp only [hk'] at hcn
      rw [List.nodup_append]
      refine ⟨hnd1.1, ?_, ?_⟩
      · rw [List.nodup_append, List.nodup_append]
        refine ⟨⟨hB1p.1, hcn.2.1, ?_⟩, hB12.2.1, ?_⟩
        · intro a ha b hb
          exact far a (inB1 a ha) (apB1 a ha) b (List.mem_append.2 (.inr hb))
        · intro a ha b hb
          rcases List.mem_append.1 ha with ha | ha
          · exact hB12.2.2 a (by simp [ha]) b hb
          · exact Ne.symm (far b (inB2 b hb) (apB2 b hb) a (List.mem_append.2 (.inr ha)))
      · intro a ha b hb
        simp only [List.mem_append] at ha hb
        rcases hb with (hb | hb) | hb
        · exact hnd1.2.2 a (by simp only [List.mem_append]; exact ha) b (by simp only [List.mem_append]; exact .inl (.inl hb))
        · rcases ha with (ha | ha) | ha
          · exact far a (inL1 a ha) (apL1 a ha) b (List.mem_append.2 (.inr hb))
          · exact hcn.2.2 a ha b hb
          · exact far a (inL2 a ha) (apL2 a ha) b (List.mem_append.2 (.inr hb))
        · exact hnd1.2.2 a (by simp only [List.mem_append]; exact ha) b (by simp only [List.mem_append]; exact .inr hb)
    apart := fun b hb => by
      have hb : b ∈ (L1 ++ Lp' ++ L2).map (·.1) ++ (b1 ++ bp' ++ b2).filterMap id := hb
      simp only [List.map_append, List.filterMap_append, List.mem_append] at hb
      have lent : b ∈ keys Lp' ++ bp'.filterMap id → M' b = none ∧ (b ∈ c.U ∨ c.w0.heap.size ≤ b) := fun hb => by
        refine ⟨(own' b hb).1, ?_⟩
        rcases (own' b hb).2 with h | h
        · exact (hi.apart b (inU b h)).2
        · exact .inr (Nat.le_trans hi.size h)
      rcases hb with ((hb | hb) | hb) | ((hb | hb) | hb)
      · exact ⟨keepM b (inL1 b hb) (apL1 b hb), (hi.apart b (inL1 b hb)).2⟩
      · exact lent (List.mem_append.2 (.inl hb))
      · exact ⟨keepM b (inL2 b hb) (apL2 b hb), (hi.apart b (inL2 b hb)).2⟩
      · exact ⟨keepM b (inB1 b hb) (apB1 b hb), (hi.apart b (inB1 b hb)).2⟩
      · exact lent (List.mem_append.2 (.inr hb))
      · exact ⟨keepM b (inB2 b hb) (apB2 b hb), (hi.apart b (inB2 b hb)).2⟩
    os := hc.os.trans hi.os
    tape := hc.tape.trans hi.tape
    output := hc.output.trans hi.output
    size := Nat.le_trans hi.size hc.size
    old := fun b hb hu => by
      rw [oth b (Nat.lt_of_lt_of_le hb hi.size) ?_]
      · exact hi.old b hb hu
      · intro hn
        rcases (hi.apart b (inU b hn)).2 with h1 | h1
        · exact hu h1
        · omega
    mem := fun b hb hu => by
      refine (hc.mem b (Nat.lt_of_lt_of_le hb hi.size) ?_).trans (hi.mem b hb hu)
      intro hn
      rcases (hi.apart b (inU b hn)).2 with h1 | h1
      · exact hu h1
      · omega
    le := fun b x hx => hc.le b x (hi.le b x hx) }
theorem Hp.frame {c N M L1 Lp L2 R1 Rp R2 w b1 bp b2 M' Lp' Rp' bp' w'} (hi : Hp c ⟨N, M, L1 ++ Lp ++ L2, R1 ++ Rp ++ R2⟩ w (b1 ++ bp ++ b2)) (h1 : b1.length = R1.length) (hp : bp.length = Rp.length) (h2 : b2.length = R2.length)
    (hc : Hp ⟨w, M, keys Lp ++ bp.filterMap id⟩ ⟨N, M', Lp', Rp'⟩ w' bp') (hk : keys Lp' = keys Lp) (_hR : Rp'.length = Rp.length) :
    Hp c ⟨N, M', L1 ++ Lp' ++ L2, R1 ++ Rp' ++ R2⟩ w' (b1 ++ bp' ++ b2) := hi.frameN h1 hp h2 hc hk
def CtN (P : Program) (f : FuncId) (args : List Value) (T : Tm) (M : Mem) (L : LL) (R : RR) (n : Nat) (post : PostP) (pan : PanP) : Prop :=
  bodied P f = true ∧ ∀ w U, Pre w U T M L R → Calls P f args.toArray w (CtR U T M (keys L) n post pan w)
section
variable {P : Program} {F : Fi} {s : List Item} {e : Env} {ds : List Deferred} {dd : Option Nat} {N : Tm} {M : Mem}
theorem rCall_of {f : FuncId} {args : List Value} (L1 Lp L2 : LL) (R1 Rp R2 : RR) {post : PostP} {pan : PanP} (hc : CtT P f args N M Lp Rp post pan)
    (hn : ∀ v M' L' R', Ext M M' → keys L' = keys Lp → R'.length = Rp.length → noneL M' (L1 ++ L' ++ L2) → post v M' L' R' → Run P F s (updo e dd v) ds ⟨N, M', L1 ++ L' ++ L2, R1 ++ R' ++ R2⟩ ⟨⟩)
    (hp : ∀ ch M' L' R', Ext M M' → keys L' = keys Lp → R'.length = Rp.length → noneL M' (L1 ++ L' ++ L2) → pan ch M' L' R' → F.pan ch e ds ⟨N, M', L1 ++ L' ++ L2, R1 ++ R' ++ R2⟩) :
    rCall P F f args dd s e ds ⟨N, M, L1 ++ Lp ++ L2, R1 ++ Rp ++ R2⟩ ⟨⟩ := by
  refine ⟨hc.1, fun c w hw => ?_⟩
  obtain ⟨bs, hi⟩ := hw
  obtain ⟨b1, bp, b2, rfl, h1, hpl, h2⟩ := split3 hi.rows.1
  refine Calls.mono (hc.2 w _ ⟨bp, rfl, hi.enter h1 hpl⟩) ?_
  intro en w' hr
  have fr : ∀ {M' L' R'}, Post w (keys Lp ++ bp.filterMap id) N M (keys Lp) Rp.length M' L' R' w' → ∃ bs', Hp c ⟨N, M', L1 ++ L' ++ L2, R1 ++ R' ++ R2⟩ w' bs' := by
    intro M' L' R' hP
    obtain ⟨⟨bp', hc'⟩, hk, hR⟩ := hP
    exact ⟨_, hi.frame h1 hpl h2 hc' hk hR⟩
  cases en with
  | returned v =>
    obtain ⟨M', L', R', hP, hq⟩ := hr
    obtain ⟨bs', hfr⟩ := fr hP
    refine ⟨_, ⟨bs', hfr⟩, hn v M' L' R' hP.ext hP.2.1 hP.2.2 (noneL_of fun b hb => (hfr.apart b (List.mem_append.2 (.inl hb))).1) hq⟩
  | panicked ch =>
    obtain ⟨M', L', R', hP, hq⟩ := hr
    obtain ⟨bs', hfr⟩ := fr hP
    refine ⟨_, ⟨bs', hfr⟩, hp ch M' L' R' hP.ext hP.2.1 hP.2.2 (noneL_of fun b hb => (hfr.apart b (List.mem_append.2 (.inl hb))).1) hq⟩
  | outgrown => exact hr.elim
theorem rCall_ofN {f : FuncId} {args : List Value} {n : Nat} (L1 Lp L2 : LL) (R1 Rp R2 : RR) {post : PostP} {pan : PanP} (hc : CtN P f args N M Lp Rp n post pan)
    (hn : ∀ v M' L' R', Ext M M' → keys L' = keys Lp → R'.length = n → noneL M' (L1 ++ L' ++ L2) → post v M' L' R' → Run P F s (updo e dd v) ds ⟨N, M', L1 ++ L' ++ L2, R1 ++ R' ++ R2⟩ ⟨⟩)
    (hp : ∀ ch M' L' R', Ext M M' → keys L' = keys Lp → R'.length = n → noneL M' (L1 ++ L' ++ L2) → pan ch M' L' R' → F.pan ch e ds ⟨N, M', L1 ++ L' ++ L2, R1 ++ R' ++ R2⟩) :
    rCall P F f args dd s e ds ⟨N, M, L1 ++ Lp ++ L2, R1 ++ Rp ++ R2⟩ ⟨⟩ := by
  refine ⟨hc.1, fun c w hw => ?_⟩
  obtain ⟨bs, hi⟩ := hw
  obtain ⟨b1, bp, b2, rfl, h1, hpl, h2⟩ := split3 hi.rows.1
  refine Calls.mono (hc.2 w _ ⟨bp, rfl, hi.enter h1 hpl⟩) ?_
  intro en w' hr
  have fr : ∀ {M' L' R'}, Post w (keys Lp ++ bp.filterMap id) N M (keys Lp) n M' L' R' w' → ∃ bs', Hp c ⟨N, M', L1 ++ L' ++ L2, R1 ++ R' ++ R2⟩ w' bs' := by
    intro M' L' R' hP
    obtain ⟨⟨bp', hc'⟩, hk, _⟩ := hP
    exact ⟨_, hi.frameN h1 hpl h2 hc' hk⟩
  cases en with
  | returned v =>
    obtain ⟨M', L', R', hP, hq⟩ := hr
    obtain ⟨bs', hfr⟩ := fr hP
    refine ⟨_, ⟨bs', hfr⟩, hn v M' L' R' hP.ext hP.2.1 hP.2.2 (noneL_of fun b hb => (hfr.apart b (List.mem_append.2 (.inl hb))).1) hq⟩
  | panicked ch =>
    obtain ⟨M', L', R', hP, hq⟩ := hr
    obtain ⟨bs', hfr⟩ := fr hP
    refine ⟨_, ⟨bs', hfr⟩, hp ch M' L' R' hP.ext hP.2.1 hP.2.2 (noneL_of fun b hb => (hfr.apart b (List.mem_append.2 (.inl hb))).1) hq⟩
  | outgrown => exact hr.elim
theorem rCall_pure {f : FuncId} {args : List Value} {L : LL} {R : RR} {post : PostP} {pan : PanP} (hc : CtT P f args N M [] [] post pan)
    (hn : ∀ v M', Ext M M' → noneL M' L → post v M' [] [] → Run P F s (updo e dd v) ds ⟨N, M', L, R⟩ ⟨⟩)
    (hp : ∀ ch M', Ext M M' → noneL M' L → pan ch M' [] [] → F.pan ch e ds ⟨N, M', L, R⟩) :
    rCall P F f args dd s e ds ⟨N, M, L, R⟩ ⟨⟩ := by
  have nil : ∀ {L' : LL}, keys L' = keys [] → L' = [] := fun h => by simpa [keys] using h
  have nilR : ∀ {R' : RR}, R'.length = ([] : RR).length → R' = [] := fun h => by simpa using h
  have := rCall_of (P := P) (F := F) (s := s) (e := e) (ds := ds) (dd := dd) (N := N) [] [] L [] [] R hc
    (fun v M' L' R' he hk hR hno hq => by rw [nil hk] at hno hq ⊢; rw [nilR hR] at hq ⊢; exact hn v M' he hno hq)
    (fun ch M' L' R' he hk hR hno hq => by rw [nil hk] at hno hq ⊢; rw [nilR hR] at hq ⊢; exact hp ch M' he hno hq)
  exact this
theorem rCall_close {f : FuncId} {args : List Value} {h : Sh} {k : Sh → Prop} (hk : Close h k) (hr : ∀ h', k h' → rCall P F f args dd s e ds h' ⟨⟩) (hb : bodied P f = true) : rCall P F f args dd s e ds h ⟨⟩ := by
  refine ⟨hb, fun c w hw => ?_⟩
  obtain ⟨h', hw', hk'⟩ := hk c w hw
  exact (hr h' hk').2 c w hw'
end
def resL (P : Program) (e : Env) (h : Sh) : List ResultVar → Option (List Value)
  | [] => some []
  | .tmp t :: r => consO (some (e t)) (resL P e h r)
  | .cell a t :: r => consO (vLoad h (tk P t) (e a)) (resL P e h r)
def tupV : List Value → Value
  | [v] => v
  | vs => .tuple vs.toArray
def oneRes (a : Array Value) : ResultVar → Sem Value
  | .tmp t => pure (a.getD t undef)
  | .cell x t => do loadVar t (← asAddr (a.getD x undef))
theorem results_eq (fn : Func) (a : Array Value) : results fn a = (do
    let vs ← fn.results.mapM (oneRes a)
    pure (if h : vs.size = 1 then vs[0] else .tuple vs)) := rfl
theorem run_loadVar {P : Program} {c : Ctx} {h : Sh} {w : World} {t : TypeId} {x v : Value} (hw : Is c h w) (hv : vLoad h (tk P t) x = some v) :
    (do loadVar t (← asAddr x) : Sem Value).run P w = .ok v w := by
  obtain ⟨bs, hi⟩ := hw
  unfold vLoad at hv
  split at hv
  · rename_i n z a htk
    obtain ⟨i, d, hti, hd, hz, hg, hn⟩ := tk_parts htk
    simp only [asAddr, loadVar]
    simp [run_isAgg hd, hg, hi.cell hv]
  · rename_i n z a htk
    obtain ⟨i, d, hti, hd, hz, hg, hn⟩ := tk_parts htk
    obtain ⟨cs, hcs, rfl⟩ := Option.map_eq_some_iff.1 hv
    obtain ⟨hl, hc⟩ := cellsAt_spec _ _ _ (hi.cells _ _ _ hcs)
    have := run_loadCells_list (P := P) (w := w) a cs (fun j v hj => by simpa using hc j v hj)
    rw [hl] at this
    simp only [asAddr, loadVar]
    simp [run_isAgg hd, hg, Go.sizeOf, typeInfo, hti, hn, this]
  · cases hv
theorem oneRes_mapM {P : Program} {c : Ctx} {h : Sh} {w : World} (hw : Is c h w) {e : Env} {a : Array Value} (ha : ∀ t, a.getD t undef = e t) :
    ∀ (l : List ResultVar) (vs : List Value), resL P e h l = some vs → (l.mapM (oneRes a)).run P w = .ok vs w := by
  have cons : ∀ {o : Option Value} {p : Option (List Value)} {vs : List Value}, consO o p = some vs → ∃ v l, o = some v ∧ p = some l ∧ vs = v :: l := by
    intro o p vs h
    unfold consO at h
    split at h
    · rename_i v l; injection h with h; exact ⟨v, l, rfl, rfl, h.symm⟩
    · cases h
  intro l
  induction l with
  | nil => intro vs h; simp [resL] at h; subst h; simp
  | cons x r ih =>
    intro vs hr
    rw [List.mapM_cons]
    cases x with
    | cell x t =>
      obtain ⟨v, l, h1, h2, rfl⟩ := cons hr
      have hl := run_loadVar (P := P) hw h1
      have : (oneRes a (.cell x t)).run P w = .ok v w := by
        show (do loadVar t (← asAddr (a.getD x undef)) : Sem Value).run P w = _
        rw [ha]; exact hl
      rw [Sem.run_bind, this]
      simp only [Result.andThen_ok, Sem.run_bind, ih l h2, Sem.run_pure]
    | tmp t =>
      obtain ⟨v, l, h1, h2, rfl⟩ := cons hr
      injection h1 with h1
      subst h1
      have : (oneRes a (.tmp t)).run P w = .ok (e t) w := by simp only [oneRes, ha, Sem.run_pure]
      rw [Sem.run_bind, this]
      simp only [Result.andThen_ok, Sem.run_bind, ih l h2, Sem.run_pure]
theorem resL_run {P : Program} {fn : Func} {c : Ctx} {h : Sh} {w : World} (hw : Is c h w) {e : Env} {vs : List Value} (hr : resL P e h fn.results.toList = some vs) {a : Array Value} (ha : ∀ t, a.getD t undef = e t) :
    (results fn a).run P w = .ok (tupV vs) w := by
  have h1 := oneRes_mapM (P := P) hw ha _ _ hr
  have h2 : (fn.results.mapM (oneRes a)).run P w = .ok vs.toArray w := by
    rw [← Array.toArray_toList (xs := fn.results), List.mapM_toArray, ← bind_pure_comp, Sem.run_bind, h1]
    simp
  rw [results_eq, Sem.run_bind, h2]
  rcases vs with _ | ⟨t, _ | ⟨u, ts⟩⟩ <;> simp [tupV]
def retF (P : Program) (T : Tm) (rs : List ResultVar) (ks : List Nat) (n : Nat) (post : PostP) (e : Env) (ds : List Deferred) (h : Sh) : Prop :=
  ds = [] ∧ xOpt (resL P e h rs) fun vs => Close h fun h' => ExtT T h'.N ∧ keys h'.L = ks ∧ h'.R.length = n ∧ post (tupV vs) h'.M h'.L h'.R
def panF (T : Tm) (ks : List Nat) (n : Nat) (pan : PanP) (ch : List PanicEntry) (_ : Env) (ds : List Deferred) (h : Sh) : Prop :=
  ds = [] ∧ Close h fun h' => ExtT T h'.N ∧ keys h'.L = ks ∧ h'.R.length = n ∧ pan ch h'.M h'.L h'.R
def fi (P : Program) (T : Tm) (dr : List (Nat × Sched)) (ts : List ResultVar) (ks : List Nat) (n : Nat) (post : PostP) (pan : PanP) : Fi := ⟨dr, retF P T ts ks n post, panF T ks n pan⟩
theorem closed {T : Tm} {h' : Sh} {w0 w : World} {U : List Nat} {M : Mem} {ks : List Nat} {n : Nat} (hT : ExtT T h'.N) (hw : Is ⟨w0, M, U⟩ h' w) (hk : keys h'.L = ks) (hR : h'.R.length = n) : Post w0 U T M ks n h'.M h'.L h'.R w := by
  refine ⟨?_, hk, hR⟩
  obtain ⟨bs, hi⟩ := hw
  exact ⟨bs, hi.untype hT⟩
theorem body_post {P : Program} {fn : Func} {T : Tm} {dr ts ks k U M post pan} (hr : fn.results.toList = ts) {w0 : World} {ex : Exit} {a : Act} {w : World} {n : Nat}
    (hq : KontL.toQ ⟨w0, M, U⟩ n (fi P T dr ts ks k post pan).k ex a w) : bodyPost P fn (CtR U T M ks k post pan w0) ex a w := by
  cases ex with
  | normal =>
    obtain ⟨e, ds, h, ha, hw, hds, hcl⟩ := hq
    obtain ⟨vs, hvs, hcl⟩ := xOpt_iff hcl
    obtain ⟨h', hw', hT, hk, hR, hp⟩ := hcl _ _ hw
    subst hds hr
    exact ⟨ha.2.1, _, resL_run hw hvs ha.2.2, h'.M, h'.L, h'.R, closed hT hw' hk hR, hp⟩
  | ret =>
    obtain ⟨e, ds, h, ha, hw, hds, hcl⟩ := hq
    obtain ⟨vs, hvs, hcl⟩ := xOpt_iff hcl
    obtain ⟨h', hw', hT, hk, hR, hp⟩ := hcl _ _ hw
    subst hds hr
    exact ⟨ha.2.1, _, resL_run hw hvs ha.2.2, h'.M, h'.L, h'.R, closed hT hw' hk hR, hp⟩
  | panic ch =>
    obtain ⟨e, ds, h, ha, hw, hds, hcl⟩ := hq
    obtain ⟨h', hw', hT, hk, hR, hp⟩ := hcl _ _ hw
    subst hds
    exact ⟨ha.2.1, h'.M, h'.L, h'.R, closed hT hw' hk hR, hp⟩
  | exit id => obtain ⟨_, _, _, _, _, h⟩ := hq; exact h.elim
  | goto l => exact hq.elim
  | outgrown => exact hq.elim
theorem Pre.facts {w U T M L R} (h : Pre w U T M L R) : noneL M L ∧ apartL L ∧ Is ⟨w, M, U⟩ ⟨T, M, L, R⟩ w := by
  obtain ⟨bs, _, hi⟩ := h
  exact ⟨noneL_of fun b hb => (hi.apart b (List.mem_append.2 (.inl hb))).1, apartL_of (List.nodup_append.1 hi.nodup).1, bs, hi⟩
theorem wp_runN {P : Program} {f : FuncId} {fn : Func} {c : Code} {args : List Value} {dr ts} {T : Tm} {M L R} {k : Nat} {post pan} (hm : P.follows .mixedOrders = true)
    (hn : args.length ≤ fn.ntmps) (hc : codeOkL P fn.ntmps dr c = true) (hr : fn.results.toList = ts)
    (h : noneL M L → apartL L → Run P (fi P T dr ts (keys L) k post pan) [.code c] (env0 args) [] ⟨T, M, L, R⟩ ⟨⟩) (w : World) (U : List Nat) (hw : Pre w U T M L R) :
    c.wp P (bodyPost P fn (CtR U T M (keys L) k post pan w)) { tmps := args.toArray ++ Array.replicate (fn.ntmps - args.toArray.size) undef, defers := [] } w := by
  obtain ⟨h1, h2, h3⟩ := hw.facts
  have := vcL_sound (c₀ := ⟨w, M, U⟩) hm c (fi P T dr ts (keys L) k post pan).k (env0 args) [] ⟨T, M, L, R⟩ w _ hc (fr0 args.toArray fn.ntmps (by simpa using hn)) h3 (h h1 h2)
  exact wp_mono this fun ex a w' hq => body_post hr hq
theorem wp_run {P : Program} {f : FuncId} {fn : Func} {c : Code} {args : List Value} {dr ts} {T : Tm} {M L R post pan} (hm : P.follows .mixedOrders = true)
    (hn : args.length ≤ fn.ntmps) (hc : codeOkL P fn.ntmps dr c = true) (hr : fn.results.toList = ts)
    (h : noneL M L → apartL L → Run P (fi P T dr ts (keys L) R.length post pan) [.code c] (env0 args) [] ⟨T, M, L, R⟩ ⟨⟩) (w : World) (U : List Nat) (hw : Pre w U T M L R) :
    c.wp P (bodyPost P fn (CtR U T M (keys L) R.length post pan w)) { tmps := args.toArray ++ Array.replicate (fn.ntmps - args.toArray.size) undef, defers := [] } w := by
  obtain ⟨h1, h2, h3⟩ := hw.facts
  have := vcL_sound (c₀ := ⟨w, M, U⟩) hm c (fi P T dr ts (keys L) R.length post pan).k (env0 args) [] ⟨T, M, L, R⟩ w _ hc (fr0 args.toArray fn.ntmps (by simpa using hn)) h3 (h h1 h2)
  exact wp_mono this fun ex a w' hq => body_post hr hq
theorem ct_run {P : Program} {f : FuncId} {fn : Func} {c : Code} {args : List Value} {dr ts} {T : Tm} {M L R post pan} (hm : P.follows .mixedOrders = true) (hbd : bodied P f = true)
    (hf : P.funcs[f]? = some fn) (hb : fn.body = some c) (hn : args.length ≤ fn.ntmps) (hc : codeOkL P fn.ntmps dr c = true) (hr : fn.results.toList = ts)
    (h : noneL M L → apartL L → Run P (fi P T dr ts (keys L) R.length post pan) [.code c] (env0 args) [] ⟨T, M, L, R⟩ ⟨⟩) : CtT P f args T M L R post pan :=
  ⟨hbd, fun w U hw => calls_of_wp hf hb (wp_run (f := f) hm hn hc hr h w U hw)⟩
theorem ct_runN {P : Program} {f : FuncId} {fn : Func} {c : Code} {args : List Value} {dr ts} {T : Tm} {M L R} {k : Nat} {post pan} (hm : P.follows .mixedOrders = true) (hbd : bodied P f = true)
    (hf : P.funcs[f]? = some fn) (hb : fn.body = some c) (hn : args.length ≤ fn.ntmps) (hc : codeOkL P fn.ntmps dr c = true) (hr : fn.results.toList = ts)
    (h : noneL M L → apartL L → Run P (fi P T dr ts (keys L) k post pan) [.code c] (env0 args) [] ⟨T, M, L, R⟩ ⟨⟩) : CtN P f args T M L R k post pan :=
  ⟨hbd, fun w U hw => calls_of_wp hf hb (wp_runN (f := f) hm hn hc hr h w U hw)⟩
theorem ctd_run {P : Program} {f : FuncId} {fn : Func} {c : Code} {args : List Value} {dr ts} {T : Tm} {M L R post pan} (hm : P.follows .mixedOrders = true) (hbd : bodied P f = true)
    (hf : P.funcs[f]? = some fn) (hb : fn.body = some c) (hn : args.length ≤ fn.ntmps) (hc : codeOkL P fn.ntmps dr c = true) (hr : fn.results.toList = ts)
    (h : noneL M L → apartL L → Run P (fi P T dr ts (keys L) R.length post pan) [.code c] (env0 args) [] ⟨T, M, L, R⟩ ⟨⟩) : CtD P f args T M L R post pan :=
  ⟨hbd, fun _u w U hw => callsD_of_wp hf hb (wp_run (f := f) hm hn hc hr h w U hw)⟩
theorem Close_id {h : Sh} {k : Sh → Prop} (hk : k h) : Close h k := fun _ _ hw => ⟨h, hw, hk⟩
theorem Close_drop {N M b cs L R} {k : Sh → Prop} (hk : Close ⟨N, M, L, R⟩ k) : Close ⟨N, M, (b, cs) :: L, R⟩ k := fun c w hw => by
  obtain ⟨bs, hi⟩ := hw
  exact hk c w ⟨bs, hi.drop rfl⟩
theorem Close_freeze {N M b cs L R} {k : Sh → Prop} (hk : Ext M (M.add b cs) → (M.add b cs) b = some cs → noneL (M.add b cs) L → Close ⟨N, M.add b cs, L, R⟩ k) : Close ⟨N, M, (b, cs) :: L, R⟩ k := fun c w hw => by
  obtain ⟨bs, hi⟩ := hw
  have hf := hi.freeze (b := b) (cs := cs) (L := L) rfl
  have hno := (hi.apart b (by simp)).1
  exact hk (Ext.add hno) (by simp [Mem.add]) (noneL_of fun k hk => (hf.apart k (List.mem_append.2 (.inl hk))).1) c w ⟨bs, hf⟩
theorem Close_trans {h : Sh} {k k' : Sh → Prop} (hk : Close h k) (h2 : ∀ h', k h' → Close h' k') : Close h k' := fun c w hw => by
  obtain ⟨h', hw', hk'⟩ := hk c w hw
  exact h2 h' hk' c w hw'
theorem Hp.perm {c N M L L' R w bs} (hi : Hp c ⟨N, M, L, R⟩ w bs) (hp : L.Perm L') : Hp c ⟨N, M, L', R⟩ w bs :=
  { typ := fun b u hu => ⟨(hi.typ b u hu).1, fun hb => (hi.typ b u hu).2 ((hp.map _).mem_iff.2 hb)⟩
    holds := hi.holds
    blk := fun b cs hb => hi.blk b cs (hp.mem_iff.2 hb)
    rows := hi.rows
    nodup := by
      have h1 : (L.map (·.1) ++ bs.filterMap id).Perm (L'.map (·.1) ++ bs.filterMap id) := (hp.map _).append_right _
      exact h1.nodup_iff.1 hi.nodup
    apart := fun b hb => hi.apart b (by
      simp only [List.mem_append] at hb ⊢
      rcases hb with hb | hb
      · exact .inl ((hp.map _).mem_iff.2 hb)
      · exact .inr hb)
    os := hi.os
    tape := hi.tape
    output := hi.output
    size := hi.size
    old := hi.old
    mem := hi.mem
    le := hi.le }
theorem Close_perm {N M L L' R} {k : Sh → Prop} (hp : L.Perm L') (hk : Close ⟨N, M, L', R⟩ k) : Close ⟨N, M, L, R⟩ k := fun c w hw => by
  obtain ⟨bs, hi⟩ := hw
  exact hk c w ⟨bs, hi.perm hp⟩
theorem Hp.dropR {c N M L v e sz xs R w bs} (hi : Hp c ⟨N, M, L, (v, e, sz, xs) :: R⟩ w bs) : ∃ bs', Hp c ⟨N, M, L, R⟩ w bs' := by
  obtain ⟨hlen, hrow⟩ := hi.rows
  cases bs with
  | nil => simp at hlen
  | cons o bs =>
    refine ⟨bs, ?_⟩
    have hsub : (bs.filterMap id).Sublist ((o :: bs).filterMap id) := (List.sublist_cons_self o bs).filterMap id
    have hmem : ∀ b, b ∈ L.map (·.1) ++ bs.filterMap id → b ∈ L.map (·.1) ++ (o :: bs).filterMap id := by
      intro b hb
      simp only [List.mem_append] at hb ⊢
      rcases hb with hb | hb
      · exact .inl hb
      · exact .inr (hsub.subset hb)
    exact
    { typ := hi.typ
      holds := hi.holds
      blk := hi.blk
      rows := ⟨by simpa using hlen, fun i v e sz xs o h1 h2 => hrow (i + 1) v e sz xs o (by simpa using h1) (by simpa using h2)⟩
      nodup := hi.nodup.sublist ((List.Sublist.refl _).append hsub)
      apart := fun b hb => hi.apart b (hmem b hb)
      os := hi.os
      tape := hi.tape
      output := hi.output
      size := hi.size
      old := hi.old
      mem := hi.mem
      le := hi.le }
theorem Close_dropR {N M L r R} {k : Sh → Prop} (hk : Close ⟨N, M, L, R⟩ k) : Close ⟨N, M, L, r :: R⟩ k := fun c w hw => by
  obtain ⟨v, e, sz, xs⟩ := r
  obtain ⟨bs, hi⟩ := hw
  obtain ⟨bs', hi'⟩ := hi.dropR
  exact hk c w ⟨bs', hi'⟩
def At (M : Mem) (b o : Nat) : List Value → Prop
  | [] => True
  | v :: l => mcell M ⟨b, o, none⟩ = some v ∧ At M b (o + 1) l
def Sl (M : Mem) (v : Value) (sz : Nat) (xs : List Value) : Prop :=
  (∃ a c, v = .slice a 0 c ∧ xs = [] ∧ (a = none → c = 0)) ∨ ∃ b o n c, v = .slice (some ⟨b, o, none⟩) n c ∧ n ≤ c ∧ xs.length = n * sz ∧ At M b o xs
theorem mcell_ext {M M' : Mem} (h : Ext M M') {a v} (hc : mcell M a = some v) : mcell M' a = some v := by
  unfold mcell at hc ⊢
  split at hc
  · cases hc
  · obtain ⟨cs, hb, hv⟩ := Option.bind_eq_some_iff.1 hc
    simp [*, h _ _ hb]
theorem At.ext {M M' : Mem} (h : Ext M M') {b} : ∀ {l o}, At M b o l → At M' b o l
  | [], _, _ => trivial
  | _ :: _, _, hc => ⟨mcell_ext h hc.1, At.ext h hc.2⟩
theorem Sl.ext {M M' : Mem} (h : Ext M M') {v sz xs} (hs : Sl M v sz xs) : Sl M' v sz xs := by
  rcases hs with hs | ⟨b, o, n, c, h1, h2, h3, h4⟩
  · exact .inl hs
  · exact .inr ⟨b, o, n, c, h1, h2, h3, h4.ext h⟩
theorem At_of {M : Mem} {b : Nat} {cs : List Value} (hb : M b = some cs) : ∀ (l : List Value) (o : Nat), (∀ i v, l[i]? = some v → cs[o + i]? = some v) → At M b o l := by
  intro l
  induction l with
  | nil => intro o _; trivial
  | cons v l ih =>
    intro o h
    refine ⟨?_, ih (o + 1) fun i u hu => ?_⟩
    · have h0 := h 0 v rfl
      rw [Nat.add_zero] at h0
      simp [mcell, hb, h0]
    · have := h (i + 1) u (by simpa using hu)
      rw [← this]; congr 1; omega
theorem At_app {M : Mem} {b : Nat} : ∀ {l l' : List Value} {o : Nat}, At M b o (l ++ l') ↔ At M b o l ∧ At M b (o + l.length) l'
  | [], l', o => by simp [At]
  | v :: l, l', o => by
    simp only [List.cons_append, At, At_app (l := l), List.length_cons, and_assoc]
    rw [show o + 1 + l.length = o + (l.length + 1) from by omega]
theorem Hp.freezeR {c N M L v e sz xs R w bs} (hi : Hp c ⟨N, M, L, (v, e, sz, xs) :: R⟩ w bs) (hsz : 0 < sz) :
    ∃ M' bs', Hp c ⟨N, M', L, R⟩ w bs' ∧ Ext M M' ∧ Sl M' v sz xs := by
  obtain ⟨hlen, hrow⟩ := hi.rows
  cases bs with
  | nil => simp at hlen
  | cons o bs =>
    have hr := hrow 0 v e sz xs o rfl rfl
    rcases hr with ⟨rfl, rfl, rfl⟩ | ⟨g, n, cap, junk, rfl, hg, hn, hc, hle, rfl⟩ | ⟨h0, _⟩ | ⟨h0, _⟩
    · obtain ⟨bs', h'⟩ := hi.dropR
      exact ⟨M, bs', h', Ext.rfl', .inl ⟨none, 0, rfl, rfl, fun _ => rfl⟩⟩
    · -- the row's block is told as one of L, then frozen
      have hnd := hi.nodup
      rw [List.filterMap_cons] at hnd
      simp only [id] at hnd
      have hgM := (hi.apart g (by simp [List.filterMap_cons])).1
      have hperm : (L.map (·.1) ++ g :: bs.filterMap id).Perm (g :: (L.map (·.1) ++ bs.filterMap id)) := List.perm_middle
      have hnd2 := hperm.nodup_iff.1 hnd
      have h2 : Hp c ⟨fun _ => none, M, (g, xs ++ junk) :: L, R⟩ w bs :=
      { typ := fun b u hu => by cases hu
        holds := hi.holds
        blk := fun b cs hb => by
          rcases List.mem_cons.1 hb with hb | hb
          · injection hb with h1 h2; subst h1 h2; exact ⟨e, hg⟩
          · exact hi.blk b cs hb
        rows := ⟨by simpa using hlen, fun i v e sz xs o h1 h2 => hrow (i + 1) v e sz xs o (by simpa using h1) (by simpa using h2)⟩
        nodup := by simpa using hnd2
        apart := fun b hb => hi.apart b (by
          simp only [List.map_cons, List.cons_append, List.mem_cons, List.mem_append] at hb
          simp only [List.filterMap_cons, id, List.mem_append, List.mem_cons]
          rcases hb with hb | hb | hb
          · exact .inr (.inl hb)
          · exact .inl hb
          · exact .inr (.inr hb))
        os := hi.os
        tape := hi.tape
        output := hi.output
        size := hi.size
        old := hi.old
        mem := hi.mem
        le := hi.le }
      have h3 := h2.freeze (b := g) (cs := xs ++ junk) (L := L) rfl
      refine ⟨_, bs, h3.retyp hi.typ, Ext.add hgM, .inr ⟨g, 0, n, cap, rfl, hle, hn, ?_⟩⟩
      refine At_of (cs := xs ++ junk) (by simp [Mem.add]) xs 0 ?_
      intro i u hu
      rw [Nat.zero_add, List.getElem?_append_left (List.getElem?_eq_some_iff.1 hu).1]; exact hu
    · omega
    · omega
theorem Close_row {N M L v e sz xs R} {k : Sh → Prop} (hk : ∀ M', Ext M M' → noneL M' L → Sl M' v sz xs → Close ⟨N, M', L, R⟩ k) (hsz : 0 < sz := by decide) : Close ⟨N, M, L, (v, e, sz, xs) :: R⟩ k := fun c w hw => by
  obtain ⟨bs, hi⟩ := hw
  obtain ⟨M', bs', h', he, hs⟩ := hi.freezeR hsz
  exact hk M' he (noneL_of fun b hb => (h'.apart b (List.mem_append.2 (.inl hb))).1) hs c w ⟨bs', h'⟩
abbrev Bs := List UInt8
def bs (l : Bs) : ByteArray := ⟨l.toArray⟩
def st (l : Bs) : Value := .string (bs l)
theorem bs_size (l : Bs) : (bs l).size = l.length := by simp [bs, ByteArray.size]
theorem bs_append (a b : Bs) : bs a ++ bs b = bs (a ++ b) := by
  apply ByteArray.ext
  simp [bs, ByteArray.data_append]
theorem bs_inj {a b : Bs} : bs a = bs b ↔ a = b := by
  constructor
  · intro h
    have := congrArg (fun x => x.data.toList) h
    simpa [bs] using this
  · rintro rfl; rfl
theorem bs_of (x : ByteArray) : x = bs x.data.toList := by
  apply ByteArray.ext; simp [bs]
def RL {α : Type} (r : α → List Value → Prop) : List α → List Value → Prop
  | [], xs => xs = []
  | x :: l, xs => ∃ cs rest, xs = cs ++ rest ∧ r x cs ∧ RL r l rest
def RS {α : Type} (M : Mem) (r : α → List Value → Prop) (sz : Nat) (l : List α) (v : Value) : Prop := l.length ≤ 140737488355328 ∧ ∃ xs, Sl M v sz xs ∧ RL r l xs
section
variable {α : Type} {r : α → List Value → Prop} {sz : Nat}
theorem RL_len (hsz : ∀ x cs, r x cs → cs.length = sz) : ∀ {l xs}, RL r l xs → xs.length = l.length * sz
  | [], xs, h => by simp only [RL] at h; subst h; simp
  | x :: l, xs, h => by
    obtain ⟨cs, rest, rfl, h1, h2⟩ := h
    simp only [List.length_append, hsz x cs h1, RL_len hsz h2, List.length_cons, Nat.add_mul]
    omega
theorem RL_get (hsz : ∀ x cs, r x cs → cs.length = sz) {M : Mem} {b : Nat} : ∀ {l xs o}, RL r l xs → At M b o xs → ∀ i x, l[i]? = some x → ∃ cs, At M b (o + i * sz) cs ∧ r x cs
  | [], xs, o, h, _, i, x, hx => by simp at hx
  | y :: l, xs, o, h, ha, i, x, hx => by
    obtain ⟨cs, rest, rfl, h1, h2⟩ := h
    obtain ⟨ha1, ha2⟩ := At_app.1 ha
    cases i with
    | zero =>
      simp at hx; subst hx
      exact ⟨cs, by simpa using ha1, h1⟩
    | succ i =>
      obtain ⟨cs', h3, h4⟩ := RL_get hsz h2 ha2 i x (by simpa using hx)
      refine ⟨cs', ?_, h4⟩
      have : o + (i + 1) * sz = o + cs.length + i * sz := by rw [hsz y cs h1, Nat.add_mul]; omega
      rw [this]; exact h3
theorem RL_append : ∀ {l l' : List α} {xs xs'}, RL r l xs → RL r l' xs' → RL r (l ++ l') (xs ++ xs')
  | [], l', xs, xs', h, h' => by simp only [RL] at h; subst h; exact h'
  | x :: l, l', xs, xs', h, h' => by
    obtain ⟨cs, rest, rfl, h1, h2⟩ := h
    exact ⟨cs, rest ++ xs', by simp, h1, RL_append h2 h'⟩
theorem RL_one {x : α} {cs} (h : r x cs) : RL r [x] cs := ⟨cs, [], by simp, h, rfl⟩
theorem RL_mono {r' : α → List Value → Prop} (h : ∀ x cs, r x cs → r' x cs) : ∀ {l xs}, RL r l xs → RL r' l xs
  | [], _, hh => hh
  | _ :: _, _, ⟨cs, rest, h1, h2, h3⟩ => ⟨cs, rest, h1, h _ _ h2, RL_mono h h3⟩
theorem RS_ext {M M' : Mem} {r' : α → List Value → Prop} (he : Ext M M') (h : ∀ x cs, r x cs → r' x cs) {l v} (hs : RS M r sz l v) : RS M' r' sz l v := by
  obtain ⟨hb, xs, h1, h2⟩ := hs
  exact ⟨hb, xs, h1.ext he, RL_mono h h2⟩
theorem RS_elim (hpos : 0 < sz) (hsz : ∀ x cs, r x cs → cs.length = sz) {M : Mem} {l v} (hs : RS M r sz l v) :
    l.length ≤ 140737488355328 ∧ ∃ a c, v = .slice a l.length c ∧ l.length ≤ c ∧ (a = none → c = 0) ∧ ∀ i x, l[i]? = some x → ∃ b o cs, a = some ⟨b, o, none⟩ ∧ At M b (o + i * sz) cs ∧ r x cs := by
  obtain ⟨hb, xs, hs, hl⟩ := hs
  refine ⟨hb, ?_⟩
  have hlen := RL_len hsz hl
  rcases hs with ⟨a, c, rfl, rfl, hac⟩ | ⟨b, o, n, c, rfl, hle, hn, ha⟩
  · have h0 : l.length = 0 := by
      simp only [List.length_nil] at hlen
      rcases Nat.mul_eq_zero.1 hlen.symm with h | h
      · exact h
      · omega
    refine ⟨a, c, by rw [h0], by omega, hac, ?_⟩
    intro i x hx
    have := (List.getElem?_eq_some_iff.1 hx).1
    omega
  · have hnl : n = l.length := Nat.eq_of_mul_eq_mul_right hpos (hn.symm.trans hlen)
    subst hnl
    refine ⟨some ⟨b, o, none⟩, c, rfl, hle, (fun h => by cases h), ?_⟩
    intro i x hx
    obtain ⟨cs, h1, h2⟩ := RL_get hsz hl ha i x hx
    exact ⟨b, o, cs, rfl, h1, h2⟩
end
theorem RS_cut {α : Type} {r : α → List Value → Prop} {sz : Nat} (hpos : 0 < sz) (hsz : ∀ x cs, r x cs → cs.length = sz) {M : Mem} {l : List α} {a : Option Addr} {n c k : Nat} (h : RS M r sz l (.slice a n c)) (hk : k ≤ l.length) :
    RS M r sz (l.drop k) (.slice (cutA a c k sz) (n - k) (c - k)) := by
  obtain ⟨hb, xs, hs, hl⟩ := h
  have hlen := RL_len hsz hl
  refine ⟨by rw [List.length_drop]; omega, xs.drop (k * sz), ?_, ?_⟩
  · rcases hs with ⟨a', c', hv, rfl, hac⟩ | ⟨b, o, n', c', hv, hle, hn, ha⟩
    · injection hv with h1 h2 h3
      subst h1 h2 h3
      left
      have hk0 : k = 0 := by
        have : l.length = 0 := by
          simp only [List.length_nil] at hlen
          rcases Nat.mul_eq_zero.1 hlen.symm with h | h
          · exact h
          · omega
        omega
      subst hk0
      refine ⟨cutA a c 0 sz, c - 0, by simp, by simp, fun h => ?_⟩
      have : a = none := by
        unfold cutA at h
        split at h
        · exact h
        · simpa using h
      have := hac this
      omega
    · injection hv with h1 h2 h3
      subst h1 h2 h3
      right
      have hnl : n = l.length := Nat.eq_of_mul_eq_mul_right hpos (hn.symm.trans hlen)
      have hdrop : At M b (o + k * sz) (xs.drop (k * sz)) := by
        have h2 : xs = xs.take (k * sz) ++ xs.drop (k * sz) := (List.take_append_drop _ _).symm
        rw [h2] at ha
        have := (At_app.1 ha).2
        rw [List.length_take, Nat.min_eq_left (by rw [hn]; exact Nat.mul_le_mul_right _ (by omega))] at this
        exact this
      by_cases hck : c = k
      · refine ⟨b, o, n - k, c - k, by simp [cutA, hck], by omega, ?_, ?_⟩
        · rw [List.length_drop, hn, Nat.sub_mul]
        · have : xs.drop (k * sz) = [] := by
            apply List.drop_eq_nil_of_le
            rw [hn]; exact Nat.mul_le_mul_right _ (by omega)
          rw [this]; trivial
      · refine ⟨b, o + k * sz, n - k, c - k, by simp [cutA, hck, Addr.add_lit], by omega, ?_, hdrop⟩
        rw [List.length_drop, hn, Nat.sub_mul]
  · clear hlen hs hb
    induction l generalizing xs k with
    | nil =>
      simp only [RL] at hl; subst hl
      simp [RL]
    | cons x l ih =>
      obtain ⟨cs, rest, rfl, h1, h2⟩ := hl
      cases k with
      | zero => simpa using ⟨cs, rest, rfl, h1, h2⟩
      | succ k =>
        have hcs := hsz x cs h1
        have : (cs ++ rest).drop ((k + 1) * sz) = rest.drop (k * sz) := by
          rw [Nat.add_mul, Nat.one_mul, Nat.add_comm, ← hcs, List.drop_append]
          simp
        rw [this]
        simpa using ih (by simpa using hk) _ h2
theorem mcell_none {M : Mem} {b o : Nat} (h : M b = none) : mcell M ⟨b, o, none⟩ = none := by simp [mcell, h]
theorem mcell_some {M : Mem} {b o : Nat} {cs : List Value} (h : M b = some cs) : mcell M ⟨b, o, none⟩ = cs[o]? := by simp [mcell, h]
theorem vCut_eq {P : Program} {t : TypeId} {x : Value} {lo hi : Option Value} : vCut P t x lo hi = if isStrT P t = true then vCutS true x lo hi else vCutL (elSize P t) x lo hi := (rfl)
theorem vCutL_lo (sz a n cap k l) : vCutL (some sz) (.slice a n cap) (some (.int k l)) none = if 0 ≤ l ∧ l ≤ n ∧ n ≤ cap then some (.slice (cutA a cap l.toNat sz) (n - l.toNat) (cap - l.toNat)) else none := (rfl)
theorem vCutL_hi (sz a n cap k h) : vCutL (some sz) (.slice a n cap) none (some (.int k h)) = if 0 ≤ h ∧ h ≤ cap then some (.slice (cutA a cap 0 sz) h.toNat cap) else none := (rfl)
theorem vCutL_both (sz a n cap k l j h) : vCutL (some sz) (.slice a n cap) (some (.int k l)) (some (.int j h)) = if 0 ≤ l ∧ l ≤ h ∧ h ≤ cap then some (.slice (cutA a cap l.toNat sz) (h.toNat - l.toNat) (cap - l.toNat)) else none := (rfl)
theorem vCutS_lo (s k l) : vCutS true (.string s) (some (.int k l)) none = if 0 ≤ l ∧ l ≤ s.size then some (.string (s.extract l.toNat s.size)) else none := (rfl)
theorem vCutS_hi (s k h) : vCutS true (.string s) none (some (.int k h)) = if 0 ≤ h ∧ h ≤ s.size then some (.string (s.extract 0 h.toNat)) else none := (rfl)
theorem vCutS_both (s k l j h) : vCutS true (.string s) (some (.int k l)) (some (.int j h)) = if 0 ≤ l ∧ l ≤ h ∧ h ≤ s.size then some (.string (s.extract l.toNat h.toNat)) else none := (rfl)
theorem bs_extract (l : Bs) (a b : Nat) : (bs l).extract a b = bs ((l.drop a).take (b - a)) := by
  apply ByteArray.ext
  simp [bs, ByteArray.data_extract, List.extract_eq_take_drop]
theorem cast0 : ((0 : Nat) : Int) = 0 := (rfl)
theorem cast1 : ((1 : Nat) : Int) = 1 := (rfl)
theorem cast2 : ((2 : Nat) : Int) = 2 := (rfl)
theorem cast3 : ((3 : Nat) : Int) = 3 := (rfl)
theorem cast4 : ((4 : Nat) : Int) = 4 := (rfl)
theorem cast5 : ((5 : Nat) : Int) = 5 := (rfl)
theorem cast6 : ((6 : Nat) : Int) = 6 := (rfl)
theorem cast7 : ((7 : Nat) : Int) = 7 := (rfl)
theorem cast8 : ((8 : Nat) : Int) = 8 := (rfl)
theorem cast9 : ((9 : Nat) : Int) = 9 := (rfl)
theorem succ_ne (n : Nat) : (((n + 1 : Nat) : Int) = 0) = False := eq_false (by omega)
theorem succ_pos (n : Nat) : ((0 : Int) < ((n + 1 : Nat) : Int)) = True := eq_true (by omega)
theorem succ_ge (n : Nat) : ((1 : Int) ≤ ((n + 1 : Nat) : Int)) = True := eq_true (by omega)
theorem cast_nn (n : Nat) : ((0 : Int) ≤ (n : Int)) = True := eq_true (by omega)
structure V where
  k : Int
  n : Int
  t : Bs
def V.cs (v : V) : List Value := [.int .i64 v.k, .int .i64 v.n, st v.t]
inductive X where
  | mk (k : Int) (v : V) (tab name : Bs) (kids : List X)
namespace X
def k : X → Int | mk k _ _ _ _ => k
def v : X → V | mk _ v _ _ _ => v
def tab : X → Bs | mk _ _ t _ _ => t
def name : X → Bs | mk _ _ _ n _ => n
def kids : X → List X | mk _ _ _ _ l => l
end X
mutual
def RX (M : Mem) : X → List Value → Prop
  | .mk k v tab name kids, cs => ∃ s xs, cs = [.int .i64 k, .int .i64 v.k, .int .i64 v.n, st v.t, st tab, st name, s] ∧ kids.length ≤ 140737488355328 ∧ Sl M s 7 xs ∧ RXs M kids xs
def RXs (M : Mem) : List X → List Value → Prop
  | [], xs => xs = []
  | x :: l, xs => ∃ cs rest, xs = cs ++ rest ∧ RX M x cs ∧ RXs M l rest
end
theorem RXs_RL {M : Mem} : ∀ {l xs}, RXs M l xs ↔ RL (RX M) l xs
  | [], _ => by simp [RXs, RL]
  | x :: l, xs => by simp only [RXs, RL, RXs_RL (l := l)]
theorem RX_iff {M : Mem} {x : X} {cs} : RX M x cs ↔ ∃ s, cs = [.int .i64 x.k, .int .i64 x.v.k, .int .i64 x.v.n, st x.v.t, st x.tab, st x.name, s] ∧ RS M (RX M) 7 x.kids s := by
  obtain ⟨k, v, tab, name, kids⟩ := x
  simp only [RX, RS, X.k, X.v, X.tab, X.name, X.kids, RXs_RL]
  constructor
  · rintro ⟨s, xs, h1, h0, h2, h3⟩; exact ⟨s, h1, h0, xs, h2, h3⟩
  · rintro ⟨s, h1, h0, xs, h2, h3⟩; exact ⟨s, xs, h1, h0, h2, h3⟩
theorem RX_len {M : Mem} {x : X} {cs} (h : RX M x cs) : cs.length = 7 := by
  obtain ⟨s, rfl, _⟩ := RX_iff.1 h; rfl
mutual
theorem RX_ext {M M' : Mem} (he : Ext M M') : ∀ (x : X) (cs : List Value), RX M x cs → RX M' x cs
  | .mk _ _ _ _ kids, _, h => by
    obtain ⟨s, xs, h1, h0, h2, h3⟩ := h
    exact ⟨s, xs, h1, h0, h2.ext he, RXs_ext he kids xs h3⟩
theorem RXs_ext {M M' : Mem} (he : Ext M M') : ∀ (l : List X) (xs : List Value), RXs M l xs → RXs M' l xs
  | [], _, h => h
  | x :: l, _, h => by
    obtain ⟨cs, rest, h1, h2, h3⟩ := h
    exact ⟨cs, rest, h1, RX_ext he x cs h2, RXs_ext he l rest h3⟩
end
structure It where
  x : X
  as : Bs
def RIt (M : Mem) (i : It) (cs : List Value) : Prop := ∃ c, RX M i.x c ∧ cs = c ++ [st i.as]
structure So where
  k : Int
  name : Bs
  as : Bs
  on : X
def RSo (M : Mem) (s : So) (cs : List Value) : Prop := ∃ c, RX M s.on c ∧ cs = [.int .i64 s.k, st s.name, st s.as] ++ c
structure Se where
  distinct : Bool
  star : Bool
  items : List It
  src : List So
  hasW : Bool
  hasH : Bool
  wh : X
  hv : X
  group : List X
def RSe (M : Mem) (s : Se) (cs : List Value) : Prop := ∃ i f w h g, RS M (RIt M) 8 s.items i ∧ RS M (RSo M) 10 s.src f ∧ RX M s.wh w ∧ RX M s.hv h ∧ RS M (RX M) 7 s.group g ∧
  cs = [.bool s.distinct, .bool s.star, i, f, .bool s.hasW, .bool s.hasH] ++ (w ++ (h ++ [g]))
structure Q where
  parts : List Se
  ops : List Int
  order : List X
  limit : Int
def RI (n : Int) (cs : List Value) : Prop := cs = [.int .i64 n]
def RQ (M : Mem) (q : Q) (cs : List Value) : Prop := ∃ p o r, RS M (RSe M) 21 q.parts p ∧ RS M RI 1 q.ops o ∧ RS M (RX M) 7 q.order r ∧ cs = [p, o, r, .int .i64 q.limit]
structure Co where
  name : Bs
  ty : Int
def RCo (c : Co) (cs : List Value) : Prop := cs = [st c.name, .int .i64 c.ty]
def RV (v : V) (cs : List Value) : Prop := cs = v.cs
def RVs (M : Mem) (l : List V) (cs : List Value) : Prop := ∃ s, RS M RV 3 l s ∧ cs = [s]
structure Stm where
  k : Int
  name : Bs
  cols : List Co
  q : Q
  rows : List (List V)
  hasW : Bool
  wh : X
def RStm (M : Mem) (s : Stm) (cs : List Value) : Prop := ∃ c q r w, RS M RCo 2 s.cols c ∧ RQ M s.q q ∧ RS M (RVs M) 1 s.rows r ∧ RX M s.wh w ∧
  cs = [.int .i64 s.k, st s.name, c] ++ (q ++ ([r, .bool s.hasW] ++ w))
def flt (e at_ : Int) : Value := .agg #[.int .i64 e, .int .i64 at_]
theorem RIt_ext {M M' : Mem} (he : Ext M M') (i : It) (cs) (h : RIt M i cs) : RIt M' i cs := by
  obtain ⟨c, h1, h2⟩ := h; exact ⟨c, RX_ext he _ _ h1, h2⟩
theorem RSo_ext {M M' : Mem} (he : Ext M M') (i : So) (cs) (h : RSo M i cs) : RSo M' i cs := by
  obtain ⟨c, h1, h2⟩ := h; exact ⟨c, RX_ext he _ _ h1, h2⟩
theorem RSe_ext {M M' : Mem} (he : Ext M M') (i : Se) (cs) (h : RSe M i cs) : RSe M' i cs := by
  obtain ⟨a, f, w, hh, g, h1, h2, h3, h4, h5, h6⟩ := h
  exact ⟨a, f, w, hh, g, RS_ext he (RIt_ext he) h1, RS_ext he (RSo_ext he) h2, RX_ext he _ _ h3, RX_ext he _ _ h4, RS_ext he (RX_ext he) h5, h6⟩
theorem RQ_ext {M M' : Mem} (he : Ext M M') (i : Q) (cs) (h : RQ M i cs) : RQ M' i cs := by
  obtain ⟨a, f, w, h1, h2, h3, h4⟩ := h
  exact ⟨a, f, w, RS_ext he (RSe_ext he) h1, RS_ext he (fun _ _ h => h) h2, RS_ext he (RX_ext he) h3, h4⟩
theorem RVs_ext {M M' : Mem} (he : Ext M M') (i : List V) (cs) (h : RVs M i cs) : RVs M' i cs := by
  obtain ⟨s, h1, h2⟩ := h; exact ⟨s, RS_ext he (fun _ _ h => h) h1, h2⟩
theorem RStm_ext {M M' : Mem} (he : Ext M M') (i : Stm) (cs) (h : RStm M i cs) : RStm M' i cs := by
  obtain ⟨c, q, r, w, h1, h2, h3, h4, h5⟩ := h
  exact ⟨c, q, r, w, RS_ext he (fun _ _ h => h) h1, RQ_ext he _ _ h2, RS_ext he (RVs_ext he) h3, RX_ext he _ _ h4, h5⟩
theorem RIt_len {M : Mem} {i : It} {cs} (h : RIt M i cs) : cs.length = 8 := by
  obtain ⟨c, h1, rfl⟩ := h; simp [RX_len h1]
theorem RSo_len {M : Mem} {i : So} {cs} (h : RSo M i cs) : cs.length = 10 := by
  obtain ⟨c, h1, rfl⟩ := h; simp [RX_len h1]
theorem RSe_len {M : Mem} {i : Se} {cs} (h : RSe M i cs) : cs.length = 21 := by
  obtain ⟨a, f, w, hh, g, _, _, h3, h4, _, rfl⟩ := h; simp [RX_len h3, RX_len h4]
theorem RQ_len {M : Mem} {i : Q} {cs} (h : RQ M i cs) : cs.length = 4 := by
  obtain ⟨_, _, _, _, _, _, rfl⟩ := h; rfl
theorem RStm_len {M : Mem} {i : Stm} {cs} (h : RStm M i cs) : cs.length = 16 := by
  obtain ⟨_, _, _, _, _, h2, _, h4, rfl⟩ := h; simp [RQ_len h2, RX_len h4]
theorem vBuild_some (z pl parts) : vBuild (some (z, pl)) parts = (fillL pl z parts).map fun cs => .agg cs.toArray := (rfl)
theorem fillL_nil (pl z) : fillL pl z [] = some z := (rfl)
theorem fillL_cons (pl z i vs rest) : fillL pl z ((i, vs) :: rest) = match pl[i]? with
    | some (off, size) => if vs.length = size ∧ off + vs.length ≤ z.length then fillL pl (setL z off vs) rest else none
    | none => none := (rfl)
theorem setL_nil (z i) : setL z i [] = z := (rfl)
theorem setL_cons (z i v vs) : setL z i (v :: vs) = setL (z.set i v) (i + 1) vs := (rfl)
theorem toArr (l : List Value) : l.toArray = ⟨l⟩ := (rfl)
theorem vIsIf_iface (t v) : vIsIf (.iface t v) = true := (rfl)
theorem okParts_nil (sz i) : okParts sz i [] = true := (rfl)
theorem okParts_cons (sz i j cs r) : okParts sz i ((j, cs) :: r) = (j == i && cs.length == sz && okParts sz (i + 1) r) := (rfl)
theorem flatP_nil : flatP [] = [] := (rfl)
theorem flatP_cons (j cs r) : flatP ((j, cs) :: r) = cs ++ flatP r := (rfl)
theorem int_eq {k : IntKind} {a b : Int} (h : a = b) : Value.int k a = .int k b := by rw [h]
def endF (T : Tm) (ks : List Nat) (n : Nat) (post : PostP) (v : Value) (h : Sh) : Prop := ExtT T h.N ∧ keys h.L = ks ∧ h.R.length = n ∧ post v h.M h.L h.R
theorem resL_nil {P e h} : resL P e h [] = some [] := (rfl)
theorem resL_tmp {P e h t r} : resL P e h (.tmp t :: r) = consO (some (e t)) (resL P e h r) := (rfl)
theorem resL_cell {P e h a t r} : resL P e h (.cell a t :: r) = consO (vLoad h (tk P t) (e a)) (resL P e h r) := (rfl)
theorem tupV_one (v) : tupV [v] = v := (rfl)
theorem tupV_two (v u) : tupV [v, u] = .tuple #[v, u] := (rfl)
theorem tupV_nil : tupV [] = .tuple #[] := (rfl)
theorem fi_ret {P T dr ts ks n post pan} : (fi P T dr ts ks n post pan).ret = retF P T ts ks n post := (rfl)
theorem fi_pan {P T dr ts ks n post pan} : (fi P T dr ts ks n post pan).pan = panF T ks n pan := (rfl)
theorem fi_dr {P T dr ts ks n post pan} : (fi P T dr ts ks n post pan).dr = dr := (rfl)
theorem retF_eq {P T ts ks n post e h} : retF P T ts ks n post e [] h = xOpt (resL P e h ts) fun vs => Close h (endF T ks n post (tupV vs)) := by simp [retF]; rfl
theorem panF_eq {T ks n pan ch e h} : panF T ks n pan ch e [] h = Close h (endF T ks n (fun _ => pan ch) undef) := by simp [panF]; rfl
theorem look_nil (id) : look [] id = .no := (rfl)
theorem look_cons (j s r id) : look ((j, s) :: r) id = if j = id then s else look r id := (rfl)
theorem end_id {T N M L R ks n post v} (hT : ExtT T N) (hk : keys L = ks) (hn : R.length = n) (hp : post v M L R) : Close ⟨N, M, L, R⟩ (endF T ks n post v) := Close_id ⟨hT, hk, hn, hp⟩
theorem Close_dropAll {N M R} {k : Sh → Prop} : ∀ {L : LL}, Close ⟨N, M, [], R⟩ k → Close ⟨N, M, L, R⟩ k
  | [], h => h
  | (_, _) :: _, h => Close_drop (Close_dropAll h)
theorem Close_dropAllR {N M L} {k : Sh → Prop} : ∀ {R : RR}, Close ⟨N, M, L, []⟩ k → Close ⟨N, M, L, R⟩ k
  | [], h => h
  | _ :: _, h => Close_dropR (Close_dropAllR h)
theorem end_none {T N M L R post v} (hT : ExtT T N) (hp : post v M [] []) : Close ⟨N, M, L, R⟩ (endF T (keys []) 0 post v) := Close_dropAll (Close_dropAllR (end_id hT rfl rfl hp))
theorem ExtT.rfl' {T : Tm} : ExtT T T := fun _ _ h => h
theorem ExtT.trans {T T' T'' : Tm} (h : ExtT T T') (h' : ExtT T' T'') : ExtT T T'' := fun b t hb => h' b t (h b t hb)
def live (e : Env) : List (Nat × Value) → Prop
  | [] => True
  | (t, v) :: l => e t = v ∧ live e l
def LI (ds0 : List Deferred) (n ti : Nat) (lv : List (Nat × Value)) (J : Nat → Env → Sh → Prop) : Nat → Env → List Deferred → Sh → Prop :=
  fun m e ds h => ds = ds0 ∧ ∃ i, i ≤ n ∧ m = n - i ∧ live e lv ∧ e ti = .int .i64 (i : Nat) ∧ J i e h
section
variable {P : Program} {F : Fi} {b : Code} {s : List Item} {e : Env} {ds : List Deferred} {h : Sh}
theorem loop_rule (I : Nat → Env → List Deferred → Sh → Prop) (h0 : ∃ m, I m e ds h) (hs : ∀ m e' ds' h', I m e' ds' h' → Run P F (.code b :: .lp I m :: s) e' ds' h' ⟨⟩) : rLoop P F b s e ds h ⟨⟩ :=
  ⟨I, Close_id h0, hs⟩
theorem loop_range (n ti : Nat) (lv : List (Nat × Value)) (J : Nat → Env → Sh → Prop) (i0 : Nat) (hi : i0 ≤ n) (hl : live e lv) (ht : e ti = .int .i64 (i0 : Nat)) (hJ : J i0 e h)
    (hs : ∀ i e' h', i ≤ n → live e' lv → e' ti = .int .i64 (i : Nat) → J i e' h' → Run P F (.code b :: .lp (LI ds n ti lv J) (n - i) :: s) e' ds h' ⟨⟩) : rLoop P F b s e ds h ⟨⟩ := by
  refine loop_rule (LI ds n ti lv J) ⟨n - i0, rfl, i0, hi, rfl, hl, ht, hJ⟩ ?_
  rintro m e' ds' h' ⟨rfl, i, hi, rfl, hl, ht, hJ⟩
  exact hs i e' h' hi hl ht hJ
theorem lp_range {n ti : Nat} {lv : List (Nat × Value)} {J : Nat → Env → Sh → Prop} {i : Nat} (hi : i < n) (hl : live e lv) (ht : e ti = .int .i64 ((i + 1 : Nat) : Int)) (hJ : J (i + 1) e h) :
    Run P F (.lp (LI ds n ti lv J) (n - i) :: s) e ds h ⟨⟩ := by
  rw [Run_lp]
  exact Close_id ⟨n - (i + 1), by omega, rfl, i + 1, by omega, rfl, hl, ht, hJ⟩
theorem lp_close {I : Nat → Env → List Deferred → Sh → Prop} {m : Nat} (hc : Close h fun h => ∃ m', m' < m ∧ I m' e ds h) : Run P F (.lp I m :: s) e ds h ⟨⟩ := by
  rw [Run_lp]; exact hc
end
theorem rCall_frz {P : Program} {F : Fi} {f : FuncId} {args : List Value} {dd : Option Nat} {s : List Item} {e : Env} {ds : List Deferred} {N : Tm} {M : Mem} {b : Nat} {cs : List Value} {L : LL} {R : RR} (hb : bodied P f = true)
    (h : ∀ M', Ext M M' → M' b = some cs → noneL M' L → rCall P F f args dd s e ds ⟨N, M', L, R⟩ ⟨⟩) : rCall P F f args dd s e ds ⟨N, M, (b, cs) :: L, R⟩ ⟨⟩ :=
  rCall_close (k := fun h' => ∃ M', Ext M M' ∧ M' b = some cs ∧ noneL M' L ∧ h' = ⟨N, M', L, R⟩) (Close_freeze fun he h1 h2 => Close_id ⟨_, he, h1, h2, rfl⟩)
    (by rintro h' ⟨M', he, h1, h2, rfl⟩; exact h M' he h1 h2) hb
theorem RS_lit {α : Type} {r : α → List Value → Prop} {sz : Nat} (hsz : ∀ x cs, r x cs → cs.length = sz) {M : Mem} {b n : Nat} {cs : List Value} {l : List α} (hM : M b = some cs) (hl : RL r l cs) (hn : l.length = n) (hb : n ≤ 140737488355328) :
    RS M r sz l (.slice (some ⟨b, 0, none⟩) n n) := by
  subst hn
  exact ⟨hb, cs, .inr ⟨b, 0, l.length, l.length, rfl, Nat.le_refl _, RL_len hsz hl, At_of hM cs 0 (by simp)⟩, hl⟩
def RSt (s : Bs) (cs : List Value) : Prop := cs = [st s]
theorem RSt_len {s : Bs} {cs} (h : RSt s cs) : cs.length = 1 := by unfold RSt at h; subst h; rfl
theorem RL_strs : ∀ (l : List Bs), RL RSt l (l.map st)
  | [] => rfl
  | s :: l => ⟨[st s], l.map st, rfl, rfl, RL_strs l⟩
theorem oneC_int (k n) : (Value.int k n).oneCell' = true := rfl
theorem oneC_str (s) : (Value.string s).oneCell' = true := rfl
theorem oneC_bool (s) : (Value.bool s).oneCell' = true := rfl
theorem oneC_sl (a n c) : (Value.slice a n c).oneCell' = true := rfl
theorem oneC_ptr (a) : (Value.pointer a).oneCell' = true := rfl
theorem oneC_func (f a c) : (Value.func f a c).oneCell' = true := rfl
theorem cells_func (f a c) : (Value.func f a c).cells.toList = [.func f a c] := rfl
theorem cells_iface (t v) : (Value.iface t v).cells.toList = [.iface t v] := rfl
theorem arrMap {α β : Type} (f : α → β) (l : List α) : Array.map f ⟨l⟩ = ⟨l.map f⟩ := by simp
theorem mkBs (l : List UInt8) : ByteArray.mk ⟨l⟩ = bs l := rfl
theorem wrap64 {n : Int} (h0 : -9223372036854775808 ≤ n) (h1 : n ≤ 9223372036854775807) : IntKind.i64.wrap n = n := by
  have hb : IntKind.i64.bits = 64 := rfl
  have hs : IntKind.i64.signed = true := rfl
  simp only [IntKind.wrap, hb, hs, Bool.true_and]
  by_cases hc : n % (2 ^ 64 : Int) ≥ (2 ^ (64 - 1) : Int)
  · rw [if_pos (by simpa using hc)]
    omega
  · rw [if_neg (by simpa using hc)]
    omega
theorem wrap_succ (i : Nat) (h : i < 140737488355328) : IntKind.i64.wrap ((i : Int) + 1) = ((i + 1 : Nat) : Int) := by
  rw [wrap64 (by omega) (by omega)]; rfl
theorem wrap_neg (n : Nat) (h : n < 1000000000000000000) : IntKind.i64.wrap (0 - (n : Int)) = -(n : Int) := by
  rw [wrap64 (by omega) (by omega)]; omega
def pL (pb : Nat) (lv : Value) (en op : Int) : LL := [(pb, [lv, .int .i64 en, .int .i64 op])]
theorem lcell_pL (pb lv en op k o) : lcell (pL pb lv en op) ⟨k, o, none⟩ = if k = pb then some ([lv, .int .i64 en, .int .i64 op][o]?) else none := (rfl)
theorem lput_pL0 (pb lv en op v) : lput (pL pb lv en op) pb 0 [v] = some (pL pb v en op) := by simp [lput, pL, setL]
theorem lput_pL2 (pb lv en op n) : lput (pL pb lv en op) pb 2 [.int .i64 n] = some (pL pb lv en n) := by simp [lput, pL, setL]
theorem noneL_pL (M pb lv en op) : noneL M (pL pb lv en op) = (M pb = none) := by simp [noneL, pL]
theorem apart1_pL (b pb lv en op) : apart1 b (pL pb lv en op) = (b ≠ pb ∧ pb ≠ b) := by simp [apart1, pL]
def heldL (M : Mem) : LL → Prop
  | [] => True
  | (b, cs) :: l => M b = some cs ∧ heldL M l
theorem Close_frzAll {N R} {k : Sh → Prop} : ∀ {L : LL} {M : Mem}, (∀ M', Ext M M' → heldL M' L → Close ⟨N, M', [], R⟩ k) → Close ⟨N, M, L, R⟩ k
  | [], M, h => h M Ext.rfl' trivial
  | (b, cs) :: L, M, h => Close_freeze fun he hb _ => Close_frzAll fun M' hM' hL => h M' (he.trans hM') ⟨hM' _ _ hb, hL⟩
theorem Sub_blk {T0 : Tm} {h : Sh} {b : Nat} {cs : List Value} (hc : ∀ o v, cs[o]? = some v → h.cell ⟨b, o, none⟩ = some v) : Sub ⟨T0, fun _ => none, [(b, cs)], []⟩ h := by
  intro a v hv
  obtain ⟨k, o, sp⟩ := a
  simp only [Sh.cell, mcell, lcell] at hv
  by_cases hk : k = b
  · subst hk
    cases sp with
    | some q => simp at hv
    | none => exact hc o v (by simpa using hv)
  · cases sp <;> simp [hk] at hv
theorem mcell_nil (a : Addr) : mcell (fun _ => none) a = none := by simp [mcell]
theorem PanOk_fi {T ks n pan} (ops : List Oper) : PanOk (panF T ks n pan) ops = True := eq_true (fun _ _ _ _ _ _ _ _ _ h => h)
theorem Sub_hd {T0 T : Tm} {M : Mem} {b : Nat} {cs : List Value} {L : LL} {R : RR} (hb : M b = none) : Sub ⟨T0, fun _ => none, [(b, cs)], []⟩ ⟨T, M, (b, cs) :: L, R⟩ :=
  Sub_blk fun o v hv => by simp [Sh.cell, mcell, lcell, hb, hv]
theorem Sub_hd2 {T0 T : Tm} {M : Mem} {b b' : Nat} {cs cs' : List Value} {L : LL} {R : RR} (hb : M b = none) (hne : ¬ b = b') : Sub ⟨T0, fun _ => none, [(b, cs)], []⟩ ⟨T, M, (b', cs') :: (b, cs) :: L, R⟩ :=
  Sub_blk fun o v hv => by simp [Sh.cell, mcell, lcell, hb, hv, hne]
section
variable {P : Program} {F : Fi} {s : List Vc.Item} {e : Env} {ds : List Deferred} {dd : Option Nat} {T : Tm} {M : Mem} {L : LL} {R : RR} {t tx el : TypeId} {sz : Nat} {z news xs : List Value} {y : Value}
theorem app_nil (hrow : rowT P t = some (el, sz, z)) (hok : okT P t = true) (hs : Srcs P tx sz ⟨T, M, L, R⟩ y news) (hb : news.length ≤ 4294967296)
    (k : ∀ a m c, m * sz = news.length → Run P F s (updo e dd (.slice a m c)) ds ⟨T, M, L, (.slice a m c, el, sz, news) :: R⟩ ⟨⟩) : rApp P F t tx (.slice none 0 0) y dd s e ds ⟨T, M, L, R⟩ ⟨⟩ :=
  .inr ⟨el, sz, z, news, hrow, hok, hs, .inr (.inl ⟨rfl, hb, k⟩)⟩
theorem app_row {x : Value} (hrow : rowT P t = some (el, sz, z)) (hok : okT P t = true) (hs : Srcs P tx sz ⟨T, M, L, (x, el, sz, xs) :: R⟩ y news) (hb : xs.length + news.length ≤ 4294967296)
    (k : ∀ a m c, m * sz = xs.length + news.length → Run P F s (updo e dd (.slice a m c)) ds ⟨T, M, L, (.slice a m c, el, sz, xs ++ news) :: R⟩ ⟨⟩) : rApp P F t tx x y dd s e ds ⟨T, M, L, (x, el, sz, xs) :: R⟩ ⟨⟩ :=
  .inr ⟨el, sz, z, news, hrow, hok, hs, .inl ⟨0, xs, rfl, hb, k⟩⟩
theorem app_read {a : Addr} {n : Nat} (hrow : rowT P t = some (el, sz, z)) (hok : okT P t = true) (hs : Srcs P tx sz ⟨T, M, L, R⟩ y news) (hc : Sh.cells ⟨T, M, L, R⟩ a 0 (n * sz) = some xs) (hpos : 0 < news.length) (hb : xs.length + news.length ≤ 4294967296)
    (k : ∀ a m c, m * sz = xs.length + news.length → Run P F s (updo e dd (.slice a m c)) ds ⟨T, M, L, (.slice a m c, el, sz, xs ++ news) :: R⟩ ⟨⟩) : rApp P F t tx (.slice (some a) n n) y dd s e ds ⟨T, M, L, R⟩ ⟨⟩ :=
  .inr ⟨el, sz, z, news, hrow, hok, hs, .inr (.inr (.inl ⟨a, n, xs, rfl, hc, hpos, hb, k⟩))⟩
theorem app_nothing {b o n c : Nat} (hrow : rowT P t = some (el, sz, z)) (hok : okT P t = true) (hs : Srcs P tx sz ⟨T, M, L, R⟩ y []) (hle : n ≤ c)
    (k : Run P F s (updo e dd (.slice (some ⟨b, o, none⟩) n c)) ds ⟨T, M, L, R⟩ ⟨⟩) : rApp P F t tx (.slice (some ⟨b, o, none⟩) n c) y dd s e ds ⟨T, M, L, R⟩ ⟨⟩ :=
  .inr ⟨el, sz, z, [], hrow, hok, hs, .inr (.inr (.inr (.inl ⟨b, o, n, c, rfl, hle, rfl, k⟩)))⟩
theorem app_make {n : Nat} {ik : IntKind} (hrow : rowT P t = some (el, sz, z)) (hok : okT P t = true) (hk : P.underlying tx = some (.int ik)) (h0 : 0 < n) (hb : n ≤ 4294967296)
    (k : ∀ a c zs, zs.length = n * sz → n ≤ c → Run P F s (updo e dd (.slice a n c)) ds ⟨T, M, L, (.slice a n c, el, sz, zs) :: R⟩ ⟨⟩) : rApp P F t tx (.slice none 0 0) (.int .i64 (n : Nat)) dd s e ds ⟨T, M, L, R⟩ ⟨⟩ :=
  .inl ⟨el, sz, z, n, ik, hrow, hok, hk, rfl, rfl, h0, hb, k⟩
end
theorem Close_shrink {T : Tm} {M : Mem} {L : LL} {R : RR} {a : Option Addr} {n c : Nat} {el : TypeId} {sz : Nat} {zs : List Value} {k : Sh → Prop} (hsz : 0 < sz) (hk : Close ⟨T, M, L, (.slice a 0 c, el, sz, []) :: R⟩ k) :
    Close ⟨T, M, L, (.slice a n c, el, sz, zs) :: R⟩ k := fun cx w hw => by
  obtain ⟨bs, hi⟩ := hw
  refine hk cx w ⟨bs, { hi with rows := ?_ }⟩
  refine ⟨hi.rows.1, ?_⟩
  intro i v e' sz' xs o h1 h2
  cases i with
  | succ i => exact hi.rows.2 (i + 1) v e' sz' xs o (by simpa using h1) h2
  | zero =>
    simp only [List.getElem?_cons_zero, Option.some.injEq, Prod.mk.injEq] at h1
    obtain ⟨rfl, rfl, rfl, rfl⟩ := h1
    have hr := hi.rows.2 0 _ _ _ _ o rfl h2
    rcases hr with ⟨h0, hx, ho⟩ | ⟨g, m, cap, junk, hv, hg, hn, hc, hle, ho⟩ | ⟨h0, _⟩ | ⟨h0, _⟩
    · cases h0; exact .inl ⟨rfl, rfl, ho⟩
    · cases hv
      exact .inr (.inl ⟨g, 0, c, zs ++ junk, rfl, by simpa using hg, by simp, by simpa using hc, by omega, ho⟩)
    · omega
    · omega
theorem cells_of {h : Sh} {b : Nat} {cs : List Value} (hc : ∀ o v, cs[o]? = some v → h.cell ⟨b, o, none⟩ = some v) : ∀ (n i : Nat), i + n = cs.length → h.cells ⟨b, 0, none⟩ i n = some (cs.drop i) := by
  intro n
  induction n with
  | zero => intro i hi; rw [List.drop_eq_nil_of_le (by omega)]; rfl
  | succ n ih =>
    intro i hi
    have hlt : i < cs.length := by omega
    rw [cells_succ, ih (i + 1) (by omega), Nat.zero_add, hc i cs[i] (List.getElem?_eq_getElem hlt), List.drop_eq_getElem_cons hlt]
    rfl
theorem cells_own {T : Tm} {M : Mem} (L1 : LL) {L2 : LL} {R : RR} {b n : Nat} {cs : List Value} (hb : M b = none) (ha : apart1 b L1) (hn : n = cs.length) : Sh.cells ⟨T, M, L1 ++ (b, cs) :: L2, R⟩ ⟨b, 0, none⟩ 0 n = some cs := by
  have key : ∀ {L1 : LL} (o : Nat), apart1 b L1 → lcell (L1 ++ (b, cs) :: L2) ⟨b, o, none⟩ = some cs[o]? := by
    intro L1 o
    induction L1 with
    | nil => intro _; simp [lcell]
    | cons p l ih =>
      obtain ⟨k, ds⟩ := p
      intro h
      simp only [List.cons_append, lcell, if_neg h.1.1]
      exact ih h.2
  have := cells_of (h := ⟨T, M, L1 ++ (b, cs) :: L2, R⟩) (b := b) (cs := cs) (fun o v hv => by simp [Sh.cell, mcell, hb, key o ha, hv]) n 0 (by omega)
  simpa using this
theorem Sub_own {T0 T : Tm} {M : Mem} (L1 : LL) {L2 : LL} {R : RR} {b : Nat} {cs : List Value} (hb : M b = none) (ha : apart1 b L1) : Sub ⟨T0, fun _ => none, [(b, cs)], []⟩ ⟨T, M, L1 ++ (b, cs) :: L2, R⟩ := by
  have key : ∀ {L1 : LL} (o : Nat), apart1 b L1 → lcell (L1 ++ (b, cs) :: L2) ⟨b, o, none⟩ = some cs[o]? := by
    intro L1 o
    induction L1 with
    | nil => intro _; simp [lcell]
    | cons p l ih =>
      obtain ⟨k, ds⟩ := p
      intro h
      simp only [List.cons_append, lcell, if_neg h.1.1]
      exact ih h.2
  exact Sub_blk fun o v hv => by simp [Sh.cell, mcell, hb, key o ha, hv]
section
variable {P : Program} {F : Fi} {b : Code} {s : List Item} {e : Env} {ds : List Deferred} {h : Sh}
theorem loop_rangeC (n ti : Nat) (lv : List (Nat × Value)) (J : Nat → Env → Sh → Prop) (i0 : Nat) (hi : i0 ≤ n) (hl : live e lv) (ht : e ti = .int .i64 (i0 : Nat)) (hJ : Close h fun h => J i0 e h)
    (hs : ∀ i e' h', i ≤ n → live e' lv → e' ti = .int .i64 (i : Nat) → J i e' h' → Run P F (.code b :: .lp (LI ds n ti lv J) (n - i) :: s) e' ds h' ⟨⟩) : rLoop P F b s e ds h ⟨⟩ := by
  refine ⟨LI ds n ti lv J, Close_trans hJ fun h' hJ' => Close_id ⟨n - i0, rfl, i0, hi, rfl, hl, ht, hJ'⟩, ?_⟩
  rintro m e' ds' h' ⟨rfl, i, hi, rfl, hl, ht, hJ⟩
  exact hs i e' h' hi hl ht hJ
end
theorem Sub_memL {T0 T : Tm} {M M' : Mem} (L1 : LL) {L2 : LL} {R : RR} {b : Nat} {cs : List Value} (hM : Ext M M') (hb : M' b = none) (ha : apart1 b L1) : Sub ⟨T0, M, [(b, cs)], []⟩ ⟨T, M', L1 ++ (b, cs) :: L2, R⟩ := by
  have key : ∀ {L1 : LL} (o : Nat), apart1 b L1 → lcell (L1 ++ (b, cs) :: L2) ⟨b, o, none⟩ = some cs[o]? := by
    intro L1 o
    induction L1 with
    | nil => intro _; simp [lcell]
    | cons p l ih =>
      obtain ⟨k, ds⟩ := p
      intro h
      simp only [List.cons_append, lcell, if_neg h.1.1]
      exact ih h.2
  intro a v hv
  simp only [Sh.cell] at hv ⊢
  cases hm : mcell M a with
  | some u =>
    rw [hm] at hv
    injection hv with hv; subst hv
    rw [mcell_ext hM hm]
  | none =>
    rw [hm] at hv
    obtain ⟨k, o, sp⟩ := a
    simp only [lcell] at hv
    by_cases hk : k = b
    · subst hk
      cases sp with
      | some q => simp at hv
      | none =>
        simp only [if_true, Option.isSome_none, Bool.false_eq_true, if_false, Option.getD_some] at hv
        rw [mcell_none hb, key o ha]
        simpa using hv
    · simp [hk] at hv
def Keeps (w w' : World) : Prop := w'.os = w.os ∧ w'.tape = w.tape ∧ w'.output = w.output ∧ w.heap.size ≤ w'.heap.size ∧ ∀ b, b < w.heap.size → w'.heap[b]? = w.heap[b]?
theorem Keeps.rfl' {w : World} : Keeps w w := ⟨rfl, rfl, rfl, Nat.le_refl _, fun _ _ => rfl⟩
theorem freeze_other {w : World} {a : Addr} {n b : Nat} (h : b ≠ a.block) : (w.freeze a n).heap[b]? = w.heap[b]? := by
  unfold World.freeze
  split
  · rfl
  · show (w.heap.modify a.block _)[b]? = _
    rw [Array.getElem?_modify, if_neg (Ne.symm h)]
theorem Keeps.bytes {w : World} {e s} : Keeps w (Lib.bytesWorld w e s) := by
  have hsz : (Lib.bytesWorld w e s).heap.size = w.heap.size + 1 := by
    simp [Lib.bytesWorld, World.freeze]
  refine ⟨rfl, rfl, rfl, by omega, ?_⟩
  intro b hb
  have h1 : (w.drew.alloc (.cells (Lib.bytesCells w e s) e)).heap[b]? = w.heap[b]? := heap_alloc_old (w := w.drew) hb
  rw [← h1]
  exact freeze_other (by simp; omega)
theorem Hp.keeps {c N M L R w w' bs} (hi : Hp c ⟨N, M, L, R⟩ w bs) (hk : Keeps w w') : Hp c ⟨N, M, L, R⟩ w' bs := by
  obtain ⟨k1, k2, k3, k4, k5⟩ := hk
  exact
  { typ := fun b u hu => by
      obtain ⟨hlt, hc⟩ := hi.typ b u hu
      refine ⟨by omega, fun hb => ?_⟩
      obtain ⟨cs', f, hc⟩ := hc hb
      exact ⟨cs', f, by rw [k5 b (heap_lt hc)]; exact hc⟩
    holds := fun b x hb => by
      have := hi.holds.lt hb
      obtain ⟨t, f, ht⟩ := hi.holds _ _ hb
      exact ⟨t, f, by rw [k5 b this]; exact ht⟩
    blk := fun b x hb => by
      have h2 := hi.blk _ _ hb
      have hl := h2.lt
      obtain ⟨t, ht⟩ := h2
      exact ⟨t, by rw [k5 b hl]; exact ht⟩
    rows := ⟨hi.rows.1, fun i v e sz xs o h1 h2 => (hi.rows.2 i v e sz xs o h1 h2).keep fun g hg => by
      subst hg
      exact k5 g (hi.rows.2 i v e sz xs _ h1 h2).lt⟩
    nodup := hi.nodup
    apart := hi.apart
    os := k1.trans hi.os
    tape := k2.trans hi.tape
    output := k3.trans hi.output
    size := Nat.le_trans hi.size k4
    old := fun b hb hu => by rw [k5 b (Nat.lt_of_lt_of_le hb hi.size)]; exact hi.old b hb hu
    mem := hi.mem
    le := hi.le }
theorem ct_same {P : Program} {f : FuncId} {args : List Value} {M : Mem} {v : Value} (hb : bodied P f = true)
    (h : ∀ w, Holds M w → Calls P f args.toArray w fun e w' => e = .returned v ∧ Keeps w w') : Ct P f args M [] [] (fun r M' _ _ => r = v ∧ M' = M) noPan := by
  intro T
  refine ⟨hb, fun w U hw => ?_⟩
  obtain ⟨bs, rfl, hi⟩ := hw
  refine Calls.mono (h w hi.holds) ?_
  rintro e w' ⟨rfl, hw'⟩
  exact ⟨M, [], [], ⟨⟨bs, hi.keeps hw'⟩, rfl, rfl⟩, rfl, rfl⟩
theorem ct_alloc {P : Program} {f : FuncId} {args : List Value} {M : Mem} {cs : List Value} {t : TypeId} (F : Nat → Value) (hb : bodied P f = true)
    (h : ∀ w, Holds M w → Calls P f args.toArray w fun e w' => e = .returned (F w.heap.size) ∧ w' = w.alloc (.cells cs.toArray t)) : Ct P f args M [] [] (fun r M' _ _ => ∃ b, r = F b ∧ M' b = some cs) noPan := by
  intro T
  refine ⟨hb, fun w U hw => ?_⟩
  obtain ⟨bs, rfl, hi⟩ := hw
  refine Calls.mono (h w hi.holds) ?_
  rintro e w' ⟨rfl, rfl⟩
  have h2 := (hi.alloc (t := t) cs).untype (N' := T) hi.extT
  have h3 := h2.freeze (b := w.heap.size) (cs := cs) (L := []) rfl
  exact ⟨_, [], [], ⟨⟨bs, h3⟩, rfl, rfl⟩, w.heap.size, rfl, by simp [Mem.add]⟩
theorem rCall_one {P : Program} {F : Fi} {s : List Vc.Item} {e : Env} {ds : List Deferred} {dd : Option Nat} {N : Tm} {M : Mem} {f : FuncId} {args : List Value} {R : RR} (L1 : LL) {Lp : LL} {post : PostP} {pan : PanP} (hc : CtT P f args N M Lp [] post pan)
    (hn : ∀ v M' L', Ext M M' → keys L' = keys Lp → noneL M' (L1 ++ L') → post v M' L' [] → Run P F s (updo e dd v) ds ⟨N, M', L1 ++ L', R⟩ ⟨⟩)
    (hp : ∀ ch M' L', Ext M M' → keys L' = keys Lp → noneL M' (L1 ++ L') → pan ch M' L' [] → F.pan ch e ds ⟨N, M', L1 ++ L', R⟩) :
    rCall P F f args dd s e ds ⟨N, M, L1 ++ Lp, R⟩ ⟨⟩ := by
  have nilR : ∀ {R' : RR}, R'.length = ([] : RR).length → R' = [] := fun h => by simpa using h
  have := rCall_of (P := P) (F := F) (s := s) (e := e) (ds := ds) (dd := dd) (N := N) L1 Lp [] [] [] R hc
    (fun v M' L' R' he hk hR hno hq => by
      rw [nilR hR] at hq ⊢
      rw [List.append_nil] at hno ⊢
      exact hn v M' L' he hk hno hq)
    (fun ch M' L' R' he hk hR hno hq => by
      rw [nilR hR] at hq ⊢
      rw [List.append_nil] at hno ⊢
      exact hp ch M' L' he hk hno hq)
  rw [List.append_nil] at this
  exact this
def xDefL (P : Program) (f : FuncId) (args : List Value) (h : Sh) (k : Sh → Prop) : Prop :=
  bodied P f = true ∧ ∀ c w u, Is c h w → CallsD P f args.toArray u w fun e u' w' => u' = u ∧ ∃ v, e = .returned v ∧ ∃ h', Is c h' w' ∧ k h'
def dFn (d : Deferred) : Option (FuncId × List Value) := match d.target with
  | .fn (.func f) cap => some (f, d.args.toList ++ cap.toList)
  | _ => none
def defsL (P : Program) : List Deferred → Sh → (Sh → Prop) → Prop
  | [], h, k => k h
  | d :: ds, h, k => xOpt (dFn d) fun (f, args) => xDefL P f args h fun h' => defsL P ds h' k
def calm (ch : List PanicEntry) : Bool := match ch with | { recovered := true, .. } :: _ => false | _ => true
def retD (P : Program) (T : Tm) (rs : List ResultVar) (ks : List Nat) (n : Nat) (post : PostP) (e : Env) (ds : List Deferred) (h : Sh) : Prop :=
  defsL P ds h fun h => xOpt (resL P e h rs) fun vs => Close h (endF T ks n post (tupV vs))
def panD (P : Program) (T : Tm) (ks : List Nat) (n : Nat) (pan : PanP) (ch : List PanicEntry) (_ : Env) (ds : List Deferred) (h : Sh) : Prop :=
  calm ch = true ∧ defsL P ds h fun h => Close h (endF T ks n (fun _ => pan ch) undef)
def fiD (P : Program) (T : Tm) (dr : List (Nat × Sched)) (ts : List ResultVar) (ks : List Nat) (n : Nat) (post : PostP) (pan : PanP) : Fi := ⟨dr, retD P T ts ks n post, panD P T ks n pan⟩
theorem settle_pan {ch : List PanicEntry} (h : calm ch = true) : settle (.panicking ch) = .panicking ch := by
  unfold calm at h
  unfold settle
  split
  · rename_i hh
    injection hh with hh
    subst hh
    simp at h
  · rfl
theorem xDefL_of {P : Program} {f : FuncId} {args : List Value} {N : Tm} {M : Mem} {R : RR} (L1 : LL) {Lp : LL} {post : PostP} (hc : CtD P f args N M Lp [] post noPan) {k : Sh → Prop}
    (hn : ∀ v M' L', Ext M M' → keys L' = keys Lp → noneL M' (L1 ++ L') → post v M' L' [] → k ⟨N, M', L1 ++ L', R⟩) : xDefL P f args ⟨N, M, L1 ++ Lp, R⟩ k := by
  refine ⟨hc.1, fun c w u hw => ?_⟩
  obtain ⟨bs, hi⟩ := hw
  have hi2 : Hp c ⟨N, M, L1 ++ Lp ++ [], [] ++ [] ++ R⟩ w ([] ++ [] ++ bs) := by simpa using hi
  have henter := hi2.enter (R1 := []) (Rp := []) (b1 := []) (bp := []) rfl rfl
  intro cf cs hu
  obtain ⟨e, u', w', fr, ⟨rfl, hr⟩, rest⟩ := hc.2 u w _ ⟨[], rfl, henter⟩ cf cs hu
  refine ⟨e, u', w', fr, ⟨rfl, ?_⟩, rest⟩
  cases e with
  | returned v =>
    obtain ⟨M', L', R', ⟨⟨bp', hc'⟩, hk, hR⟩, hq⟩ := hr
    have hR' : R' = [] := by simpa using hR
    subst hR'
    have hbp : bp' = [] := by simpa using hc'.rows.1.symm
    subst hbp
    have hfr := hi2.frame (R1 := []) (Rp := []) (b1 := []) (bp := []) (bp' := []) (Rp' := []) rfl rfl (by simpa using hi.rows.1.symm) hc' hk rfl
    have hfr' : Hp c ⟨N, M', L1 ++ L', R⟩ w' bs := by simpa using hfr
    exact ⟨v, rfl, _, ⟨bs, hfr'⟩, hn v M' L' (fun b cs hb => hc'.le b cs hb) hk (noneL_of fun b hb => (hfr'.apart b (List.mem_append.2 (.inl hb))).1) hq⟩
  | panicked ch => obtain ⟨_, _, _, _, hq⟩ := hr; exact hq.elim
  | outgrown => exact hr.elim
theorem leaves_of {P : Program} {fn : Func} {a : Array Value} {R : Ending → World → Prop} {c : Ctx} {ends : FrameMode → World → Prop} {u : FrameMode} (hu : u ≠ .run) (hset : settle u = u)
    (hend : ∀ w, ends u w → Leaves P fn a R [] u w) : ∀ (ds : List Deferred) (h : Sh) (w : World) (k : Sh → Prop), Is c h w → (∀ h w, Is c h w → k h → ends u w) → defsL P ds h k → Leaves P fn a R ds u w := by
  intro ds
  induction ds with
  | nil => intro h w k hw hk hd; exact hend w (hk h w hw hd)
  | cons d ds ih =>
    intro h w k hw hk hd
    obtain ⟨⟨f, args⟩, hdf, hb, hd⟩ := xOpt_iff hd
    obtain ⟨t, da⟩ := d
    unfold dFn at hdf
    simp only at hdf
    split at hdf
    · rename_i t2 g cap
      injection hdf with hdf
      injection hdf with h1 h2
      subst h1 h2
      have hbd := hb
      unfold bodied at hbd
      refine ⟨hu, _, cap, g, (da.toList ++ cap.toList).toArray, rfl, ?_, ?_⟩
      · show (invoke (.fn (.func g) cap) da).run P w = _
        have hargs : (da.toList ++ cap.toList).toArray = da ++ cap := by apply Array.toList_inj.1; simp
        rw [hargs]
        cases hfn : P.funcs[g]? with
        | none => rw [hfn] at hbd; cases hbd
        | some fn =>
          rw [hfn] at hbd
          simp only [Bool.and_eq_true, Bool.not_eq_true'] at hbd
          obtain ⟨hb1, hb2⟩ := hbd
          simp only [invoke, callFunc, Sem.run_bind, Sem.run_pure, Result.andThen_ok, run_program, hfn]
          obtain ⟨body, hbody⟩ := Option.isSome_iff_exists.1 hb1
          simp [hb2, hbody]
      · intro cf cs hcf
        obtain ⟨e, u', w', fr, ⟨rfl, v, rfl, h', hw', hk'⟩, rest⟩ := hd c w u hw cf cs hcf
        refine ⟨_, u', w', fr, ?_, rest⟩
        simp only
        rw [hset]
        exact ih h' w' k hw' hk hk'
    · cases hdf
theorem body_postD {P : Program} {fn : Func} {T : Tm} {dr ts ks k U M post pan} (hr : fn.results.toList = ts) {w0 : World} {ex : Exit} {a : Act} {w : World} {n : Nat}
    (hq : KontL.toQ ⟨w0, M, U⟩ n (fiD P T dr ts ks k post pan).k ex a w) : bodyPostD P fn (CtR U T M ks k post pan w0) ex a w := by
  have hret : ∀ {e ds h}, Fr n a e ds → Is ⟨w0, M, U⟩ h w → retD P T ts ks k post e ds h → Leaves P fn a.tmps (CtR U T M ks k post pan w0) a.defers .returning w := by
    intro e ds h ha hw hd
    rw [ha.2.1]
    refine leaves_of (c := ⟨w0, M, U⟩) (ends := fun u w => u = .returning ∧ ∃ h vs, Is ⟨w0, M, U⟩ h w ∧ resL P e h ts = some vs ∧ Close h (endF T ks k post (tupV vs))) (by simp) rfl ?_ ds h w _ hw ?_ hd
    · rintro w ⟨_, h, vs, hw, hvs, hcl⟩
      obtain ⟨h', hw', hT, hk, hR, hp⟩ := hcl _ _ hw
      subst hr
      exact ⟨_, resL_run hw hvs ha.2.2, h'.M, h'.L, h'.R, closed hT hw' hk hR, hp⟩
    · intro h w hw hk
      obtain ⟨vs, hvs, hcl⟩ := xOpt_iff hk
      exact ⟨rfl, h, vs, hw, hvs, hcl⟩
  cases ex with
  | normal => obtain ⟨e, ds, h, ha, hw, hd⟩ := hq; exact hret ha hw hd
  | ret => obtain ⟨e, ds, h, ha, hw, hd⟩ := hq; exact hret ha hw hd
  | panic ch =>
    obtain ⟨e, ds, h, ha, hw, hcalm, hd⟩ := hq
    show Leaves P fn a.tmps _ a.defers (.panicking ch) w
    rw [ha.2.1]
    refine leaves_of (c := ⟨w0, M, U⟩) (ends := fun u w => u = .panicking ch ∧ ∃ h, Is ⟨w0, M, U⟩ h w ∧ Close h (endF T ks k (fun _ => pan ch) undef)) (by simp) (settle_pan hcalm) ?_ ds h w _ hw ?_ hd
    · rintro w ⟨_, h, hw, hcl⟩
      obtain ⟨h', hw', hT, hk, hR, hp⟩ := hcl _ _ hw
      exact ⟨h'.M, h'.L, h'.R, closed hT hw' hk hR, hp⟩
    · intro h w hw hk
      exact ⟨rfl, h, hw, hk⟩
  | exit id => obtain ⟨_, _, _, _, _, h⟩ := hq; exact h.elim
  | goto l => exact hq.elim
  | outgrown => exact hq.elim
theorem ct_runD {P : Program} {f : FuncId} {fn : Func} {c : Code} {args : List Value} {dr ts} {T : Tm} {M L R post pan} (hm : P.follows .mixedOrders = true) (hbd : bodied P f = true)
    (hf : P.funcs[f]? = some fn) (hb : fn.body = some c) (hn : args.length ≤ fn.ntmps) (hc : codeOkL P fn.ntmps dr c = true) (hr : fn.results.toList = ts)
    (h : noneL M L → apartL L → Run P (fiD P T dr ts (keys L) R.length post pan) [.code c] (env0 args) [] ⟨T, M, L, R⟩ ⟨⟩) : CtT P f args T M L R post pan := by
  refine ⟨hbd, fun w U hw => calls_of_wp_defers hf hb ?_⟩
  obtain ⟨h1, h2, h3⟩ := hw.facts
  have := vcL_sound (c₀ := ⟨w, M, U⟩) hm c (fiD P T dr ts (keys L) R.length post pan).k (env0 args) [] ⟨T, M, L, R⟩ w _ hc (fr0 args.toArray fn.ntmps (by simpa using hn)) h3 (h h1 h2)
  exact wp_mono this fun ex a w' hq => body_postD hr hq
theorem fiD_ret {P T dr ts ks n post pan} : (fiD P T dr ts ks n post pan).ret = retD P T ts ks n post := (rfl)
theorem fiD_pan {P T dr ts ks n post pan} : (fiD P T dr ts ks n post pan).pan = panD P T ks n pan := (rfl)
theorem fiD_dr {P T dr ts ks n post pan} : (fiD P T dr ts ks n post pan).dr = dr := (rfl)
theorem retD_nil {P T ts ks n post e h} : retD P T ts ks n post e [] h = xOpt (resL P e h ts) fun vs => Close h (endF T ks n post (tupV vs)) := (rfl)
theorem vBinP_eqN (P : Program) (t a n c) : vBinP P .eql t (.slice a n c) (.slice none 0 0) = if isSlT P t = true then some (.bool a.isNone) else none := (rfl)
theorem vBinP_neN (P : Program) (t a n c) : vBinP P .neq t (.slice a n c) (.slice none 0 0) = if isSlT P t = true then some (.bool (!a.isNone)) else none := (rfl)
theorem PanOk_fiD {P T ks n pan} (ops : List Oper) : PanOk (panD P T ks n pan) ops = True := eq_true (fun _ _ _ _ _ _ _ _ _ h => h)
theorem cond_cut {P : Program} {F : Fi} {v : Value} {a b : Code} {S : List Item} {e : Env} {ds : List Deferred} {h : Sh} (Q : Env → List Deferred → Sh → Prop)
    (k : ∀ S', (∀ e ds h, Q e ds h → Run P F S' e ds h ⟨⟩) → rCond P F v a b S' e ds h ⟨⟩) (hS : ∀ e ds h, Q e ds h → Run P F S e ds h ⟨⟩) : rCond P F v a b S e ds h ⟨⟩ := k S hS
theorem run_cut {P : Program} {F : Fi} {c : Code} {S : List Item} {e : Env} {ds : List Deferred} {h : Sh} (Q : Env → List Deferred → Sh → Prop)
    (k : ∀ S', (∀ e ds h, Q e ds h → Run P F S' e ds h ⟨⟩) → Run P F (.code c :: S') e ds h ⟨⟩) (hS : ∀ e ds h, Q e ds h → Run P F S e ds h ⟨⟩) : Run P F (.code c :: S) e ds h ⟨⟩ := k S hS
theorem Close_addNil {N M L R e sz} {k : Sh → Prop} (hk : Close ⟨N, M, L, (.slice none 0 0, e, sz, []) :: R⟩ k) : Close ⟨N, M, L, R⟩ k := fun c w hw => by
  obtain ⟨bs, hi⟩ := hw
  exact hk c w ⟨_, hi.addNil⟩
theorem Hp.typed {c N M L R w bs b cs t} (hi : Hp c ⟨N, M, L, R⟩ w bs) (hT : N b = some t) (hb : (b, cs) ∈ L) : w.heap[b]? = some (.cells cs.toArray t (0, 0)) := by
  obtain ⟨u, hu⟩ := hi.blk b cs hb
  obtain ⟨_, h⟩ := hi.typ b t hT
  obtain ⟨cs', f, h⟩ := h (List.mem_map.2 ⟨_, hb, rfl⟩)
  rw [hu] at h
  injection h with h
  injection h with h1 h2 h3
  subst h2
  exact hu
theorem draw_cut {P : Program} {F : Fi} {ops : List Oper} {sc : Sched} {S : List Item} {e : Env} {ds : List Deferred} {h : Sh} (Q : Env → List Deferred → Sh → Prop)
    (k : ∀ S', (∀ e ds h, Q e ds h → Run P F S' e ds h ⟨⟩) → rDraw P F ops sc S' e ds h ⟨⟩) (hS : ∀ e ds h, Q e ds h → Run P F S e ds h ⟨⟩) : rDraw P F ops sc S e ds h ⟨⟩ := k S hS
section
variable {P : Program} {F : Fi} {s : List Item} {e : Env} {ds : List Deferred} {h : Sh}
theorem Rbk (id b) : Run P F (.code (.block id b) :: s) e ds h ⟨⟩ = Run P F (.code b :: .blk id :: s) e ds h ⟨⟩ := (rfl)
theorem Rcb (t a b) : rCond P F (.bool t) a b s e ds h ⟨⟩ = if t = true then Run P F (.code a :: s) e ds h ⟨⟩ else Run P F (.code b :: s) e ds h ⟨⟩ := (rfl)
end
attribute [go_sem] isPv_cap Run_cap pv_cap vCap_sl rConv_0 rConv_1 rConv_2 Run_range rRange_str Run_next rNext_it isPv_range isPv_next Run_fieldV pv_fieldV vFd_one vFd_agg isPv_fieldV Run_nil Run_skip Run_seq Run_blk Run_ret Run_exit Exi_code Exi_ops Exi_sch Exi_chk Exi_lp Exi_blk Run_region Run_ops_nil Run_draw fiD_ret fiD_pan fiD_dr retD_nil look_cons look_nil Run_done Run_no Run_cond rVal_some Run_take rTake_some Run_eff rEff_some Run_chk_true Run_chk_false Run_guardP Run_guardE isPv_move isPv_assign isPv_pick isPv_nilCheck isPv_field isPv_idx isPv_index isPv_bin isPv_un isPv_extract isPv_build isPv_convert isPv_iface isPv_func isPv_slice isPv_load isPv_len isPv_append isPv_call isPv_box isPv_alloc isPv_row isPv_store isPv_panic isPv_defer ite_some ite_bool updo_get Run_move Run_assign Run_pick Run_nilCheck Run_field Run_idx Run_index Run_not Run_neg Run_extract Run_build Run_convert Run_iface Run_func Run_slice Run_load Run_len pv_move pv_assign pv_pick pv_nilCheck pv_field pv_idx pv_index pv_bin pv_not pv_neg pv_extract pv_build pv_convert pv_iface pv_func pv_slice pv_load pv_len Run_bin rBin_some rNew_eq rNewS_eq Run_box Run_alloc rAlloc_some Run_row rRow_some rPut_some Run_store rStore_some lput_cons Run_call rFn_func Run_append Run_defer Run_min Exi_anew Run_effN rEffN_some Run_anew vBinP_shl vBinP_shr vMin_int isPv_min Run_makeMap Run_insert rIns_some Run_lookup rLook_some absentK_nil absentK_cons mgetK_cons isPv_makeMap isPv_insert isPv_lookup rDefer_func Run_panic Run_loop vPick_bool vNil_ptr vField_ptr vNot_bool vNeg_int vExt_tup vLen_str vLen_sl vConv_int vConvP_int vConvP_sl vIface_true vLoad_one vLoad_agg vIdx_int vAt_int vBinP_int cmpI_add cmpI_sub cmpI_mul cmpI_eql cmpI_neq cmpI_lss cmpI_leq cmpI_gtr cmpI_geq cmpI_quo cmpI_rem cmpI_and cmpI_or cmpI_xor vBinP_eqS vBinP_neS vBinP_cat vBinP_eqB vBinP_neB cells_agg cells_int cells_str cells_bool cells_sl cells_ptr ev_tmp ev_const ev_func ev_global evParts_nil evParts_cons updo_none want_none want_some isB_bool isB_undef isB_ite Bool.if_true_left Bool.if_true_right Bool.if_false_left Bool.if_false_right Bool.decide_eq_true Bool.decide_eq_false Bool.or_eq_true Bool.and_eq_true Bool.eq_false_iff decide_not Bool.false_or Bool.or_false Bool.and_false Bool.false_and or_false false_or and_false false_and or_true true_or not_true_eq_false cell_eq cells_zero cells_succ consO_some mcell_none mcell_some mkBs vBinP_eqN vBinP_neN PanOk_fiD Option.isNone_none Option.isNone_some mcell_nil PanOk_fi true_implies arrMap lcell_pL lput_pL0 lput_pL2 noneL_pL apart1_pL oneC_int oneC_str oneC_bool oneC_sl oneC_ptr oneC_func cells_func cells_iface List.all_cons List.all_nil tupV_nil Int.ofNat_lt Int.ofNat_le Int.toNat_natCast Nat.mul_one vCut_eq cast0 cast1 cast2 cast3 cast4 cast5 cast6 cast7 cast8 cast9 succ_ne succ_pos succ_ge cast_nn gt_iff_lt ge_iff_le Int.le_refl Nat.add_sub_cancel Nat.sub_zero and_self vCutL_lo vCutL_hi vCutL_both vCutS_lo vCutS_hi vCutS_both bs_extract Option.map_none Nat.zero_mul Nat.one_mul lcell_cons env0 st bs_size bs_inj resL_nil resL_tmp resL_cell tupV_one tupV_two fi_ret retF_eq xOpt_some List.getD_cons_zero List.getD_cons_succ if_true if_false beq_self_eq_true vRow_full vBuild_some fillL_nil fillL_cons setL_nil setL_cons List.set_cons_zero List.set_cons_succ List.length_set toArr vIsIf_iface fi_pan panF_eq fi_dr okParts_nil okParts_cons flatP_nil flatP_cons Nat.add_zero Nat.zero_add Nat.zero_lt_succ List.getElem?_cons_zero List.getElem?_cons_succ List.getElem?_nil Option.bind_some Option.bind_none Option.map_some Option.getD_some decide_eq_true_eq decide_true decide_false Classical.not_not ite_not Bool.and_true Bool.true_and Bool.or_true beq_true beq_false Bool.not_eq_eq_eq_not decide_eq_false_iff_not Bool.not_true Bool.not_false Bool.not_not List.map_cons List.map_nil List.append_assoc List.nil_append List.append_nil List.cons_append Array.toList_map List.length_cons List.length_nil noneL apartL apart1 and_true true_and implies_true ne_eq not_false_eq_true
end Vc

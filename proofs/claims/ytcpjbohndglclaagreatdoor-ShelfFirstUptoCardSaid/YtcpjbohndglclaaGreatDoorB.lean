import Derived.Test.YtcpjbohndglclaaGreatDoorA
import Derived.Defers
import Derived.Lib.LaidTab
import Derived.Lib.ConvBytes
import Derived.Attr
import Derived.Deep.Slices
import Derived.ChangeFn
import GoSem.ClaimJoined
set_option linter.all false
namespace Vc
open Go
inductive Item where
 | code (c:Code)
 | ops (all r:List Oper)
 | sch (all:List Oper) (s:Sched) (h0:Sh)
 | chk (t:Bool) (h0:Sh)
 | anew (t:Bool) (all:List Oper) (sc:Sched) (h0:Sh)
 | blk (id:Nat)
 | lp (I:Nat ->dx ->List Deferred ->Sh ->Prop) (m:Nat)
structure Fi where
 dr:List (Nat×Sched)
 ret:dx ->List Deferred ->Sh ->Prop
 pan:List PanicEntry ->dx ->List Deferred ->Sh ->Prop
def Fi.k (F:Fi):KontL where
 nrm:=F.ret
 exi:=fun _ _ _ _=>False
 ret:=F.ret
 pan:=F.pan
def iT (P:Program)(F:Fi):List Item ->KontL
 | []=>F.k
 | .code c::s=>{iT P F s with nrm:=VW P F.dr c (iT P F s)}
 | .ops all r::s=>{iT P F s with nrm:=j9 P all (iT P F s) r}
 | .sch all sc h0::s=>{iT P F s with nrm:=vS P all (iT P F s) h0 sc}
 | .chk t h0::s=>{iT P F s with nrm:=fun e ds h=>(t=false ->fW h0 h)/\(iT P F s).nrm e ds h}
 | .anew t all sc h0::s=>{iT P F s with nrm:=fun e ds h=>∃ h1,fW h0 h1/\(t=false ->fW h1 h)/\vS P all (iT P F s) h1 sc e ds h}
 | .blk id::s=>{iT P F s with exi:=fun i=>if i=id then (iT P F s).nrm else (iT P F s).exi i}
 | .lp I m::s=>{iT P F s with nrm:=fun e ds h=>cq h fun h=>∃ m',m'<m/\I m' e ds h}
structure Tok {α:Type} (a:α):Type
def cA (P:Program)(F:Fi)(s:List Item)(e:dx)(ds:List Deferred)(h:Sh)(_k:Tok (F,s,e,ds,h)):Prop:=(iT P F s).nrm e ds h
def Y6 (P:Program)(F:Fi)(id:Nat)(s:List Item)(e:dx)(ds:List Deferred)(h:Sh)(_k:Tok (F,s,e,ds,h)):Prop:=(iT P F s).exi id e ds h
theorem lg {P F}:∀ s,(iT P F s).ret=F.ret
 | []=>rfl
 | .code _::s=>lg s
 | .ops _ _::s=>lg s
 | .sch _ _ _::s=>lg s
 | .chk _ _::s=>lg s
 | .anew _ _ _ _::s=>lg s
 | .blk _::s=>lg s
 | .lp _ _::s=>lg s
theorem ju {P F}:∀ s,(iT P F s).pan=F.pan
 | []=>rfl
 | .code _::s=>ju s
 | .ops _ _::s=>ju s
 | .sch _ _ _::s=>ju s
 | .chk _ _::s=>ju s
 | .anew _ _ _ _::s=>ju s
 | .blk _::s=>ju s
 | .lp _ _::s=>ju s
section
variable {P:Program} {F:Fi} {s:List Item} {e:dx} {ds:List Deferred} {h h0:Sh} {all r:List Oper} {dd:Option Nat} {ty:TypeId} {pos:String} {af:Array Edge}
theorem Wp:cA P F [] e ds h ⟨⟩=F.ret e ds h:=(rfl)
theorem EY:cA P F (.code .skip::s) e ds h ⟨⟩=cA P F s e ds h ⟨⟩:=(rfl)
theorem KL (a b):cA P F (.code (.seq a b)::s) e ds h ⟨⟩=cA P F (.code a:: .code b::s) e ds h ⟨⟩:=(rfl)
theorem Nc (id b):cA P F (.code (.block id b)::s) e ds h ⟨⟩=cA P F (.code b:: .blk id::s) e ds h ⟨⟩:=(rfl)
theorem Wg (id):cA P F (.blk id::s) e ds h ⟨⟩=cA P F s e ds h ⟨⟩:=(rfl)
theorem Wr:cA P F (.code .ret::s) e ds h ⟨⟩=F.ret e ds h:=by
 show (iT P F s).ret e ds h=_;rw [lg]
theorem Qv (id):cA P F (.code (.exit id)::s) e ds h ⟨⟩=Y6 P F id s e ds h ⟨⟩:=(rfl)
theorem P6 (id c):Y6 P F id (.code c::s) e ds h ⟨⟩=Y6 P F id s e ds h ⟨⟩:=(rfl)
theorem aag (id I m):Y6 P F id (.lp I m::s) e ds h ⟨⟩=Y6 P F id s e ds h ⟨⟩:=(rfl)
theorem V0 (i id):Y6 P F i (.blk id::s) e ds h ⟨⟩=if i=id then cA P F s e ds h ⟨⟩ else Y6 P F i s e ds h ⟨⟩:=by
 simp only [Y6,iT,cA];split<;>rfl
theorem Ik (id ops):cA P F (.code (.region id ⟨ops⟩ false)::s) e ds h ⟨⟩=cA P F (.ops ops ops::s) e ds h ⟨⟩:=(rfl)
theorem EX:cA P F (.ops all []::s) e ds h ⟨⟩=cA P F s e ds h ⟨⟩:=(rfl)
def G0 (P:Program)(F:Fi)(ops:List Oper)(sc:Sched)(s:List Item)(e:dx)(ds:List Deferred)(h:Sh)(_k:Tok (F,ops,s,e,ds,h)):Prop:=
 ∃ h0,fW h0 h/\cA P F (.sch ops sc h0::s) e ds h ⟨⟩
theorem Qt (id ops):cA P F (.code (.region id ⟨ops⟩ true)::s) e ds h ⟨⟩=(wm F.pan ops/\G0 P F ops (JF F.dr id) s e ds h ⟨⟩):=by
 show uN P F.dr id ops true (iT P F s) e ds h=_
 unfold uN
 rw [if_pos rfl,ju]
 rfl
theorem eG {ops:List Oper}{sc:Sched}(h0:Sh)(hs:fW h0 h)(hr:cA P F (.sch ops sc h0::s) e ds h ⟨⟩):G0 P F ops sc s e ds h ⟨⟩:=⟨h0,hs,hr⟩
theorem aT {ops:List Oper}{sc:Sched}(hr:cA P F (.sch ops sc h::s) e ds h ⟨⟩):G0 P F ops sc s e ds h ⟨⟩:=⟨h,fW.refl h,hr⟩
theorem Qs:cA P F (.sch all .done h0::s) e ds h ⟨⟩=cA P F s e ds h ⟨⟩:=(rfl)
theorem aaD:cA P F (.sch all .no h0::s) e ds h ⟨⟩=True:=(rfl)
def Ak (P:Program)(F:Fi)(v:Value)(a b:Code)(s:List Item)(e:dx)(ds:List Deferred)(h:Sh)(_k:Tok (F,a,b,s,e,ds,h)):Prop:=
 match v with
 | .bool t=>if t=true then cA P F (.code a::s) e ds h ⟨⟩ else cA P F (.code b::s) e ds h ⟨⟩
 | _=>False
theorem Qr (c a b):cA P F (.code (.cond c a b)::s) e ds h ⟨⟩=Ak P F (ev e c) a b s e ds h ⟨⟩:=(rfl)
theorem dM (t a b):Ak P F (.bool t) a b s e ds h ⟨⟩=if t=true then cA P F (.code a::s) e ds h ⟨⟩ else cA P F (.code b::s) e ds h ⟨⟩:=(rfl)
def jn (P:Program)(F:Fi)(o:Option Value)(dd:Option Nat)(s:List Item)(e:dx)(ds:List Deferred)(h:Sh)(_k:Tok (F,s,e,ds,h)):Prop:=
 match o with
 | some v=>cA P F s (cI e dd v) ds h ⟨⟩
 | none=>False
theorem Pc (v):jn P F (some v) dd s e ds h ⟨⟩=cA P F s (cI e dd v) ds h ⟨⟩:=(rfl)
def Ug (P:Program)(F:Fi)(o:Option Oper)(all:List Oper)(sc:Sched)(h0:Sh)(s:List Item)(e:dx)(ds:List Deferred)(h:Sh)(_k:Tok (F,all,sc,h0,s,e,ds,h)):Prop:=
 match o with
 | some o=>if eB all e o.guard=true then jn P F (pv P e h0 o.op) o.dst (.sch all sc h0::s) e ds h ⟨⟩ else cA P F (.sch all sc h0::s) (cI e o.dst undef) ds h ⟨⟩
 | none=>False
theorem QB (i sc):cA P F (.sch all (.take i sc) h0::s) e ds h ⟨⟩=Ug P F all[i]? all sc h0 s e ds h ⟨⟩:=by
 show ea all[i]? _=_
 unfold Ug ea
 cases all[i]? with
 | none=>rfl
 | some o=>
  simp only []
  split
  ·unfold jn
   cases pv P e h0 o.op<;>rfl
  ·rfl
theorem J8 (d op ty pos af g sc):Ug P F (some ⟨d,op,ty,pos,af,g⟩) all sc h0 s e ds h ⟨⟩=
 if eB all e g=true then jn P F (pv P e h0 op) d (.sch all sc h0::s) e ds h ⟨⟩ else cA P F (.sch all sc h0::s) (cI e d undef) ds h ⟨⟩:=(rfl)
theorem o7 {d op ty pos af}:ol ⟨d,op,ty,pos,af,none⟩=false:=(rfl)
def acY (P:Program)(F:Fi)(o:Option Oper)(all:List Oper)(t:Bool)(sc alt:Sched)(h0:Sh)(s:List Item)(e:dx)(ds:List Deferred)(h:Sh)(_k:Tok (F,all,sc,alt,h0,s,e,ds,h)):Prop:=
 match o with
 | some o=>if ol o=true then (Z1 P (iT P F s) all o e ds h fun v ds h'=>(t=false ->fW h0 h')/\vS P all (iT P F s) h0 sc (cI e o.dst v) ds h')/\vS P all (iT P F s) h0 alt e ds h
  else cA P F (.ops all [o]:: .chk t h0:: .sch all sc h0::s) e ds h ⟨⟩/\cA P F (.sch all alt h0::s) e ds h ⟨⟩
 | none=>False
theorem Wj (i t sc alt):cA P F (.sch all (.eff i t sc alt) h0::s) e ds h ⟨⟩=acY P F all[i]? all t sc alt h0 s e ds h ⟨⟩:=by
 show (ea all[i]? _/\_)=_
 unfold acY ea
 cases all[i]? with
 | none=>simp
 | some o=>
  by_cases hp:ol o=true
  ·simp only [hp,if_true]
  ·simp only [hp]
   show _=(j9 P all _ [o] e ds h/\_)
   unfold j9
   rw [if_neg hp]
   rfl
theorem O8 (d op ty pos af g t sc alt)(hp:mq op=false):acY P F (some ⟨d,op,ty,pos,af,g⟩) all t sc alt h0 s e ds h ⟨⟩=(cA P F (.ops all [⟨d,op,ty,pos,af,g⟩]:: .chk t h0:: .sch all sc h0::s) e ds h ⟨⟩/\cA P F (.sch all alt h0::s) e ds h ⟨⟩):=by
 show (if ol _=true then _ else _)=_
 rw [if_neg (by simp [ol,hp])]
def Uc (P:Program)(F:Fi)(o:Option Oper)(all:List Oper)(t:Bool)(sc alt:Sched)(h0:Sh)(s:List Item)(e:dx)(ds:List Deferred)(h:Sh)(_k:Tok (F,all,sc,alt,h0,s,e,ds,h)):Prop:=
 match o with
 | some o=>if ol o=true then (Z1 P (iT P F s) all o e ds h fun v ds h'=>∃ h1,fW h0 h1/\(t=false ->fW h1 h')/\vS P all (iT P F s) h1 sc (cI e o.dst v) ds h')/\vS P all (iT P F s) h0 alt e ds h
  else cA P F (.ops all [o]:: .anew t all sc h0::s) e ds h ⟨⟩/\cA P F (.sch all alt h0::s) e ds h ⟨⟩
 | none=>False
theorem Qu (i t sc alt):cA P F (.sch all (.effN i t sc alt) h0::s) e ds h ⟨⟩=Uc P F all[i]? all t sc alt h0 s e ds h ⟨⟩:=by
 show (ea all[i]? _/\_)=_
 unfold Uc ea
 cases all[i]? with
 | none=>simp
 | some o=>
  by_cases hp:ol o=true
  ·simp only [hp,if_true]
  ·simp only [hp]
   show _=(j9 P all _ [o] e ds h/\_)
   unfold j9
   rw [if_neg hp]
   rfl
theorem J5 (d op ty pos af g t sc alt)(hp:mq op=false):Uc P F (some ⟨d,op,ty,pos,af,g⟩) all t sc alt h0 s e ds h ⟨⟩=(cA P F (.ops all [⟨d,op,ty,pos,af,g⟩]:: .anew t all sc h0::s) e ds h ⟨⟩/\cA P F (.sch all alt h0::s) e ds h ⟨⟩):=by
 show (if ol _=true then _ else _)=_
 rw [if_neg (by simp [ol,hp])]
def ZU (P:Program)(F:Fi)(t:Bool)(all:List Oper)(sc:Sched)(h0:Sh)(s:List Item)(e:dx)(ds:List Deferred)(h:Sh)(_k:Tok (F,all,sc,h0,s,e,ds,h)):Prop:=
 ∃ h1,fW h0 h1/\(t=false ->fW h1 h)/\cA P F (.sch all sc h1::s) e ds h ⟨⟩
theorem Qp (t sc):cA P F (.anew t all sc h0::s) e ds h ⟨⟩=ZU P F t all sc h0 s e ds h ⟨⟩:=(rfl)
theorem yp {t:Bool}{sc:Sched}(B3:fW h0 h)(hr:cA P F (.sch all sc h::s) e ds h ⟨⟩):ZU P F t all sc h0 s e ds h ⟨⟩:=⟨h,B3,fun _=>fW.refl _,hr⟩
theorem Dh:cA P F (.chk true h0::s) e ds h ⟨⟩=cA P F s e ds h ⟨⟩:=by
 simp [cA,iT]
theorem AX:cA P F (.chk false h0::s) e ds h ⟨⟩=(fW h0 h/\cA P F s e ds h ⟨⟩):=by
 simp [cA,iT]
theorem Ih (op:Op)(g:Nat×Bool)(hp:mq op=true):cA P F (.ops all (⟨dd,op,ty,pos,af,some g⟩::r)::s) e ds h ⟨⟩=
 jn P F (if eB all e (some g)=true then pv P e h op else some undef) dd (.ops all r::s) e ds h ⟨⟩:=by
 show j9 P all (iT P F s) (⟨dd,op,ty,pos,af,some g⟩::r) e ds h=_
 unfold j9
 rw [if_pos (by simp [ol,hp])]
 show ea (if eB all e (some g)=true then pv P e h op else some undef) _=_
 unfold ea jn
 cases (if eB all e (some g)=true then pv P e h op else some undef)<;>rfl
theorem Ig (op:Op)(g:Nat×Bool)(hp:mq op=false):cA P F (.ops all (⟨dd,op,ty,pos,af,some g⟩::r)::s) e ds h ⟨⟩=
 if eB all e (some g)=true then cA P F (.ops all (⟨dd,op,ty,pos,af,none⟩::r)::s) e ds h ⟨⟩ else cA P F (.ops all r::s) (cI e dd undef) ds h ⟨⟩:=by
 show j9 P all (iT P F s) (⟨dd,op,ty,pos,af,some g⟩::r) e ds h=_
 unfold j9
 rw [if_neg (by simp [ol,hp])]
 rfl
theorem ON (x):mq (.move x)=true:=(rfl)
theorem OO (c a b):mq (.pick c a b)=true:=(rfl)
theorem A6 (x):mq (.nilCheck x)=true:=(rfl)
theorem Jz (t x i):mq (.fieldAddr t x i)=true:=(rfl)
theorem Tj (t x i):mq (.indexAddr t x i)=true:=(rfl)
theorem JA (t x i):mq (.index t x i)=true:=(rfl)
theorem Ti (op t x y u):mq (.binOp op t x y u)=true:=(rfl)
theorem X4 (op t x):mq (.unOp op t x)=true:=(rfl)
theorem JB (t x lo hi c):mq (.slice t x lo hi c)=true:=(rfl)
theorem OM (t x):mq (.load t x)=true:=(rfl)
theorem Tl (a t):mq (.call ⟨.builtin .len,a,t⟩)=true:=(rfl)
theorem Gg (a t):mq (.call ⟨.builtin .append,a,t⟩)=false:=(rfl)
theorem OL (f a t):mq (.call ⟨.value f,a,t⟩)=false:=(rfl)
theorem Jy (t):mq (.alloc t)=false:=(rfl)
theorem Tp (t n ps):mq (.buildSlice t n ps)=false:=(rfl)
theorem JC (t x y):mq (.store t x y)=false:=(rfl)
theorem Tr {α:Type}(c:Prop)[Decidable c](a b:α):(if c then some a else some b)=some (if c then a else b):=by split<;>rfl
theorem Tq (c:Prop)[Decidable c](a b:Bool):(if c then Value.bool a else Value.bool b)=Value.bool (if c then a else b):=by split<;>rfl
theorem oF (d v t):cI e (some d) v t=if t=d then v else e t:=(rfl)
theorem dW (o:Option Value):(ea o fun v=>cA P F (.ops all r::s) (cI e dd v) ds h ⟨⟩)=jn P F o dd (.ops all r::s) e ds h ⟨⟩:=by
 unfold ea jn;cases o<;>rfl
theorem Qz (x):cA P F (.ops all (⟨dd,.move x,ty,pos,af,none⟩::r)::s) e ds h ⟨⟩=jn P F (some (ev e x)) dd (.ops all r::s) e ds h ⟨⟩:=(rfl)
theorem Ie (x):cA P F (.ops all (⟨dd,.assign x,ty,pos,af,none⟩::r)::s) e ds h ⟨⟩=jn P F (some (ev e x)) dd (.ops all r::s) e ds h ⟨⟩:=(rfl)
theorem QA (c a b):cA P F (.ops all (⟨dd,.pick c a b,ty,pos,af,none⟩::r)::s) e ds h ⟨⟩=jn P F (HH (ev e c) (ev e a) (ev e b)) dd (.ops all r::s) e ds h ⟨⟩:=dW _
theorem Di (x):cA P F (.ops all (⟨dd,.nilCheck x,ty,pos,af,none⟩::r)::s) e ds h ⟨⟩=jn P F (Vi (ev e x)) dd (.ops all r::s) e ds h ⟨⟩:=dW _
theorem Ng (t x i):cA P F (.ops all (⟨dd,.fieldAddr t x i,ty,pos,af,none⟩::r)::s) e ds h ⟨⟩=jn P F (wg (cG P t i) (ev e x)) dd (.ops all r::s) e ds h ⟨⟩:=dW _
theorem Wk (t x i):cA P F (.ops all (⟨dd,.indexAddr t x i,ty,pos,af,none⟩::r)::s) e ds h ⟨⟩=jn P F (PC (df P t) (ev e x) (ev e i)) dd (.ops all r::s) e ds h ⟨⟩:=dW _
theorem Ni (t x i):cA P F (.ops all (⟨dd,.index t x i,ty,pos,af,none⟩::r)::s) e ds h ⟨⟩=jn P F (vAt (cL P t) (ev e x) (ev e i)) dd (.ops all r::s) e ds h ⟨⟩:=dW _
theorem Wq (t x):cA P F (.ops all (⟨dd,.unOp .not t x,ty,pos,af,none⟩::r)::s) e ds h ⟨⟩=jn P F (Vk (ev e x)) dd (.ops all r::s) e ds h ⟨⟩:=dW _
theorem Wo (t x):cA P F (.ops all (⟨dd,.unOp .neg t x,ty,pos,af,none⟩::r)::s) e ds h ⟨⟩=jn P F (YR (ev e x)) dd (.ops all r::s) e ds h ⟨⟩:=dW _
theorem EV (x i):cA P F (.ops all (⟨dd,.extract x i,ty,pos,af,none⟩::r)::s) e ds h ⟨⟩=jn P F (PB (ev e x) i) dd (.ops all r::s) e ds h ⟨⟩:=dW _
def lJ (e:dx):List (Nat×Operand) ->List (Nat×List Value)
 | []=>[]
 | (i,x)::r=>(i,(ev e x).cells.toList)::lJ e r
def sL (e:dx)(l:List (Nat×Operand)):(l.map fun x=>(x.1,(ev e x.2).cells.toList))=lJ e l:=by
 induction l with
 | nil=>rfl
 | cons p l ih=>obtain ⟨i,x⟩:=p;simp [lJ,ih]
theorem Nd (t ps):cA P F (.ops all (⟨dd,.build t ⟨ps⟩,ty,pos,af,none⟩::r)::s) e ds h ⟨⟩=jn P F (vY (bt P t) (lJ e ps)) dd (.ops all r::s) e ds h ⟨⟩:=by
 rw [<- sL];exact dW _
def Ub (P:Program)(F:Fi)(k:Nat)(o:Option Value)(x:Value)(dd:Option Nat)(s:List Item)(e:dx)(ds:List Deferred)(h:Sh)(_k:Tok (F,s,e,ds,h)):Prop:=match k with
 | 1=>(match x with
  | .string t=>∀ b c junk,h.M b=none ->bf b h.L ->cA P F s (cI e dd (.slice (some ⟨b,0,none⟩) t.size c)) ds {h with M:=h.M.add b (t.data.toList.map (fun b=>Value.int .u8 b.toNat)++junk)} ⟨⟩
  | _=>False)
 | 2=>(match x,h.L with
  | .slice (some ⟨b,0,none⟩) _ _,(b',cs)::L=>b=b'/\(bf b L ->cA P F s (cI e dd x) ds {h with M:=h.M.add b cs,L:=L} ⟨⟩)
  | _,_=>False)
 | _=>jn P F o dd s e ds h ⟨⟩
theorem EU (a b x):cA P F (.ops all (⟨dd,.convert a b x,ty,pos,af,none⟩::r)::s) e ds h ⟨⟩=Ub P F (VL P a b) (vZ P h a b (ev e x)) (ev e x) dd (.ops all r::s) e ds h ⟨⟩:=by
 show MQ P a b (ev e x) h (fun v h'=>cA P F (.ops all r::s) (cI e dd v) ds h' ⟨⟩)=_
 unfold MQ Ub
 generalize VL P a b=k
 rcases k with _ | _ | _ | k
 ·exact dW _
 ·rfl
 ·rfl
 ·exact dW _
theorem Ym (o x):Ub P F 0 o x dd s e ds h ⟨⟩=jn P F o dd s e ds h ⟨⟩:=(rfl)
theorem Nh (t x):cA P F (.ops all (⟨dd,.makeInterface t x,ty,pos,af,none⟩::r)::s) e ds h ⟨⟩=jn P F (Es (P.concrete t) t (ev e x)) dd (.ops all r::s) e ds h ⟨⟩:=dW _
theorem Qw (fn a b):cA P F (.ops all (⟨dd,.makeFunc fn a b,ty,pos,af,none⟩::r)::s) e ds h ⟨⟩=jn P F (some (.func fn (a.map (ev e)) (b.map (ev e)))) dd (.ops all r::s) e ds h ⟨⟩:=(rfl)
def adc (P:Program)(t:TypeId)(x:Value)(lo hi:Option Value):Option Value:=if cL P t=true then CW true x lo hi else CV (df P t) x lo hi
theorem Nk (t x lo hi):cA P F (.ops all (⟨dd,.slice t x lo hi none,ty,pos,af,none⟩::r)::s) e ds h ⟨⟩=jn P F (adc P t (ev e x) (lo.map (ev e)) (hi.map (ev e))) dd (.ops all r::s) e ds h ⟨⟩:=dW _
theorem If (t x i):cA P F (.ops all (⟨dd,.field t x i,ty,pos,af,none⟩::r)::s) e ds h ⟨⟩=jn P F (vFd (fdP P t i) (ev e x)) dd (.ops all r::s) e ds h ⟨⟩:=dW _
theorem Qx (t x):cA P F (.ops all (⟨dd,.load t x,ty,pos,af,none⟩::r)::s) e ds h ⟨⟩=jn P F (qD h (tk P t) (ev e x)) dd (.ops all r::s) e ds h ⟨⟩:=dW _
theorem Wl (x t):cA P F (.ops all (⟨dd,.call ⟨.builtin .len,⟨[x]⟩,⟨[t]⟩⟩,ty,pos,af,none⟩::r)::s) e ds h ⟨⟩=jn P F (PD (cL P t) (dP P t) (ev e x)) dd (.ops all r::s) e ds h ⟨⟩:=dW _
theorem Wi (x t):cA P F (.ops all (⟨dd,.call ⟨.builtin .cap,⟨[x]⟩,⟨[t]⟩⟩,ty,pos,af,none⟩::r)::s) e ds h ⟨⟩=jn P F (YM (dP P t) (ev e x)) dd (.ops all r::s) e ds h ⟨⟩:=dW _
theorem Yh (x):pv P e h (.move x)=some (ev e x):=(rfl)
theorem O5 (x):pv P e h (.assign x)=some (ev e x):=(rfl)
theorem Yi (c a b):pv P e h (.pick c a b)=HH (ev e c) (ev e a) (ev e b):=(rfl)
theorem GS (x):pv P e h (.nilCheck x)=Vi (ev e x):=(rfl)
theorem TX (t x i):pv P e h (.fieldAddr t x i)=wg (cG P t i) (ev e x):=(rfl)
theorem acT (t x i):pv P e h (.indexAddr t x i)=PC (df P t) (ev e x) (ev e i):=(rfl)
theorem TY (t x i):pv P e h (.index t x i)=vAt (cL P t) (ev e x) (ev e i):=(rfl)
theorem acS (op t x y u):pv P e h (.binOp op t x y u)=iX P op t (ev e x) (ev e y):=(rfl)
theorem acV (t x):pv P e h (.unOp .not t x)=Vk (ev e x):=(rfl)
theorem J1 (x i):pv P e h (.extract x i)=PB (ev e x) i:=(rfl)
theorem TW (t ps):pv P e h (.build t ⟨ps⟩)=vY (bt P t) (lJ e ps):=by rw [<- sL];rfl
theorem TZ (t x lo hi):pv P e h (.slice t x lo hi none)=adc P t (ev e x) (lo.map (ev e)) (hi.map (ev e)):=(rfl)
theorem YP (o n cs):vFd (some (false,o,n)) (.agg ⟨cs⟩)=cs[o]?:=by simp [vFd]
theorem Yf (t x):pv P e h (.load t x)=qD h (tk P t) (ev e x):=(rfl)
theorem acU (x t):pv P e h (.call ⟨.builtin .len,⟨[x]⟩,⟨[t]⟩⟩)=PD (cL P t) (dP P t) (ev e x):=(rfl)
theorem YN (a n c):YM true (.slice a n c)=some (.int .i64 (c:Nat)):=(rfl)
def acX (P:Program)(F:Fi)(o:Option Value)(op:BinOp)(t:TypeId)(x y:Operand)(dd:Option Nat)(s:List Item)(e:dx)(ds:List Deferred)(h:Sh)(_k:Tok (F,op,t,x,y,s,e,ds,h)):Prop:=
 match o with
 | some v=>cA P F s (cI e dd v) ds h ⟨⟩
 | none=>ag4 P (do eqGuard op t x y (ev e x) (ev e y);binOp op t (ev e x) (ev e y)) h fun v=>cA P F s (cI e dd v) ds h ⟨⟩
theorem We (op t x y u):cA P F (.ops all (⟨dd,.binOp op t x y u,ty,pos,af,none⟩::r)::s) e ds h ⟨⟩=acX P F (iX P op t (ev e x) (ev e y)) op t x y dd (.ops all r::s) e ds h ⟨⟩:=by
 simp only [cA,iT,j9,o7,Bool.false_eq_true,if_false,eB,if_true,HG]
 unfold acX
 cases iX P op t (ev e x) (ev e y)<;>rfl
theorem O6 (v op t x y):acX P F (some v) op t x y dd s e ds h ⟨⟩=cA P F s (cI e dd v) ds h ⟨⟩:=(rfl)
def Yn (P:Program)(F:Fi)(t:TypeId)(cs:List Value)(dd:Option Nat)(s:List Item)(e:dx)(ds:List Deferred)(h:Sh)(_k:Tok (F,s,e,ds,h)):Prop:=
 VD t cs h fun b h'=>cA P F s (cI e dd (.pointer (some ⟨b,0,none⟩))) ds h' ⟨⟩
def Mf (P:Program)(F:Fi)(o:Option (List Value))(n:Nat)(dd:Option Nat)(s:List Item)(e:dx)(ds:List Deferred)(h:Sh)(_k:Tok (F,s,e,ds,h)):Prop:=
 match o with
 | some cs=>HM cs h fun b h'=>cA P F s (cI e dd (.slice (some ⟨b,0,none⟩) n n)) ds h' ⟨⟩
 | none=>False
theorem Yo (t)(cs:List Value)(N M L R):Yn P F t cs dd s e ds ⟨N,M,L,R⟩ ⟨⟩=∀ b T,M b=none ->bf b L ->aG N T ->T b=some t ->cA P F s (cI e dd (.pointer (some ⟨b,0,none⟩))) ds ⟨T,M,(b,cs)::L,R⟩ ⟨⟩:=(rfl)
theorem Uf (cs:List Value)(n N M L R):Mf P F (some cs) n dd s e ds ⟨N,M,L,R⟩ ⟨⟩=∀ b,M b=none ->bf b L ->cA P F s (cI e dd (.slice (some ⟨b,0,none⟩) n n)) ds ⟨N,M,(b,cs)::L,R⟩ ⟨⟩:=(rfl)
theorem Wh (t x):cA P F (.ops all (⟨dd,.box t x,ty,pos,af,none⟩::r)::s) e ds h ⟨⟩=Yn P F t (ev e x).cells.toList dd (.ops all r::s) e ds h ⟨⟩:=(rfl)
def J3 (P:Program)(F:Fi)(t:TypeId)(o:Option (Bool×Nat×Value))(dd:Option Nat)(s:List Item)(e:dx)(ds:List Deferred)(h:Sh)(_k:Tok (F,s,e,ds,h)):Prop:=
 match o with
 | some (_,_,z)=>Yn P F t z.cells.toList dd s e ds h ⟨⟩
 | none=>False
theorem Nb (t):cA P F (.ops all (⟨dd,.alloc t,ty,pos,af,none⟩::r)::s) e ds h ⟨⟩=J3 P F t (tk P t) dd (.ops all r::s) e ds h ⟨⟩:=by
 show ea (tk P t) _=_
 unfold ea J3
 cases tk P t<;>rfl
theorem GX (t g n z):J3 P F t (some (g,n,z)) dd s e ds h ⟨⟩=Yn P F t z.cells.toList dd s e ds h ⟨⟩:=(rfl)
def ac0 (P:Program)(F:Fi)(o:Option (TypeId×Nat×List Value))(n:Nat)(ps:List (Nat×List Value))(dd:Option Nat)(s:List Item)(e:dx)(ds:List Deferred)(h:Sh)(_k:Tok (F,s,e,ds,h)):Prop:=
 match o with
 | some (_,sz,z)=>n*sz<=16777216/\Mf P F (HI sz z n ps) n dd s e ds h ⟨⟩
 | none=>False
theorem Ws (t n ps):cA P F (.ops all (⟨dd,.buildSlice t n ⟨ps⟩,ty,pos,af,none⟩::r)::s) e ds h ⟨⟩=ac0 P F (dY P t) n (lJ e ps) dd (.ops all r::s) e ds h ⟨⟩:=by
 rw [<- sL]
 show ea (dY P t) _=_
 unfold ea ac0
 cases dY P t with
 | none=>rfl
 | some p=>
  obtain ⟨el,sz,z⟩:=p
  simp only [Mf]
  show (_/\ea _ _)=_
  unfold ea
  cases HI sz z n (ps.map fun x=>(x.1,(ev e x.2).cells.toList))<;>rfl
theorem Pb (el sz z n ps):ac0 P F (some (el,sz,z)) n ps dd s e ds h ⟨⟩=(n*sz<=16777216/\Mf P F (HI sz z n ps) n dd s e ds h ⟨⟩):=(rfl)
def o5 (sz:Nat):Nat ->List (Nat×List Value) ->Bool
 | _,[]=>true
 | i,(j,cs)::r=>j==i && cs.length==sz && o5 sz (i+1) r
def wG:List (Nat×List Value) ->List Value
 | []=>[]
 | (_,cs)::r=>cs++wG r
def He (vs:List Value):∀ (pre z post:List Value),z.length=vs.length ->px (pre++z++post) pre.length vs=pre++vs++post:=by
 induction vs with
 | nil=>intro pre z post hz;cases z<;>simp_all [px]
 | cons v vs ih=>
  intro pre z post hz
  cases z with
  | nil=>simp at hz
  | cons y z=>
   simp only [px]
   have h1:(pre++(y::z)++post).set pre.length v=(pre++[v])++z++post:=by simp
   rw [h1]
   have:=ih (pre++[v]) z post (by simpa using hz)
   rw [show (pre++[v]).length=pre.length+1 from by simp] at this
   rw [this];simp
def Bg {sz n:Nat}{z:List Value}(hz:z.length=sz):∀ (ps:List (Nat×List Value)) (i:Nat) (pre:List Value),o5 sz i ps=true ->i+ps.length=n ->pre.length=i*sz ->
 nR ((List.range n).map fun i=>(i*sz,sz)) (pre++(List.range (n - i)).flatMap fun _=>z) ps=some (pre++wG ps):=by
 intro ps
 induction ps with
 | nil=>intro i pre ce hn hp;simp at hn;subst hn;simp [nR,wG]
 | cons p ps ih=>
  obtain ⟨j,cs⟩:=p
  intro i pre ce hn hp
  simp only [o5,Bool.and_eq_true,beq_iff_eq] at ce
  obtain ⟨⟨rfl,gC⟩,ce⟩:=ce
  simp only [List.length_cons] at hn
  have aL:j<n:=by omega
  simp only [nR,List.getElem?_map,List.getElem?_range aL,Option.map_some]
  have aco:(List.range (n - j)).flatMap (fun _=>z)=z++(List.range (n - (j+1))).flatMap (fun _=>z):=by
   rw [show n - j=(n - (j+1))+1 from by omega,List.range_succ_eq_map,List.flatMap_cons,List.flatMap_map]
  rw [aco,if_pos]
  ·rw [<- hp]
   have:=He cs pre z ((List.range (n - (j+1))).flatMap fun _=>z) (by rw [hz,gC])
   rw [<- List.append_assoc,this]
   have:=ih (j+1) (pre++cs) ce (by omega) (by rw [List.length_append,hp,gC,Nat.add_mul];omega)
   rw [this];simp [wG]
  ·refine ⟨gC,?_⟩
   simp only [List.length_append]
   omega
theorem PH {sz n:Nat}{z:List Value}{ps:List (Nat×List Value)}(h1:o5 sz 0 ps=true)(h2:ps.length=n)(hz:z.length=sz):HI sz z n ps=some (wG ps):=by
 have:=Bg (n:=n) hz ps 0 [] h1 (by omega) (by simp)
 simpa [HI] using this
def Yp (P:Program)(F:Fi)(o:Option (List (Nat×List Value)))(dd:Option Nat)(s:List Item)(e:dx)(ds:List Deferred)(h:Sh)(_k:Tok (F,s,e,ds,h)):Prop:=
 match o with
 | some L=>cA P F s (cI e dd undef) ds ⟨h.N,h.M,L,h.R⟩ ⟨⟩
 | none=>False
theorem Pa (L N M L0 R):Yp P F (some L) dd s e ds ⟨N,M,L0,R⟩ ⟨⟩=cA P F s (cI e dd undef) ds ⟨N,M,L,R⟩ ⟨⟩:=(rfl)
def J7 (P:Program)(F:Fi)(o:Option (Bool×Nat×Value))(x:Value)(vs:List Value)(dd:Option Nat)(s:List Item)(e:dx)(ds:List Deferred)(h:Sh)(_k:Tok (F,s,e,ds,h)):Prop:=
 match o,x with
 | some (_,n,_),.pointer (some ⟨b,i,none⟩)=>(vs.length=n/\vs.all (·.oneCell')=true)/\Yp P F (vL h.L b i vs) dd s e ds h ⟨⟩
 | _,_=>False
theorem Nl (t x y):cA P F (.ops all (⟨dd,.store t x y,ty,pos,af,none⟩::r)::s) e ds h ⟨⟩=J7 P F (tk P t) (ev e x) (ev e y).cells.toList dd (.ops all r::s) e ds h ⟨⟩:=by
 show ea (tk P t) _=_
 unfold ea Bi J7
 cases tk P t with
 | none=>rfl
 | some p=>
  obtain ⟨g,n,z⟩:=p
  simp only []
  generalize ev e x=v
  cases v<;>try rfl
  rename_i a
  cases a with
  | none=>rfl
  | some a=>
   obtain ⟨b,i,sp⟩:=a
   cases sp with
   | some q=>simp
   | none=>
    simp only [true_and]
    unfold Yp
    cases vL h.L b i (ev e y).cells.toList<;>rfl
theorem G2 (g n z b i vs)(N M L R):J7 P F (some (g,n,z)) (.pointer (some ⟨b,i,none⟩)) vs dd s e ds ⟨N,M,L,R⟩ ⟨⟩=((vs.length=n/\vs.all (·.oneCell')=true)/\Yp P F (vL L b i vs) dd s e ds ⟨N,M,L,R⟩ ⟨⟩):=(rfl)
theorem OT (b cs l k i vs):vL ((b,cs)::l) k i vs=if k=b then (if i+vs.length<=cs.length then some ((b,px cs i vs)::l) else none) else (vL l k i vs).map ((b,cs):: ·):=(rfl)
def dp (P:Program)(F:Fi)(f:FuncId)(args:List Value)(dd:Option Nat)(s:List Item)(e:dx)(ds:List Deferred)(h:Sh)(_k:Tok (F,s,e,ds,h)):Prop:=
 Vx P f args h (fun v h'=>cA P F s (cI e dd v) ds h' ⟨⟩) (fun ch h'=>F.pan ch e ds h')
def rFn (P:Program)(F:Fi)(v:Value)(args:List Value)(dd:Option Nat)(s:List Item)(e:dx)(ds:List Deferred)(h:Sh)(_k:Tok (F,s,e,ds,h)):Prop:=
 match v with
 | .func (.func f) first cap=>dp P F f (first.toList++args++cap.toList) dd s e ds h ⟨⟩
 | _=>False
theorem Qq (f args tys):cA P F (.ops all (⟨dd,.call ⟨.value f,⟨args⟩,tys⟩,ty,pos,af,none⟩::r)::s) e ds h ⟨⟩=rFn P F (ev e f) (args.map (ev e)) dd (.ops all r::s) e ds h ⟨⟩:=by
 simp only [cA,iT,j9,o7,Bool.false_eq_true,if_false,eB,if_true,HG,xFn,rFn,dp,ju]
 generalize ev e f=v
 cases v<;>try rfl
theorem Ud (f a c args):rFn P F (.func (.func f) ⟨a⟩ ⟨c⟩) args dd s e ds h ⟨⟩=dp P F f (a++args++c) dd s e ds h ⟨⟩:=(rfl)
def om (P:Program)(F:Fi)(t tx:TypeId)(x y:Value)(dd:Option Nat)(s:List Item)(e:dx)(ds:List Deferred)(h:Sh)(_k:Tok (F,s,e,ds,h)):Prop:=
 MO P t tx x y h fun v h'=>cA P F s (cI e dd v) ds h' ⟨⟩
theorem Ic (x y t tx):cA P F (.ops all (⟨dd,.call ⟨.builtin .append,⟨[x,y]⟩,⟨[t,tx]⟩⟩,ty,pos,af,none⟩::r)::s) e ds h ⟨⟩=om P F t tx (ev e x) (ev e y) dd (.ops all r::s) e ds h ⟨⟩:=(rfl)
theorem EW (t){N M L R}:cA P F (.ops all (⟨dd,.makeMap t none,ty,pos,af,none⟩::r)::s) e ds ⟨N,M,L,R⟩ ⟨⟩=∀ g,cA P F (.ops all r::s) (cI e dd (.map (some g))) ds ⟨N,M,L,(.map (some g),t,0,[])::R⟩ ⟨⟩:=(rfl)
def acZ (P:Program)(F:Fi)(K:Option IntKind)(m k x:Value)(dd:Option Nat)(s:List Item)(e:dx)(ds:List Deferred)(h:Sh)(_k:Tok (F,s,e,ds,h)):Prop:=
 YY K m k x h fun h'=>cA P F s (cI e dd undef) ds h' ⟨⟩
theorem Ii (t m k x):cA P F (.ops all (⟨dd,.insert t m k x,ty,pos,af,none⟩::r)::s) e ds h ⟨⟩=acZ P F (JJ P t) (ev e m) (ev e k) (ev e x) dd (.ops all r::s) e ds h ⟨⟩:=(rfl)
theorem O9 (K g n x t' xs){N M L R}:acZ P F (some K) (.map (some g)) (.int K n) x dd s e ds ⟨N,M,L,(.map (some g),t',0,xs)::R⟩ ⟨⟩=(lH K n xs=true/\cA P F s (cI e dd undef) ds ⟨N,M,L,(.map (some g),t',0,xs++[.int K n,x])::R⟩ ⟨⟩):=by
 simp only [acZ,YY,true_and]
def Ue (P:Program)(F:Fi)(K:Option IntKind)(m k:Value)(dd:Option Nat)(s:List Item)(e:dx)(ds:List Deferred)(h:Sh)(_k:Tok (F,s,e,ds,h)):Prop:=
 MS K m k h fun v=>cA P F s (cI e dd v) ds h ⟨⟩
theorem Ij (t m k):cA P F (.ops all (⟨dd,.lookup t m k false,ty,pos,af,none⟩::r)::s) e ds h ⟨⟩=Ue P F (JJ P t) (ev e m) (ev e k) dd (.ops all r::s) e ds h ⟨⟩:=(rfl)
theorem J6 (K g n t' xs){N M L R}:Ue P F (some K) (.map (some g)) (.int K n) dd s e ds ⟨N,M,L,(.map (some g),t',0,xs)::R⟩ ⟨⟩=jn P F (uy K n xs) dd s e ds ⟨N,M,L,(.map (some g),t',0,xs)::R⟩ ⟨⟩:=by
 simp only [Ue,MS,true_and,and_self]
 cases uy K n xs<;>rfl
theorem Wn (x y tys):cA P F (.ops all (⟨dd,.call ⟨.builtin .min,⟨[x,y]⟩,tys⟩,ty,pos,af,none⟩::r)::s) e ds h ⟨⟩=jn P F (HF (ev e x) (ev e y)) dd (.ops all r::s) e ds h ⟨⟩:=by
 show ea (HF (ev e x) (ev e y)) _=_
 unfold jn
 cases HF (ev e x) (ev e y)<;>rfl
theorem Vg (k a b):HF (.int k a) (.int k b)=some (.int k (if b<a then b else a)):=by simp [HF]
theorem To (a t):mq (.call ⟨.builtin .min,a,t⟩)=false:=(rfl)
theorem E0 (K n):lH K n []=true:=(rfl)
theorem Dl (K n a v r):lH K n (.int K a::v::r)=(!decide (a=n) && lH K n r):=by simp [lH]
theorem JK (K n a v r):uy K n (.int K a::v::r)=if a=n then some v else uy K n r:=by simp [uy]
theorem Wm (x y tys):cA P F (.ops all (⟨dd,.call ⟨.builtin .max,⟨[x,y]⟩,tys⟩,ty,pos,af,none⟩::r)::s) e ds h ⟨⟩=jn P F (HE (ev e x) (ev e y)) dd (.ops all r::s) e ds h ⟨⟩:=by
 show ea (HE (ev e x) (ev e y)) _=_
 unfold ea jn
 cases HE (ev e x) (ev e y)<;>rfl
theorem Vf (k a b):HE (.int k a) (.int k b)=some (.int k (if b>a then b else a)):=by simp [HE]
theorem Tn (a t):mq (.call ⟨.builtin .max,a,t⟩)=false:=(rfl)
def rMk (P:Program)(F:Fi)(o:Option (TypeId×Nat×List Value))(ok:Bool)(l c:Value)(dd:Option Nat)(s:List Item)(e:dx)(ds:List Deferred)(h:Sh)(_k:Tok (F,s,e,ds,h)):Prop:=
 ea o fun (_,_,z)=>ok=true/\xMk l c fun n=>n<=4294967296/\HM ((List.range n).flatMap fun _=>z) h fun b h'=>cA P F s (cI e dd (.slice (some ⟨b,0,none⟩) n n)) ds h' ⟨⟩
theorem aaC (t l c):cA P F (.ops all (⟨dd,.makeSlice t l c,ty,pos,af,none⟩::r)::s) e ds h ⟨⟩=rMk P F (dY P t) (kz P t) (ev e l) (ev e c) dd (.ops all r::s) e ds h ⟨⟩:=(rfl)
theorem Al (el sz z k k')(n:Nat){N M L R}:rMk P F (some (el,sz,z)) true (.int k n) (.int k' n) dd s e ds ⟨N,M,L,R⟩ ⟨⟩=(n<=4294967296/\∀ b,M b=none ->bf b L ->cA P F s (cI e dd (.slice (some ⟨b,0,none⟩) n n)) ds ⟨N,M,(b,(List.range n).flatMap fun _=>z)::L,R⟩ ⟨⟩):=by
 simp only [rMk,ea,xMk,HM,Int.toNat_natCast,true_and,Int.natCast_nonneg]
def J4 (P:Program)(F:Fi)(v:Value)(args:Array Value)(dd:Option Nat)(s:List Item)(e:dx)(ds:List Deferred)(h:Sh)(_k:Tok (F,s,e,ds,h)):Prop:=
 match v with
 | .func fn first captured=>cA P F s (cI e dd undef) ({target:=.fn fn captured,args:=first++args}::ds) h ⟨⟩
 | _=>False
theorem Nf (f args tys):cA P F (.ops all (⟨dd,.defer ⟨.value f,args,tys⟩,ty,pos,af,none⟩::r)::s) e ds h ⟨⟩=J4 P F (ev e f) (args.map (ev e)) dd (.ops all r::s) e ds h ⟨⟩:=by
 simp only [cA,iT,j9,o7,Bool.false_eq_true,if_false,eB,if_true,HG,J4]
 generalize ev e f=v
 cases v<;>rfl
theorem GZ (fn a c args):J4 P F (.func fn a c) args dd s e ds h ⟨⟩=cA P F s (cI e dd undef) ({target:=.fn fn c,args:=a++args}::ds) h ⟨⟩:=(rfl)
theorem Nj (x):cA P F (.ops all (⟨dd,.panic x,ty,pos,af,none⟩::r)::s) e ds h ⟨⟩=(MD (ev e x)=true/\F.pan [{v:=ev e x,recovered:=false}] e ds h):=by
 simp only [cA,iT,j9,o7,Bool.false_eq_true,if_false,eB,if_true,HG,ju]
def G1 (P:Program)(F:Fi)(b:Code)(s:List Item)(e:dx)(ds:List Deferred)(h:Sh)(_k:Tok (F,b,s,e,ds,h)):Prop:=
 ∃ (I:Nat ->dx ->List Deferred ->Sh ->Prop),(cq h fun h=>∃ m,I m e ds h)/\∀ m e ds h,I m e ds h ->cA P F (.code b:: .lp I m::s) e ds h ⟨⟩
theorem Qy (b):cA P F (.code (.loop b)::s) e ds h ⟨⟩=G1 P F b s e ds h ⟨⟩:=(rfl)
theorem eL (I m):cA P F (.lp I m::s) e ds h ⟨⟩=cq h fun h=>∃ m',m'<m/\I m' e ds h:=(rfl)
theorem Kq (t a b):HH (.bool t) a b=some (if t=true then a else b):=(rfl)
theorem Vj (a):Vi (.pointer (some a))=some (.pointer (some a)):=(rfl)
theorem Kp (k b i):wg (some k) (.pointer (some ⟨b,i,none⟩))=some (.pointer (some ⟨b,i+k,none⟩)):=by simp [wg,Addr.add_lit]
theorem PG (t):Vk (.bool t)=some (.bool !t):=(rfl)
theorem Vh (k n):YR (.int k n)=some (.int k (k.wrap (0 - n))):=(rfl)
theorem Vb (l i):PB (.tuple ⟨l⟩) i=l[i]?:=by simp [PB]
theorem Ve (sl x):PD true sl (.string x)=some (.int .i64 x.size):=(rfl)
theorem YQ (a n c):PD false true (.slice a n c)=some (.int .i64 n):=(rfl)
theorem Ko (P:Program)(h:Sh)(a b k n):vZ P h a b (.int k n)=HB (cvT P a b) (.int k n):=(rfl)
theorem PA (k j n):HB (some k) (.int j n)=some (.int k (k.wrap n)):=(rfl)
theorem HC (t v):Es true t v=some (.iface t v):=(rfl)
theorem PF (n z a):qD h (some (false,n,z)) (.pointer (some a))=h.cell a:=(rfl)
theorem PE (n z a):qD h (some (true,n,z)) (.pointer (some a))=(h.cells a 0 n).map fun cs=> .agg cs.toArray:=(rfl)
theorem Vd (sz b i n c k x):PC (some sz) (.slice (some ⟨b,i,none⟩) n c) (.int k x)=if 0<=x/\x<n then some (.pointer (some ⟨b,i+x.toNat*sz,none⟩)) else none:=by simp [PC,Addr.add_lit]
theorem YL (x k n):vAt true (.string x) (.int k n)=if 0<=n/\n<x.size then some (.int .u8 (sE x n.toNat).toNat) else none:=(rfl)
theorem Pv (op t k a b):iX P op t (.int k a) (.int k b)=match fx op k a b with | some v=>some v | none=>CU op k a b:=by
 simp only [iX,Hy,Hz,if_true]
 cases fx op k a b<;>rfl
theorem QX (k a b):fx .shr k a b=none:=(rfl)
theorem Pz (k a b):CU .shr k a b=if 0<=b then some (.int k (a.fdiv (2 ^ (min b.toNat k.bits)))) else none:=(rfl)
theorem QO (k a b):fx .add k a b=some (.int k (k.wrap (a+b))):=(rfl)
theorem QY (k a b):fx .sub k a b=some (.int k (k.wrap (a - b))):=(rfl)
theorem QU (k a b):fx .mul k a b=some (.int k (k.wrap (a*b))):=(rfl)
theorem QP (k a b):fx .eql k a b=some (.bool (decide (a=b))):=(rfl)
theorem QV (k a b):fx .neq k a b=some (.bool (!decide (a=b))):=(rfl)
theorem QT (k a b):fx .lss k a b=some (.bool (decide (a<b))):=(rfl)
theorem QS (k a b):fx .leq k a b=some (.bool (decide (a<=b))):=(rfl)
theorem QR (k a b):fx .gtr k a b=some (.bool (decide (a>b))):=(rfl)
theorem QQ (k a b):fx .geq k a b=some (.bool (decide (a>=b))):=(rfl)
theorem QW (k a b):fx .quo k a b=none:=(rfl)
theorem Pt (t a b):iX P .eql t (.string a) (.string b)=some (.bool (decide (a=b))):=(rfl)
theorem Py (t a b):iX P .neq t (.string a) (.string b)=some (.bool (!decide (a=b))):=(rfl)
theorem Pr (t a b):iX P .add t (.string a) (.string b)=if a.size+b.size<=9223372036854775807 then some (.string (a++b)) else none:=(rfl)
theorem Px (t a b):iX P .neq t (.bool a) (.bool b)=if uv P t=true then some (.bool (!(a==b))) else none:=(rfl)
theorem aa5 (t):ev e (.tmp t)=e t:=(rfl)
theorem Sd (v):ev e (.const v)=v:=(rfl)
theorem Xc (f):ev e (.func f)=.func (.func f) #[] #[]:=(rfl)
theorem FH:lJ e []=[]:=(rfl)
theorem DG (i x r):lJ e ((i,x)::r)=(i,(ev e x).cells.toList)::lJ e r:=(rfl)
theorem Pq (v):cI e none v=e:=(rfl)
theorem PI (ops:List Oper):eB ops e none=true:=(rfl)
def isB (v:Value)(b:Bool):Bool:=match v with | .bool c=>c==b | _=>false
theorem Th (c b):isB (.bool c) b=(c==b):=(rfl)
theorem OJ (b):isB undef b=false:=(rfl)
theorem X3 (c:Prop)[Decidable c](x y:Value)(b):isB (if c then x else y) b=if c then isB x b else isB y b:=by split<;>rfl
theorem PJ (ops:List Oper)(j b):eB ops e (some (j,b))=match (ops[j]?).bind (·.dst) with
 | some t=>isB (e t) b
 | none=>false:=(rfl)
end
theorem WA (N M L R a):Sh.cell ⟨N,M,L,R⟩ a=match aN M a with | some v=>some v | none=>(eE L a).getD none:=(rfl)
theorem Ix (h:Sh)(a i):h.cells a i 0=some []:=(rfl)
theorem sF (h:Sh)(b o i n):h.cells ⟨b,o,none⟩ i (n+1)=pR (h.cell ⟨b,o+i,none⟩) (h.cells ⟨b,o,none⟩ (i+1) n):=by simp [Sh.cells,Addr.add_lit]
theorem IC (v l):pR (some v) (some l)=some (v::l):=(rfl)
theorem JE (b cs l k o):eE ((b,cs)::l) ⟨k,o,none⟩=if k=b then some cs[o]? else eE l ⟨k,o,none⟩:=(rfl)
def bm (M M':aR):Prop:=∀ b cs,M b=some cs ->M' b=some cs
def bm.rfl' {M:aR}:bm M M:=fun _ _ h=>h
theorem bm.trans {M M' M'':aR}(h:bm M M')(h':bm M' M''):bm M M'':=fun b cs hb=>h' b cs (h b cs hb)
def bm.add {M:aR}{b cs}(h:M b=none):bm M (M.add b cs):=by
 intro k x hk
 unfold aR.add
 rw [if_neg]
 ·exact hk
 ·rintro rfl;rw [h] at hk;cases hk
def aV (L:List (Nat×List Value)):List Nat:=L.map (·.1)
def aJ (M:aR):List (Nat×List Value) ->Prop
 | []=>True
 | (b,_)::l=>M b=none/\aJ M l
def iB:List (Nat×List Value) ->Prop
 | []=>True
 | (b,_)::l=>bf b l/\iB l
theorem iu {M:aR}:∀ {L:List (Nat×List Value)},(∀ b∈aV L,M b=none) ->aJ M L
 | [],_=>trivial
 | (b,_)::l,h=>⟨h b (by simp [aV]),iu fun k hk=>h k (by simp only [aV,List.map_cons,List.mem_cons];exact .inr hk)⟩
theorem nN:∀ {L:List (Nat×List Value)},(aV L).Nodup ->iB L
 | [],_=>trivial
 | (b,_)::l,h=>by
  simp only [aV,List.map_cons,List.nodup_cons] at h
  exact ⟨jb h.1,nN h.2⟩
theorem ri {M:aR}:∀ {L:List (Nat×List Value)},aJ M L ->∀ b∈aV L,M b=none
 | [],_,b,hb=>by simp [aV] at hb
 | (k,_)::l,h,b,hb=>by
  simp only [aV,List.map_cons,List.mem_cons] at hb
  rcases hb with rfl | hb
  ·exact h.1
  ·exact ri h.2 b hb
abbrev LL:=List (Nat×List Value)
abbrev RR:=List (Value×TypeId×Nat×List Value)
def Qa (w:World)(U:List Nat)(T:Tm)(M:aR)(L:LL)(R:RR):Prop:=∃ bs,U=aV L++bs.filterMap id/\Hp ⟨w,M,U⟩ ⟨T,M,L,R⟩ w bs
def AU (w:World)(U:List Nat)(T:Tm)(M:aR)(ks:List Nat)(n:Nat)(M':aR)(L':LL)(R':RR)(w':World):Prop:=
 Is ⟨w,M,U⟩ ⟨T,M',L',R'⟩ w'/\aV L'=ks/\R'.length=n
abbrev ep:=Value ->aR ->LL ->RR ->Prop
abbrev mC:=List PanicEntry ->aR ->LL ->RR ->Prop
def aM:mC:=fun _ _ _ _=>False
def PO (U:List Nat)(T:Tm)(M:aR)(ks:List Nat)(n:Nat)(post:ep)(pan:mC)(w:World):Ending ->World ->Prop
 | .returned v,w'=>∃ M' L' R',AU w U T M ks n M' L' R' w'/\post v M' L' R'
 | .panicked ch,w'=>∃ M' L' R',AU w U T M ks n M' L' R' w'/\pan ch M' L' R'
 | .outgrown,_=>False
def bU (P:Program)(f:FuncId)(args:List Value)(T:Tm)(M:aR)(L:LL)(R:RR)(post:ep)(pan:mC):Prop:=
 du P f=true/\∀ w U,Qa w U T M L R ->Calls P f args.toArray w (PO U T M (aV L) R.length post pan w)
def Ct (P:Program)(f:FuncId)(args:List Value)(M:aR)(L:LL)(R:RR)(post:ep)(pan:mC):Prop:=∀ T,bU P f args T M L R post pan
def CtD (P:Program)(f:FuncId)(args:List Value)(T:Tm)(M:aR)(L:LL)(R:RR)(post:ep)(pan:mC):Prop:=
 du P f=true/\∀ u w U,Qa w U T M L R ->CallsD P f args.toArray u w fun e u' w'=>u'=u/\PO U T M (aV L) R.length post pan w e w'
def AU.ext {w U T M ks n M' L' R' w'}(h:AU w U T M ks n M' L' R' w'):bm M M':=by
 obtain ⟨⟨_,hi⟩,_⟩:=h
 exact fun b cs hb=>hi.le b cs hb
def bU.mono {P f args T M L R post pan}{post':ep}{pan':mC}(h:bU P f args T M L R post pan)(hp:∀ v M' L' R',bm M M' ->aV L'=aV L ->R'.length=R.length ->post v M' L' R' ->post' v M' L' R')
 (hq:∀ ch M' L' R',bm M M' ->aV L'=aV L ->R'.length=R.length ->pan ch M' L' R' ->pan' ch M' L' R'):bU P f args T M L R post' pan':=by
 refine ⟨h.1,fun w U hw=>Calls.mono (h.2 w U hw) ?_⟩
 intro e w' hr
 cases e with
 | returned v=>obtain ⟨M',L',R',mJ,XP⟩:=hr;exact ⟨M',L',R',mJ,hp v M' L' R' mJ.ext mJ.2.1 mJ.2.2 XP⟩
 | panicked ch=>obtain ⟨M',L',R',mJ,XP⟩:=hr;exact ⟨M',L',R',mJ,hq ch M' L' R' mJ.ext mJ.2.1 mJ.2.2 XP⟩
 | outgrown=>exact hr.elim
theorem wO (L L':LL):aV (L++L')=aV L++aV L':=by simp [aV]
def UH {α β:Type}{A B C:List α}{bs:List β}(h:(A++B++C).length=bs.length):∃ b1 b2 b3,bs=b1++b2++b3/\b1.length=A.length/\b2.length=B.length/\b3.length=C.length:=by
 simp only [List.length_append] at h
 refine ⟨bs.take A.length,(bs.drop A.length).take B.length,(bs.drop A.length).drop B.length,?_,?_,?_,?_⟩
 ·rw [List.append_assoc,List.take_append_drop,List.take_append_drop]
 ·rw [List.length_take];omega
 ·rw [List.length_take,List.length_drop];omega
 ·rw [List.length_drop,List.length_drop];omega
def Hp.enter {c N M L1 Lp L2 R1 Rp R2 w b1 bp b2}(hi:Hp c ⟨N,M,L1++Lp++L2,R1++Rp++R2⟩ w (b1++bp++b2))(h1:b1.length=R1.length)(hp:bp.length=Rp.length):
 Hp ⟨w,M,aV Lp++bp.filterMap id⟩ ⟨N,M,Lp,Rp⟩ w bp:=by
 have pr:∀ b,b∈aV Lp++bp.filterMap id ->b∈(L1++Lp++L2).map (·.1)++(b1++bp++b2).filterMap id:=by
  intro b hb
  simp only [aV,List.map_append,List.filterMap_append,List.mem_append] at hb ⊢
  rcases hb with hb | hb
  ·exact .inl (.inl (.inr hb))
  ·exact .inr (.inl (.inr hb))
 exact
 {typ:=fun b t hu=>⟨(hi.typ b t hu).1,fun hb=>(hi.typ b t hu).2 (by simp only [List.map_append,List.mem_append];exact .inl (.inr hb))⟩
  holds:=hi.holds
  blk:=fun b cs hb=>hi.blk b cs (by simp only [List.mem_append];exact .inl (.inr hb))
  rows:=⟨hp.symm,fun i v e sz xs o h2 h3=>hi.rows.2 (R1.length+i) v e sz xs o
   (by
    have aL:=(List.getElem?_eq_some_iff.1 h2).1
    show (R1++Rp++R2)[R1.length+i]?=_
    rw [List.append_assoc,List.getElem?_append_right (by omega),List.getElem?_append_left (by show _<Rp.length;simp only at aL;omega)]
    rw [<- h2];congr 1;omega)
   (by
    have aL:=(List.getElem?_eq_some_iff.1 h3).1
    rw [List.append_assoc,List.getElem?_append_right (by omega),List.getElem?_append_left (by omega)]
    rw [<- h3];congr 1;omega)⟩
  nodup:=by
   have:=hi.nodup
   simp only [List.map_append,List.filterMap_append] at this
   rw [List.nodup_append] at this ⊢
   obtain ⟨n1,n2,n3⟩:=this
   refine ⟨(List.nodup_append.1 (List.nodup_append.1 n1).1).2.1,(List.nodup_append.1 (List.nodup_append.1 n2).1).2.1,?_⟩
   intro a ha b hb
   exact n3 a (by simp only [List.mem_append];exact .inl (.inr ha)) b (by simp only [List.mem_append];exact .inl (.inr hb))
  apart:=fun b hb=>⟨(hi.apart b (pr b hb)).1,.inl hb⟩
  os:=rfl
  tape:=rfl
  output:=rfl
  size:=Nat.le_refl _
  old:=fun _ _ _=>rfl
  mem:=fun _ _ _=>rfl
  le:=fun _ _ h=>h}
def Hp.frameN {c N M L1 Lp L2 R1 Rp R2 w b1 bp b2 M' Lp' Rp' bp' w'}(hi:Hp c ⟨N,M,L1++Lp++L2,R1++Rp++R2⟩ w (b1++bp++b2))(h1:b1.length=R1.length)(hp:bp.length=Rp.length)(_h2:b2.length=R2.length)
 (hc:Hp ⟨w,M,aV Lp++bp.filterMap id⟩ ⟨N,M',Lp',Rp'⟩ w' bp') (hk:aV Lp'=aV Lp):
 Hp c ⟨N,M',L1++Lp'++L2,R1++Rp'++R2⟩ w' (b1++bp'++b2):=by
 have afq:bp'.length=Rp'.length:=hc.rows.1.symm
 have Oy:Lp'.map (·.1)=Lp.map (·.1):=hk
 have jo:=hi.nodup
 simp only [List.map_append,List.filterMap_append] at jo
 have vF:=List.nodup_append.1 jo
 have aeZ:=List.nodup_append.1 vF.1
 have ajW:=List.nodup_append.1 aeZ.1
 have Xk:=List.nodup_append.1 vF.2.1
 have aeU:=List.nodup_append.1 Xk.1
 have lt:∀ b,b∈(L1++Lp++L2).map (·.1)++(b1++bp++b2).filterMap id ->b<w.heap.size:=fun b hb=>hi.own_lt hb
 have oth:∀ b,b<w.heap.size ->b∉aV Lp++bp.filterMap id ->w'.heap[b]?=w.heap[b]?:=hc.old
 -- the four groups that are not lent
 have apL1:∀ b,b∈L1.map (·.1) ->b∉aV Lp++bp.filterMap id:=by
  intro b hb hn
  simp only [aV,List.mem_append] at hn
  rcases hn with hn | hn
  ·exact ajW.2.2 b hb b hn rfl
  ·exact vF.2.2 b (by simp only [List.mem_append];exact .inl (.inl hb)) b (by simp only [List.mem_append];exact .inl (.inr hn)) rfl
 have apL2:∀ b,b∈L2.map (·.1) ->b∉aV Lp++bp.filterMap id:=by
  intro b hb hn
  simp only [aV,List.mem_append] at hn
  rcases hn with hn | hn
  ·exact aeZ.2.2 b (by simp only [List.mem_append];exact .inr hn) b hb rfl
  ·exact vF.2.2 b (by simp only [List.mem_append];exact .inr hb) b (by simp only [List.mem_append];exact .inl (.inr hn)) rfl
 have apB1:∀ b,b∈b1.filterMap id ->b∉aV Lp++bp.filterMap id:=by
  intro b hb hn
  simp only [aV,List.mem_append] at hn
  rcases hn with hn | hn
  ·exact vF.2.2 b (by simp only [List.mem_append];exact .inl (.inr hn)) b (by simp only [List.mem_append];exact .inl (.inl hb)) rfl
  ·exact aeU.2.2 b hb b hn rfl
 have apB2:∀ b,b∈b2.filterMap id ->b∉aV Lp++bp.filterMap id:=by
  intro b hb hn
  simp only [aV,List.mem_append] at hn
  rcases hn with hn | hn
  ·exact vF.2.2 b (by simp only [List.mem_append];exact .inl (.inr hn)) b (by simp only [List.mem_append];exact .inr hb) rfl
  ·exact Xk.2.2 b (by simp only [List.mem_append];exact .inr hn) b hb rfl
 have inL1:∀ b,b∈L1.map (·.1) ->b∈(L1++Lp++L2).map (·.1)++(b1++bp++b2).filterMap id:=fun b hb=>by
  simp only [List.map_append,List.mem_append];exact .inl (.inl (.inl hb))
 have inL2:∀ b,b∈L2.map (·.1) ->b∈(L1++Lp++L2).map (·.1)++(b1++bp++b2).filterMap id:=fun b hb=>by
  simp only [List.map_append,List.mem_append];exact .inl (.inr hb)
 have inB1:∀ b,b∈b1.filterMap id ->b∈(L1++Lp++L2).map (·.1)++(b1++bp++b2).filterMap id:=fun b hb=>by
  simp only [List.filterMap_append,List.mem_append];exact .inr (.inl (.inl hb))
 have inB2:∀ b,b∈b2.filterMap id ->b∈(L1++Lp++L2).map (·.1)++(b1++bp++b2).filterMap id:=fun b hb=>by
  simp only [List.filterMap_append,List.mem_append];exact .inr (.inr hb)
 have inU:∀ b,b∈aV Lp++bp.filterMap id ->b∈(L1++Lp++L2).map (·.1)++(b1++bp++b2).filterMap id:=fun b hb=>by
  simp only [aV,List.mem_append] at hb
  simp only [List.map_append,List.filterMap_append,List.mem_append]
  rcases hb with hb | hb
  ·exact .inl (.inl (.inr hb))
  ·exact .inr (.inl (.inr hb))
 -- a block of the callee's is lent,or new
 have own':∀ b,b∈aV Lp'++bp'.filterMap id ->M' b=none/\(b∈aV Lp++bp.filterMap id\/w.heap.size<=b):=fun b hb=>hc.apart b hb
 have keepM:∀ b,b∈(L1++Lp++L2).map (·.1)++(b1++bp++b2).filterMap id ->b∉aV Lp++bp.filterMap id ->M' b=none:=fun b hb hn=>
  (hc.mem b (lt b hb) hn).trans (hi.apart b hb).1
 have far:∀ a,a∈(L1++Lp++L2).map (·.1)++(b1++bp++b2).filterMap id ->a∉aV Lp++bp.filterMap id ->∀ b,b∈aV Lp'++bp'.filterMap id ->a≠b:=by
  rintro a ha hn b hb rfl
  rcases (own' a hb).2 with h | h
  ·exact hn h
  ·have:=lt a ha;omega
 exact
 {typ:=fun b t hu=>by
   obtain ⟨aL,EA⟩:=hi.typ b t hu
   refine ⟨Nat.lt_of_lt_of_le aL hc.size,fun hb=> ?_⟩
   have hb:b∈(L1++Lp'++L2).map (·.1):=hb
   have keep:b∉aV Lp++bp.filterMap id ->(∃ cs f,w.heap[b]?=some (.cells cs t f)) ->∃ cs f,w'.heap[b]?=some (.cells cs t f):=by
    rintro hn ⟨cs,f,h⟩
    exact ⟨cs,f,by rw [oth b (fL h) hn];exact h⟩
   simp only [List.map_append,List.mem_append] at hb EA
   rcases hb with (hb | hb) | hb
   ·exact keep (apL1 b hb) (EA (.inl (.inl hb)))
   ·exact (hc.typ b t hu).2 hb
   ·exact keep (apL2 b hb) (EA (.inr hb))
  holds:=hc.holds
  blk:=fun b cs hb=>by
   have keep:b∉aV Lp++bp.filterMap id ->VJ w b cs ->VJ w' b cs:=by
    intro hn dO
    have hl:=dO.lt
    obtain ⟨t,ht⟩:=dO
    exact ⟨t,by rw [oth b hl hn];exact ht⟩
   rcases xY hb with hb | hb
   ·rcases xY hb with hb | hb
    ·exact keep (apL1 b (List.mem_map.2 ⟨_,hb,rfl⟩)) (hi.blk b cs (by simp [hb]))
    ·exact hc.blk b cs hb
   ·exact keep (apL2 b (List.mem_map.2 ⟨_,hb,rfl⟩)) (hi.blk b cs (by simp [hb]))
  rows:=by
   refine ⟨by simp only [List.length_append,h1,afq,_h2],?_⟩
   intro i v e sz xs o h3 h4
   have h3:(R1++Rp'++R2)[i]?=some (v,e,sz,xs):=h3
   have keep:∀ (j:Nat),(R1++Rp++R2)[j]?=some (v,e,sz,xs) ->(b1++bp++b2)[j]?=some o ->(∀ g,o=some g ->g∉aV Lp++bp.filterMap id) ->ym w' v e sz xs o:=by
    intro j PZ hj2 hn
    refine (hi.rows.2 j v e sz xs o PZ hj2).keep fun g hg=> ?_
    subst hg
    exact oth g (lt g (uV (.inr (List.mem_filterMap.2 ⟨some g,List.mem_of_getElem? hj2,rfl⟩)))) (hn g rfl)
   rw [List.append_assoc] at h3 h4
   by_cases HW:i<R1.length
   ·rw [List.getElem?_append_left HW] at h3
    rw [List.getElem?_append_left (by omega)] at h4
    refine keep i (by rw [List.append_assoc,List.getElem?_append_left HW];exact h3) (by rw [List.append_assoc,List.getElem?_append_left (by omega)];exact h4) ?_
    rintro g rfl
    exact apB1 g (List.mem_filterMap.2 ⟨some g,List.mem_of_getElem? h4,rfl⟩)
   ·rw [List.getElem?_append_right (by omega)] at h3 h4
    rw [h1] at h4
    by_cases ku:i - R1.length<Rp'.length
    ·rw [List.getElem?_append_left ku] at h3
     rw [List.getElem?_append_left (by omega)] at h4
     exact hc.rows.2 _ v e sz xs o h3 h4
    ·rw [List.getElem?_append_right (by omega)] at h3 h4
     rw [afq] at h4
     refine keep (R1.length+(Rp.length+(i - R1.length - Rp'.length))) ?_ ?_ ?_
     ·rw [List.append_assoc,List.getElem?_append_right (by omega),List.getElem?_append_right (by omega),<- h3]
      congr 1;omega
     ·rw [List.append_assoc,List.getElem?_append_right (by omega),List.getElem?_append_right (by omega),<- h4]
      congr 1;omega
     ·rintro g rfl
      exact apB2 g (List.mem_filterMap.2 ⟨some g,List.mem_of_getElem? h4,rfl⟩)
  nodup:=by
   show ((L1++Lp'++L2).map (·.1)++(b1++bp'++b2).filterMap id).Nodup
   simp only [List.map_append,List.filterMap_append,Oy]
   have Zp:=List.nodup_append.1 hc.nodup
   simp only [Oy] at Zp
   rw [List.nodup_append]
   refine ⟨vF.1,?_,?_⟩
   ·rw [List.nodup_append,List.nodup_append]
    refine ⟨⟨aeU.1,Zp.2.1,?_⟩,Xk.2.1,?_⟩
    ·intro a ha b hb
     exact far a (inB1 a ha) (apB1 a ha) b (uV (.inr hb))
    ·intro a ha b hb
     rcases xY ha with ha | ha
     ·exact Xk.2.2 a (by simp [ha]) b hb
     ·exact Ne.symm (far b (inB2 b hb) (apB2 b hb) a (uV (.inr ha)))
   ·intro a ha b hb
    simp only [List.mem_append] at ha hb
    rcases hb with (hb | hb) | hb
    ·exact vF.2.2 a (by simp only [List.mem_append];exact ha) b (by simp only [List.mem_append];exact .inl (.inl hb))
    ·rcases ha with (ha | ha) | ha
     ·exact far a (inL1 a ha) (apL1 a ha) b (uV (.inr hb))
     ·exact Zp.2.2 a ha b hb
     ·exact far a (inL2 a ha) (apL2 a ha) b (uV (.inr hb))
    ·exact vF.2.2 a (by simp only [List.mem_append];exact ha) b (by simp only [List.mem_append];exact .inr hb)
  apart:=fun b hb=>by
   have hb:b∈(L1++Lp'++L2).map (·.1)++(b1++bp'++b2).filterMap id:=hb
   simp only [List.map_append,List.filterMap_append,List.mem_append] at hb
   have lent:b∈aV Lp'++bp'.filterMap id ->M' b=none/\(b∈c.U\/c.w0.heap.size<=b):=fun hb=>by
    refine ⟨(own' b hb).1,?_⟩
    rcases (own' b hb).2 with h | h
    ·exact (hi.apart b (inU b h)).2
    ·exact .inr (Nat.le_trans hi.size h)
   rcases hb with ((hb | hb) | hb) | ((hb | hb) | hb)
   ·exact ⟨keepM b (inL1 b hb) (apL1 b hb),(hi.apart b (inL1 b hb)).2⟩
   ·exact lent (uV (.inl hb))
   ·exact ⟨keepM b (inL2 b hb) (apL2 b hb),(hi.apart b (inL2 b hb)).2⟩
   ·exact ⟨keepM b (inB1 b hb) (apB1 b hb),(hi.apart b (inB1 b hb)).2⟩
   ·exact lent (uV (.inr hb))
   ·exact ⟨keepM b (inB2 b hb) (apB2 b hb),(hi.apart b (inB2 b hb)).2⟩
  os:=hc.os.trans hi.os
  tape:=hc.tape.trans hi.tape
  output:=hc.output.trans hi.output
  size:=Nat.le_trans hi.size hc.size
  old:=fun b hb hu=>by
   rw [oth b (Nat.lt_of_lt_of_le hb hi.size) ?_]
   ·exact hi.old b hb hu
   ·intro hn
    rcases (hi.apart b (inU b hn)).2 with h1 | h1
    ·exact hu h1
    ·omega
  mem:=fun b hb hu=>by
   refine (hc.mem b (Nat.lt_of_lt_of_le hb hi.size) ?_).trans (hi.mem b hb hu)
   intro hn
   rcases (hi.apart b (inU b hn)).2 with h1 | h1
   ·exact hu h1
   ·omega
  le:=fun b x hx=>hc.le b x (hi.le b x hx)}
theorem Hp.frame {c N M L1 Lp L2 R1 Rp R2 w b1 bp b2 M' Lp' Rp' bp' w'}(hi:Hp c ⟨N,M,L1++Lp++L2,R1++Rp++R2⟩ w (b1++bp++b2))(h1:b1.length=R1.length)(hp:bp.length=Rp.length)(h2:b2.length=R2.length)
 (hc:Hp ⟨w,M,aV Lp++bp.filterMap id⟩ ⟨N,M',Lp',Rp'⟩ w' bp') (hk:aV Lp'=aV Lp) (_hR:Rp'.length=Rp.length):
 Hp c ⟨N,M',L1++Lp'++L2,R1++Rp'++R2⟩ w' (b1++bp'++b2):=hi.frameN h1 hp h2 hc hk
def PN (P:Program)(f:FuncId)(args:List Value)(T:Tm)(M:aR)(L:LL)(R:RR)(n:Nat)(post:ep)(pan:mC):Prop:=
 du P f=true/\∀ w U,Qa w U T M L R ->Calls P f args.toArray w (PO U T M (aV L) n post pan w)
section
variable {P:Program} {F:Fi} {s:List Item} {e:dx} {ds:List Deferred} {dd:Option Nat} {N:Tm} {M:aR}
def gO {f:FuncId}{args:List Value}(L1 Lp L2:LL)(R1 Rp R2:RR){post:ep}{pan:mC}(hc:bU P f args N M Lp Rp post pan)
 (hn:∀ v M' L' R',bm M M' ->aV L'=aV Lp ->R'.length=Rp.length ->aJ M' (L1++L'++L2) ->post v M' L' R' ->cA P F s (cI e dd v) ds ⟨N,M',L1++L'++L2,R1++R'++R2⟩ ⟨⟩)
 (hp:∀ ch M' L' R',bm M M' ->aV L'=aV Lp ->R'.length=Rp.length ->aJ M' (L1++L'++L2) ->pan ch M' L' R' ->F.pan ch e ds ⟨N,M',L1++L'++L2,R1++R'++R2⟩):
 dp P F f args dd s e ds ⟨N,M,L1++Lp++L2,R1++Rp++R2⟩ ⟨⟩:=by
 refine ⟨hc.1,fun c w hw=> ?_⟩
 obtain ⟨bs,hi⟩:=hw
 obtain ⟨b1,bp,b2,rfl,h1,tA,h2⟩:=UH hi.rows.1
 refine Calls.mono (hc.2 w _ ⟨bp,rfl,hi.enter h1 tA⟩) ?_
 intro en w' hr
 have fr:∀ {M' L' R'},AU w (aV Lp++bp.filterMap id) N M (aV Lp) Rp.length M' L' R' w' ->∃ bs',Hp c ⟨N,M',L1++L'++L2,R1++R'++R2⟩ w' bs':=by
  intro M' L' R' hP
  obtain ⟨⟨bp',sT⟩,hk,hR⟩:=hP
  exact ⟨_,hi.frame h1 tA h2 sT hk hR⟩
 cases en with
 | returned v=>
  obtain ⟨M',L',R',hP,hq⟩:=hr
  obtain ⟨bs',nF⟩:=fr hP
  refine ⟨_,⟨bs',nF⟩,hn v M' L' R' hP.ext hP.2.1 hP.2.2 (iu fun b hb=>(nF.apart b (uV (.inl hb))).1) hq⟩
 | panicked ch=>
  obtain ⟨M',L',R',hP,hq⟩:=hr
  obtain ⟨bs',nF⟩:=fr hP
  refine ⟨_,⟨bs',nF⟩,hp ch M' L' R' hP.ext hP.2.1 hP.2.2 (iu fun b hb=>(nF.apart b (uV (.inl hb))).1) hq⟩
 | outgrown=>exact hr.elim
def O7 {f:FuncId}{args:List Value}{n:Nat}(L1 Lp L2:LL)(R1 Rp R2:RR){post:ep}{pan:mC}(hc:PN P f args N M Lp Rp n post pan)
 (hn:∀ v M' L' R',bm M M' ->aV L'=aV Lp ->R'.length=n ->aJ M' (L1++L'++L2) ->post v M' L' R' ->cA P F s (cI e dd v) ds ⟨N,M',L1++L'++L2,R1++R'++R2⟩ ⟨⟩)
 (hp:∀ ch M' L' R',bm M M' ->aV L'=aV Lp ->R'.length=n ->aJ M' (L1++L'++L2) ->pan ch M' L' R' ->F.pan ch e ds ⟨N,M',L1++L'++L2,R1++R'++R2⟩):
 dp P F f args dd s e ds ⟨N,M,L1++Lp++L2,R1++Rp++R2⟩ ⟨⟩:=by
 refine ⟨hc.1,fun c w hw=> ?_⟩
 obtain ⟨bs,hi⟩:=hw
 obtain ⟨b1,bp,b2,rfl,h1,tA,h2⟩:=UH hi.rows.1
 refine Calls.mono (hc.2 w _ ⟨bp,rfl,hi.enter h1 tA⟩) ?_
 intro en w' hr
 have fr:∀ {M' L' R'},AU w (aV Lp++bp.filterMap id) N M (aV Lp) n M' L' R' w' ->∃ bs',Hp c ⟨N,M',L1++L'++L2,R1++R'++R2⟩ w' bs':=by
  intro M' L' R' hP
  obtain ⟨⟨bp',sT⟩,hk,_⟩:=hP
  exact ⟨_,hi.frameN h1 tA h2 sT hk⟩
 cases en with
 | returned v=>
  obtain ⟨M',L',R',hP,hq⟩:=hr
  obtain ⟨bs',nF⟩:=fr hP
  refine ⟨_,⟨bs',nF⟩,hn v M' L' R' hP.ext hP.2.1 hP.2.2 (iu fun b hb=>(nF.apart b (uV (.inl hb))).1) hq⟩
 | panicked ch=>
  obtain ⟨M',L',R',hP,hq⟩:=hr
  obtain ⟨bs',nF⟩:=fr hP
  refine ⟨_,⟨bs',nF⟩,hp ch M' L' R' hP.ext hP.2.1 hP.2.2 (iu fun b hb=>(nF.apart b (uV (.inl hb))).1) hq⟩
 | outgrown=>exact hr.elim
def Aj {f:FuncId}{args:List Value}{L:LL}{R:RR}{post:ep}{pan:mC}(hc:PN P f args N M [] [] 1 post pan)
 (hn:∀ v M' row,bm M M' ->aJ M' L ->(∀ g n k,row.1=.slice (some ⟨g,0,none⟩) n k ->N g=none) ->post v M' [] [row] ->cA P F s (cI e dd v) ds ⟨N,M',L,row::R⟩ ⟨⟩)
 (hp:∀ ch M' row,bm M M' ->pan ch M' [] [row] ->F.pan ch e ds ⟨N,M',L,row::R⟩):dp P F f args dd s e ds ⟨N,M,L,R⟩ ⟨⟩:=by
 have nil:∀ {L':LL},aV L'=aV [] ->L'=[]:=fun h=>by simpa [aV] using h
 have one:∀ {R':RR},R'.length=1 ->∃ r,R'=[r]:=fun {R'} h=>by
  match R',h with
  | [r],_=>exact ⟨r,rfl⟩
 refine ⟨hc.1,fun c w hw=> ?_⟩
 obtain ⟨bs,hi⟩:=hw
 refine Calls.mono (hc.2 w _ ⟨[],rfl,Hp.enter (L1:=[]) (L2:=L) (R1:=[]) (R2:=R) (Lp:=[]) (Rp:=[]) (b1:=[]) (bp:=[]) (b2:=bs) hi rfl rfl⟩) ?_
 intro en w' hr
 have fr:∀ {M' L' R'},AU w (aV []++([]:List (Option Nat)).filterMap id) N M (aV []) 1 M' L' R' w' ->∃ row bs',L'=[]/\R'=[row]/\Hp c ⟨N,M',L,row::R⟩ w' bs'/\∀ g n k,row.1=.slice (some ⟨g,0,none⟩) n k ->N g=none:=by
  intro M' L' R' hP
  obtain ⟨⟨bp',sT⟩,hk,hR⟩:=hP
  obtain rfl:=nil hk
  obtain ⟨row,rfl⟩:=one hR
  refine ⟨row,_,rfl,rfl,Hp.frameN (L1:=[]) (L2:=L) (R1:=[]) (R2:=R) (Lp:=[]) (Rp:=[]) (b1:=[]) (bp:=[]) (b2:=bs) hi rfl rfl hi.rows.1.symm sT hk,?_⟩
  intro g n k hv
  obtain ⟨v,el,sz,xs⟩:=row
  simp only at hv
  subst hv
  obtain ⟨bu,bN⟩:=sT.rows
  cases bp' with
  | nil=>simp at bu
  | cons o bp'=>
   have hr:=bN 0 _ el sz xs o rfl rfl
   rcases hr with ⟨h,_⟩ | ⟨g',n',cap,junk,h,_,_,_,_,ho⟩ | ⟨_,_,_,_,h,_⟩ | ⟨_,_,_,_,h,_⟩
   ·cases h
   ·cases h
    subst ho
    have:=(sT.apart g (by simp)).2
    rcases this with h | h
    ·simp [aV] at h
    ·cases hN:N g with
     | none=>rfl
     | some u=>
      have:=(hi.typ g u hN).1
      exact absurd h (by show ¬ w.heap.size<=g;omega)
   ·cases h
   ·cases h
 cases en with
 | returned v=>
  obtain ⟨M',L',R',hP,hq⟩:=hr
  obtain ⟨row,bs',rfl,rfl,nF,hN⟩:=fr hP
  exact ⟨_,⟨bs',nF⟩,hn v M' row hP.ext (iu fun b hb=>(nF.apart b (uV (.inl hb))).1) hN hq⟩
 | panicked ch=>
  obtain ⟨M',L',R',hP,hq⟩:=hr
  obtain ⟨row,bs',rfl,rfl,nF,hN⟩:=fr hP
  exact ⟨_,⟨bs',nF⟩,hp ch M' row hP.ext hq⟩
 | outgrown=>exact hr.elim
def bX {f:FuncId}{args:List Value}{L:LL}{R:RR}{post:ep}{pan:mC}(hc:bU P f args N M [] [] post pan)
 (hn:∀ v M',bm M M' ->aJ M' L ->post v M' [] [] ->cA P F s (cI e dd v) ds ⟨N,M',L,R⟩ ⟨⟩)
 (hp:∀ ch M',bm M M' ->aJ M' L ->pan ch M' [] [] ->F.pan ch e ds ⟨N,M',L,R⟩):
 dp P F f args dd s e ds ⟨N,M,L,R⟩ ⟨⟩:=by
 have nil:∀ {L':LL},aV L'=aV [] ->L'=[]:=fun h=>by simpa [aV] using h
 have nilR:∀ {R':RR},R'.length=([]:RR).length ->R'=[]:=fun h=>by simpa using h
 have:=gO (P:=P) (F:=F) (s:=s) (e:=e) (ds:=ds) (dd:=dd) (N:=N) [] [] L [] [] R hc
  (fun v M' L' R' he hk hR bj hq=>by rw [nil hk] at bj hq ⊢;rw [nilR hR] at hq ⊢;exact hn v M' he bj hq)
  (fun ch M' L' R' he hk hR bj hq=>by rw [nil hk] at bj hq ⊢;rw [nilR hR] at hq ⊢;exact hp ch M' he bj hq)
 exact this
theorem aF {f:FuncId}{args:List Value}{L:LL}{R:RR}{post:ep}(hc:bU P f args N M [] [] post aM)
 (hn:∀ v M',bm M M' ->aJ M' L ->post v M' [] [] ->cA P F s (cI e dd v) ds ⟨N,M',L,R⟩ ⟨⟩):dp P F f args dd s e ds ⟨N,M,L,R⟩ ⟨⟩:=bX hc hn (fun _ _ _ _ h=>h.elim)
def cD {f:FuncId}{args:List Value}{h:Sh}{k:Sh ->Prop}(hk:cq h k)(hr:∀ h',k h' ->dp P F f args dd s e ds h' ⟨⟩)(hb:du P f=true):dp P F f args dd s e ds h ⟨⟩:=by
 refine ⟨hb,fun c w hw=> ?_⟩
 obtain ⟨h',gn,Oy⟩:=hk c w hw
 exact (hr h' Oy).2 c w gn
end
def mu (P:Program)(e:dx)(h:Sh):List ResultVar ->Option (List Value)
 | []=>some []
 | .tmp t::r=>pR (some (e t)) (mu P e h r)
 | .cell a t::r=>pR (qD h (tk P t) (e a)) (mu P e h r)
def uM:List Value ->Value
 | [v]=>v
 | vs=> .tuple vs.toArray
def vM (a:Array Value):ResultVar ->Sem Value
 | .tmp t=>pure (a.getD t undef)
 | .cell x t=>do loadVar t (<- asAddr (a.getD x undef))
theorem Ka (fn:Func)(a:Array Value):results fn a=(do
 let vs<- fn.results.mapM (vM a)
 pure (if h:vs.size=1 then vs[0] else .tuple vs)):=rfl
def Ha {P:Program}{c:Ctx}{h:Sh}{w:World}{t:TypeId}{x v:Value}(hw:Is c h w)(hv:qD h (tk P t) x=some v):
 (do loadVar t (<- asAddr x):Sem Value).run P w=.ok v w:=by
 obtain ⟨bs,hi⟩:=hw
 unfold qD at hv
 split at hv
 ·rename_i n z a uu
  obtain ⟨i,d,lO,hd,hz,hg,hn⟩:=mB uu
  simp only [asAddr,loadVar]
  simp [jO hd,hg,hi.cell hv]
 ·rename_i n z a uu
  obtain ⟨i,d,lO,hd,hz,hg,hn⟩:=mB uu
  obtain ⟨cs,gC,rfl⟩:=Option.map_eq_some_iff.1 hv
  obtain ⟨hl,hc⟩:=je _ _ _ (hi.cells _ _ _ gC)
  have:=run_loadCells_list (P:=P) (w:=w) a cs (fun j v hj=>by simpa using hc j v hj)
  rw [hl] at this
  simp only [asAddr,loadVar]
  simp [jO hd,hg,Go.sizeOf,typeInfo,lO,hn,this]
 ·cases hv
def GG {P:Program}{c:Ctx}{h:Sh}{w:World}(hw:Is c h w){e:dx}{a:Array Value}(ha:∀ t,a.getD t undef=e t):
 ∀ (l:List ResultVar) (vs:List Value),mu P e h l=some vs ->(l.mapM (vM a)).run P w=.ok vs w:=by
 have cons:∀ {o:Option Value} {p:Option (List Value)} {vs:List Value},pR o p=some vs ->∃ v l,o=some v/\p=some l/\vs=v::l:=by
  intro o p vs h
  unfold pR at h
  split at h
  ·rename_i v l;injection h with h;exact ⟨v,l,rfl,rfl,h.symm⟩
  ·cases h
 intro l
 induction l with
 | nil=>intro vs h;simp [mu] at h;subst h;simp
 | cons x r ih=>
  intro vs hr
  rw [List.mapM_cons]
  cases x with
  | cell x t=>
   obtain ⟨v,l,h1,h2,rfl⟩:=cons hr
   have hl:=Ha (P:=P) hw h1
   have:(vM a (.cell x t)).run P w=.ok v w:=by
    show (do loadVar t (<- asAddr (a.getD x undef)):Sem Value).run P w=_
    rw [ha];exact hl
   rw [Sem.run_bind,this]
   simp only [Result.andThen_ok,Sem.run_bind,ih l h2,Sem.run_pure]
  | tmp t=>
   obtain ⟨v,l,h1,h2,rfl⟩:=cons hr
   injection h1 with h1
   subst h1
   have:(vM a (.tmp t)).run P w=.ok (e t) w:=by simp only [vM,ha,Sem.run_pure]
   rw [Sem.run_bind,this]
   simp only [Result.andThen_ok,Sem.run_bind,ih l h2,Sem.run_pure]
def j8 {P:Program}{fn:Func}{c:Ctx}{h:Sh}{w:World}(hw:Is c h w){e:dx}{vs:List Value}(hr:mu P e h fn.results.toList=some vs){a:Array Value}(ha:∀ t,a.getD t undef=e t):
 (results fn a).run P w=.ok (uM vs) w:=by
 have h1:=GG (P:=P) hw ha _ _ hr
 have h2:(fn.results.mapM (vM a)).run P w=.ok vs.toArray w:=by
  rw [<- Array.toArray_toList (xs:=fn.results),List.mapM_toArray,<- bind_pure_comp,Sem.run_bind,h1]
  simp
 rw [Ka,Sem.run_bind,h2]
 rcases vs with _ | ⟨t,_ | ⟨u,ts⟩⟩<;>simp [uM]
def Yt (P:Program)(T:Tm)(rs:List ResultVar)(ks:List Nat)(n:Nat)(post:ep)(e:dx)(ds:List Deferred)(h:Sh):Prop:=
 ds=[]/\ea (mu P e h rs) fun vs=>cq h fun h'=>aG T h'.N/\aV h'.L=ks/\h'.R.length=n/\post (uM vs) h'.M h'.L h'.R
def TR (T:Tm)(ks:List Nat)(n:Nat)(pan:mC)(ch:List PanicEntry)(_:dx)(ds:List Deferred)(h:Sh):Prop:=
 ds=[]/\cq h fun h'=>aG T h'.N/\aV h'.L=ks/\h'.R.length=n/\pan ch h'.M h'.L h'.R
def fi (P:Program)(T:Tm)(dr:List (Nat×Sched))(ts:List ResultVar)(ks:List Nat)(n:Nat)(post:ep)(pan:mC):Fi:=⟨dr,Yt P T ts ks n post,TR T ks n pan⟩
def kF {T:Tm}{h':Sh}{w0 w:World}{U:List Nat}{M:aR}{ks:List Nat}{n:Nat}(hT:aG T h'.N)(hw:Is ⟨w0,M,U⟩ h' w)(hk:aV h'.L=ks)(hR:h'.R.length=n):AU w0 U T M ks n h'.M h'.L h'.R w:=by
 refine ⟨?_,hk,hR⟩
 obtain ⟨bs,hi⟩:=hw
 exact ⟨bs,hi.untype hT⟩
def Bw {P:Program}{fn:Func}{T:Tm}{dr ts ks k U M post pan}(hr:fn.results.toList=ts){w0:World}{ex:Exit}{a:Act}{w:World}{n:Nat}
 (hq:KontL.toQ ⟨w0,M,U⟩ n (fi P T dr ts ks k post pan).k ex a w):bodyPost P fn (PO U T M ks k post pan w0) ex a w:=by
 cases ex with
 | normal=>
  obtain ⟨e,ds,h,ha,hw,uS,cK⟩:=hq
  obtain ⟨vs,H1,cK⟩:=cJ cK
  obtain ⟨h',gn,hT,hk,hR,hp⟩:=cK _ _ hw
  subst uS hr
  exact ⟨ha.2.1,_,j8 hw H1 ha.2.2,h'.M,h'.L,h'.R,kF hT gn hk hR,hp⟩
 | ret=>
  obtain ⟨e,ds,h,ha,hw,uS,cK⟩:=hq
  obtain ⟨vs,H1,cK⟩:=cJ cK
  obtain ⟨h',gn,hT,hk,hR,hp⟩:=cK _ _ hw
  subst uS hr
  exact ⟨ha.2.1,_,j8 hw H1 ha.2.2,h'.M,h'.L,h'.R,kF hT gn hk hR,hp⟩
 | panic ch=>
  obtain ⟨e,ds,h,ha,hw,uS,cK⟩:=hq
  obtain ⟨h',gn,hT,hk,hR,hp⟩:=cK _ _ hw
  subst uS
  exact ⟨ha.2.1,h'.M,h'.L,h'.R,kF hT gn hk hR,hp⟩
 | exit id=>obtain ⟨_,_,_,_,_,h⟩:=hq;exact h.elim
 | goto l=>exact hq.elim
 | outgrown=>exact hq.elim
def Qa.facts {w U T M L R}(h:Qa w U T M L R):aJ M L/\iB L/\Is ⟨w,M,U⟩ ⟨T,M,L,R⟩ w:=by
 obtain ⟨bs,_,hi⟩:=h
 exact ⟨iu fun b hb=>(hi.apart b (uV (.inl hb))).1,nN (List.nodup_append.1 hi.nodup).1,bs,hi⟩
def YW {P:Program}{f:FuncId}{fn:Func}{c:Code}{args:List Value}{dr ts}{T:Tm}{M L R}{k:Nat}{post pan}(hm:P.follows .mixedOrders=true)
 (hn:args.length<=fn.ntmps) (hc:eu P fn.ntmps dr c=true) (hr:fn.results.toList=ts)
 (h:aJ M L ->iB L ->cA P (fi P T dr ts (aV L) k post pan) [.code c] (mE args) [] ⟨T,M,L,R⟩ ⟨⟩) (w:World) (U:List Nat) (hw:Qa w U T M L R):
 c.wp P (bodyPost P fn (PO U T M (aV L) k post pan w)) {tmps:=args.toArray++Array.replicate (fn.ntmps - args.toArray.size) undef,defers:=[]} w:=by
 obtain ⟨h1,h2,h3⟩:=hw.facts
 have:=jR (c₀:=⟨w,M,U⟩) hm c (fi P T dr ts (aV L) k post pan).k (mE args) [] ⟨T,M,L,R⟩ w _ hc (fr0 args.toArray fn.ntmps (by simpa using hn)) h3 (h h1 h2)
 exact wp_mono this fun ex a w' hq=>Bw hr hq
def Vs {P:Program}{f:FuncId}{fn:Func}{c:Code}{args:List Value}{dr ts}{T:Tm}{M L R post pan}(hm:P.follows .mixedOrders=true)
 (hn:args.length<=fn.ntmps) (hc:eu P fn.ntmps dr c=true) (hr:fn.results.toList=ts)
 (h:aJ M L ->iB L ->cA P (fi P T dr ts (aV L) R.length post pan) [.code c] (mE args) [] ⟨T,M,L,R⟩ ⟨⟩) (w:World) (U:List Nat) (hw:Qa w U T M L R):
 c.wp P (bodyPost P fn (PO U T M (aV L) R.length post pan w)) {tmps:=args.toArray++Array.replicate (fn.ntmps - args.toArray.size) undef,defers:=[]} w:=by
 obtain ⟨h1,h2,h3⟩:=hw.facts
 have:=jR (c₀:=⟨w,M,U⟩) hm c (fi P T dr ts (aV L) R.length post pan).k (mE args) [] ⟨T,M,L,R⟩ w _ hc (fr0 args.toArray fn.ntmps (by simpa using hn)) h3 (h h1 h2)
 exact wp_mono this fun ex a w' hq=>Bw hr hq
def IJ {P:Program}{f:FuncId}{fn:Func}{c:Code}{args:List Value}{dr ts}{T:Tm}{M L R post pan}(hm:P.follows .mixedOrders=true)(xS:du P f=true)
 (hf:P.funcs[f]?=some fn) (hb:fn.body=some c) (hn:args.length<=fn.ntmps) (hc:eu P fn.ntmps dr c=true) (hr:fn.results.toList=ts)
 (h:aJ M L ->iB L ->cA P (fi P T dr ts (aV L) R.length post pan) [.code c] (mE args) [] ⟨T,M,L,R⟩ ⟨⟩):bU P f args T M L R post pan:=
 ⟨xS,fun w U hw=>calls_of_wp hf hb (Vs (f:=f) hm hn hc hr h w U hw)⟩
def W5 {P:Program}{f:FuncId}{fn:Func}{c:Code}{args:List Value}{dr ts}{T:Tm}{M L R}{k:Nat}{post pan}(hm:P.follows .mixedOrders=true)(xS:du P f=true)
 (hf:P.funcs[f]?=some fn) (hb:fn.body=some c) (hn:args.length<=fn.ntmps) (hc:eu P fn.ntmps dr c=true) (hr:fn.results.toList=ts)
 (h:aJ M L ->iB L ->cA P (fi P T dr ts (aV L) k post pan) [.code c] (mE args) [] ⟨T,M,L,R⟩ ⟨⟩):PN P f args T M L R k post pan:=
 ⟨xS,fun w U hw=>calls_of_wp hf hb (YW (f:=f) hm hn hc hr h w U hw)⟩
def Xa {P:Program}{f:FuncId}{fn:Func}{c:Code}{args:List Value}{dr ts}{T:Tm}{M L R post pan}(hm:P.follows .mixedOrders=true)(xS:du P f=true)
 (hf:P.funcs[f]?=some fn) (hb:fn.body=some c) (hn:args.length<=fn.ntmps) (hc:eu P fn.ntmps dr c=true) (hr:fn.results.toList=ts)
 (h:aJ M L ->iB L ->cA P (fi P T dr ts (aV L) R.length post pan) [.code c] (mE args) [] ⟨T,M,L,R⟩ ⟨⟩):CtD P f args T M L R post pan:=
 ⟨xS,fun _u w U hw=>callsD_of_wp hf hb (Vs (f:=f) hm hn hc hr h w U hw)⟩
def aC {h:Sh}{k:Sh ->Prop}(hk:k h):cq h k:=fun _ _ hw=>⟨h,hw,hk⟩
theorem al {N M b cs L R}{k:Sh ->Prop}(hk:cq ⟨N,M,L,R⟩ k):cq ⟨N,M,(b,cs)::L,R⟩ k:=fun c w hw=>by
 obtain ⟨bs,hi⟩:=hw
 exact hk c w ⟨bs,hi.drop rfl⟩
def aU {N M b cs L R}{k:Sh ->Prop}(hk:bm M (M.add b cs) ->(M.add b cs) b=some cs ->aJ (M.add b cs) L ->cq ⟨N,M.add b cs,L,R⟩ k):cq ⟨N,M,(b,cs)::L,R⟩ k:=fun c w hw=>by
 obtain ⟨bs,hi⟩:=hw
 have hf:=hi.freeze (b:=b) (cs:=cs) (L:=L) rfl
 have bj:=(hi.apart b (by simp)).1
 exact hk (bm.add bj) (by simp [aR.add]) (iu fun k hk=>(hf.apart k (uV (.inl hk))).1) c w ⟨bs,hf⟩
theorem pE {h:Sh}{k k':Sh ->Prop}(hk:cq h k)(h2:∀ h',k h' ->cq h' k'):cq h k':=fun c w hw=>by
 obtain ⟨h',gn,Oy⟩:=hk c w hw
 exact h2 h' Oy c w gn
def dk {N M L L' R}{k:Sh ->Prop}(hp:L.Perm L')(hk:cq ⟨N,M,L',R⟩ k):cq ⟨N,M,L,R⟩ k:=fun c w hw=>by
 obtain ⟨bs,hi⟩:=hw
 exact hk c w ⟨bs,hi.perm hp⟩
def Hp.dropR {c N M L v e sz xs R w bs}(hi:Hp c ⟨N,M,L,(v,e,sz,xs)::R⟩ w bs):∃ bs',Hp c ⟨N,M,L,R⟩ w bs':=by
 obtain ⟨bu,bN⟩:=hi.rows
 cases bs with
 | nil=>simp at bu
 | cons o bs=>
  refine ⟨bs,?_⟩
  have iD:(bs.filterMap id).Sublist ((o::bs).filterMap id):=(List.sublist_cons_self o bs).filterMap id
  have pr:∀ b,b∈L.map (·.1)++bs.filterMap id ->b∈L.map (·.1)++(o::bs).filterMap id:=by
   intro b hb
   simp only [List.mem_append] at hb ⊢
   rcases hb with hb | hb
   ·exact .inl hb
   ·exact .inr (iD.subset hb)
  exact
  {typ:=hi.typ
   holds:=hi.holds
   blk:=hi.blk
   rows:=⟨by simpa using bu,fun i v e sz xs o h1 h2=>bN (i+1) v e sz xs o (by simpa using h1) (by simpa using h2)⟩
   nodup:=hi.nodup.sublist ((List.Sublist.refl _).append iD)
   apart:=fun b hb=>hi.apart b (pr b hb)
   os:=hi.os
   tape:=hi.tape
   output:=hi.output
   size:=hi.size
   old:=hi.old
   mem:=hi.mem
   le:=hi.le}
def mK {N M L r R}{k:Sh ->Prop}(hk:cq ⟨N,M,L,R⟩ k):cq ⟨N,M,L,r::R⟩ k:=fun c w hw=>by
 obtain ⟨v,e,sz,xs⟩:=r
 obtain ⟨bs,hi⟩:=hw
 obtain ⟨bs',DO⟩:=hi.dropR
 exact hk c w ⟨bs',DO⟩
def At (M:aR)(b o:Nat):List Value ->Prop
 | []=>True
 | v::l=>aN M ⟨b,o,none⟩=some v/\At M b (o+1) l
def Sl (M:aR)(v:Value)(sz:Nat)(xs:List Value):Prop:=
 (∃ a c,v=.slice a 0 c/\xs=[]/\(a=none ->c=0))\/∃ b o n c,v=.slice (some ⟨b,o,none⟩) n c/\n<=c/\xs.length=n*sz/\At M b o xs
def ay {M M':aR}(h:bm M M'){a v}(hc:aN M a=some v):aN M' a=some v:=by
 unfold aN at hc ⊢
 split at hc
 ·cases hc
 ·obtain ⟨cs,hb,hv⟩:=Option.bind_eq_some_iff.1 hc
  simp [*,h _ _ hb]
theorem At.ext {M M':aR}(h:bm M M'){b}:∀ {l o},At M b o l ->At M' b o l
 | [],_,_=>trivial
 | _::_,_,hc=>⟨ay h hc.1,At.ext h hc.2⟩
def Sl.ext {M M':aR}(h:bm M M'){v sz xs}(hs:Sl M v sz xs):Sl M' v sz xs:=by
 rcases hs with hs | ⟨b,o,n,c,h1,h2,h3,h4⟩
 ·exact .inl hs
 ·exact .inr ⟨b,o,n,c,h1,h2,h3,h4.ext h⟩
def jJ {M:aR}{b:Nat}{cs:List Value}(hb:M b=some cs):∀ (l:List Value) (o:Nat),(∀ i v,l[i]?=some v ->cs[o+i]?=some v) ->At M b o l:=by
 intro l
 induction l with
 | nil=>intro o _;trivial
 | cons v l ih=>
  intro o h
  refine ⟨?_,ih (o+1) fun i u hu=> ?_⟩
  ·have h0:=h 0 v rfl
   rw [Nat.add_zero] at h0
   simp [aN,hb,h0]
  ·have:=h (i+1) u (by simpa using hu)
   rw [<- this];congr 1;omega
theorem fF {M:aR}{b:Nat}:∀ {l l':List Value} {o:Nat},At M b o (l++l') ↔ At M b o l/\At M b (o+l.length) l'
 | [],l',o=>by simp [At]
 | v::l,l',o=>by
  simp only [List.cons_append,At,fF (l:=l),List.length_cons,and_assoc]
  rw [show o+1+l.length=o+(l.length+1) from by omega]
def Hp.freezeR {c N M L v e sz xs R w bs}(hi:Hp c ⟨N,M,L,(v,e,sz,xs)::R⟩ w bs)(ed:0<sz):
 ∃ M' bs',Hp c ⟨N,M',L,R⟩ w bs'/\bm M M'/\Sl M' v sz xs:=by
 obtain ⟨bu,bN⟩:=hi.rows
 cases bs with
 | nil=>simp at bu
 | cons o bs=>
  have hr:=bN 0 v e sz xs o rfl rfl
  rcases hr with ⟨rfl,rfl,rfl⟩ | ⟨g,n,cap,junk,rfl,hg,hn,hc,cX,rfl⟩ | ⟨h0,_⟩ | ⟨h0,_⟩
  ·obtain ⟨bs',h'⟩:=hi.dropR
   exact ⟨M,bs',h',bm.rfl',.inl ⟨none,0,rfl,rfl,fun _=>rfl⟩⟩
  ·-- the row's block is told as one of L,then frozen
   have jo:=hi.nodup
   rw [List.filterMap_cons] at jo
   simp only [id] at jo
   have HU:=(hi.apart g (by simp)).1
   have ml:(L.map (·.1)++g::bs.filterMap id).Perm (g::(L.map (·.1)++bs.filterMap id)):=List.perm_middle
   have XK:=ml.nodup_iff.1 jo
   have h2:Hp c ⟨fun _=>none,M,(g,xs++junk)::L,R⟩ w bs:=
   {typ:=fun b u hu=>by cases hu
    holds:=hi.holds
    blk:=fun b cs hb=>by
     rcases lQ hb with hb | hb
     ·injection hb with h1 h2;subst h1 h2;exact ⟨e,hg⟩
     ·exact hi.blk b cs hb
    rows:=⟨by simpa using bu,fun i v e sz xs o h1 h2=>bN (i+1) v e sz xs o (by simpa using h1) (by simpa using h2)⟩
    nodup:=by simpa using XK
    apart:=fun b hb=>hi.apart b (by
     simp only [List.map_cons,List.cons_append,List.mem_cons,List.mem_append] at hb
     simp only [List.filterMap_cons,id,List.mem_append,List.mem_cons]
     rcases hb with hb | hb | hb
     ·exact .inr (.inl hb)
     ·exact .inl hb
     ·exact .inr (.inr hb))
    os:=hi.os
    tape:=hi.tape
    output:=hi.output
    size:=hi.size
    old:=hi.old
    mem:=hi.mem
    le:=hi.le}
   have h3:=h2.freeze (b:=g) (cs:=xs++junk) (L:=L) rfl
   refine ⟨_,bs,h3.retyp hi.typ,bm.add HU,.inr ⟨g,0,n,cap,rfl,cX,hn,?_⟩⟩
   refine jJ (cs:=xs++junk) (by simp [aR.add]) xs 0 ?_
   intro i u hu
   rw [Nat.zero_add,List.getElem?_append_left (List.getElem?_eq_some_iff.1 hu).1];exact hu
  ·omega
  ·omega
def cP {N M L v e sz xs R}{k:Sh ->Prop}(hk:∀ M',bm M M' ->aJ M' L ->Sl M' v sz xs ->cq ⟨N,M',L,R⟩ k)(ed:0<sz:=by decide):cq ⟨N,M,L,(v,e,sz,xs)::R⟩ k:=fun c w hw=>by
 obtain ⟨bs,hi⟩:=hw
 obtain ⟨M',bs',h',he,hs⟩:=hi.freezeR ed
 exact hk M' he (iu fun b hb=>(h'.apart b (uV (.inl hb))).1) hs c w ⟨bs',h'⟩
theorem yf {N M L v e sz xs R}{k:Sh ->Prop}(ed:0<sz)(cm:0<xs.length)(nF:∀ g n k,v=.slice (some ⟨g,0,none⟩) n k ->N g=none)
 (hk:∀ g n cap junk,v=.slice (some ⟨g,0,none⟩) n cap ->M g=none ->bf g L ->n*sz=xs.length ->n<=cap ->(xs++junk).length=cap*sz ->cq ⟨N,M,(g,xs++junk)::L,R⟩ k):cq ⟨N,M,L,(v,e,sz,xs)::R⟩ k:=fun c w hw=>by
 obtain ⟨bs,hi⟩:=hw
 obtain ⟨g,n,cap,junk,bs',hv,HU,Ly,hn,cX,hc,_,hh⟩:=hi.unrow ed cm (fun g n k h=> .inl (nF g n k h))
 exact hk g n cap junk hv HU Ly hn cX hc c w ⟨bs',hh⟩
abbrev Bs:=List UInt8
def bs (l:Bs):ByteArray:=⟨l.toArray⟩
def st (l:Bs):Value:=.string (bs l)
theorem Do (l:Bs):(bs l).size=l.length:=by simp [bs,ByteArray.size]
def vi (a b:Bs):bs a++bs b=bs (a++b):=by
 apply ByteArray.ext
 simp [bs,ByteArray.data_append]
theorem Pw {P:Program}(t a b):iX P .lss t (.string (bs a)) (.string (bs b))=some (.bool (Op.bytesLess a b)):=by simp [iX,Hy,bs]
theorem Pu {P:Program}(t a b):iX P .gtr t (.string (bs a)) (.string (bs b))=some (.bool (!(Op.bytesLess a b || a==b))):=by simp [iX,Hy,Hz,bs]
theorem QK {a b:Bs}:bs a=bs b ↔ a=b:=by
 constructor
 ·intro h
  have:=congrArg (fun x=>x.data.toList) h
  simpa [bs] using this
 ·rintro rfl;rfl
def RL {α:Type}(r:α ->List Value ->Prop):List α ->List Value ->Prop
 | [],xs=>xs=[]
 | x::l,xs=>∃ cs rest,xs=cs++rest/\r x cs/\RL r l rest
def RS {α:Type}(M:aR)(r:α ->List Value ->Prop)(sz:Nat)(l:List α)(v:Value):Prop:=l.length*sz<=4398046511104/\∃ xs,Sl M v sz xs/\RL r l xs
section
variable {α:Type} {r:α ->List Value ->Prop} {sz:Nat}
theorem eJ (ed:∀ x cs,r x cs ->cs.length=sz):∀ {l xs},RL r l xs ->xs.length=l.length*sz
 | [],xs,h=>by simp only [RL] at h;subst h;simp
 | x::l,xs,h=>by
  obtain ⟨cs,rest,rfl,h1,h2⟩:=h
  simp only [List.length_append,ed x cs h1,eJ ed h2,List.length_cons,Nat.add_mul]
  omega
theorem Qj (ed:∀ x cs,r x cs ->cs.length=sz){M:aR}{b:Nat}:∀ {l xs o},RL r l xs ->At M b o xs ->∀ i x,l[i]?=some x ->∃ cs,At M b (o+i*sz) cs/\r x cs
 | [],xs,o,h,_,i,x,hx=>by simp at hx
 | y::l,xs,o,h,ha,i,x,hx=>by
  obtain ⟨cs,rest,rfl,h1,h2⟩:=h
  obtain ⟨PT,ha2⟩:=fF.1 ha
  cases i with
  | zero=>
   simp at hx;subst hx
   exact ⟨cs,by simpa using PT,h1⟩
  | succ i=>
   obtain ⟨cs',h3,h4⟩:=Qj ed h2 ha2 i x (by simpa using hx)
   refine ⟨cs',?_,h4⟩
   have:o+(i+1)*sz=o+cs.length+i*sz:=by rw [ed y cs h1,Nat.add_mul];omega
   rw [this];exact h3
theorem cS:∀ {l l':List α} {xs xs'},RL r l xs ->RL r l' xs' ->RL r (l++l') (xs++xs')
 | [],l',xs,xs',h,h'=>by simp only [RL] at h;subst h;exact h'
 | x::l,l',xs,xs',h,h'=>by
  obtain ⟨cs,rest,rfl,h1,h2⟩:=h
  exact ⟨cs,rest++xs',by simp,h1,cS h2 h'⟩
theorem dm {x:α}{cs}(h:r x cs):RL r [x] cs:=⟨cs,[],by simp,h,rfl⟩
theorem dl {r':α ->List Value ->Prop}(h:∀ x cs,r x cs ->r' x cs):∀ {l xs},RL r l xs ->RL r' l xs
 | [],_,hh=>hh
 | _::_,_,⟨cs,rest,h1,h2,h3⟩=>⟨cs,rest,h1,h _ _ h2,dl h h3⟩
def aH {M M':aR}{r':α ->List Value ->Prop}(he:bm M M')(h:∀ x cs,r x cs ->r' x cs){l v}(hs:RS M r sz l v):RS M' r' sz l v:=by
 obtain ⟨hb,xs,h1,h2⟩:=hs
 exact ⟨hb,xs,h1.ext he,dl h h2⟩
def ax (dK:0<sz)(ed:∀ x cs,r x cs ->cs.length=sz){M:aR}{l v}(hs:RS M r sz l v):
 l.length*sz<=4398046511104/\∃ a c,v=.slice a l.length c/\l.length<=c/\(a=none ->c=0)/\∀ i x,l[i]?=some x ->∃ b o cs,a=some ⟨b,o,none⟩/\At M b (o+i*sz) cs/\r x cs:=by
 obtain ⟨hb,xs,hs,hl⟩:=hs
 refine ⟨hb,?_⟩
 have bu:=eJ ed hl
 rcases hs with ⟨a,c,rfl,rfl,wH⟩ | ⟨b,o,n,c,rfl,cX,hn,ha⟩
 ·have h0:l.length=0:=by
   simp only [List.length_nil] at bu
   rcases Nat.mul_eq_zero.1 bu.symm with h | h
   ·exact h
   ·omega
  refine ⟨a,c,by rw [h0],by omega,wH,?_⟩
  intro i x hx
  have:=(List.getElem?_eq_some_iff.1 hx).1
  omega
 ·have zu:n=l.length:=Nat.eq_of_mul_eq_mul_right dK (hn.symm.trans bu)
  subst zu
  refine ⟨some ⟨b,o,none⟩,c,rfl,cX,(fun h=>by cases h),?_⟩
  intro i x hx
  obtain ⟨cs,h1,h2⟩:=Qj ed hl ha i x hx
  exact ⟨b,o,cs,rfl,h1,h2⟩
end
def lY {α:Type}{r:α ->List Value ->Prop}{sz:Nat}(dK:0<sz)(ed:∀ x cs,r x cs ->cs.length=sz){M:aR}{l:List α}{a:Option Addr}{n c k:Nat}(h:RS M r sz l (.slice a n c))(hk:k<=l.length):
 RS M r sz (l.drop k) (.slice (kG a c k sz) (n - k) (c - k)):=by
 obtain ⟨hb,xs,hs,hl⟩:=h
 have bu:=eJ ed hl
 refine ⟨Nat.le_trans (Nat.mul_le_mul_right _ (by rw [List.length_drop];omega)) hb,xs.drop (k*sz),?_,?_⟩
 ·rcases hs with ⟨a',c',hv,rfl,wH⟩ | ⟨b,o,n',c',hv,cX,hn,ha⟩
  ·injection hv with h1 h2 h3
   subst h1 h2 h3
   left
   have nU:k=0:=by
    have:l.length=0:=by
     simp only [List.length_nil] at bu
     rcases Nat.mul_eq_zero.1 bu.symm with h | h
     ·exact h
     ·omega
    omega
   subst nU
   refine ⟨kG a c 0 sz,c - 0,by simp,by simp,fun h=> ?_⟩
   have:a=none:=by
    unfold kG at h
    split at h
    ·exact h
    ·simpa using h
   have:=wH this
   omega
  ·injection hv with h1 h2 h3
   subst h1 h2 h3
   right
   have zu:n=l.length:=Nat.eq_of_mul_eq_mul_right dK (hn.symm.trans bu)
   have bK:At M b (o+k*sz) (xs.drop (k*sz)):=by
    have h2:xs=xs.take (k*sz)++xs.drop (k*sz):=(List.take_append_drop _ _).symm
    rw [h2] at ha
    have:=(fF.1 ha).2
    rw [List.length_take,Nat.min_eq_left (by rw [hn];exact Nat.mul_le_mul_right _ (by omega))] at this
    exact this
   by_cases hck:c=k
   ·refine ⟨b,o,n - k,c - k,by simp [kG,hck],by omega,?_,?_⟩
    ·rw [List.length_drop,hn,Nat.sub_mul]
    ·have:xs.drop (k*sz)=[]:=by
      apply List.drop_eq_nil_of_le
      rw [hn];exact Nat.mul_le_mul_right _ (by omega)
     rw [this];trivial
   ·refine ⟨b,o+k*sz,n - k,c - k,by simp [kG,hck,Addr.add_lit],by omega,?_,bK⟩
    rw [List.length_drop,hn,Nat.sub_mul]
 ·clear bu hs hb
  induction l generalizing xs k with
  | nil=>
   simp only [RL] at hl;subst hl
   simp [RL]
  | cons x l ih=>
   obtain ⟨cs,rest,rfl,h1,h2⟩:=hl
   cases k with
   | zero=>simpa using ⟨cs,rest,rfl,h1,h2⟩
   | succ k=>
    have gC:=ed x cs h1
    have:(cs++rest).drop ((k+1)*sz)=rest.drop (k*sz):=by
     rw [Nat.add_mul,Nat.one_mul,Nat.add_comm,<- gC,List.drop_append]
     simp
    rw [this]
    simpa using ih (by simpa using hk) _ h2
theorem aB {M:aR}{b o:Nat}(h:M b=none):aN M ⟨b,o,none⟩=none:=by simp [aN,h]
theorem bg {M:aR}{b o:Nat}{cs:List Value}(h:M b=some cs):aN M ⟨b,o,none⟩=cs[o]?:=by simp [aN,h]
theorem YO {P:Program}{t:TypeId}{x:Value}{lo hi:Option Value}:adc P t x lo hi=if cL P t=true then CW true x lo hi else CV (df P t) x lo hi:=(rfl)
theorem U8 (sz a n cap k l):CV (some sz) (.slice a n cap) (some (.int k l)) none=if 0<=l/\l<=n/\n<=cap then some (.slice (kG a cap l.toNat sz) (n - l.toNat) (cap - l.toNat)) else none:=(rfl)
theorem U7 (sz a n cap k h):CV (some sz) (.slice a n cap) none (some (.int k h))=if 0<=h/\h<=cap then some (.slice (kG a cap 0 sz) h.toNat cap) else none:=(rfl)
theorem Va (s k l):CW true (.string s) (some (.int k l)) none=if 0<=l/\l<=s.size then some (.string (s.extract l.toNat s.size)) else none:=(rfl)
theorem U9 (s k h):CW true (.string s) none (some (.int k h))=if 0<=h/\h<=s.size then some (.string (s.extract 0 h.toNat)) else none:=(rfl)
theorem Iu (l:Bs)(a b:Nat):(bs l).extract a b=bs ((l.drop a).take (b - a)):=by
 apply ByteArray.ext
 simp [bs,ByteArray.data_extract,List.extract_eq_take_drop]
theorem aew:((0:Nat):Int)=0:=(rfl)
theorem aex:((1:Nat):Int)=1:=(rfl)
theorem aey:((2:Nat):Int)=2:=(rfl)
theorem aez:((3:Nat):Int)=3:=(rfl)
theorem aeA:((4:Nat):Int)=4:=(rfl)
theorem aeB:((7:Nat):Int)=7:=(rfl)
theorem YF (n:Nat):(((n+1:Nat):Int)=0)=False:=eq_false (by omega)
theorem UL (n:Nat):((0:Int)<((n+1:Nat):Int))=True:=eq_true (by omega)
theorem YE (n:Nat):((1:Int)<=((n+1:Nat):Int))=True:=eq_true (by omega)
theorem Wz (n:Nat):((0:Int)<=(n:Int))=True:=eq_true (by omega)
structure V where
 k:Int
 n:Int
 t:Bs
def V.cs (v:V):List Value:=[.int .i64 v.k,.int .i64 v.n,st v.t]
inductive X where
 | mk (k:Int) (v:V) (tab name:Bs) (kids:List X)
namespace X
def k:X ->Int | mk k _ _ _ _=>k
def v:X ->V | mk _ v _ _ _=>v
def tab:X ->Bs | mk _ _ t _ _=>t
def name:X ->Bs | mk _ _ _ n _=>n
def kids:X ->List X | mk _ _ _ _ l=>l
end X
mutual
def RX (M:aR):X ->List Value ->Prop
 | .mk k v tab name kids,cs=>∃ s xs,cs=[.int .i64 k,.int .i64 v.k,.int .i64 v.n,st v.t,st tab,st name,s]/\kids.length*7<=4398046511104/\Sl M s 7 xs/\RXs M kids xs
def RXs (M:aR):List X ->List Value ->Prop
 | [],xs=>xs=[]
 | x::l,xs=>∃ cs rest,xs=cs++rest/\RX M x cs/\RXs M l rest
end
theorem Qn {M:aR}:∀ {l xs},RXs M l xs ↔ RL (RX M) l xs
 | [],_=>by simp [RXs,RL]
 | x::l,xs=>by simp only [RXs,RL,Qn (l:=l)]
def uY {M:aR}{x:X}{cs}:RX M x cs ↔ ∃ s,cs=[.int .i64 x.k,.int .i64 x.v.k,.int .i64 x.v.n,st x.v.t,st x.tab,st x.name,s]/\RS M (RX M) 7 x.kids s:=by
 obtain ⟨k,v,tab,name,kids⟩:=x
 simp only [RX,RS,X.k,X.v,X.tab,X.name,X.kids,Qn]
 constructor
 ·rintro ⟨s,xs,h1,h0,h2,h3⟩;exact ⟨s,h1,h0,xs,h2,h3⟩
 ·rintro ⟨s,h1,h0,xs,h2,h3⟩;exact ⟨s,xs,h1,h0,h2,h3⟩
theorem dX {M:aR}{x:X}{cs}(h:RX M x cs):cs.length=7:=by
 obtain ⟨s,rfl,_⟩:=uY.1 h;rfl
mutual
theorem bL {M M':aR}(he:bm M M'):∀ (x:X) (cs:List Value),RX M x cs ->RX M' x cs
 | .mk _ _ _ _ kids,_,h=>by
  obtain ⟨s,xs,h1,h0,h2,h3⟩:=h
  exact ⟨s,xs,h1,h0,h2.ext he,KK he kids xs h3⟩
theorem KK {M M':aR}(he:bm M M'):∀ (l:List X) (xs:List Value),RXs M l xs ->RXs M' l xs
 | [],_,h=>h
 | x::l,_,h=>by
  obtain ⟨cs,rest,h1,h2,h3⟩:=h
  exact ⟨cs,rest,h1,bL he x cs h2,KK he l rest h3⟩
end
structure It where
 x:X
 as:Bs
def AP (M:aR)(i:It)(cs:List Value):Prop:=∃ c,RX M i.x c/\cs=c++[st i.as]
structure So where
 k:Int
 name:Bs
 as:Bs
 on:X
def EQ (M:aR)(s:So)(cs:List Value):Prop:=∃ c,RX M s.on c/\cs=[.int .i64 s.k,st s.name,st s.as]++c
structure Se where
 distinct:Bool
 star:Bool
 items:List It
 src:List So
 hasW:Bool
 hasH:Bool
 wh:X
 hv:X
 group:List X
def HS (M:aR)(s:Se)(cs:List Value):Prop:=∃ i f w h g,RS M (AP M) 8 s.items i/\RS M (EQ M) 10 s.src f/\RX M s.wh w/\RX M s.hv h/\RS M (RX M) 7 s.group g/\
 cs=[.bool s.distinct,.bool s.star,i,f,.bool s.hasW,.bool s.hasH]++(w++(h++[g]))
structure Q where
 parts:List Se
 ops:List Int
 order:List X
 limit:Int
def RI (n:Int)(cs:List Value):Prop:=cs=[.int .i64 n]
def RQ (M:aR)(q:Q)(cs:List Value):Prop:=∃ p o r,RS M (HS M) 21 q.parts p/\RS M RI 1 q.ops o/\RS M (RX M) 7 q.order r/\cs=[p,o,r,.int .i64 q.limit]
structure Co where
 name:Bs
 ty:Int
def tF (c:Co)(cs:List Value):Prop:=cs=[st c.name,.int .i64 c.ty]
def RV (v:V)(cs:List Value):Prop:=cs=v.cs
def MZ (M:aR)(l:List V)(cs:List Value):Prop:=∃ s,RS M RV 3 l s/\cs=[s]
structure Stm where
 k:Int
 name:Bs
 cols:List Co
 q:Q
 rows:List (List V)
 hasW:Bool
 wh:X
def mD (M:aR)(s:Stm)(cs:List Value):Prop:=∃ c q r w,RS M tF 2 s.cols c/\RQ M s.q q/\RS M (MZ M) 1 s.rows r/\RX M s.wh w/\
 cs=[.int .i64 s.k,st s.name,c]++(q++([r,.bool s.hasW]++w))
def Xg (e at_:Int):Value:=.agg #[.int .i64 e,.int .i64 at_]
def jU {M M':aR}(he:bm M M')(i:It)(cs)(h:AP M i cs):AP M' i cs:=by
 obtain ⟨c,h1,h2⟩:=h;exact ⟨c,bL he _ _ h1,h2⟩
def qL {M M':aR}(he:bm M M')(i:So)(cs)(h:EQ M i cs):EQ M' i cs:=by
 obtain ⟨c,h1,h2⟩:=h;exact ⟨c,bL he _ _ h1,h2⟩
def lE {M M':aR}(he:bm M M')(i:Se)(cs)(h:HS M i cs):HS M' i cs:=by
 obtain ⟨a,f,w,hh,g,h1,h2,h3,h4,h5,h6⟩:=h
 exact ⟨a,f,w,hh,g,aH he (jU he) h1,aH he (qL he) h2,bL he _ _ h3,bL he _ _ h4,aH he (bL he) h5,h6⟩
def Ia {M M':aR}(he:bm M M')(i:Q)(cs)(h:RQ M i cs):RQ M' i cs:=by
 obtain ⟨a,f,w,h1,h2,h3,h4⟩:=h
 exact ⟨a,f,w,aH he (lE he) h1,aH he (fun _ _ h=>h) h2,aH he (bL he) h3,h4⟩
def mN {M M':aR}(he:bm M M')(i:List V)(cs)(h:MZ M i cs):MZ M' i cs:=by
 obtain ⟨s,h1,h2⟩:=h;exact ⟨s,aH he (fun _ _ h=>h) h1,h2⟩
def eY {M M':aR}(he:bm M M')(i:Stm)(cs)(h:mD M i cs):mD M' i cs:=by
 obtain ⟨c,q,r,w,h1,h2,h3,h4,h5⟩:=h
 exact ⟨c,q,r,w,aH he (fun _ _ h=>h) h1,Ia he _ _ h2,aH he (mN he) h3,bL he _ _ h4,h5⟩
def kU {M:aR}{i:It}{cs}(h:AP M i cs):cs.length=8:=by
 obtain ⟨c,h1,rfl⟩:=h;simp [dX h1]
def oK {M:aR}{i:So}{cs}(h:EQ M i cs):cs.length=10:=by
 obtain ⟨c,h1,rfl⟩:=h;simp [dX h1]
def lF {M:aR}{i:Se}{cs}(h:HS M i cs):cs.length=21:=by
 obtain ⟨a,f,w,hh,g,_,_,h3,h4,_,rfl⟩:=h;simp [dX h3,dX h4]
theorem Qk {M:aR}{i:Q}{cs}(h:RQ M i cs):cs.length=4:=by
 obtain ⟨_,_,_,_,_,_,rfl⟩:=h;rfl
def gb {M:aR}{i:Stm}{cs}(h:mD M i cs):cs.length=16:=by
 obtain ⟨_,_,_,_,_,h2,_,h4,rfl⟩:=h;simp [Qk h2,dX h4]
theorem HA (z pl parts):vY (some (z,pl)) parts=(nR pl z parts).map fun cs=> .agg cs.toArray:=(rfl)
theorem Oh (pl z):nR pl z []=some z:=(rfl)
theorem IY (pl z i vs rest):nR pl z ((i,vs)::rest)=match pl[i]? with
 | some (off,size)=>if vs.length=size/\off+vs.length<=z.length then nR pl (px z off vs) rest else none
 | none=>none:=(rfl)
theorem UD (z i):px z i []=z:=(rfl)
theorem Pk (z i v vs):px z i (v::vs)=px (z.set i v) (i+1) vs:=(rfl)
theorem agQ (l:List Value):l.toArray=⟨l⟩:=(rfl)
theorem HD (t v):MD (.iface t v)=true:=(rfl)
theorem GA (sz i):o5 sz i []=true:=(rfl)
theorem D4 (sz i j cs r):o5 sz i ((j,cs)::r)=(j==i && cs.length==sz && o5 sz (i+1) r):=(rfl)
theorem Oj:wG []=[]:=(rfl)
theorem I1 (j cs r):wG ((j,cs)::r)=cs++wG r:=(rfl)
def cR {k:IntKind}{a b:Int}(h:a=b):Value.int k a=.int k b:=by rw [h]
def vt (T:Tm)(ks:List Nat)(n:Nat)(post:ep)(v:Value)(h:Sh):Prop:=aG T h.N/\aV h.L=ks/\h.R.length=n/\post v h.M h.L h.R
theorem Ui {P e h}:mu P e h []=some []:=(rfl)
theorem Uj {P e h t r}:mu P e h (.tmp t::r)=pR (some (e t)) (mu P e h r):=(rfl)
theorem Pg {P e h a t r}:mu P e h (.cell a t::r)=pR (qD h (tk P t) (e a)) (mu P e h r):=(rfl)
theorem U0 (v):uM [v]=v:=(rfl)
theorem U1 (v u):uM [v,u]=.tuple #[v,u]:=(rfl)
theorem UZ:uM []=.tuple #[]:=(rfl)
theorem aa9 {P T dr ts ks n post pan}:(fi P T dr ts ks n post pan).ret=Yt P T ts ks n post:=(rfl)
theorem l9 {P T dr ts ks n post pan}:(fi P T dr ts ks n post pan).pan=TR T ks n pan:=(rfl)
theorem aeN {P T dr ts ks n post pan}:(fi P T dr ts ks n post pan).dr=dr:=(rfl)
theorem Yu {P T ts ks n post e h}:Yt P T ts ks n post e [] h=ea (mu P e h ts) fun vs=>cq h (vt T ks n post (uM vs)):=by simp [Yt];rfl
theorem j5 {T ks n pan ch e h}:TR T ks n pan ch e [] h=cq h (vt T ks n (fun _=>pan ch) undef):=by simp [TR];rfl
theorem OS (j s r id):JF ((j,s)::r) id=if j=id then s else JF r id:=(rfl)
def aQ {T N M L R ks n post v}(hT:aG T N)(hk:aV L=ks)(hn:R.length=n)(hp:post v M L R):cq ⟨N,M,L,R⟩ (vt T ks n post v):=aC ⟨hT,hk,hn,hp⟩
theorem bM {N M R}{k:Sh ->Prop}:∀ {L:LL},cq ⟨N,M,[],R⟩ k ->cq ⟨N,M,L,R⟩ k
 | [],h=>h
 | (_,_)::_,h=>al (bM h)
theorem bY {N M L}{k:Sh ->Prop}:∀ {R:RR},cq ⟨N,M,L,[]⟩ k ->cq ⟨N,M,L,R⟩ k
 | [],h=>h
 | _::_,h=>mK (bY h)
def ak {T N M L R post v}(hT:aG T N)(hp:post v M [] []):cq ⟨N,M,L,R⟩ (vt T (aV []) 0 post v):=bM (bY (aQ hT rfl rfl hp))
def aG.rfl' {T:Tm}:aG T T:=fun _ _ h=>h
theorem aG.trans {T T' T'':Tm}(h:aG T T')(h':aG T' T''):aG T T'':=fun b t hb=>h' b t (h b t hb)
def aE (e:dx):List (Nat×Value) ->Prop
 | []=>True
 | (t,v)::l=>e t=v/\aE e l
def LI (ds0:List Deferred)(n ti:Nat)(lv:List (Nat×Value))(J:Nat ->dx ->Sh ->Prop):Nat ->dx ->List Deferred ->Sh ->Prop:=
 fun m e ds h=>ds=ds0/\∃ i,i<=n/\m=n - i/\aE e lv/\e ti=.int .i64 (i:Nat)/\J i e h
section
variable {P:Program} {F:Fi} {b:Code} {s:List Item} {e:dx} {ds:List Deferred} {h:Sh}
def gM (I:Nat ->dx ->List Deferred ->Sh ->Prop)(h0:∃ m,I m e ds h)(hs:∀ m e' ds' h',I m e' ds' h' ->cA P F (.code b:: .lp I m::s) e' ds' h' ⟨⟩):G1 P F b s e ds h ⟨⟩:=
 ⟨I,aC h0,hs⟩
def aO (n ti:Nat)(lv:List (Nat×Value))(J:Nat ->dx ->Sh ->Prop)(i0:Nat)(hi:i0<=n)(hl:aE e lv)(ht:e ti=.int .i64 (i0:Nat))(hJ:J i0 e h)
 (hs:∀ i e' h',i<=n ->aE e' lv ->e' ti=.int .i64 (i:Nat) ->J i e' h' ->cA P F (.code b:: .lp (LI ds n ti lv J) (n - i)::s) e' ds h' ⟨⟩):G1 P F b s e ds h ⟨⟩:=by
 refine gM (LI ds n ti lv J) ⟨n - i0,rfl,i0,hi,rfl,hl,ht,hJ⟩ ?_
 rintro m e' ds' h' ⟨rfl,i,hi,rfl,hl,ht,hJ⟩
 exact hs i e' h' hi hl ht hJ
def bT {n ti:Nat}{lv:List (Nat×Value)}{J:Nat ->dx ->Sh ->Prop}{i:Nat}(hi:i<n)(hl:aE e lv)(ht:e ti=.int .i64 ((i+1:Nat):Int))(hJ:J (i+1) e h):
 cA P F (.lp (LI ds n ti lv J) (n - i)::s) e ds h ⟨⟩:=by
 rw [eL]
 exact aC ⟨n - (i+1),by omega,rfl,i+1,by omega,rfl,hl,ht,hJ⟩
def aS {I:Nat ->dx ->List Deferred ->Sh ->Prop}{m:Nat}(hc:cq h fun h=>∃ m',m'<m/\I m' e ds h):cA P F (.lp I m::s) e ds h ⟨⟩:=by
 rw [eL];exact hc
end
def dh {P:Program}{F:Fi}{f:FuncId}{args:List Value}{dd:Option Nat}{s:List Item}{e:dx}{ds:List Deferred}{N:Tm}{M:aR}{b:Nat}{cs:List Value}{L:LL}{R:RR}(hb:du P f=true)
 (h:∀ M',bm M M' ->M' b=some cs ->aJ M' L ->dp P F f args dd s e ds ⟨N,M',L,R⟩ ⟨⟩):dp P F f args dd s e ds ⟨N,M,(b,cs)::L,R⟩ ⟨⟩:=
 cD (k:=fun h'=>∃ M',bm M M'/\M' b=some cs/\aJ M' L/\h'=⟨N,M',L,R⟩) (aU fun he h1 h2=>aC ⟨_,he,h1,h2,rfl⟩)
  (by rintro h' ⟨M',he,h1,h2,rfl⟩;exact h M' he h1 h2) hb
def dE {α:Type}{r:α ->List Value ->Prop}{sz:Nat}(ed:∀ x cs,r x cs ->cs.length=sz){M:aR}{b n:Nat}{cs:List Value}{l:List α}(hM:M b=some cs)(hl:RL r l cs)(hn:l.length=n)(hb:n*sz<=4398046511104):
 RS M r sz l (.slice (some ⟨b,0,none⟩) n n):=by
 subst hn
 exact ⟨hb,cs,.inr ⟨b,0,l.length,l.length,rfl,Nat.le_refl _,eJ ed hl,jJ hM cs 0 (by simp)⟩,hl⟩
def rC (s:Bs)(cs:List Value):Prop:=cs=[st s]
theorem fu {s:Bs}{cs}(h:rC s cs):cs.length=1:=by unfold rC at h;subst h;rfl
theorem kV:∀ (l:List Bs),RL rC l (l.map st)
 | []=>rfl
 | s::l=>⟨[st s],l.map st,rfl,rfl,kV l⟩
theorem TK (k n):(Value.int k n).oneCell'=true:=rfl
theorem TM (s):(Value.string s).oneCell'=true:=rfl
theorem O0 (s):(Value.bool s).oneCell'=true:=rfl
theorem Yd (a n c):(Value.slice a n c).oneCell'=true:=rfl
theorem TL (a):(Value.pointer a).oneCell'=true:=rfl
theorem O1 (f a c):(Value.func f a c).oneCell'=true:=rfl
theorem Iw (f a c):(Value.func f a c).cells.toList=[.func f a c]:=rfl
theorem E8 (t v):(Value.iface t v).cells.toList=[.iface t v]:=rfl
theorem aaF {α β:Type}(f:α ->β)(l:List α):Array.map f ⟨l⟩=⟨l.map f⟩:=by simp
theorem al7 (l:List UInt8):ByteArray.mk ⟨l⟩=bs l:=rfl
def bJ {n:Int}(h0: -9223372036854775808<=n)(h1:n<=9223372036854775807):IntKind.i64.wrap n=n:=by
 have hb:IntKind.i64.bits=64:=rfl
 have hs:IntKind.i64.signed=true:=rfl
 simp only [IntKind.wrap,hb,hs,Bool.true_and]
 by_cases hc:n % (2 ^ 64:Int)>=(2 ^ (64 - 1):Int)
 ·rw [if_pos (by simpa using hc)]
  omega
 ·rw [if_neg (by simpa using hc)]
  omega
theorem aA (i:Nat)(h:i<140737488355328):IntKind.i64.wrap ((i:Int)+1)=((i+1:Nat):Int):=by
 rw [bJ (by omega) (by omega)];rfl
def Vt (n:Nat)(h:n<1000000000000000000):IntKind.i64.wrap (0 - (n:Int))= -(n:Int):=by
 rw [bJ (by omega) (by omega)];omega
def pL (pb:Nat)(lv:Value)(en op:Int):LL:=[(pb,[lv,.int .i64 en,.int .i64 op])]
theorem Tt (pb lv en op k o):eE (pL pb lv en op) ⟨k,o,none⟩=if k=pb then some ([lv,.int .i64 en,.int .i64 op][o]?) else none:=(rfl)
theorem Tw (pb lv en op v):vL (pL pb lv en op) pb 0 [v]=some (pL pb v en op):=by simp [vL,pL,px]
theorem Tx (pb lv en op n):vL (pL pb lv en op) pb 2 [.int .i64 n]=some (pL pb lv en n):=by simp [vL,pL,px]
theorem aK (M pb lv en op):aJ M (pL pb lv en op)=(M pb=none):=by simp [aJ,pL]
theorem No (b pb lv en op):bf b (pL pb lv en op)=(b≠pb/\pb≠b):=by simp [bf,pL]
def mj (M:aR):LL ->Prop
 | []=>True
 | (b,cs)::l=>M b=some cs/\mj M l
theorem B7 {M M':aR}(h:bm M M'):∀ {L},mj M L ->mj M' L
 | [],_=>trivial
 | (_,_)::_,⟨h1,h2⟩=>⟨h _ _ h1,B7 h h2⟩
theorem lD {N R}{k:Sh ->Prop}:∀ {L:LL} {M:aR},(∀ M',bm M M' ->mj M' L ->cq ⟨N,M',[],R⟩ k) ->cq ⟨N,M,L,R⟩ k
 | [],M,h=>h M bm.rfl' trivial
 | (b,cs)::L,M,h=>aU fun he hb _=>lD fun M' mG hL=>h M' (he.trans mG) ⟨mG _ _ hb,hL⟩
def Dk {T0:Tm}{h:Sh}{b:Nat}{cs:List Value}(hc:∀ o v,cs[o]?=some v ->h.cell ⟨b,o,none⟩=some v):fW ⟨T0,fun _=>none,[(b,cs)],[]⟩ h:=by
 intro a v hv
 obtain ⟨k,o,sp⟩:=a
 simp only [Sh.cell,aN,eE] at hv
 by_cases hk:k=b
 ·subst hk
  cases sp with
  | some q=>simp at hv
  | none=>exact hc o v (by simpa using hv)
 ·cases sp<;>simp [hk] at hv
theorem P8 {T ks n pan}(ops:List Oper):wm (TR T ks n pan) ops=True:=eq_true (fun _ _ _ _ _ _ _ _ _ h=>h)
def gH {T0 T:Tm}{M:aR}{b:Nat}{cs:List Value}{L:LL}{R:RR}(hb:M b=none):fW ⟨T0,fun _=>none,[(b,cs)],[]⟩ ⟨T,M,(b,cs)::L,R⟩:=
 Dk fun o v hv=>by simp [Sh.cell,aN,eE,hb,hv]
def tM {T0 T:Tm}{M:aR}{b b':Nat}{cs cs':List Value}{L:LL}{R:RR}(hb:M b=none)(cm:¬ b=b'):fW ⟨T0,fun _=>none,[(b,cs)],[]⟩ ⟨T,M,(b',cs')::(b,cs)::L,R⟩:=
 Dk fun o v hv=>by simp [Sh.cell,aN,eE,hb,hv,cm]
section
variable {P:Program} {F:Fi} {s:List Vc.Item} {e:dx} {ds:List Deferred} {dd:Option Nat} {T:Tm} {M:aR} {L:LL} {R:RR} {t tx el:TypeId} {sz:Nat} {z news xs:List Value} {y:Value}
def mO (bN:dY P t=some (el,sz,z))(ce:kz P t=true)(hs:Srcs P tx sz ⟨T,M,L,R⟩ y news)(hb:news.length<=4398046511104)
 (k:∀ a m c,m*sz=news.length ->cA P F s (cI e dd (.slice a m c)) ds ⟨T,M,L,(.slice a m c,el,sz,news)::R⟩ ⟨⟩):om P F t tx (.slice none 0 0) y dd s e ds ⟨T,M,L,R⟩ ⟨⟩:=
 .inr ⟨el,sz,z,news,bN,ce,hs,.inr (.inl ⟨rfl,hb,k⟩)⟩
def gX {x:Value}(bN:dY P t=some (el,sz,z))(ce:kz P t=true)(hs:Srcs P tx sz ⟨T,M,L,(x,el,sz,xs)::R⟩ y news)(hb:xs.length+news.length<=4398046511104)
 (k:∀ a m c,m*sz=xs.length+news.length ->cA P F s (cI e dd (.slice a m c)) ds ⟨T,M,L,(.slice a m c,el,sz,xs++news)::R⟩ ⟨⟩):om P F t tx x y dd s e ds ⟨T,M,L,(x,el,sz,xs)::R⟩ ⟨⟩:=
 .inr ⟨el,sz,z,news,bN,ce,hs,.inl ⟨0,xs,rfl,hb,k⟩⟩
def ld {a:Addr}{n:Nat}(bN:dY P t=some (el,sz,z))(ce:kz P t=true)(hs:Srcs P tx sz ⟨T,M,L,R⟩ y news)(hc:Sh.cells ⟨T,M,L,R⟩ a 0 (n*sz)=some xs)(dK:0<news.length)(hb:xs.length+news.length<=4398046511104)
 (k:∀ a m c,m*sz=xs.length+news.length ->cA P F s (cI e dd (.slice a m c)) ds ⟨T,M,L,(.slice a m c,el,sz,xs++news)::R⟩ ⟨⟩):om P F t tx (.slice (some a) n n) y dd s e ds ⟨T,M,L,R⟩ ⟨⟩:=
 .inr ⟨el,sz,z,news,bN,ce,hs,.inr (.inr (.inl ⟨a,n,xs,rfl,hc,dK,hb,k⟩))⟩
def pO {b o n c:Nat}(bN:dY P t=some (el,sz,z))(ce:kz P t=true)(hs:Srcs P tx sz ⟨T,M,L,R⟩ y [])(cX:n<=c)
 (k:cA P F s (cI e dd (.slice (some ⟨b,o,none⟩) n c)) ds ⟨T,M,L,R⟩ ⟨⟩):om P F t tx (.slice (some ⟨b,o,none⟩) n c) y dd s e ds ⟨T,M,L,R⟩ ⟨⟩:=
 .inr ⟨el,sz,z,[],bN,ce,hs,.inr (.inr (.inr (.inl ⟨b,o,n,c,rfl,cX,rfl,k⟩)))⟩
def Dm {x:Value}{L':LL}(bN:dY P t=some (el,sz,z))(ce:kz P t=true)(zw:MV x el sz xs ⟨T,M,L,R⟩ L')(hs:Srcs P tx sz ⟨T,M,L,R⟩ y news)(nW:Srcs P tx sz ⟨T,M,L',R⟩ y news)(dK:0<news.length)(hb:xs.length+news.length<=4398046511104)
 (k:∀ N' g m c junk,aG T N' ->N' g=some el ->M g=none ->bf g L' ->m*sz=xs.length+news.length ->m<=c ->(xs++news++junk).length=c*sz ->cA P F s (cI e dd (.slice (some ⟨g,0,none⟩) m c)) ds ⟨N',M,(g,xs++news++junk)::L',R⟩ ⟨⟩):om P F t tx x y dd s e ds ⟨T,M,L,R⟩ ⟨⟩:=
 .inr ⟨el,sz,z,news,bN,ce,hs,.inr (.inr (.inr (.inr (.inr ⟨xs,L',zw,nW,dK,hb,k⟩))))⟩
def yt {n:Nat}{ik:IntKind}(bN:dY P t=some (el,sz,z))(ce:kz P t=true)(hk:P.underlying tx=some (.int ik))(h0:0<n)(hb:n<=4294967296)
 (k:∀ a c zs,zs.length=n*sz ->n<=c ->cA P F s (cI e dd (.slice a n c)) ds ⟨T,M,L,(.slice a n c,el,sz,zs)::R⟩ ⟨⟩):om P F t tx (.slice none 0 0) (.int .i64 (n:Nat)) dd s e ds ⟨T,M,L,R⟩ ⟨⟩:=
 .inl ⟨el,sz,z,n,ik,bN,ce,hk,rfl,rfl,h0,hb,k⟩
end
theorem oG {T:Tm}{M:aR}{L:LL}{R:RR}{a:Option Addr}{n c:Nat}{el:TypeId}{sz:Nat}{zs:List Value}{k:Sh ->Prop}(ed:0<sz)(hk:cq ⟨T,M,L,(.slice a 0 c,el,sz,[])::R⟩ k):
 cq ⟨T,M,L,(.slice a n c,el,sz,zs)::R⟩ k:=fun cx w hw=>by
 obtain ⟨bs,hi⟩:=hw
 refine hk cx w ⟨bs,{hi with rows:= ?_}⟩
 refine ⟨hi.rows.1,?_⟩
 intro i v e' sz' xs o h1 h2
 cases i with
 | succ i=>exact hi.rows.2 (i+1) v e' sz' xs o (by simpa using h1) h2
 | zero=>
  simp only [List.getElem?_cons_zero,Option.some.injEq,Prod.mk.injEq] at h1
  obtain ⟨rfl,rfl,rfl,rfl⟩:=h1
  have hr:=hi.rows.2 0 _ _ _ _ o rfl h2
  rcases hr with ⟨h0,hx,ho⟩ | ⟨g,m,cap,junk,hv,hg,hn,hc,cX,ho⟩ | ⟨h0,_⟩ | ⟨h0,_⟩
  ·cases h0;exact .inl ⟨rfl,rfl,ho⟩
  ·cases hv
   exact .inr (.inl ⟨g,0,c,zs++junk,rfl,by simpa using hg,by simp,by simpa using hc,by omega,ho⟩)
  ·omega
  ·omega
theorem yB {h:Sh}{b:Nat}{cs:List Value}(hc:∀ o v,cs[o]?=some v ->h.cell ⟨b,o,none⟩=some v):∀ (n i:Nat),i+n=cs.length ->h.cells ⟨b,0,none⟩ i n=some (cs.drop i):=by
 intro n
 induction n with
 | zero=>intro i hi;rw [List.drop_eq_nil_of_le (by omega)];rfl
 | succ n ih=>
  intro i hi
  have aL:i<cs.length:=by omega
  rw [sF,ih (i+1) (by omega),Nat.zero_add,hc i cs[i] (gq aL),dq aL]
  rfl
def cF {T:Tm}{M:aR}(L1:LL){L2:LL}{R:RR}{b n:Nat}{cs:List Value}(hb:M b=none)(ha:bf b L1)(hn:n=cs.length):Sh.cells ⟨T,M,L1++(b,cs)::L2,R⟩ ⟨b,0,none⟩ 0 n=some cs:=by
 have key:∀ {L1:LL} (o:Nat),bf b L1 ->eE (L1++(b,cs)::L2) ⟨b,o,none⟩=some cs[o]?:=by
  intro L1 o
  induction L1 with
  | nil=>intro _;simp [eE]
  | cons p l ih=>
   obtain ⟨k,ds⟩:=p
   intro h
   simp only [List.cons_append,eE,if_neg h.1.1]
   exact ih h.2
 have:=yB (h:=⟨T,M,L1++(b,cs)::L2,R⟩) (b:=b) (cs:=cs) (fun o v hv=>by simp [Sh.cell,aN,hb,key o ha,hv]) n 0 (by omega)
 simpa using this
def jX {T0 T:Tm}{M:aR}(L1:LL){L2:LL}{R:RR}{b:Nat}{cs:List Value}(hb:M b=none)(ha:bf b L1):fW ⟨T0,fun _=>none,[(b,cs)],[]⟩ ⟨T,M,L1++(b,cs)::L2,R⟩:=by
 have key:∀ {L1:LL} (o:Nat),bf b L1 ->eE (L1++(b,cs)::L2) ⟨b,o,none⟩=some cs[o]?:=by
  intro L1 o
  induction L1 with
  | nil=>intro _;simp [eE]
  | cons p l ih=>
   obtain ⟨k,ds⟩:=p
   intro h
   simp only [List.cons_append,eE,if_neg h.1.1]
   exact ih h.2
 exact Dk fun o v hv=>by simp [Sh.cell,aN,hb,key o ha,hv]
section
variable {P:Program} {F:Fi} {b:Code} {s:List Item} {e:dx} {ds:List Deferred} {h:Sh}
def bR (n ti:Nat)(lv:List (Nat×Value))(J:Nat ->dx ->Sh ->Prop)(i0:Nat)(hi:i0<=n)(hl:aE e lv)(ht:e ti=.int .i64 (i0:Nat))(hJ:cq h fun h=>J i0 e h)
 (hs:∀ i e' h',i<=n ->aE e' lv ->e' ti=.int .i64 (i:Nat) ->J i e' h' ->cA P F (.code b:: .lp (LI ds n ti lv J) (n - i)::s) e' ds h' ⟨⟩):G1 P F b s e ds h ⟨⟩:=by
 refine ⟨LI ds n ti lv J,pE hJ fun h' hJ'=>aC ⟨n - i0,rfl,i0,hi,rfl,hl,ht,hJ'⟩,?_⟩
 rintro m e' ds' h' ⟨rfl,i,hi,rfl,hl,ht,hJ⟩
 exact hs i e' h' hi hl ht hJ
end
def eZ {T0 T:Tm}{M M':aR}(L1:LL){L2:LL}{R:RR}{b:Nat}{cs:List Value}(hM:bm M M')(hb:M' b=none)(ha:bf b L1):fW ⟨T0,M,[(b,cs)],[]⟩ ⟨T,M',L1++(b,cs)::L2,R⟩:=by
 have key:∀ {L1:LL} (o:Nat),bf b L1 ->eE (L1++(b,cs)::L2) ⟨b,o,none⟩=some cs[o]?:=by
  intro L1 o
  induction L1 with
  | nil=>intro _;simp [eE]
  | cons p l ih=>
   obtain ⟨k,ds⟩:=p
   intro h
   simp only [List.cons_append,eE,if_neg h.1.1]
   exact ih h.2
 intro a v hv
 simp only [Sh.cell] at hv ⊢
 cases hm:aN M a with
 | some u=>
  rw [hm] at hv
  injection hv with hv;subst hv
  rw [ay hM hm]
 | none=>
  rw [hm] at hv
  obtain ⟨k,o,sp⟩:=a
  simp only [eE] at hv
  by_cases hk:k=b
  ·subst hk
   cases sp with
   | some q=>simp at hv
   | none=>
    simp only [if_true,Option.isSome_none,Bool.false_eq_true,if_false,Option.getD_some] at hv
    rw [aB hb,key o ha]
    simpa using hv
  ·simp [hk] at hv
def kh (w w':World):Prop:=w'.os=w.os/\w'.tape=w.tape/\w'.output=w.output/\w.heap.size<=w'.heap.size/\∀ b,b<w.heap.size ->w'.heap[b]?=w.heap[b]?
theorem kh.rfl' {w:World}:kh w w:=⟨rfl,rfl,rfl,Nat.le_refl _,fun _ _=>rfl⟩
def ud {w:World}{a:Addr}{n b:Nat}(h:b≠a.block):(w.freeze a n).heap[b]?=w.heap[b]?:=by
 unfold World.freeze
 split
 ·rfl
 ·show (w.heap.modify a.block _)[b]?=_
  rw [Array.getElem?_modify,if_neg (Ne.symm h)]
def kh.bytes {w:World}{e s}:kh w (Lib.bytesWorld w e s):=by
 have ed:(Lib.bytesWorld w e s).heap.size=w.heap.size+1:=by
  simp [Lib.bytesWorld,World.freeze]
 refine ⟨rfl,rfl,rfl,by omega,?_⟩
 intro b hb
 have h1:(w.drew.alloc (.cells (Lib.bytesCells w e s) e)).heap[b]?=w.heap[b]?:=cu (w:=w.drew) hb
 rw [<- h1]
 exact ud (by simp;omega)
def Hp.keeps {c N M L R w w' bs}(hi:Hp c ⟨N,M,L,R⟩ w bs)(hk:kh w w'):Hp c ⟨N,M,L,R⟩ w' bs:=by
 obtain ⟨k1,k2,k3,k4,k5⟩:=hk
 exact
 {typ:=fun b u hu=>by
   obtain ⟨aL,hc⟩:=hi.typ b u hu
   refine ⟨by omega,fun hb=> ?_⟩
   obtain ⟨cs',f,hc⟩:=hc hb
   exact ⟨cs',f,by rw [k5 b (fL hc)];exact hc⟩
  holds:=fun b x hb=>by
   have:=hi.holds.lt hb
   obtain ⟨t,f,ht⟩:=hi.holds _ _ hb
   exact ⟨t,f,by rw [k5 b this];exact ht⟩
  blk:=fun b x hb=>by
   have h2:=hi.blk _ _ hb
   have hl:=h2.lt
   obtain ⟨t,ht⟩:=h2
   exact ⟨t,by rw [k5 b hl];exact ht⟩
  rows:=⟨hi.rows.1,fun i v e sz xs o h1 h2=>(hi.rows.2 i v e sz xs o h1 h2).keep fun g hg=>by
   subst hg
   exact k5 g (hi.rows.2 i v e sz xs _ h1 h2).lt⟩
  nodup:=hi.nodup
  apart:=hi.apart
  os:=k1.trans hi.os
  tape:=k2.trans hi.tape
  output:=k3.trans hi.output
  size:=Nat.le_trans hi.size k4
  old:=fun b hb hu=>by rw [k5 b (Nat.lt_of_lt_of_le hb hi.size)];exact hi.old b hb hu
  mem:=hi.mem
  le:=hi.le}
theorem xM {P:Program}{f:FuncId}{args:List Value}{M:aR}{v:Value}(hb:du P f=true)
 (h:∀ w,pF M w ->Calls P f args.toArray w fun e w'=>e=.returned v/\kh w w'):Ct P f args M [] [] (fun r M' _ _=>r=v/\M'=M) aM:=by
 intro T
 refine ⟨hb,fun w U hw=> ?_⟩
 obtain ⟨bs,rfl,hi⟩:=hw
 refine Calls.mono (h w hi.holds) ?_
 rintro e w' ⟨rfl,gn⟩
 exact ⟨M,[],[],⟨⟨bs,hi.keeps gn⟩,rfl,rfl⟩,rfl,rfl⟩
def Rf {P:Program}{f:FuncId}{args:List Value}{M:aR}{cs:List Value}{t:TypeId}(F:Nat ->Value)(hb:du P f=true)
 (h:∀ w,pF M w ->Calls P f args.toArray w fun e w'=>e=.returned (F w.heap.size)/\w'=w.alloc (.cells cs.toArray t)):Ct P f args M [] [] (fun r M' _ _=>∃ b,r=F b/\M' b=some cs) aM:=by
 intro T
 refine ⟨hb,fun w U hw=> ?_⟩
 obtain ⟨bs,rfl,hi⟩:=hw
 refine Calls.mono (h w hi.holds) ?_
 rintro e w' ⟨rfl,rfl⟩
 have h2:=(hi.alloc (t:=t) cs).untype (N':=T) hi.extT
 have h3:=h2.freeze (b:=w.heap.size) (cs:=cs) (L:=[]) rfl
 exact ⟨_,[],[],⟨⟨bs,h3⟩,rfl,rfl⟩,w.heap.size,rfl,by simp [aR.add]⟩
def dF {P:Program}{F:Fi}{s:List Vc.Item}{e:dx}{ds:List Deferred}{dd:Option Nat}{N:Tm}{M:aR}{f:FuncId}{args:List Value}{R:RR}(L1:LL){Lp:LL}{post:ep}{pan:mC}(hc:bU P f args N M Lp [] post pan)
 (hn:∀ v M' L',bm M M' ->aV L'=aV Lp ->aJ M' (L1++L') ->post v M' L' [] ->cA P F s (cI e dd v) ds ⟨N,M',L1++L',R⟩ ⟨⟩)
 (hp:∀ ch M' L',bm M M' ->aV L'=aV Lp ->aJ M' (L1++L') ->pan ch M' L' [] ->F.pan ch e ds ⟨N,M',L1++L',R⟩):
 dp P F f args dd s e ds ⟨N,M,L1++Lp,R⟩ ⟨⟩:=by
 have nilR:∀ {R':RR},R'.length=([]:RR).length ->R'=[]:=fun h=>by simpa using h
 have:=gO (P:=P) (F:=F) (s:=s) (e:=e) (ds:=ds) (dd:=dd) (N:=N) L1 Lp [] [] [] R hc
  (fun v M' L' R' he hk hR bj hq=>by
   rw [nilR hR] at hq ⊢
   rw [List.append_nil] at bj ⊢
   exact hn v M' L' he hk bj hq)
  (fun ch M' L' R' he hk hR bj hq=>by
   rw [nilR hR] at hq ⊢
   rw [List.append_nil] at bj ⊢
   exact hp ch M' L' he hk bj hq)
 rw [List.append_nil] at this
 exact this
def aae (P:Program)(f:FuncId)(args:List Value)(h:Sh)(k:Sh ->Prop):Prop:=
 du P f=true/\∀ c w u,Is c h w ->CallsD P f args.toArray u w fun e u' w'=>u'=u/\∃ v,e=.returned v/\∃ h',Is c h' w'/\k h'
def dFn (d:Deferred):Option (FuncId×List Value):=match d.target with
 | .fn (.func f) cap=>some (f,d.args.toList++cap.toList)
 | _=>none
def BO (P:Program):List Deferred ->Sh ->(Sh ->Prop) ->Prop
 | [],h,k=>k h
 | d::ds,h,k=>ea (dFn d) fun (f,args)=>aae P f args h fun h'=>BO P ds h' k
def Wy (ch:List PanicEntry):Bool:=match ch with | {recovered:=true,..}::_=>false | _=>true
def Ys (P:Program)(T:Tm)(rs:List ResultVar)(ks:List Nat)(n:Nat)(post:ep)(e:dx)(ds:List Deferred)(h:Sh):Prop:=
 BO P ds h fun h=>ea (mu P e h rs) fun vs=>cq h (vt T ks n post (uM vs))
def acQ (P:Program)(T:Tm)(ks:List Nat)(n:Nat)(pan:mC)(ch:List PanicEntry)(_:dx)(ds:List Deferred)(h:Sh):Prop:=
 Wy ch=true/\BO P ds h fun h=>cq h (vt T ks n (fun _=>pan ch) undef)
def PQ (P:Program)(T:Tm)(dr:List (Nat×Sched))(ts:List ResultVar)(ks:List Nat)(n:Nat)(post:ep)(pan:mC):Fi:=⟨dr,Ys P T ts ks n post,acQ P T ks n pan⟩
theorem Kg {ch:List PanicEntry}(h:Wy ch=true):settle (.panicking ch)=.panicking ch:=by
 unfold Wy at h
 unfold settle
 split
 ·rename_i hh
  injection hh with hh
  subst hh
  simp at h
 ·rfl
def Vz {P:Program}{f:FuncId}{args:List Value}{N:Tm}{M:aR}{R:RR}(L1:LL){Lp:LL}{post:ep}(hc:CtD P f args N M Lp [] post aM){k:Sh ->Prop}
 (hn:∀ v M' L',bm M M' ->aV L'=aV Lp ->aJ M' (L1++L') ->post v M' L' [] ->k ⟨N,M',L1++L',R⟩):aae P f args ⟨N,M,L1++Lp,R⟩ k:=by
 refine ⟨hc.1,fun c w u hw=> ?_⟩
 obtain ⟨bs,hi⟩:=hw
 have ku:Hp c ⟨N,M,L1++Lp++[],[]++[]++R⟩ w ([]++[]++bs):=by simpa using hi
 have zm:=ku.enter (R1:=[]) (Rp:=[]) (b1:=[]) (bp:=[]) rfl rfl
 intro cf cs hu
 obtain ⟨e,u',w',fr,⟨rfl,hr⟩,rest⟩:=hc.2 u w _ ⟨[],rfl,zm⟩ cf cs hu
 refine ⟨e,u',w',fr,⟨rfl,?_⟩,rest⟩
 cases e with
 | returned v=>
  obtain ⟨M',L',R',⟨⟨bp',sT⟩,hk,hR⟩,hq⟩:=hr
  have Om:R'=[]:=by simpa using hR
  subst Om
  have Zm:bp'=[]:=by simpa using sT.rows.1.symm
  subst Zm
  have nF:=ku.frame (R1:=[]) (Rp:=[]) (b1:=[]) (bp:=[]) (bp':=[]) (Rp':=[]) rfl rfl (by simpa using hi.rows.1.symm) sT hk rfl
  have vD:Hp c ⟨N,M',L1++L',R⟩ w' bs:=by simpa using nF
  exact ⟨v,rfl,_,⟨bs,vD⟩,hn v M' L' (fun b cs hb=>sT.le b cs hb) hk (iu fun b hb=>(vD.apart b (uV (.inl hb))).1) hq⟩
 | panicked ch=>obtain ⟨_,_,_,_,hq⟩:=hr;exact hq.elim
 | outgrown=>exact hr.elim
def Ci {P:Program}{fn:Func}{a:Array Value}{R:Ending ->World ->Prop}{c:Ctx}{ends:FrameMode ->World ->Prop}{u:FrameMode}(hu:u≠ .run)(S0:settle u=u)
 (akJ:∀ w,ends u w ->Leaves P fn a R [] u w):∀ (ds:List Deferred) (h:Sh) (w:World) (k:Sh ->Prop),Is c h w ->(∀ h w,Is c h w ->k h ->ends u w) ->BO P ds h k ->Leaves P fn a R ds u w:=by
 intro ds
 induction ds with
 | nil=>intro h w k hw hk hd;exact akJ w (hk h w hw hd)
 | cons d ds ih=>
  intro h w k hw hk hd
  obtain ⟨⟨f,args⟩,hdf,hb,hd⟩:=cJ hd
  obtain ⟨t,da⟩:=d
  unfold dFn at hdf
  simp only at hdf
  split at hdf
  ·rename_i t2 g cap
   injection hdf with hdf
   injection hdf with h1 h2
   subst h1 h2
   have xS:=hb
   unfold du at xS
   refine ⟨hu,_,cap,g,(da.toList++cap.toList).toArray,rfl,?_,?_⟩
   ·show (invoke (.fn (.func g) cap) da).run P w=_
    have nT:(da.toList++cap.toList).toArray=da++cap:=by apply Array.toList_inj.1;simp
    rw [nT]
    cases SH:P.funcs[g]? with
    | none=>rw [SH] at xS;cases xS
    | some fn=>
     rw [SH] at xS
     simp only [Bool.and_eq_true,Bool.not_eq_true'] at xS
     obtain ⟨fO,dO⟩:=xS
     simp only [invoke,callFunc,Sem.run_bind,Result.andThen_ok,run_program,SH]
     obtain ⟨body,SB⟩:=Option.isSome_iff_exists.1 fO
     simp [dO,SB]
   ·intro cf cs xT
    obtain ⟨e,u',w',fr,⟨rfl,v,rfl,h',gn,Oy⟩,rest⟩:=hd c w u hw cf cs xT
    refine ⟨_,u',w',fr,?_,rest⟩
    simp only
    rw [S0]
    exact ih h' w' k gn hk Oy
  ·cases hdf
def Iq {P:Program}{fn:Func}{T:Tm}{dr ts ks k U M post pan}(hr:fn.results.toList=ts){w0:World}{ex:Exit}{a:Act}{w:World}{n:Nat}
 (hq:KontL.toQ ⟨w0,M,U⟩ n (PQ P T dr ts ks k post pan).k ex a w):bodyPostD P fn (PO U T M ks k post pan w0) ex a w:=by
 have F0:∀ {e ds h},Fr n a e ds ->Is ⟨w0,M,U⟩ h w ->Ys P T ts ks k post e ds h ->Leaves P fn a.tmps (PO U T M ks k post pan w0) a.defers .returning w:=by
  intro e ds h ha hw hd
  rw [ha.2.1]
  refine Ci (c:=⟨w0,M,U⟩) (ends:=fun u w=>u=.returning/\∃ h vs,Is ⟨w0,M,U⟩ h w/\mu P e h ts=some vs/\cq h (vt T ks k post (uM vs))) (by simp) rfl ?_ ds h w _ hw ?_ hd
  ·rintro w ⟨_,h,vs,hw,H1,cK⟩
   obtain ⟨h',gn,hT,hk,hR,hp⟩:=cK _ _ hw
   subst hr
   exact ⟨_,j8 hw H1 ha.2.2,h'.M,h'.L,h'.R,kF hT gn hk hR,hp⟩
  ·intro h w hw hk
   obtain ⟨vs,H1,cK⟩:=cJ hk
   exact ⟨rfl,h,vs,hw,H1,cK⟩
 cases ex with
 | normal=>obtain ⟨e,ds,h,ha,hw,hd⟩:=hq;exact F0 ha hw hd
 | ret=>obtain ⟨e,ds,h,ha,hw,hd⟩:=hq;exact F0 ha hw hd
 | panic ch=>
  obtain ⟨e,ds,h,ha,hw,aft,hd⟩:=hq
  show Leaves P fn a.tmps _ a.defers (.panicking ch) w
  rw [ha.2.1]
  refine Ci (c:=⟨w0,M,U⟩) (ends:=fun u w=>u=.panicking ch/\∃ h,Is ⟨w0,M,U⟩ h w/\cq h (vt T ks k (fun _=>pan ch) undef)) (by simp) (Kg aft) ?_ ds h w _ hw ?_ hd
  ·rintro w ⟨_,h,hw,cK⟩
   obtain ⟨h',gn,hT,hk,hR,hp⟩:=cK _ _ hw
   exact ⟨h'.M,h'.L,h'.R,kF hT gn hk hR,hp⟩
  ·intro h w hw hk
   exact ⟨rfl,h,hw,hk⟩
 | exit id=>obtain ⟨_,_,_,_,_,h⟩:=hq;exact h.elim
 | goto l=>exact hq.elim
 | outgrown=>exact hq.elim
def W4 {P:Program}{f:FuncId}{fn:Func}{c:Code}{args:List Value}{dr ts}{T:Tm}{M L R post pan}(hm:P.follows .mixedOrders=true)(xS:du P f=true)
 (hf:P.funcs[f]?=some fn) (hb:fn.body=some c) (hn:args.length<=fn.ntmps) (hc:eu P fn.ntmps dr c=true) (hr:fn.results.toList=ts)
 (h:aJ M L ->iB L ->cA P (PQ P T dr ts (aV L) R.length post pan) [.code c] (mE args) [] ⟨T,M,L,R⟩ ⟨⟩):bU P f args T M L R post pan:=by
 refine ⟨xS,fun w U hw=>calls_of_wp_defers hf hb ?_⟩
 obtain ⟨h1,h2,h3⟩:=hw.facts
 have:=jR (c₀:=⟨w,M,U⟩) hm c (PQ P T dr ts (aV L) R.length post pan).k (mE args) [] ⟨T,M,L,R⟩ w _ hc (fr0 args.toArray fn.ntmps (by simpa using hn)) h3 (h h1 h2)
 exact wp_mono this fun ex a w' hq=>Iq hr hq
theorem Xd {P T dr ts ks n post pan}:(PQ P T dr ts ks n post pan).ret=Ys P T ts ks n post:=(rfl)
theorem xP {P T dr ts ks n post pan}:(PQ P T dr ts ks n post pan).pan=acQ P T ks n pan:=(rfl)
theorem aa8 {P T dr ts ks n post pan}:(PQ P T dr ts ks n post pan).dr=dr:=(rfl)
theorem Uk {P T ts ks n post e h}:Ys P T ts ks n post e [] h=ea (mu P e h ts) fun vs=>cq h (vt T ks n post (uM vs)):=(rfl)
theorem Ps (P:Program)(t a n c):iX P .eql t (.slice a n c) (.slice none 0 0)=if dP P t=true then some (.bool a.isNone) else none:=(rfl)
theorem MW {P T ks n pan}(ops:List Oper):wm (acQ P T ks n pan) ops=True:=eq_true (fun _ _ _ _ _ _ _ _ _ h=>h)
theorem fg {P:Program}{F:Fi}{v:Value}{a b:Code}{S:List Item}{e:dx}{ds:List Deferred}{h:Sh}(Q:dx ->List Deferred ->Sh ->Prop)
 (k:∀ S',(∀ e ds h,Q e ds h ->cA P F S' e ds h ⟨⟩) ->Ak P F v a b S' e ds h ⟨⟩) (hS:∀ e ds h,Q e ds h ->cA P F S e ds h ⟨⟩):Ak P F v a b S e ds h ⟨⟩:=k S hS
theorem lS {P:Program}{F:Fi}{c:Code}{S:List Item}{e:dx}{ds:List Deferred}{h:Sh}(Q:dx ->List Deferred ->Sh ->Prop)
 (k:∀ S',(∀ e ds h,Q e ds h ->cA P F S' e ds h ⟨⟩) ->cA P F (.code c::S') e ds h ⟨⟩) (hS:∀ e ds h,Q e ds h ->cA P F S e ds h ⟨⟩):cA P F (.code c::S) e ds h ⟨⟩:=k S hS
def eF {N M L R e sz}{k:Sh ->Prop}(hk:cq ⟨N,M,L,(.slice none 0 0,e,sz,[])::R⟩ k):cq ⟨N,M,L,R⟩ k:=fun c w hw=>by
 obtain ⟨bs,hi⟩:=hw
 exact hk c w ⟨_,hi.addNil⟩
def Hp.typed {c N M L R w bs b cs t}(hi:Hp c ⟨N,M,L,R⟩ w bs)(hT:N b=some t)(hb:(b,cs)∈L):w.heap[b]?=some (.cells cs.toArray t (0,0)):=by
 obtain ⟨u,hu⟩:=hi.blk b cs hb
 obtain ⟨_,h⟩:=hi.typ b t hT
 obtain ⟨cs',f,h⟩:=h (List.mem_map.2 ⟨_,hb,rfl⟩)
 rw [hu] at h
 injection h with h
 injection h with h1 h2 h3
 subst h2
 exact hu
theorem l8 {P:Program}{F:Fi}{ops:List Oper}{sc:Sched}{S:List Item}{e:dx}{ds:List Deferred}{h:Sh}(Q:dx ->List Deferred ->Sh ->Prop)
 (k:∀ S',(∀ e ds h,Q e ds h ->cA P F S' e ds h ⟨⟩) ->G0 P F ops sc S' e ds h ⟨⟩) (hS:∀ e ds h,Q e ds h ->cA P F S e ds h ⟨⟩):G0 P F ops sc S e ds h ⟨⟩:=k S hS
section
variable {P:Program} {F:Fi} {s:List Item} {e:dx} {ds:List Deferred} {h:Sh}
theorem Rbk (id b):cA P F (.code (.block id b)::s) e ds h ⟨⟩=cA P F (.code b:: .blk id::s) e ds h ⟨⟩:=(rfl)
theorem Rcb (t a b):Ak P F (.bool t) a b s e ds h ⟨⟩=if t=true then cA P F (.code a::s) e ds h ⟨⟩ else cA P F (.code b::s) e ds h ⟨⟩:=(rfl)
theorem aD:(∀ t a b,Ak P F (.bool t) a b s e ds h ⟨⟩=if t=true then cA P F (.code a::s) e ds h ⟨⟩ else cA P F (.code b::s) e ds h ⟨⟩)/\∀ id b,cA P F (.code (.block id b)::s) e ds h ⟨⟩=cA P F (.code b:: .blk id::s) e ds h ⟨⟩:=⟨fun _ _ _=>rfl,fun _ _=>rfl⟩
end
structure FnF (P:Program) (f:FuncId) (fn:Func) (nt:Nat) (dr:List (Nat×Sched)) (ts:List ResultVar):Prop where
 mx:P.follows .mixedOrders=true
 bd:du P f=true
 fe:P.funcs[f]?=some fn
 nt:fn.ntmps=nt
 ok:∀ c,fn.body=some c ->eu P fn.ntmps dr c=true
 rs:fn.results.toList=ts
def bV {P f fn nt dr ts}(hm:P.follows .mixedOrders=true)(hf:P.funcs[f]?=some fn)(h:((du P f && fn.ntmps==nt) && match fn.body with | some c=>eu P fn.ntmps dr c | none=>true)=true)(hr:fn.results.toList=ts):FnF P f fn nt dr ts:=by
 simp only [Bool.and_eq_true,beq_iff_eq] at h
 exact ⟨hm,h.1.1,hf,h.1.2,fun c hc=>by have:=h.2;rw [hc] at this;exact this,hr⟩
def FnF.le {P f fn nt dr ts}(F:FnF P f fn nt dr ts){n:Nat}(h:Nat.ble n nt=true):n<=fn.ntmps:=by rw [F.nt];exact Nat.le_of_ble_eq_true h
section
variable {P:Program} {f:FuncId} {fn:Func} {c:Code} {args:List Value} {nt:Nat} {dr:List (Nat×Sched)} {ts:List ResultVar} {T:Tm} {M:aR} {L:List (Nat×List Value)} {R:List (Value×TypeId×Nat×List Value)} {k:Nat} {post:ep} {pan:mC}
def az (F:FnF P f fn nt dr ts)(hb:fn.body=some c)(hn:Nat.ble args.length nt=true)(h:aJ M L ->iB L ->cA P (fi P T dr ts (aV L) R.length post pan) [.code c] (mE args) [] ⟨T,M,L,R⟩ ⟨⟩):bU P f args T M L R post pan:=
 IJ F.mx F.bd F.fe hb (F.le hn) (F.ok c hb) F.rs h
def l6 (F:FnF P f fn nt dr ts)(hb:fn.body=some c)(hn:Nat.ble args.length nt=true)(h:aJ M L ->iB L ->cA P (fi P T dr ts (aV L) k post pan) [.code c] (mE args) [] ⟨T,M,L,R⟩ ⟨⟩):PN P f args T M L R k post pan:=
 W5 F.mx F.bd F.fe hb (F.le hn) (F.ok c hb) F.rs h
def FA (F:FnF P f fn nt dr ts)(hb:fn.body=some c)(hn:Nat.ble args.length nt=true)(h:aJ M L ->iB L ->cA P (PQ P T dr ts (aV L) R.length post pan) [.code c] (mE args) [] ⟨T,M,L,R⟩ ⟨⟩):bU P f args T M L R post pan:=
 W4 F.mx F.bd F.fe hb (F.le hn) (F.ok c hb) F.rs h
def RP (F:FnF P f fn nt dr ts)(hb:fn.body=some c)(hn:Nat.ble args.length nt=true)(h:aJ M L ->iB L ->cA P (fi P T dr ts (aV L) R.length post pan) [.code c] (mE args) [] ⟨T,M,L,R⟩ ⟨⟩):CtD P f args T M L R post pan:=
 Xa F.mx F.bd F.fe hb (F.le hn) (F.ok c hb) F.rs h
end
attribute [go_sem] Wi YN Ym If YP Wp EY KL Wg Wr Qv P6 aag V0 Ik EX Qt Xd xP aa8 Uk OS Qs aaD Qr Pc QB J8 Wj O8 Dh AX Ih Ig ON OO A6 Jz Tj JA Ti X4 JB OM Tl Gg OL Jy Tp JC Tr Tq oF Qz Ie QA Di Ng Wk Ni Wq Wo EV Nd EU Nh Qw Nk Qx Wl Yh O5 Yi GS TX acT TY acS acV J1 TW TZ Yf acU We O6 Yo Uf Wh Nb GX Ws Pb Pa Nl G2 OT Qq Ud Ic Nf Wn Qu J5 Qp Vg To EW Ii O9 Ij J6 E0 Dl JK GZ Nj Wm Vf Tn aaC Al QX Pz Qy Kq Vj Kp PG Vh Vb Ve YQ PA Ko HC PF PE Vd YL Pv QO QY QU QP QV QT QS QR QQ QW Pt Py Pr Pw Pu Px aa5 Sd Xc FH DG Pq PI PJ Th OJ X3 Bool.if_true_left Bool.if_true_right Bool.if_false_left Bool.if_false_right Bool.decide_eq_true Bool.decide_eq_false Bool.or_eq_true Bool.and_eq_true Bool.eq_false_iff decide_not Bool.false_or Bool.or_false Bool.and_false Bool.false_and or_false false_or and_false false_and or_true true_or not_true_eq_false WA Ix sF IC aB bg al7 Ps MW Option.isNone_none Option.isNone_some P8 true_implies aaF Tt Tw Tx aK No TK TM O0 Yd TL O1 Iw E8 List.all_cons List.all_nil UZ Int.ofNat_lt Int.ofNat_le Int.toNat_natCast Nat.mul_one YO aew aex aey aez aeA aeB YF UL YE Wz gt_iff_lt ge_iff_le Int.le_refl Nat.add_sub_cancel Nat.sub_zero and_self U8 U7 Va U9 Iu Option.map_none Nat.zero_mul Nat.one_mul JE mE st Do QK Ui Uj Pg U0 U1 aa9 Yu C3 List.getD_cons_zero List.getD_cons_succ if_true if_false beq_self_eq_true PH HA Oh IY UD Pk List.set_cons_zero List.set_cons_succ List.length_set agQ HD l9 j5 aeN GA D4 Oj I1 Nat.add_zero Nat.zero_add Nat.zero_lt_succ List.getElem?_cons_zero List.getElem?_cons_succ List.getElem?_nil Option.bind_some Option.bind_none Option.map_some Option.getD_some decide_eq_true_eq decide_true decide_false Classical.not_not ite_not Bool.and_true Bool.true_and Bool.or_true beq_true beq_false Bool.not_eq_eq_eq_not decide_eq_false_iff_not Bool.not_true Bool.not_false Bool.not_not List.map_cons List.map_nil List.append_assoc List.nil_append List.append_nil List.cons_append Array.toList_map List.length_cons List.length_nil aJ iB bf and_true true_and implies_true ne_eq not_false_eq_true
def Q4 {P:Program}{f:FuncId}{args:List Value}{T:Tm}{M:aR}{v:Value}{e:TypeId}{sz:Nat}{xs:List Value}{Q:Value ->Prop}(ed:0<sz)(hb:du P f=true)
 (hc:∀ M',bm M M' ->Sl M' v sz xs ->bU P f args T M' [] [] (fun r _ _ _=>Q r) aM):
 bU P f args T M [] [(v,e,sz,xs)] (fun r _ _ R'=>Q r/\R'=[(v,e,sz,xs)]) aM:=by
 refine ⟨hb,fun w U hw=> ?_⟩
 obtain ⟨bs,hU,hi⟩:=hw
 obtain ⟨bu,bN⟩:=hi.rows
 obtain ⟨o,rfl⟩:∃ o,bs=[o]:=by
  cases bs with
  | nil=>simp at bu
  | cons o bs=>cases bs with
   | nil=>exact ⟨o,rfl⟩
   | cons _ _=>simp at bu
 have hr:=bN 0 _ _ _ _ o rfl rfl
 obtain ⟨M1,bs1,HW,he,hs⟩:=hi.freezeR ed
 have fO:bs1=[]:=by simpa using HW.rows.1.symm
 subst fO
 have hen:Hp ⟨w,M1,aV []++([]:List (Option Nat)).filterMap id⟩ ⟨T,M1,[],[]⟩ w []:=Hp.enter (L1:=[]) (Lp:=[]) (L2:=[]) (R1:=[]) (Rp:=[]) (R2:=[]) (b1:=[]) (bp:=[]) (b2:=[]) HW rfl rfl
 refine Calls.mono ((hc M1 he hs).2 w _ ⟨[],rfl,hen⟩) ?_
 intro en w' hq
 cases en with
 | returned r=>
  obtain ⟨M2,L2,R2,⟨⟨bs2,h2⟩,hk,hR⟩,hq⟩:=hq
  have hnU:∀ b,b∈U ->M b=none:=fun b hb=>(hi.apart b (by rw [hU] at hb;simpa [aV] using hb)).1
  refine ⟨fun k=>if k∈U then none else M2 k,[],[(v,e,sz,xs)],⟨⟨[o],?_⟩,rfl,rfl⟩,hq,rfl⟩
  exact
  {typ:=fun b t hu=>⟨(h2.typ b t hu).1,fun hb=>by simp at hb⟩
   holds:=fun b c PW=>by
    have abE:(if b∈U then none else M2 b)=some c:=PW
    split at abE
    ·cases abE
    ·exact h2.holds b c abE
   blk:=fun b cs hb=>by cases hb
   rows:=⟨rfl,fun i v' e' sz' xs' o' h3 h4=>by
    cases i with
    | zero=>
     simp only [List.getElem?_cons_zero,Option.some.injEq,Prod.mk.injEq] at h3 h4
     obtain ⟨rfl,rfl,rfl,rfl⟩:=h3
     subst h4
     rcases hr with hr | ⟨g,n,cap,junk,hv,hg,hn,sT,cX,ho⟩ | ⟨h0,_⟩ | ⟨h0,_⟩
     ·exact .inl hr
     ·refine .inr (.inl ⟨g,n,cap,junk,hv,?_,hn,sT,cX,ho⟩)
      rw [h2.old g (Array.getElem?_eq_some_iff.1 hg).1 (by simp [aV])]
      exact hg
     ·omega
     ·omega
    | succ i=>simp at h3⟩
   nodup:=hi.nodup
   apart:=fun b hb=>by
    have h5:=hi.apart b hb
    have hbU:b∈U:=by rw [hU];simpa [aV] using hb
    exact ⟨if_pos hbU,h5.2⟩
   os:=h2.os
   tape:=h2.tape
   output:=h2.output
   size:=h2.size
   old:=fun b hb _=>h2.old b hb (by simp [aV])
   mem:=fun b hb hn=>by
    show (if b∈U then none else M2 b)=M b
    rw [if_neg hn]
    exact (h2.mem b hb (by simp [aV])).trans (HW.mem b hb hn)
   le:=fun b x Zn=>by
    show (if b∈U then none else M2 b)=some x
    have Zn:M b=some x:=Zn
    rw [if_neg (fun hn=>by rw [hnU b hn] at Zn;cases Zn)]
    exact h2.le b x (he b x Zn)}
 | panicked ch=>
  obtain ⟨_,_,_,_,hq⟩:=hq
  exact hq.elim
 | outgrown=>exact hq.elim
def LM (P:Program)(ts:List ResultVar)(k:Value ->Sh ->Prop)(e:dx)(ds:List Deferred)(h:Sh):Prop:=ds=[]/\ea (mu P e h ts) fun vs=>k (uM vs) h
def Td (k:List PanicEntry ->Sh ->Prop)(ch:List PanicEntry)(_:dx)(ds:List Deferred)(h:Sh):Prop:=ds=[]/\k ch h
def Ta (P:Program)(dr:List (Nat×Sched))(ts:List ResultVar)(k:Value ->Sh ->Prop)(pk:List PanicEntry ->Sh ->Prop):Fi:=⟨dr,LM P ts k,Td pk⟩
section
variable {P:Program} {dr:List (Nat×Sched)} {ts:List ResultVar} {k:Value ->Sh ->Prop} {pk:List PanicEntry ->Sh ->Prop}
theorem Tc:(Ta P dr ts k pk).ret=LM P ts k:=(rfl)
theorem Tb:(Ta P dr ts k pk).pan=Td pk:=(rfl)
theorem X2:(Ta P dr ts k pk).dr=dr:=(rfl)
theorem Tg {e h}:LM P ts k e [] h=ea (mu P e h ts) fun vs=>k (uM vs) h:=by simp [LM]
end
attribute [go_sem] Tc Tb X2 Tg
def Ah {P:Program}{F:Fi}{f:FuncId}{fn:Func}{c:Code}{args:List Value}{nt:Nat}{dr:List (Nat×Sched)}{ts:List ResultVar}{dd:Option Nat}{s:List Item}{e:dx}{ds:List Deferred}{h:Sh}(FF:FnF P f fn nt dr ts)(hb:fn.body=some c)(hn:Nat.ble args.length nt=true)
 (hr:cA P (Ta P dr ts (fun v h'=>cA P F s (cI e dd v) ds h' ⟨⟩) (fun ch h'=>F.pan ch e ds h')) [.code c] (mE args) [] h ⟨⟩):dp P F f args dd s e ds h ⟨⟩:=by
 refine ⟨FF.bd,fun c₀ w hw=>calls_of_wp FF.fe hb ?_⟩
 have hl:args.toArray.size<=fn.ntmps:=by simpa using FF.le hn
 have:=jR (c₀:=c₀) FF.mx c (Ta P dr ts (fun v h'=>cA P F s (cI e dd v) ds h' ⟨⟩) (fun ch h'=>F.pan ch e ds h')).k (mE args) [] h w _ (FF.ok c hb) (fr0 args.toArray fn.ntmps hl) hw hr
 refine wp_mono this fun ex a w' hq=> ?_
 cases ex with
 | normal=>
  obtain ⟨e',ds',h',ha,gn,uS,cK⟩:=hq
  obtain ⟨vs,H1,cK⟩:=cJ cK
  subst uS
  have acs:mu P e' h' fn.results.toList=some vs:=by rw [FF.rs];exact H1
  exact ⟨ha.2.1,_,j8 gn acs ha.2.2,h',gn,cK⟩
 | ret=>
  obtain ⟨e',ds',h',ha,gn,uS,cK⟩:=hq
  obtain ⟨vs,H1,cK⟩:=cJ cK
  subst uS
  have acs:mu P e' h' fn.results.toList=some vs:=by rw [FF.rs];exact H1
  exact ⟨ha.2.1,_,j8 gn acs ha.2.2,h',gn,cK⟩
 | panic ch=>
  obtain ⟨e',ds',h',ha,gn,uS,cK⟩:=hq
  subst uS
  exact ⟨ha.2.1,h',gn,cK⟩
 | exit id=>obtain ⟨_,_,_,_,_,h⟩:=hq;exact h.elim
 | goto l=>exact hq.elim
 | outgrown=>exact hq.elim
theorem P9 {k}(ops:List Oper):wm (Td k) ops=True:=eq_true (fun _ _ _ _ _ _ _ _ _ h=>h)
attribute [go_sem] P9
def eM (M:aR):LL ->aR
 | []=>M
 | (b,c)::l=>(eM M l).add b c
def ke (M:aR)(L:LL):aR:=fun b=>if b∈aV L then none else M b
def Db:LL ->LL ->Prop
 | [],[]=>True
 | (b,c)::l,(b',c')::l'=>b=b'/\(∃ x,c'=c++x/\Pfx c x)/\Db l l'
 | _,_=>False
theorem nJ:∀ {Lp L:LL},Db Lp L ->aV Lp=aV L
 | [],[],_=>rfl
 | (b,c)::l,(b',c')::l',h=>by
  obtain ⟨rfl,_,h⟩:=h
  have:=nJ h
  simp only [aV,List.map_cons] at this ⊢
  rw [this]
theorem Bm:∀ (L:LL),Db L L
 | []=>trivial
 | (_,c)::l=>⟨rfl,⟨[],(List.append_nil c).symm,.inl rfl⟩,Bm l⟩
theorem pM {M:aR}:∀ {Lp:LL} {b:Nat},b∉aV Lp ->eM M Lp b=M b
 | [],_,_=>rfl
 | (k,c)::l,b,h=>by
  simp only [aV,List.map_cons,List.mem_cons,not_or] at h
  show (if b=k then some c else eM M l b)=_
  rw [if_neg h.1];exact pM h.2
theorem Br {M:aR}:∀ {Lp L:LL} {b:Nat} {c:List Value},Db Lp L ->eM M Lp b=some c ->M b=some c\/∃ x,(b,c++x)∈L/\Pfx c x
 | [],[],_,_,_,h=> .inl h
 | (k,c0)::l,(k',c')::l',b,c,hp,h=>by
  obtain ⟨rfl,⟨x,rfl,hx⟩,hp⟩:=hp
  have h:(if b=k then some c0 else eM M l b)=some c:=h
  split at h
  ·rename_i hb
   injection h with h
   subst h;subst hb
   exact .inr ⟨x,by simp,hx⟩
  ·rcases Br hp h with h | ⟨y,h1,h2⟩
   ·exact .inl h
   ·exact .inr ⟨y,tC h1,h2⟩
theorem gG {M:aR}:∀ {Lp:LL},aJ M Lp ->bm M (eM M Lp)
 | [],_=>bm.rfl'
 | (k,c)::l,h=>fun b x hb=>by
  show (if b=k then some c else eM M l b)=_
  rw [if_neg]
  ·exact gG h.2 b x hb
  ·rintro rfl;rw [h.1] at hb;cases hb
def sZ {M:aR}{A B:LL}(h:aV A=aV B)(hb:aJ M B):aJ M A:=iu fun b A1=>ri hb b (by rw [<- h];exact A1)
def lX {M M2:aR}{Lp:LL}(hn:aJ M Lp)(h:bm (eM M Lp) M2):bm M (ke M2 Lp):=fun b x hb=>by
 have:b∉aV Lp:=fun hk=>by rw [ri hn b hk] at hb;cases hb
 show (if b∈aV Lp then none else M2 b)=_
 rw [if_neg this]
 exact h _ _ (by rw [pM this];exact hb)
def kK {P:Program}{F:Fi}{f:FuncId}{args:List Value}{dd:Option Nat}{s:List Item}{e:dx}{ds:List Deferred}{N:Tm}{M:aR}{L:LL}{post:ep}(L1 Lp:LL)(hp:Db Lp L)(hc:bU P f args N (eM M Lp) L1 [] post aM)
 (hn:∀ r M2 L2,bm (eM M Lp) M2 ->aV L2=aV L1 ->aJ (ke M2 Lp) (L2++L) ->post r M2 L2 [] ->cA P F s (cI e dd r) ds ⟨N,ke M2 Lp,L2++L,[]⟩ ⟨⟩):dp P F f args dd s e ds ⟨N,M,L1++L,[]⟩ ⟨⟩:=by
 refine ⟨hc.1,fun c w hw=> ?_⟩
 obtain ⟨bs,hi⟩:=hw
 obtain rfl:bs=[]:=by simpa using hi.rows.1.symm
 have hk:=nJ hp
 have jo:(aV L1++aV L).Nodup:=by have:=hi.nodup;simpa [aV] using this
 have hd:=List.nodup_append.1 jo
 have own:∀ b,b∈aV L1\/b∈aV L ->M b=none/\(b∈c.U\/c.w0.heap.size<=b):=fun b hb=>hi.apart b (by simpa [aV] using hb)
 have aL:∀ b,b∈aV L1\/b∈aV L ->b<w.heap.size:=fun b hb=>hi.own_lt (by simpa [aV] using hb)
 have vG:Qa w (aV L1) N (eM M Lp) L1 []:=⟨[],by simp,
  {typ:=fun b t h=>⟨(hi.typ b t h).1,fun hb=>(hi.typ b t h).2 (by rw [List.map_append];exact uV (.inl hb))⟩
   holds:=fun b x hb=>by
    rcases Br hp hb with h | ⟨y,h1,h2⟩
    ·exact hi.holds b x h
    ·obtain ⟨t,ht⟩:=hi.blk _ _ (uV (.inr h1))
     exact ⟨t,_,y,ht,h2⟩
   blk:=fun b cs h=>hi.blk b cs (uV (.inl h))
   rows:=⟨rfl,fun i v e sz xs o h=>by simp at h⟩
   nodup:=by simpa [aV] using hd.1
   apart:=fun b h=>by
    have h':b∈aV L1:=by simpa [aV] using h
    refine ⟨?_,.inl h'⟩
    show eM M Lp b=none
    rw [pM fun h2=>hd.2.2 b h' b (by rw [<- hk];exact h2) rfl]
    exact (own b (.inl h')).1
   os:=rfl
   tape:=rfl
   output:=rfl
   size:=Nat.le_refl _
   old:=fun _ _ _=>rfl
   mem:=fun _ _ _=>rfl
   le:=fun _ _ h=>h}⟩
 refine Calls.mono (hc.2 w _ vG) ?_
 intro en w' hr
 cases en with
 | returned v=>
  obtain ⟨M2,L2,R2,⟨⟨bs2,h2⟩,lr,hR2⟩,hq⟩:=hr
  obtain rfl:R2=[]:=by simpa using hR2
  obtain rfl:bs2=[]:=by simpa using h2.rows.1.symm
  have same:∀ b,b<w.heap.size ->b∉aV L1 ->w'.heap[b]?=w.heap[b]?:=fun b hb hn=>h2.old b hb hn
  have off:∀ b,b∉aV L ->ke M2 Lp b=M2 b:=fun b hb=>by
   show (if b∈aV Lp then none else M2 b)=_
   rw [if_neg (by rw [hk];exact hb)]
  have offk:∀ b,b∈aV L ->ke M2 Lp b=none:=fun b hb=>by
   show (if b∈aV Lp then none else M2 b)=_
   rw [if_pos (by rw [hk];exact hb)]
  have hm2:L2.map (·.1)=aV L1:=lr
  have offa:∀ b,b∈aV (L2++L) ->ke M2 Lp b=none:=fun b hb=>by
   rw [wO,List.mem_append] at hb
   rcases hb with hb | hb
   ·rw [off b fun h=>hd.2.2 b (by rw [<- lr];exact hb) b h rfl]
    exact (h2.apart b (by simpa [aV] using hb)).1
   ·exact offk b hb
  refine ⟨_,⟨[],?_⟩,hn v M2 L2 h2.le lr (iu offa) hq⟩
  exact
  {typ:=fun b t hu=>by
    obtain ⟨lN,hc⟩:=hi.typ b t hu
    refine ⟨Nat.lt_of_lt_of_le lN h2.size,fun hb=> ?_⟩
    have hb:b∈(L2++L).map (·.1):=hb
    rw [List.map_append,List.mem_append] at hb
    rcases hb with hb | hb
    ·exact (h2.typ b t hu).2 hb
    ·obtain ⟨cs,f,h⟩:=hc (by rw [List.map_append,List.mem_append];exact .inr hb)
     exact ⟨cs,f,by rw [same b lN fun h3=>hd.2.2 b h3 b hb rfl];exact h⟩
   holds:=fun b x hb=>by
    have A1:(if b∈aV Lp then none else M2 b)=some x:=hb
    split at A1
    ·cases A1
    ·exact h2.holds b x A1
   blk:=fun b cs hb=>by
    rcases xY hb with hb | hb
    ·exact h2.blk b cs hb
    ·have P0:b∈aV L:=List.mem_map.2 ⟨_,hb,rfl⟩
     obtain ⟨t,ht⟩:=hi.blk b cs (uV (.inr hb))
     exact ⟨t,by rw [same b (aL b (.inr P0)) fun h3=>hd.2.2 b h3 b P0 rfl];exact ht⟩
   rows:=⟨rfl,fun i v e sz xs o h=>by simp at h⟩
   nodup:=by
    show ((L2++L).map (·.1)++([]:List (Option Nat)).filterMap id).Nodup
    simp only [List.map_append,hm2,List.filterMap_nil,List.append_nil]
    exact jo
   apart:=fun b hb=>by
    have A1:b∈aV (L2++L):=by simpa [aV] using hb
    refine ⟨offa b A1,(own b ?_).2⟩
    rw [wO,List.mem_append,lr] at A1
    exact A1
   os:=h2.os.trans hi.os
   tape:=h2.tape.trans hi.tape
   output:=h2.output.trans hi.output
   size:=Nat.le_trans hi.size h2.size
   old:=fun b hb hu=>by
    have A3:b∉aV L1:=fun h=>by
     rcases (own b (.inl h)).2 with h | h
     ·exact hu h
     ·omega
    rw [same b (Nat.lt_of_lt_of_le hb hi.size) A3];exact hi.old b hb hu
   mem:=fun b hb hu=>by
    have bj:¬ (b∈aV L1\/b∈aV L):=fun h=>by
     rcases (own b h).2 with h | h
     ·exact hu h
     ·omega
    show ke M2 Lp b=_
    rw [off b fun h=>bj (.inr h)]
    have h3:M2 b=eM M Lp b:=h2.mem b (Nat.lt_of_lt_of_le hb hi.size) fun h=>bj (.inl h)
    rw [h3,pM (by rw [hk];exact fun h=>bj (.inr h))]
    exact hi.mem b hb hu
   le:=fun b x hx=>by
    have h3:M b=some x:=hi.le b x hx
    have hnk:b∉aV L:=fun h=>by rw [(own b (.inr h)).1] at h3;cases h3
    show ke M2 Lp b=_
    rw [off b hnk]
    exact h2.le b x (by show eM M Lp b=_;rw [pM (by rw [hk];exact hnk)];exact h3)}
 | panicked ch=>obtain ⟨_,_,_,_,hf⟩:=hr;exact hf.elim
 | outgrown=>exact hr.elim
def jK {N M L L2 R}{k:Sh ->Prop}(hs:∀ p∈L2,p∈L)(hn:(aV L2).Nodup)(hk:cq ⟨N,M,L2,R⟩ k):cq ⟨N,M,L,R⟩ k:=fun c w hw=>by
 obtain ⟨bs,hi⟩:=hw
 have iD:∀ b,b∈L2.map (·.1) ->b∈L.map (·.1):=fun b hb=>by
  obtain ⟨p,hp,rfl⟩:=List.mem_map.1 hb
  exact List.mem_map.2 ⟨p,hs p hp,rfl⟩
 have agk:∀ b,b∈L2.map (·.1)++bs.filterMap id ->b∈L.map (·.1)++bs.filterMap id:=fun b hb=>by
  rcases xY hb with h | h
  ·exact uV (.inl (iD b h))
  ·exact uV (.inr h)
 have jo:=List.nodup_append.1 hi.nodup
 exact hk c w ⟨bs,
  {typ:=fun b u hu=>⟨(hi.typ b u hu).1,fun hb=>(hi.typ b u hu).2 (iD b hb)⟩
   holds:=hi.holds
   blk:=fun b x hb=>hi.blk b x (hs _ hb)
   rows:=hi.rows
   nodup:=List.nodup_append.2 ⟨hn,jo.2.1,fun a ha b hb=>jo.2.2 a (iD a ha) b hb⟩
   apart:=fun b hb=>hi.apart b (agk b hb)
   os:=hi.os
   tape:=hi.tape
   output:=hi.output
   size:=hi.size
   old:=hi.old
   mem:=hi.mem
   le:=hi.le}⟩
def ni:Value ->Prop
 | .int _ n=>n=0
 | _=>True
theorem xD {M M':aR}{b:Nat}(h:M' b=M b):∀ {l:List Value} {o:Nat},At M b o l ->At M' b o l
 | [],_,_=>trivial
 | v::l,o,hc=>⟨by have:=hc.1;unfold aN at this ⊢;simp only [h];exact this,xD h hc.2⟩
def Il {M2:aR}{Lp:LL}{v:Value}{sz:Nat}{xs:List Value}(hz:∀ b c,(b,c)∈Lp ->M2 b=some c/\∀ u∈c,ni u)(hx:xs≠[] ->∃ (i:Nat) (k:IntKind) (n:Int),xs[i]?=some (.int k n)/\n≠0)(h:Sl M2 v sz xs):Sl (ke M2 Lp) v sz xs:=by
 rcases h with h | ⟨b,o,n,c,h1,h2,h3,h4⟩
 ·exact .inl h
 ·refine .inr ⟨b,o,n,c,h1,h2,h3,?_⟩
  by_cases h0:xs=[]
  ·subst h0;trivial
  obtain ⟨i,k,m,hi,hm⟩:=hx h0
  have gl:∀ {l:List Value} {o i:Nat} {v:Value},At M2 b o l ->l[i]?=some v ->aN M2 ⟨b,o+i,none⟩=some v:=by
   intro l
   induction l with
   | nil=>intro o i v _ h;simp at h
   | cons u l ih=>
    intro o i v bP h
    cases i with
    | zero=>simp at h;subst h;exact bP.1
    | succ i=>
     have:=ih bP.2 (by simpa using h)
     rw [show o+(i+1)=o+1+i by omega];exact this
  have hc:=gl h4 hi
  have fp:b∉aV Lp:=fun hk=>by
   obtain ⟨⟨b',c'⟩,DR,rfl⟩:=List.mem_map.1 hk
   obtain ⟨e1,e2⟩:=hz _ _ DR
   unfold aN at hc
   simp only [Option.isSome_none,Bool.false_eq_true,if_false] at hc
   rw [e1] at hc
   have:=e2 _ (List.mem_of_getElem? (by simpa using hc))
   exact hm this
  refine xD ?_ h4
  show (if b∈aV Lp then none else M2 b)=_
  rw [if_neg fp]
def ms (W:World):aR:=fun b=>match W.heap[b]? with
 | some (.cells cs _ _)=>some cs.toList
 | _=>none
def zU {W:World}{b:Nat}{cs:Array Value}{t f}(h:W.heap[b]?=some (.cells cs t f)):ms W b=some cs.toList:=by simp [ms,h]
def Gr (W:World):pF (ms W) W:=by
 intro b c hb
 unfold ms at hb
 split at hb
 ·rename_i cs t f h
  injection hb with hb
  subst hb
  exact ⟨t,f,[],by rw [h];simp,.inl rfl⟩
 ·cases hb
def zT {W:World}{a:Addr}{v:Value}(h:W.cell? a=some v):a.spot=none/\aN (ms W) a=some v:=by
 unfold World.cell? at h
 split at h
 ·rename_i cs t f hb
  split at h
  ·cases h
  ·rename_i hs
   have hs:a.spot=none:=by simpa using hs
   refine ⟨hs,?_⟩
   simp [aN,hs,zU hb,h]
 ·cases h
theorem Gq:∀ {n o:Nat} {f:Nat ->Option Value} {cs:List Value},(List.range' o n).mapM f=some cs ->cs.length=n/\∀ i,i<n ->f (o+i)=cs[i]?
 | 0,o,f,cs,h=>by
  simp at h;subst h;simp
 | n+1,o,f,cs,h=>by
  rw [List.range'_succ,List.mapM_cons] at h
  simp only [Option.bind_eq_bind,Option.bind_eq_some_iff,Option.pure_def,Option.some.injEq] at h
  obtain ⟨v,hv,l,hl,rfl⟩:=h
  obtain ⟨h1,h2⟩:=Gq hl
  refine ⟨by simp [h1],fun i hi=> ?_⟩
  cases i with
  | zero=>simpa using hv
  | succ i=>rw [List.getElem?_cons_succ,<- h2 i (by omega)];congr 1;omega
def Nt {W:World}{base:Nat}{a:Addr}{n:Nat}{cs:List Value}(h:W.cells? base a n=some cs):cs.length=n/\∀ i,i<n ->W.cell? (a.add i)=cs[i]?:=by
 unfold World.cells? at h
 split at h
 ·rw [List.range_eq_range'] at h
  obtain ⟨h1,h2⟩:=Gq h
  exact ⟨h1,fun i hi=>by have:=h2 i hi;simpa using this⟩
 ·cases h
theorem P4 {M:aR}{b:Nat}:∀ (cs:List Value) (o:Nat),(∀ i,i<cs.length ->aN M ⟨b,o+i,none⟩=cs[i]?) ->At M b o cs
 | [],o,h=>trivial
 | v::cs,o,h=>by
  refine ⟨by simpa using h 0 (by simp),P4 cs (o+1) fun i hi=> ?_⟩
  have:=h (i+1) (by simpa using hi)
  rw [show o+1+i=o+(i+1) by omega,this];rfl
def Bx {W:World}{base:Nat}{a:Addr}{n:Nat}{cs:List Value}(h:W.cells? base a n=some cs)(hn:0<n):a.spot=none/\cs.length=n/\At (ms W) a.block a.off cs:=by
 obtain ⟨h1,h2⟩:=Nt h
 have h0:=h2 0 hn
 have e0:a.add 0=a:=by simp [Addr.add]
 rw [e0,gq (by omega)] at h0
 obtain ⟨hs,_⟩:=zT h0
 refine ⟨hs,h1,P4 cs _ fun i hi=> ?_⟩
 have DO:=h2 i (by omega)
 obtain ⟨b,o,s⟩:=a
 simp only at hs
 subst hs
 rw [Addr.add_lit,gq hi] at DO
 rw [gq hi]
 exact (zT DO).2
section
variable {H:Type} {enc:TypeId×Value ->H} {P:Program} {W W':World} {base:Nat} {apO:Bool}
theorem Y8 {α:Type}{r:α ->List Value ->Prop}{sz:Nat}{M:aR}{b:Nat}:∀ (n o:Nat),(∀ i,i<n ->∃ cs,At M b (o+i*sz) cs/\cs.length=sz/\∃ x,r x cs) ->∃ l xs,l.length=n/\RL r l xs/\xs.length=n*sz/\At M b o xs
 | 0,o,h=>⟨[],[],rfl,rfl,by simp,trivial⟩
 | n+1,o,h=>by
  obtain ⟨cs,h1,h2,x,h3⟩:=h 0 (by omega)
  obtain ⟨l,xs,h4,h5,h6,h7⟩:=Y8 (α:=α) (r:=r) (sz:=sz) (M:=M) (b:=b) n (o+sz) fun i hi=>by
   obtain ⟨cs,h1,h2⟩:=h (i+1) (by omega)
   refine ⟨cs,?_,h2⟩
   rw [show o+sz+i*sz=o+(i+1)*sz by rw [Nat.add_mul];omega];exact h1
  refine ⟨x::l,cs++xs,by simp [h4],⟨cs,xs,rfl,h3,h5⟩,by rw [List.length_append,h2,h6,Nat.add_mul];omega,fF.2 ⟨by simpa using h1,?_⟩⟩
  rw [h2];exact h7
end
end Vc

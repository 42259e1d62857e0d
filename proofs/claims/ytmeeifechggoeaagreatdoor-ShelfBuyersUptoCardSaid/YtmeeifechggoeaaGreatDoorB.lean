import Derived.Test.YtmeeifechggoeaaGreatDoorA
import Derived.Defers
import Derived.Lib.LaidTab
import Derived.Lib.ConvBytes
import Derived.Attr
import Derived.Deep.Slices
import Derived.ChangeFn
import GoSem.ClaimJoined
set_option linter.all false
namespace Vc
open Go
inductive Item where
 | code (c:Code)
 | ops (all r:List Oper)
 | sch (all:List Oper) (s:Sched) (h0:Sh)
 | chk (t:Bool) (h0:Sh)
 | anew (t:Bool) (all:List Oper) (sc:Sched) (h0:Sh)
 | blk (id:Nat)
 | lp (I:Nat ->dp ->List Deferred ->Sh ->Prop) (m:Nat)
structure Fi where
 dr:List (Nat×Sched)
 ret:dp ->List Deferred ->Sh ->Prop
 pan:List PanicEntry ->dp ->List Deferred ->Sh ->Prop
def Fi.k (F:Fi):KontL where
 nrm:=F.ret
 exi:=fun _ _ _ _=>False
 ret:=F.ret
 pan:=F.pan
def iA (P:Program)(F:Fi):List Item ->KontL
 | []=>F.k
 | .code c::s=>{iA P F s with nrm:=Vh P F.dr c (iA P F s)}
 | .ops all r::s=>{iA P F s with nrm:=jS P all (iA P F s) r}
 | .sch all sc h0::s=>{iA P F s with nrm:=vS P all (iA P F s) h0 sc}
 | .chk t h0::s=>{iA P F s with nrm:=fun e ds h=>(t=false ->fO h0 h)/\(iA P F s).nrm e ds h}
 | .anew t all sc h0::s=>{iA P F s with nrm:=fun e ds h=>∃ h1,fO h0 h1/\(t=false ->fO h1 h)/\vS P all (iA P F s) h1 sc e ds h}
 | .blk id::s=>{iA P F s with exi:=fun i=>if i=id then (iA P F s).nrm else (iA P F s).exi i}
 | .lp I m::s=>{iA P F s with nrm:=fun e ds h=>cq h fun h=>∃ m',m'<m/\I m' e ds h}
structure Tok {α:Type} (a:α):Type
def cy (P:Program)(F:Fi)(s:List Item)(e:dp)(ds:List Deferred)(h:Sh)(_k:Tok (F,s,e,ds,h)):Prop:=(iA P F s).nrm e ds h
def YJ (P:Program)(F:Fi)(id:Nat)(s:List Item)(e:dp)(ds:List Deferred)(h:Sh)(_k:Tok (F,s,e,ds,h)):Prop:=(iA P F s).exi id e ds h
theorem kR {P F}:∀ s,(iA P F s).ret=F.ret
 | []=>rfl
 | .code _::s=>kR s
 | .ops _ _::s=>kR s
 | .sch _ _ _::s=>kR s
 | .chk _ _::s=>kR s
 | .anew _ _ _ _::s=>kR s
 | .blk _::s=>kR s
 | .lp _ _::s=>kR s
theorem iZ {P F}:∀ s,(iA P F s).pan=F.pan
 | []=>rfl
 | .code _::s=>iZ s
 | .ops _ _::s=>iZ s
 | .sch _ _ _::s=>iZ s
 | .chk _ _::s=>iZ s
 | .anew _ _ _ _::s=>iZ s
 | .blk _::s=>iZ s
 | .lp _ _::s=>iZ s
section
variable {P:Program} {F:Fi} {s:List Item} {e:dp} {ds:List Deferred} {h h0:Sh} {all r:List Oper} {dd:Option Nat} {ty:TypeId} {pos:String} {af:Array Edge}
theorem Wj:cy P F [] e ds h ⟨⟩=F.ret e ds h:=(rfl)
theorem EJ:cy P F (.code .skip::s) e ds h ⟨⟩=cy P F s e ds h ⟨⟩:=(rfl)
theorem K8 (a b):cy P F (.code (.seq a b)::s) e ds h ⟨⟩=cy P F (.code a:: .code b::s) e ds h ⟨⟩:=(rfl)
theorem OT (id b):cy P F (.code (.block id b)::s) e ds h ⟨⟩=cy P F (.code b:: .blk id::s) e ds h ⟨⟩:=(rfl)
theorem Yb (id):cy P F (.blk id::s) e ds h ⟨⟩=cy P F s e ds h ⟨⟩:=(rfl)
theorem Ym:cy P F (.code .ret::s) e ds h ⟨⟩=F.ret e ds h:=by
 show (iA P F s).ret e ds h=_;rw [kR]
theorem TN (id):cy P F (.code (.exit id)::s) e ds h ⟨⟩=YJ P F id s e ds h ⟨⟩:=(rfl)
theorem Q0 (id c):YJ P F id (.code c::s) e ds h ⟨⟩=YJ P F id s e ds h ⟨⟩:=(rfl)
theorem abj (id I m):YJ P F id (.lp I m::s) e ds h ⟨⟩=YJ P F id s e ds h ⟨⟩:=(rfl)
theorem X8 (i id):YJ P F i (.blk id::s) e ds h ⟨⟩=if i=id then cy P F s e ds h ⟨⟩ else YJ P F i s e ds h ⟨⟩:=by
 simp only [YJ,iA,cy];split<;>rfl
theorem ID (id ops):cy P F (.code (.region id ⟨ops⟩ false)::s) e ds h ⟨⟩=cy P F (.ops ops ops::s) e ds h ⟨⟩:=(rfl)
theorem E1:cy P F (.ops all []::s) e ds h ⟨⟩=cy P F s e ds h ⟨⟩:=(rfl)
def E5 (P:Program)(F:Fi)(ops:List Oper)(sc:Sched)(s:List Item)(e:dp)(ds:List Deferred)(h:Sh)(_k:Tok (F,ops,s,e,ds,h)):Prop:=
 ∃ h0,fO h0 h/\cy P F (.sch ops sc h0::s) e ds h ⟨⟩
theorem Tn (id ops):cy P F (.code (.region id ⟨ops⟩ true)::s) e ds h ⟨⟩=(wq F.pan ops/\E5 P F ops (JN F.dr id) s e ds h ⟨⟩):=by
 show up P F.dr id ops true (iA P F s) e ds h=_
 unfold up
 rw [if_pos rfl,iZ]
 rfl
theorem eG {ops:List Oper}{sc:Sched}(h0:Sh)(hs:fO h0 h)(hr:cy P F (.sch ops sc h0::s) e ds h ⟨⟩):E5 P F ops sc s e ds h ⟨⟩:=⟨h0,hs,hr⟩
theorem aX {ops:List Oper}{sc:Sched}(hr:cy P F (.sch ops sc h::s) e ds h ⟨⟩):E5 P F ops sc s e ds h ⟨⟩:=⟨h,fO.refl h,hr⟩
theorem S5:cy P F (.sch all .done h0::s) e ds h ⟨⟩=cy P F s e ds h ⟨⟩:=(rfl)
theorem abO:cy P F (.sch all .no h0::s) e ds h ⟨⟩=True:=(rfl)
def yK (P:Program)(F:Fi)(v:Value)(a b:Code)(s:List Item)(e:dp)(ds:List Deferred)(h:Sh)(_k:Tok (F,a,b,s,e,ds,h)):Prop:=
 match v with
 | .bool t=>if t=true then cy P F (.code a::s) e ds h ⟨⟩ else cy P F (.code b::s) e ds h ⟨⟩
 | _=>False
theorem SQ (c a b):cy P F (.code (.cond c a b)::s) e ds h ⟨⟩=yK P F (ev e c) a b s e ds h ⟨⟩:=(rfl)
theorem dG (t a b):yK P F (.bool t) a b s e ds h ⟨⟩=if t=true then cy P F (.code a::s) e ds h ⟨⟩ else cy P F (.code b::s) e ds h ⟨⟩:=(rfl)
def iW (P:Program)(F:Fi)(o:Option Value)(dd:Option Nat)(s:List Item)(e:dp)(ds:List Deferred)(h:Sh)(_k:Tok (F,s,e,ds,h)):Prop:=
 match o with
 | some v=>cy P F s (cI e dd v) ds h ⟨⟩
 | none=>False
theorem NY (v):iW P F (some v) dd s e ds h ⟨⟩=cy P F s (cI e dd v) ds h ⟨⟩:=(rfl)
def RF (P:Program)(F:Fi)(o:Option Oper)(all:List Oper)(sc:Sched)(h0:Sh)(s:List Item)(e:dp)(ds:List Deferred)(h:Sh)(_k:Tok (F,all,sc,h0,s,e,ds,h)):Prop:=
 match o with
 | some o=>if ew all e o.guard=true then iW P F (pv P e h0 o.op) o.dst (.sch all sc h0::s) e ds h ⟨⟩ else cy P F (.sch all sc h0::s) (cI e o.dst undef) ds h ⟨⟩
 | none=>False
theorem Qg (i sc):cy P F (.sch all (.take i sc) h0::s) e ds h ⟨⟩=RF P F all[i]? all sc h0 s e ds h ⟨⟩:=by
 show dU all[i]? _=_
 unfold RF dU
 cases all[i]? with
 | none=>rfl
 | some o=>
  simp only []
  split
  ·unfold iW
   cases pv P e h0 o.op<;>rfl
  ·rfl
theorem Jk (d op ty pos af g sc):RF P F (some ⟨d,op,ty,pos,af,g⟩) all sc h0 s e ds h ⟨⟩=
 if ew all e g=true then iW P F (pv P e h0 op) d (.sch all sc h0::s) e ds h ⟨⟩ else cy P F (.sch all sc h0::s) (cI e d undef) ds h ⟨⟩:=(rfl)
theorem oB {d op ty pos af}:nA ⟨d,op,ty,pos,af,none⟩=false:=(rfl)
def aav (P:Program)(F:Fi)(o:Option Oper)(all:List Oper)(t:Bool)(sc alt:Sched)(h0:Sh)(s:List Item)(e:dp)(ds:List Deferred)(h:Sh)(_k:Tok (F,all,sc,alt,h0,s,e,ds,h)):Prop:=
 match o with
 | some o=>if nA o=true then (Zy P (iA P F s) all o e ds h fun v ds h'=>(t=false ->fO h0 h')/\vS P all (iA P F s) h0 sc (cI e o.dst v) ds h')/\vS P all (iA P F s) h0 alt e ds h
  else cy P F (.ops all [o]:: .chk t h0:: .sch all sc h0::s) e ds h ⟨⟩/\cy P F (.sch all alt h0::s) e ds h ⟨⟩
 | none=>False
theorem WW (i t sc alt):cy P F (.sch all (.eff i t sc alt) h0::s) e ds h ⟨⟩=aav P F all[i]? all t sc alt h0 s e ds h ⟨⟩:=by
 show (dU all[i]? _/\_)=_
 unfold aav dU
 cases all[i]? with
 | none=>simp
 | some o=>
  by_cases hp:nA o=true
  ·simp only [hp,if_true]
  ·simp only [hp]
   show _=(jS P all _ [o] e ds h/\_)
   unfold jS
   rw [if_neg hp]
   rfl
theorem Nw (d op ty pos af g t sc alt)(hp:mh op=false):aav P F (some ⟨d,op,ty,pos,af,g⟩) all t sc alt h0 s e ds h ⟨⟩=(cy P F (.ops all [⟨d,op,ty,pos,af,g⟩]:: .chk t h0:: .sch all sc h0::s) e ds h ⟨⟩/\cy P F (.sch all alt h0::s) e ds h ⟨⟩):=by
 show (if nA _=true then _ else _)=_
 rw [if_neg (by simp [nA,hp])]
def Uu (P:Program)(F:Fi)(o:Option Oper)(all:List Oper)(t:Bool)(sc alt:Sched)(h0:Sh)(s:List Item)(e:dp)(ds:List Deferred)(h:Sh)(_k:Tok (F,all,sc,alt,h0,s,e,ds,h)):Prop:=
 match o with
 | some o=>if nA o=true then (Zy P (iA P F s) all o e ds h fun v ds h'=>∃ h1,fO h0 h1/\(t=false ->fO h1 h')/\vS P all (iA P F s) h1 sc (cI e o.dst v) ds h')/\vS P all (iA P F s) h0 alt e ds h
  else cy P F (.ops all [o]:: .anew t all sc h0::s) e ds h ⟨⟩/\cy P F (.sch all alt h0::s) e ds h ⟨⟩
 | none=>False
theorem TG (i t sc alt):cy P F (.sch all (.effN i t sc alt) h0::s) e ds h ⟨⟩=Uu P F all[i]? all t sc alt h0 s e ds h ⟨⟩:=by
 show (dU all[i]? _/\_)=_
 unfold Uu dU
 cases all[i]? with
 | none=>simp
 | some o=>
  by_cases hp:nA o=true
  ·simp only [hp,if_true]
  ·simp only [hp]
   show _=(jS P all _ [o] e ds h/\_)
   unfold jS
   rw [if_neg hp]
   rfl
theorem HK (d op ty pos af g t sc alt)(hp:mh op=false):Uu P F (some ⟨d,op,ty,pos,af,g⟩) all t sc alt h0 s e ds h ⟨⟩=(cy P F (.ops all [⟨d,op,ty,pos,af,g⟩]:: .anew t all sc h0::s) e ds h ⟨⟩/\cy P F (.sch all alt h0::s) e ds h ⟨⟩):=by
 show (if nA _=true then _ else _)=_
 rw [if_neg (by simp [nA,hp])]
def Zq (P:Program)(F:Fi)(t:Bool)(all:List Oper)(sc:Sched)(h0:Sh)(s:List Item)(e:dp)(ds:List Deferred)(h:Sh)(_k:Tok (F,all,sc,h0,s,e,ds,h)):Prop:=
 ∃ h1,fO h0 h1/\(t=false ->fO h1 h)/\cy P F (.sch all sc h1::s) e ds h ⟨⟩
theorem Qt (t sc):cy P F (.anew t all sc h0::s) e ds h ⟨⟩=Zq P F t all sc h0 s e ds h ⟨⟩:=(rfl)
theorem Ai {t:Bool}{sc:Sched}(Kf:fO h0 h)(hr:cy P F (.sch all sc h::s) e ds h ⟨⟩):Zq P F t all sc h0 s e ds h ⟨⟩:=⟨h,Kf,fun _=>fO.refl _,hr⟩
theorem C5:cy P F (.chk true h0::s) e ds h ⟨⟩=cy P F s e ds h ⟨⟩:=by
 simp [cy,iA]
theorem AD:cy P F (.chk false h0::s) e ds h ⟨⟩=(fO h0 h/\cy P F s e ds h ⟨⟩):=by
 simp [cy,iA]
theorem I7 (op:Op)(g:Nat×Bool)(hp:mh op=true):cy P F (.ops all (⟨dd,op,ty,pos,af,some g⟩::r)::s) e ds h ⟨⟩=
 iW P F (if ew all e (some g)=true then pv P e h op else some undef) dd (.ops all r::s) e ds h ⟨⟩:=by
 show jS P all (iA P F s) (⟨dd,op,ty,pos,af,some g⟩::r) e ds h=_
 unfold jS
 rw [if_pos (by simp [nA,hp])]
 show dU (if ew all e (some g)=true then pv P e h op else some undef) _=_
 unfold dU iW
 cases (if ew all e (some g)=true then pv P e h op else some undef)<;>rfl
theorem HA (op:Op)(g:Nat×Bool)(hp:mh op=false):cy P F (.ops all (⟨dd,op,ty,pos,af,some g⟩::r)::s) e ds h ⟨⟩=
 if ew all e (some g)=true then cy P F (.ops all (⟨dd,op,ty,pos,af,none⟩::r)::s) e ds h ⟨⟩ else cy P F (.ops all r::s) (cI e dd undef) ds h ⟨⟩:=by
 show jS P all (iA P F s) (⟨dd,op,ty,pos,af,some g⟩::r) e ds h=_
 unfold jS
 rw [if_neg (by simp [nA,hp])]
 rfl
theorem NQ (x):mh (.move x)=true:=(rfl)
theorem Mm (c a b):mh (.pick c a b)=true:=(rfl)
theorem Az (x):mh (.nilCheck x)=true:=(rfl)
theorem Hz (t x i):mh (.fieldAddr t x i)=true:=(rfl)
theorem RT (t x i):mh (.indexAddr t x i)=true:=(rfl)
theorem I9 (t x i):mh (.index t x i)=true:=(rfl)
theorem UJ (op t x y u):mh (.binOp op t x y u)=true:=(rfl)
theorem Xy (op t x):mh (.unOp op t x)=true:=(rfl)
theorem JX (t x lo hi c):mh (.slice t x lo hi c)=true:=(rfl)
theorem OV (t x):mh (.load t x)=true:=(rfl)
theorem QI (a t):mh (.call ⟨.builtin .len,a,t⟩)=true:=(rfl)
theorem FQ (a t):mh (.call ⟨.builtin .append,a,t⟩)=false:=(rfl)
theorem MV (f a t):mh (.call ⟨.value f,a,t⟩)=false:=(rfl)
theorem JO (t):mh (.alloc t)=false:=(rfl)
theorem Rz (t n ps):mh (.buildSlice t n ps)=false:=(rfl)
theorem HH (t x y):mh (.store t x y)=false:=(rfl)
theorem Tw {α:Type}(c:Prop)[Decidable c](a b:α):(if c then some a else some b)=some (if c then a else b):=by split<;>rfl
theorem SV (c:Prop)[Decidable c](a b:Bool):(if c then Value.bool a else Value.bool b)=Value.bool (if c then a else b):=by split<;>rfl
theorem nX (d v t):cI e (some d) v t=if t=d then v else e t:=(rfl)
theorem dQ (o:Option Value):(dU o fun v=>cy P F (.ops all r::s) (cI e dd v) ds h ⟨⟩)=iW P F o dd (.ops all r::s) e ds h ⟨⟩:=by
 unfold dU iW;cases o<;>rfl
theorem Tg (x):cy P F (.ops all (⟨dd,.move x,ty,pos,af,none⟩::r)::s) e ds h ⟨⟩=iW P F (some (ev e x)) dd (.ops all r::s) e ds h ⟨⟩:=(rfl)
theorem HE (x):cy P F (.ops all (⟨dd,.assign x,ty,pos,af,none⟩::r)::s) e ds h ⟨⟩=iW P F (some (ev e x)) dd (.ops all r::s) e ds h ⟨⟩:=(rfl)
theorem UX (c a b):cy P F (.ops all (⟨dd,.pick c a b,ty,pos,af,none⟩::r)::s) e ds h ⟨⟩=iW P F (Ea (ev e c) (ev e a) (ev e b)) dd (.ops all r::s) e ds h ⟨⟩:=dQ _
theorem Dr (x):cy P F (.ops all (⟨dd,.nilCheck x,ty,pos,af,none⟩::r)::s) e ds h ⟨⟩=iW P F (Q7 (ev e x)) dd (.ops all r::s) e ds h ⟨⟩:=dQ _
theorem Mz (t x i):cy P F (.ops all (⟨dd,.fieldAddr t x i,ty,pos,af,none⟩::r)::s) e ds h ⟨⟩=iW P F (vd (cC P t i) (ev e x)) dd (.ops all r::s) e ds h ⟨⟩:=dQ _
theorem XL (t x i):cy P F (.ops all (⟨dd,.indexAddr t x i,ty,pos,af,none⟩::r)::s) e ds h ⟨⟩=iW P F (Nk (cS P t) (ev e x) (ev e i)) dd (.ops all r::s) e ds h ⟨⟩:=dQ _
theorem Nt (t x i):cy P F (.ops all (⟨dd,.index t x i,ty,pos,af,none⟩::r)::s) e ds h ⟨⟩=iW P F (vAt (cF P t) (ev e x) (ev e i)) dd (.ops all r::s) e ds h ⟨⟩:=dQ _
theorem V7 (t x):cy P F (.ops all (⟨dd,.unOp .not t x,ty,pos,af,none⟩::r)::s) e ds h ⟨⟩=iW P F (Sv (ev e x)) dd (.ops all r::s) e ds h ⟨⟩:=dQ _
theorem X0 (t x):cy P F (.ops all (⟨dd,.unOp .neg t x,ty,pos,af,none⟩::r)::s) e ds h ⟨⟩=iW P F (WE (ev e x)) dd (.ops all r::s) e ds h ⟨⟩:=dQ _
theorem Gg (x i):cy P F (.ops all (⟨dd,.extract x i,ty,pos,af,none⟩::r)::s) e ds h ⟨⟩=iW P F (NA (ev e x) i) dd (.ops all r::s) e ds h ⟨⟩:=dQ _
def lB (e:dp):List (Nat×Operand) ->List (Nat×List Value)
 | []=>[]
 | (i,x)::r=>(i,(ev e x).cells.toList)::lB e r
theorem sS (e:dp)(l:List (Nat×Operand)):(l.map fun x=>(x.1,(ev e x.2).cells.toList))=lB e l:=by
 induction l with
 | nil=>rfl
 | cons p l ih=>obtain ⟨i,x⟩:=p;simp [lB,ih]
theorem OD (t ps):cy P F (.ops all (⟨dd,.build t ⟨ps⟩,ty,pos,af,none⟩::r)::s) e ds h ⟨⟩=iW P F (uX (bt P t) (lB e ps)) dd (.ops all r::s) e ds h ⟨⟩:=by
 rw [<- sS];exact dQ _
def Re (P:Program)(F:Fi)(k:Nat)(o:Option Value)(x:Value)(dd:Option Nat)(s:List Item)(e:dp)(ds:List Deferred)(h:Sh)(_k:Tok (F,s,e,ds,h)):Prop:=match k with
 | 1=>(match x with
  | .string t=>∀ b c junk,h.M b=none ->bf b h.L ->cy P F s (cI e dd (.slice (some ⟨b,0,none⟩) t.size c)) ds {h with M:=h.M.add b (t.data.toList.map (fun b=>Value.int .u8 b.toNat)++junk)} ⟨⟩
  | _=>False)
 | 2=>(match x,h.L with
  | .slice (some ⟨b,0,none⟩) _ _,(b',cs)::L=>b=b'/\(bf b L ->cy P F s (cI e dd x) ds {h with M:=h.M.add b cs,L:=L} ⟨⟩)
  | _,_=>False)
 | _=>iW P F o dd s e ds h ⟨⟩
theorem ER (a b x):cy P F (.ops all (⟨dd,.convert a b x,ty,pos,af,none⟩::r)::s) e ds h ⟨⟩=Re P F (Vq P a b) (vp P h a b (ev e x)) (ev e x) dd (.ops all r::s) e ds h ⟨⟩:=by
 show KQ P a b (ev e x) h (fun v h'=>cy P F (.ops all r::s) (cI e dd v) ds h' ⟨⟩)=_
 unfold KQ Re
 generalize Vq P a b=k
 rcases k with _ | _ | _ | k
 ·exact dQ _
 ·rfl
 ·rfl
 ·exact dQ _
theorem V8 (o x):Re P F 0 o x dd s e ds h ⟨⟩=iW P F o dd s e ds h ⟨⟩:=(rfl)
theorem OS (t x):cy P F (.ops all (⟨dd,.makeInterface t x,ty,pos,af,none⟩::r)::s) e ds h ⟨⟩=iW P F (Dv (P.concrete t) t (ev e x)) dd (.ops all r::s) e ds h ⟨⟩:=dQ _
theorem Tv (fn a b):cy P F (.ops all (⟨dd,.makeFunc fn a b,ty,pos,af,none⟩::r)::s) e ds h ⟨⟩=iW P F (some (.func fn (a.map (ev e)) (b.map (ev e)))) dd (.ops all r::s) e ds h ⟨⟩:=(rfl)
def aaH (P:Program)(t:TypeId)(x:Value)(lo hi:Option Value):Option Value:=if cF P t=true then BJ true x lo hi else Bz (cS P t) x lo hi
theorem OE (t x lo hi):cy P F (.ops all (⟨dd,.slice t x lo hi none,ty,pos,af,none⟩::r)::s) e ds h ⟨⟩=iW P F (aaH P t (ev e x) (lo.map (ev e)) (hi.map (ev e))) dd (.ops all r::s) e ds h ⟨⟩:=dQ _
theorem H5 (t x i):cy P F (.ops all (⟨dd,.field t x i,ty,pos,af,none⟩::r)::s) e ds h ⟨⟩=iW P F (vFd (fdP P t i) (ev e x)) dd (.ops all r::s) e ds h ⟨⟩:=dQ _
theorem SA (t x):cy P F (.ops all (⟨dd,.load t x,ty,pos,af,none⟩::r)::s) e ds h ⟨⟩=iW P F (pF h (tk P t) (ev e x)) dd (.ops all r::s) e ds h ⟨⟩:=dQ _
theorem Vv (x t):cy P F (.ops all (⟨dd,.call ⟨.builtin .len,⟨[x]⟩,⟨[t]⟩⟩,ty,pos,af,none⟩::r)::s) e ds h ⟨⟩=iW P F (Mt (cF P t) (dH P t) (ev e x)) dd (.ops all r::s) e ds h ⟨⟩:=dQ _
theorem WC (x t):cy P F (.ops all (⟨dd,.call ⟨.builtin .cap,⟨[x]⟩,⟨[t]⟩⟩,ty,pos,af,none⟩::r)::s) e ds h ⟨⟩=iW P F (Wo (dH P t) (ev e x)) dd (.ops all r::s) e ds h ⟨⟩:=dQ _
theorem WL (x):pv P e h (.move x)=some (ev e x):=(rfl)
theorem MJ (x):pv P e h (.assign x)=some (ev e x):=(rfl)
theorem V5 (c a b):pv P e h (.pick c a b)=Ea (ev e c) (ev e a) (ev e b):=(rfl)
theorem FM (x):pv P e h (.nilCheck x)=Q7 (ev e x):=(rfl)
theorem Uk (t x i):pv P e h (.fieldAddr t x i)=vd (cC P t i) (ev e x):=(rfl)
theorem Z9 (t x i):pv P e h (.indexAddr t x i)=Nk (cS P t) (ev e x) (ev e i):=(rfl)
theorem Qz (t x i):pv P e h (.index t x i)=vAt (cF P t) (ev e x) (ev e i):=(rfl)
theorem aae (op t x y u):pv P e h (.binOp op t x y u)=iD P op t (ev e x) (ev e y):=(rfl)
theorem acj (t x):pv P e h (.unOp .not t x)=Sv (ev e x):=(rfl)
theorem JT (x i):pv P e h (.extract x i)=NA (ev e x) i:=(rfl)
theorem Us (t ps):pv P e h (.build t ⟨ps⟩)=uX (bt P t) (lB e ps):=by rw [<- sS];rfl
theorem Ru (t x lo hi):pv P e h (.slice t x lo hi none)=aaH P t (ev e x) (lo.map (ev e)) (hi.map (ev e)):=(rfl)
theorem Ys (o n cs):vFd (some (false,o,n)) (.agg ⟨cs⟩)=cs[o]?:=by simp [vFd]
theorem Xx (t x):pv P e h (.load t x)=pF h (tk P t) (ev e x):=(rfl)
theorem ab9 (x t):pv P e h (.call ⟨.builtin .len,⟨[x]⟩,⟨[t]⟩⟩)=Mt (cF P t) (dH P t) (ev e x):=(rfl)
theorem Yu (a n c):Wo true (.slice a n c)=some (.int .i64 (c:Nat)):=(rfl)
def aa4 (P:Program)(F:Fi)(o:Option Value)(op:BinOp)(t:TypeId)(x y:Operand)(dd:Option Nat)(s:List Item)(e:dp)(ds:List Deferred)(h:Sh)(_k:Tok (F,op,t,x,y,s,e,ds,h)):Prop:=
 match o with
 | some v=>cy P F s (cI e dd v) ds h ⟨⟩
 | none=>afS P (do eqGuard op t x y (ev e x) (ev e y);binOp op t (ev e x) (ev e y)) h fun v=>cy P F s (cI e dd v) ds h ⟨⟩
theorem VJ (op t x y u):cy P F (.ops all (⟨dd,.binOp op t x y u,ty,pos,af,none⟩::r)::s) e ds h ⟨⟩=aa4 P F (iD P op t (ev e x) (ev e y)) op t x y dd (.ops all r::s) e ds h ⟨⟩:=by
 simp only [cy,iA,jS,oB,Bool.false_eq_true,if_false,ew,if_true,Ho]
 unfold aa4
 cases iD P op t (ev e x) (ev e y)<;>rfl
theorem O5 (v op t x y):aa4 P F (some v) op t x y dd s e ds h ⟨⟩=cy P F s (cI e dd v) ds h ⟨⟩:=(rfl)
def Xi (P:Program)(F:Fi)(t:TypeId)(cs:List Value)(dd:Option Nat)(s:List Item)(e:dp)(ds:List Deferred)(h:Sh)(_k:Tok (F,s,e,ds,h)):Prop:=
 PN t cs h fun b h'=>cy P F s (cI e dd (.pointer (some ⟨b,0,none⟩))) ds h' ⟨⟩
def Kn (P:Program)(F:Fi)(o:Option (List Value))(n:Nat)(dd:Option Nat)(s:List Item)(e:dp)(ds:List Deferred)(h:Sh)(_k:Tok (F,s,e,ds,h)):Prop:=
 match o with
 | some cs=>Hi cs h fun b h'=>cy P F s (cI e dd (.slice (some ⟨b,0,none⟩) n n)) ds h' ⟨⟩
 | none=>False
theorem V0 (t)(cs:List Value)(N M L R):Xi P F t cs dd s e ds ⟨N,M,L,R⟩ ⟨⟩=∀ b T,M b=none ->bf b L ->aF N T ->T b=some t ->cy P F s (cI e dd (.pointer (some ⟨b,0,none⟩))) ds ⟨T,M,(b,cs)::L,R⟩ ⟨⟩:=(rfl)
theorem QR (cs:List Value)(n N M L R):Kn P F (some cs) n dd s e ds ⟨N,M,L,R⟩ ⟨⟩=∀ b,M b=none ->bf b L ->cy P F s (cI e dd (.slice (some ⟨b,0,none⟩) n n)) ds ⟨N,M,(b,cs)::L,R⟩ ⟨⟩:=(rfl)
theorem Yf (t x):cy P F (.ops all (⟨dd,.box t x,ty,pos,af,none⟩::r)::s) e ds h ⟨⟩=Xi P F t (ev e x).cells.toList dd (.ops all r::s) e ds h ⟨⟩:=(rfl)
def JW (P:Program)(F:Fi)(t:TypeId)(o:Option (Bool×Nat×Value))(dd:Option Nat)(s:List Item)(e:dp)(ds:List Deferred)(h:Sh)(_k:Tok (F,s,e,ds,h)):Prop:=
 match o with
 | some (_,_,z)=>Xi P F t z.cells.toList dd s e ds h ⟨⟩
 | none=>False
theorem Oe (t):cy P F (.ops all (⟨dd,.alloc t,ty,pos,af,none⟩::r)::s) e ds h ⟨⟩=JW P F t (tk P t) dd (.ops all r::s) e ds h ⟨⟩:=by
 show dU (tk P t) _=_
 unfold dU JW
 cases tk P t<;>rfl
theorem Eh (t g n z):JW P F t (some (g,n,z)) dd s e ds h ⟨⟩=Xi P F t z.cells.toList dd s e ds h ⟨⟩:=(rfl)
def abo (P:Program)(F:Fi)(o:Option (TypeId×Nat×List Value))(n:Nat)(ps:List (Nat×List Value))(dd:Option Nat)(s:List Item)(e:dp)(ds:List Deferred)(h:Sh)(_k:Tok (F,s,e,ds,h)):Prop:=
 match o with
 | some (_,sz,z)=>n*sz<=16777216/\Kn P F (E7 sz z n ps) n dd s e ds h ⟨⟩
 | none=>False
theorem Yn (t n ps):cy P F (.ops all (⟨dd,.buildSlice t n ⟨ps⟩,ty,pos,af,none⟩::r)::s) e ds h ⟨⟩=abo P F (dR P t) n (lB e ps) dd (.ops all r::s) e ds h ⟨⟩:=by
 rw [<- sS]
 show dU (dR P t) _=_
 unfold dU abo
 cases dR P t with
 | none=>rfl
 | some p=>
  obtain ⟨el,sz,z⟩:=p
  simp only [Kn]
  show (_/\dU _ _)=_
  unfold dU
  cases E7 sz z n (ps.map fun x=>(x.1,(ev e x.2).cells.toList))<;>rfl
theorem MG (el sz z n ps):abo P F (some (el,sz,z)) n ps dd s e ds h ⟨⟩=(n*sz<=16777216/\Kn P F (E7 sz z n ps) n dd s e ds h ⟨⟩):=(rfl)
def od (sz:Nat):Nat ->List (Nat×List Value) ->Bool
 | _,[]=>true
 | i,(j,cs)::r=>j==i && cs.length==sz && od sz (i+1) r
def wD:List (Nat×List Value) ->List Value
 | []=>[]
 | (_,cs)::r=>cs++wD r
theorem Ei (vs:List Value):∀ (pre z post:List Value),z.length=vs.length ->pj (pre++z++post) pre.length vs=pre++vs++post:=by
 induction vs with
 | nil=>intro pre z post hz;cases z<;>simp_all [pj]
 | cons v vs ih=>
  intro pre z post hz
  cases z with
  | nil=>simp at hz
  | cons y z=>
   simp only [pj]
   have h1:(pre++(y::z)++post).set pre.length v=(pre++[v])++z++post:=by simp
   rw [h1]
   have:=ih (pre++[v]) z post (by simpa using hz)
   rw [show (pre++[v]).length=pre.length+1 from by simp] at this
   rw [this];simp
theorem AF {sz n:Nat}{z:List Value}(hz:z.length=sz):∀ (ps:List (Nat×List Value)) (i:Nat) (pre:List Value),od sz i ps=true ->i+ps.length=n ->pre.length=i*sz ->
 nF ((List.range n).map fun i=>(i*sz,sz)) (pre++(List.range (n - i)).flatMap fun _=>z) ps=some (pre++wD ps):=by
 intro ps
 induction ps with
 | nil=>intro i pre cB hn hp;simp at hn;subst hn;simp [nF,wD]
 | cons p ps ih=>
  obtain ⟨j,cs⟩:=p
  intro i pre cB hn hp
  simp only [od,Bool.and_eq_true,beq_iff_eq] at cB
  obtain ⟨⟨rfl,fS⟩,cB⟩:=cB
  simp only [List.length_cons] at hn
  have aL:j<n:=by omega
  simp only [nF,List.getElem?_map,List.getElem?_range aL,Option.map_some]
  have acp:(List.range (n - j)).flatMap (fun _=>z)=z++(List.range (n - (j+1))).flatMap (fun _=>z):=by
   rw [show n - j=(n - (j+1))+1 from by omega,List.range_succ_eq_map,List.flatMap_cons,List.flatMap_map]
  rw [acp,if_pos]
  ·rw [<- hp]
   have:=Ei cs pre z ((List.range (n - (j+1))).flatMap fun _=>z) (by rw [hz,fS])
   rw [<- List.append_assoc,this]
   have:=ih (j+1) (pre++cs) cB (by omega) (by rw [List.length_append,hp,fS,Nat.add_mul];omega)
   rw [this];simp [wD]
  ·refine ⟨fS,?_⟩
   simp only [List.length_append]
   omega
theorem Nl {sz n:Nat}{z:List Value}{ps:List (Nat×List Value)}(h1:od sz 0 ps=true)(h2:ps.length=n)(hz:z.length=sz):E7 sz z n ps=some (wD ps):=by
 have:=AF (n:=n) hz ps 0 [] h1 (by omega) (by simp)
 simpa [E7] using this
def Yi (P:Program)(F:Fi)(o:Option (List (Nat×List Value)))(dd:Option Nat)(s:List Item)(e:dp)(ds:List Deferred)(h:Sh)(_k:Tok (F,s,e,ds,h)):Prop:=
 match o with
 | some L=>cy P F s (cI e dd undef) ds ⟨h.N,h.M,L,h.R⟩ ⟨⟩
 | none=>False
theorem O4 (L N M L0 R):Yi P F (some L) dd s e ds ⟨N,M,L0,R⟩ ⟨⟩=cy P F s (cI e dd undef) ds ⟨N,M,L,R⟩ ⟨⟩:=(rfl)
def Ju (P:Program)(F:Fi)(o:Option (Bool×Nat×Value))(x:Value)(vs:List Value)(dd:Option Nat)(s:List Item)(e:dp)(ds:List Deferred)(h:Sh)(_k:Tok (F,s,e,ds,h)):Prop:=
 match o,x with
 | some (_,n,_),.pointer (some ⟨b,i,none⟩)=>(vs.length=n/\vs.all (·.oneCell')=true)/\Yi P F (uJ h.L b i vs) dd s e ds h ⟨⟩
 | _,_=>False
theorem Nn (t x y):cy P F (.ops all (⟨dd,.store t x y,ty,pos,af,none⟩::r)::s) e ds h ⟨⟩=Ju P F (tk P t) (ev e x) (ev e y).cells.toList dd (.ops all r::s) e ds h ⟨⟩:=by
 show dU (tk P t) _=_
 unfold dU AH Ju
 cases tk P t with
 | none=>rfl
 | some p=>
  obtain ⟨g,n,z⟩:=p
  simp only []
  generalize ev e x=v
  cases v<;>try rfl
  rename_i a
  cases a with
  | none=>rfl
  | some a=>
   obtain ⟨b,i,sp⟩:=a
   cases sp with
   | some q=>simp
   | none=>
    simp only [true_and]
    unfold Yi
    cases uJ h.L b i (ev e y).cells.toList<;>rfl
theorem G7 (g n z b i vs)(N M L R):Ju P F (some (g,n,z)) (.pointer (some ⟨b,i,none⟩)) vs dd s e ds ⟨N,M,L,R⟩ ⟨⟩=((vs.length=n/\vs.all (·.oneCell')=true)/\Yi P F (uJ L b i vs) dd s e ds ⟨N,M,L,R⟩ ⟨⟩):=(rfl)
theorem Na (b cs l k i vs):uJ ((b,cs)::l) k i vs=if k=b then (if i+vs.length<=cs.length then some ((b,pj cs i vs)::l) else none) else (uJ l k i vs).map ((b,cs):: ·):=(rfl)
def dx (P:Program)(F:Fi)(f:FuncId)(args:List Value)(dd:Option Nat)(s:List Item)(e:dp)(ds:List Deferred)(h:Sh)(_k:Tok (F,s,e,ds,h)):Prop:=
 UP P f args h (fun v h'=>cy P F s (cI e dd v) ds h' ⟨⟩) (fun ch h'=>F.pan ch e ds h')
def rFn (P:Program)(F:Fi)(v:Value)(args:List Value)(dd:Option Nat)(s:List Item)(e:dp)(ds:List Deferred)(h:Sh)(_k:Tok (F,s,e,ds,h)):Prop:=
 match v with
 | .func (.func f) first cap=>dx P F f (first.toList++args++cap.toList) dd s e ds h ⟨⟩
 | _=>False
theorem Qn (f args tys):cy P F (.ops all (⟨dd,.call ⟨.value f,⟨args⟩,tys⟩,ty,pos,af,none⟩::r)::s) e ds h ⟨⟩=rFn P F (ev e f) (args.map (ev e)) dd (.ops all r::s) e ds h ⟨⟩:=by
 simp only [cy,iA,jS,oB,Bool.false_eq_true,if_false,ew,if_true,Ho,xFn,rFn,dx,iZ]
 generalize ev e f=v
 cases v<;>try rfl
theorem Sz (f a c args):rFn P F (.func (.func f) ⟨a⟩ ⟨c⟩) args dd s e ds h ⟨⟩=dx P F f (a++args++c) dd s e ds h ⟨⟩:=(rfl)
def nG (P:Program)(F:Fi)(t tx:TypeId)(x y:Value)(dd:Option Nat)(s:List Item)(e:dp)(ds:List Deferred)(h:Sh)(_k:Tok (F,s,e,ds,h)):Prop:=
 KK P t tx x y h fun v h'=>cy P F s (cI e dd v) ds h' ⟨⟩
theorem H8 (x y t tx):cy P F (.ops all (⟨dd,.call ⟨.builtin .append,⟨[x,y]⟩,⟨[t,tx]⟩⟩,ty,pos,af,none⟩::r)::s) e ds h ⟨⟩=nG P F t tx (ev e x) (ev e y) dd (.ops all r::s) e ds h ⟨⟩:=(rfl)
theorem Fm (t){N M L R}:cy P F (.ops all (⟨dd,.makeMap t none,ty,pos,af,none⟩::r)::s) e ds ⟨N,M,L,R⟩ ⟨⟩=∀ g,cy P F (.ops all r::s) (cI e dd (.map (some g))) ds ⟨N,M,L,(.map (some g),t,0,[])::R⟩ ⟨⟩:=(rfl)
def abi (P:Program)(F:Fi)(K:Option IntKind)(m k x:Value)(dd:Option Nat)(s:List Item)(e:dp)(ds:List Deferred)(h:Sh)(_k:Tok (F,s,e,ds,h)):Prop:=
 VV K m k x h fun h'=>cy P F s (cI e dd undef) ds h' ⟨⟩
theorem Ix (t m k x):cy P F (.ops all (⟨dd,.insert t m k x,ty,pos,af,none⟩::r)::s) e ds h ⟨⟩=abi P F (H6 P t) (ev e m) (ev e k) (ev e x) dd (.ops all r::s) e ds h ⟨⟩:=(rfl)
theorem OH (K g n x t' xs){N M L R}:abi P F (some K) (.map (some g)) (.int K n) x dd s e ds ⟨N,M,L,(.map (some g),t',0,xs)::R⟩ ⟨⟩=(lA K n xs=true/\cy P F s (cI e dd undef) ds ⟨N,M,L,(.map (some g),t',0,xs++[.int K n,x])::R⟩ ⟨⟩):=by
 simp only [abi,VV,true_and]
def RB (P:Program)(F:Fi)(K:Option IntKind)(m k:Value)(dd:Option Nat)(s:List Item)(e:dp)(ds:List Deferred)(h:Sh)(_k:Tok (F,s,e,ds,h)):Prop:=
 KL K m k h fun v=>cy P F s (cI e dd v) ds h ⟨⟩
theorem Iu (t m k):cy P F (.ops all (⟨dd,.lookup t m k false,ty,pos,af,none⟩::r)::s) e ds h ⟨⟩=RB P F (H6 P t) (ev e m) (ev e k) dd (.ops all r::s) e ds h ⟨⟩:=(rfl)
theorem Ij (K g n t' xs){N M L R}:RB P F (some K) (.map (some g)) (.int K n) dd s e ds ⟨N,M,L,(.map (some g),t',0,xs)::R⟩ ⟨⟩=iW P F (tp K n xs) dd s e ds ⟨N,M,L,(.map (some g),t',0,xs)::R⟩ ⟨⟩:=by
 simp only [RB,KL,true_and,and_self]
 cases tp K n xs<;>rfl
theorem Yw (x y tys):cy P F (.ops all (⟨dd,.call ⟨.builtin .min,⟨[x,y]⟩,tys⟩,ty,pos,af,none⟩::r)::s) e ds h ⟨⟩=iW P F (Cy (ev e x) (ev e y)) dd (.ops all r::s) e ds h ⟨⟩:=by
 show dU (Cy (ev e x) (ev e y)) _=_
 unfold iW
 cases Cy (ev e x) (ev e y)<;>rfl
theorem TR (k a b):Cy (.int k a) (.int k b)=some (.int k (if b<a then b else a)):=by simp [Cy]
theorem Sr (a t):mh (.call ⟨.builtin .min,a,t⟩)=false:=(rfl)
theorem EQ (K n):lA K n []=true:=(rfl)
theorem CJ (K n a v r):lA K n (.int K a::v::r)=(!decide (a=n) && lA K n r):=by simp [lA]
theorem H0 (K n a v r):tp K n (.int K a::v::r)=if a=n then some v else tp K n r:=by simp [tp]
theorem Yp (x y tys):cy P F (.ops all (⟨dd,.call ⟨.builtin .max,⟨[x,y]⟩,tys⟩,ty,pos,af,none⟩::r)::s) e ds h ⟨⟩=iW P F (Dd (ev e x) (ev e y)) dd (.ops all r::s) e ds h ⟨⟩:=by
 show dU (Dd (ev e x) (ev e y)) _=_
 unfold dU iW
 cases Dd (ev e x) (ev e y)<;>rfl
theorem QF (k a b):Dd (.int k a) (.int k b)=some (.int k (if b>a then b else a)):=by simp [Dd]
theorem UK (a t):mh (.call ⟨.builtin .max,a,t⟩)=false:=(rfl)
def rMk (P:Program)(F:Fi)(o:Option (TypeId×Nat×List Value))(ok:Bool)(l c:Value)(dd:Option Nat)(s:List Item)(e:dp)(ds:List Deferred)(h:Sh)(_k:Tok (F,s,e,ds,h)):Prop:=
 dU o fun (_,_,z)=>ok=true/\xMk l c fun n=>n<=4294967296/\Hi ((List.range n).flatMap fun _=>z) h fun b h'=>cy P F s (cI e dd (.slice (some ⟨b,0,none⟩) n n)) ds h' ⟨⟩
theorem ab4 (t l c):cy P F (.ops all (⟨dd,.makeSlice t l c,ty,pos,af,none⟩::r)::s) e ds h ⟨⟩=rMk P F (dR P t) (j8 P t) (ev e l) (ev e c) dd (.ops all r::s) e ds h ⟨⟩:=(rfl)
theorem yM (el sz z k k')(n:Nat){N M L R}:rMk P F (some (el,sz,z)) true (.int k n) (.int k' n) dd s e ds ⟨N,M,L,R⟩ ⟨⟩=(n<=4294967296/\∀ b,M b=none ->bf b L ->cy P F s (cI e dd (.slice (some ⟨b,0,none⟩) n n)) ds ⟨N,M,(b,(List.range n).flatMap fun _=>z)::L,R⟩ ⟨⟩):=by
 simp only [rMk,dU,xMk,Hi,Int.toNat_natCast,true_and,Int.natCast_nonneg]
def IK (P:Program)(F:Fi)(v:Value)(args:Array Value)(dd:Option Nat)(s:List Item)(e:dp)(ds:List Deferred)(h:Sh)(_k:Tok (F,s,e,ds,h)):Prop:=
 match v with
 | .func fn first captured=>cy P F s (cI e dd undef) ({target:=.fn fn captured,args:=first++args}::ds) h ⟨⟩
 | _=>False
theorem O2 (f args tys):cy P F (.ops all (⟨dd,.defer ⟨.value f,args,tys⟩,ty,pos,af,none⟩::r)::s) e ds h ⟨⟩=IK P F (ev e f) (args.map (ev e)) dd (.ops all r::s) e ds h ⟨⟩:=by
 simp only [cy,iA,jS,oB,Bool.false_eq_true,if_false,ew,if_true,Ho,IK]
 generalize ev e f=v
 cases v<;>rfl
theorem FV (fn a c args):IK P F (.func fn a c) args dd s e ds h ⟨⟩=cy P F s (cI e dd undef) ({target:=.fn fn c,args:=a++args}::ds) h ⟨⟩:=(rfl)
theorem MT (x):cy P F (.ops all (⟨dd,.panic x,ty,pos,af,none⟩::r)::s) e ds h ⟨⟩=(LG (ev e x)=true/\F.pan [{v:=ev e x,recovered:=false}] e ds h):=by
 simp only [cy,iA,jS,oB,Bool.false_eq_true,if_false,ew,if_true,Ho,iZ]
def Gj (P:Program)(F:Fi)(b:Code)(s:List Item)(e:dp)(ds:List Deferred)(h:Sh)(_k:Tok (F,b,s,e,ds,h)):Prop:=
 ∃ (I:Nat ->dp ->List Deferred ->Sh ->Prop),(cq h fun h=>∃ m,I m e ds h)/\∀ m e ds h,I m e ds h ->cy P F (.code b:: .lp I m::s) e ds h ⟨⟩
theorem TC (b):cy P F (.code (.loop b)::s) e ds h ⟨⟩=Gj P F b s e ds h ⟨⟩:=(rfl)
theorem eJ (I m):cy P F (.lp I m::s) e ds h ⟨⟩=cq h fun h=>∃ m',m'<m/\I m' e ds h:=(rfl)
theorem Jp (t a b):Ea (.bool t) a b=some (if t=true then a else b):=(rfl)
theorem Qj (a):Q7 (.pointer (some a))=some (.pointer (some a)):=(rfl)
theorem Jj (k b i):vd (some k) (.pointer (some ⟨b,i,none⟩))=some (.pointer (some ⟨b,i+k,none⟩)):=by simp [vd,Addr.add_lit]
theorem Mw (t):Sv (.bool t)=some (.bool !t):=(rfl)
theorem St (k n):WE (.int k n)=some (.int k (k.wrap (0 - n))):=(rfl)
theorem QY (l i):NA (.tuple ⟨l⟩) i=l[i]?:=by simp [NA]
theorem Sc (sl x):Mt true sl (.string x)=some (.int .i64 x.size):=(rfl)
theorem Xf (a n c):Mt false true (.slice a n c)=some (.int .i64 n):=(rfl)
theorem JQ (P:Program)(h:Sh)(a b k n):vp P h a b (.int k n)=EA (cvT P a b) (.int k n):=(rfl)
theorem MY (k j n):EA (some k) (.int j n)=some (.int k (k.wrap n)):=(rfl)
theorem Ga (t v):Dv true t v=some (.iface t v):=(rfl)
theorem Oo (n z a):pF h (some (false,n,z)) (.pointer (some a))=h.cell a:=(rfl)
theorem OJ (n z a):pF h (some (true,n,z)) (.pointer (some a))=(h.cells a 0 n).map fun cs=> .agg cs.toArray:=(rfl)
theorem UB (sz b i n c k x):Nk (some sz) (.slice (some ⟨b,i,none⟩) n c) (.int k x)=if 0<=x/\x<n then some (.pointer (some ⟨b,i+x.toNat*sz,none⟩)) else none:=by simp [Nk,Addr.add_lit]
theorem Xs (x k n):vAt true (.string x) (.int k n)=if 0<=n/\n<x.size then some (.int .u8 (s4 x n.toNat).toNat) else none:=(rfl)
theorem Oh (op t k a b):iD P op t (.int k a) (.int k b)=match fW op k a b with | some v=>some v | none=>BT op k a b:=by
 simp only [iD,Ef,D7,if_true]
 cases fW op k a b<;>rfl
theorem S0 (k a b):fW .shr k a b=none:=(rfl)
theorem On (k a b):BT .shr k a b=if 0<=b then some (.int k (a.fdiv (2 ^ (min b.toNat k.bits)))) else none:=(rfl)
theorem Si (k a b):fW .add k a b=some (.int k (k.wrap (a+b))):=(rfl)
theorem S2 (k a b):fW .sub k a b=some (.int k (k.wrap (a - b))):=(rfl)
theorem Q2 (k a b):fW .mul k a b=some (.int k (k.wrap (a*b))):=(rfl)
theorem Sj (k a b):fW .eql k a b=some (.bool (decide (a=b))):=(rfl)
theorem Tj (k a b):fW .neq k a b=some (.bool (!decide (a=b))):=(rfl)
theorem P1 (k a b):fW .lss k a b=some (.bool (decide (a<b))):=(rfl)
theorem TL (k a b):fW .leq k a b=some (.bool (decide (a<=b))):=(rfl)
theorem Tl (k a b):fW .gtr k a b=some (.bool (decide (a>b))):=(rfl)
theorem Ts (k a b):fW .geq k a b=some (.bool (decide (a>=b))):=(rfl)
theorem TX (k a b):fW .quo k a b=none:=(rfl)
theorem Mu (t a b):iD P .eql t (.string a) (.string b)=some (.bool (decide (a=b))):=(rfl)
theorem MA (t a b):iD P .neq t (.string a) (.string b)=some (.bool (!decide (a=b))):=(rfl)
theorem MM (t a b):iD P .add t (.string a) (.string b)=if a.size+b.size<=9223372036854775807 then some (.string (a++b)) else none:=(rfl)
theorem Og (t a b):iD P .neq t (.bool a) (.bool b)=if tm P t=true then some (.bool (!(a==b))) else none:=(rfl)
theorem aa2 (t):ev e (.tmp t)=e t:=(rfl)
theorem Rf (v):ev e (.const v)=v:=(rfl)
theorem VY (f):ev e (.func f)=.func (.func f) #[] #[]:=(rfl)
theorem EZ:lB e []=[]:=(rfl)
theorem DI (i x r):lB e ((i,x)::r)=(i,(ev e x).cells.toList)::lB e r:=(rfl)
theorem OK (v):cI e none v=e:=(rfl)
theorem OQ (ops:List Oper):ew ops e none=true:=(rfl)
def isB (v:Value)(b:Bool):Bool:=match v with | .bool c=>c==b | _=>false
theorem RU (c b):isB (.bool c) b=(c==b):=(rfl)
theorem OW (b):isB undef b=false:=(rfl)
theorem Vs (c:Prop)[Decidable c](x y:Value)(b):isB (if c then x else y) b=if c then isB x b else isB y b:=by split<;>rfl
theorem O7 (ops:List Oper)(j b):ew ops e (some (j,b))=match (ops[j]?).bind (·.dst) with
 | some t=>isB (e t) b
 | none=>false:=(rfl)
end
theorem VE (N M L R a):Sh.cell ⟨N,M,L,R⟩ a=match aN M a with | some v=>some v | none=>(eD L a).getD none:=(rfl)
theorem JF (h:Sh)(a i):h.cells a i 0=some []:=(rfl)
theorem sM (h:Sh)(b o i n):h.cells ⟨b,o,none⟩ i (n+1)=qB (h.cell ⟨b,o+i,none⟩) (h.cells ⟨b,o,none⟩ (i+1) n):=by simp [Sh.cells,Addr.add_lit]
theorem Iy (v l):qB (some v) (some l)=some (v::l):=(rfl)
theorem IQ (b cs l k o):eD ((b,cs)::l) ⟨k,o,none⟩=if k=b then some cs[o]? else eD l ⟨k,o,none⟩:=(rfl)
def bm (M M':aS):Prop:=∀ b cs,M b=some cs ->M' b=some cs
theorem bm.rfl' {M:aS}:bm M M:=fun _ _ h=>h
theorem bm.trans {M M' M'':aS}(h:bm M M')(h':bm M' M''):bm M M'':=fun b cs hb=>h' b cs (h b cs hb)
theorem bm.add {M:aS}{b cs}(h:M b=none):bm M (M.add b cs):=by
 intro k x hk
 unfold aS.add
 rw [if_neg]
 ·exact hk
 ·rintro rfl;rw [h] at hk;cases hk
def aY (L:List (Nat×List Value)):List Nat:=L.map (·.1)
def aJ (M:aS):List (Nat×List Value) ->Prop
 | []=>True
 | (b,_)::l=>M b=none/\aJ M l
def hY:List (Nat×List Value) ->Prop
 | []=>True
 | (b,_)::l=>bf b l/\hY l
theorem iE {M:aS}:∀ {L:List (Nat×List Value)},(∀ b∈aY L,M b=none) ->aJ M L
 | [],_=>trivial
 | (b,_)::l,h=>⟨h b (by simp [aY]),iE fun k hk=>h k (by simp only [aY,List.map_cons,List.mem_cons];exact .inr hk)⟩
theorem nW:∀ {L:List (Nat×List Value)},(aY L).Nodup ->hY L
 | [],_=>trivial
 | (b,_)::l,h=>by
  simp only [aY,List.map_cons,List.nodup_cons] at h
  exact ⟨iJ h.1,nW h.2⟩
theorem qQ {M:aS}:∀ {L:List (Nat×List Value)},aJ M L ->∀ b∈aY L,M b=none
 | [],_,b,hb=>by simp [aY] at hb
 | (k,_)::l,h,b,hb=>by
  simp only [aY,List.map_cons,List.mem_cons] at hb
  rcases hb with rfl | hb
  ·exact h.1
  ·exact qQ h.2 b hb
abbrev LL:=List (Nat×List Value)
abbrev RR:=List (Value×TypeId×Nat×List Value)
def Pz (w:World)(U:List Nat)(T:Tm)(M:aS)(L:LL)(R:RR):Prop:=∃ bs,U=aY L++bs.filterMap id/\Hp ⟨w,M,U⟩ ⟨T,M,L,R⟩ w bs
def Dw (w:World)(U:List Nat)(T:Tm)(M:aS)(ks:List Nat)(n:Nat)(M':aS)(L':LL)(R':RR)(w':World):Prop:=
 Is ⟨w,M,U⟩ ⟨T,M',L',R'⟩ w'/\aY L'=ks/\R'.length=n
abbrev eu:=Value ->aS ->LL ->RR ->Prop
abbrev mX:=List PanicEntry ->aS ->LL ->RR ->Prop
def aM:mX:=fun _ _ _ _=>False
def Ps (U:List Nat)(T:Tm)(M:aS)(ks:List Nat)(n:Nat)(post:eu)(pan:mX)(w:World):Ending ->World ->Prop
 | .returned v,w'=>∃ M' L' R',Dw w U T M ks n M' L' R' w'/\post v M' L' R'
 | .panicked ch,w'=>∃ M' L' R',Dw w U T M ks n M' L' R' w'/\pan ch M' L' R'
 | .outgrown,_=>False
def bV (P:Program)(f:FuncId)(args:List Value)(T:Tm)(M:aS)(L:LL)(R:RR)(post:eu)(pan:mX):Prop:=
 dm P f=true/\∀ w U,Pz w U T M L R ->Calls P f args.toArray w (Ps U T M (aY L) R.length post pan w)
def Ct (P:Program)(f:FuncId)(args:List Value)(M:aS)(L:LL)(R:RR)(post:eu)(pan:mX):Prop:=∀ T,bV P f args T M L R post pan
def CtD (P:Program)(f:FuncId)(args:List Value)(T:Tm)(M:aS)(L:LL)(R:RR)(post:eu)(pan:mX):Prop:=
 dm P f=true/\∀ u w U,Pz w U T M L R ->CallsD P f args.toArray u w fun e u' w'=>u'=u/\Ps U T M (aY L) R.length post pan w e w'
theorem Dw.ext {w U T M ks n M' L' R' w'}(h:Dw w U T M ks n M' L' R' w'):bm M M':=by
 obtain ⟨⟨_,hi⟩,_⟩:=h
 exact fun b cs hb=>hi.le b cs hb
theorem bV.mono {P f args T M L R post pan}{post':eu}{pan':mX}(h:bV P f args T M L R post pan)(hp:∀ v M' L' R',bm M M' ->aY L'=aY L ->R'.length=R.length ->post v M' L' R' ->post' v M' L' R')
 (hq:∀ ch M' L' R',bm M M' ->aY L'=aY L ->R'.length=R.length ->pan ch M' L' R' ->pan' ch M' L' R'):bV P f args T M L R post' pan':=by
 refine ⟨h.1,fun w U hw=>Calls.mono (h.2 w U hw) ?_⟩
 intro e w' hr
 cases e with
 | returned v=>obtain ⟨M',L',R',mA,WY⟩:=hr;exact ⟨M',L',R',mA,hp v M' L' R' mA.ext mA.2.1 mA.2.2 WY⟩
 | panicked ch=>obtain ⟨M',L',R',mA,WY⟩:=hr;exact ⟨M',L',R',mA,hq ch M' L' R' mA.ext mA.2.1 mA.2.2 WY⟩
 | outgrown=>exact hr.elim
theorem vV (L L':LL):aY (L++L')=aY L++aY L':=by simp [aY]
theorem PW {α β:Type}{A B C:List α}{bs:List β}(h:(A++B++C).length=bs.length):∃ b1 b2 b3,bs=b1++b2++b3/\b1.length=A.length/\b2.length=B.length/\b3.length=C.length:=by
 simp only [List.length_append] at h
 refine ⟨bs.take A.length,(bs.drop A.length).take B.length,(bs.drop A.length).drop B.length,?_,?_,?_,?_⟩
 ·rw [List.append_assoc,List.take_append_drop,List.take_append_drop]
 ·rw [List.length_take];omega
 ·rw [List.length_take,List.length_drop];omega
 ·rw [List.length_drop,List.length_drop];omega
theorem Hp.enter {c N M L1 Lp L2 R1 Rp R2 w b1 bp b2}(hi:Hp c ⟨N,M,L1++Lp++L2,R1++Rp++R2⟩ w (b1++bp++b2))(h1:b1.length=R1.length)(hp:bp.length=Rp.length):
 Hp ⟨w,M,aY Lp++bp.filterMap id⟩ ⟨N,M,Lp,Rp⟩ w bp:=by
 have mQ:∀ b,b∈aY Lp++bp.filterMap id ->b∈(L1++Lp++L2).map (·.1)++(b1++bp++b2).filterMap id:=by
  intro b hb
  simp only [aY,List.map_append,List.filterMap_append,List.mem_append] at hb ⊢
  rcases hb with hb | hb
  ·exact .inl (.inl (.inr hb))
  ·exact .inr (.inl (.inr hb))
 exact
 {typ:=fun b t hu=>⟨(hi.typ b t hu).1,fun hb=>(hi.typ b t hu).2 (by simp only [List.map_append,List.mem_append];exact .inl (.inr hb))⟩
  holds:=hi.holds
  blk:=fun b cs hb=>hi.blk b cs (by simp only [List.mem_append];exact .inl (.inr hb))
  rows:=⟨hp.symm,fun i v e sz xs o h2 h3=>hi.rows.2 (R1.length+i) v e sz xs o
   (by
    have aL:=(List.getElem?_eq_some_iff.1 h2).1
    show (R1++Rp++R2)[R1.length+i]?=_
    rw [List.append_assoc,List.getElem?_append_right (by omega),List.getElem?_append_left (by show _<Rp.length;simp only at aL;omega)]
    rw [<- h2];congr 1;omega)
   (by
    have aL:=(List.getElem?_eq_some_iff.1 h3).1
    rw [List.append_assoc,List.getElem?_append_right (by omega),List.getElem?_append_left (by omega)]
    rw [<- h3];congr 1;omega)⟩
  nodup:=by
   have:=hi.nodup
   simp only [List.map_append,List.filterMap_append] at this
   rw [List.nodup_append] at this ⊢
   obtain ⟨n1,n2,n3⟩:=this
   refine ⟨(List.nodup_append.1 (List.nodup_append.1 n1).1).2.1,(List.nodup_append.1 (List.nodup_append.1 n2).1).2.1,?_⟩
   intro a ha b hb
   exact n3 a (by simp only [List.mem_append];exact .inl (.inr ha)) b (by simp only [List.mem_append];exact .inl (.inr hb))
  apart:=fun b hb=>⟨(hi.apart b (mQ b hb)).1,.inl hb⟩
  os:=rfl
  tape:=rfl
  output:=rfl
  size:=Nat.le_refl _
  old:=fun _ _ _=>rfl
  mem:=fun _ _ _=>rfl
  le:=fun _ _ h=>h}
theorem Hp.frameN {c N M L1 Lp L2 R1 Rp R2 w b1 bp b2 M' Lp' Rp' bp' w'}(hi:Hp c ⟨N,M,L1++Lp++L2,R1++Rp++R2⟩ w (b1++bp++b2))(h1:b1.length=R1.length)(hp:bp.length=Rp.length)(_h2:b2.length=R2.length)
 (hc:Hp ⟨w,M,aY Lp++bp.filterMap id⟩ ⟨N,M',Lp',Rp'⟩ w' bp') (hk:aY Lp'=aY Lp):
 Hp c ⟨N,M',L1++Lp'++L2,R1++Rp'++R2⟩ w' (b1++bp'++b2):=by
 have ad6:bp'.length=Rp'.length:=hc.rows.1.symm
 have ML:Lp'.map (·.1)=Lp.map (·.1):=hk
 have jj:=hi.nodup
 simp only [List.map_append,List.filterMap_append] at jj
 have vo:=List.nodup_append.1 jj
 have adl:=List.nodup_append.1 vo.1
 have akD:=List.nodup_append.1 adl.1
 have Wh:=List.nodup_append.1 vo.2.1
 have adZ:=List.nodup_append.1 Wh.1
 have lt:∀ b,b∈(L1++Lp++L2).map (·.1)++(b1++bp++b2).filterMap id ->b<w.heap.size:=fun b hb=>hi.own_lt hb
 have oth:∀ b,b<w.heap.size ->b∉aY Lp++bp.filterMap id ->w'.heap[b]?=w.heap[b]?:=hc.old
 -- the four groups that are not lent
 have apL1:∀ b,b∈L1.map (·.1) ->b∉aY Lp++bp.filterMap id:=by
  intro b hb hn
  simp only [aY,List.mem_append] at hn
  rcases hn with hn | hn
  ·exact akD.2.2 b hb b hn rfl
  ·exact vo.2.2 b (by simp only [List.mem_append];exact .inl (.inl hb)) b (by simp only [List.mem_append];exact .inl (.inr hn)) rfl
 have apL2:∀ b,b∈L2.map (·.1) ->b∉aY Lp++bp.filterMap id:=by
  intro b hb hn
  simp only [aY,List.mem_append] at hn
  rcases hn with hn | hn
  ·exact adl.2.2 b (by simp only [List.mem_append];exact .inr hn) b hb rfl
  ·exact vo.2.2 b (by simp only [List.mem_append];exact .inr hb) b (by simp only [List.mem_append];exact .inl (.inr hn)) rfl
 have apB1:∀ b,b∈b1.filterMap id ->b∉aY Lp++bp.filterMap id:=by
  intro b hb hn
  simp only [aY,List.mem_append] at hn
  rcases hn with hn | hn
  ·exact vo.2.2 b (by simp only [List.mem_append];exact .inl (.inr hn)) b (by simp only [List.mem_append];exact .inl (.inl hb)) rfl
  ·exact adZ.2.2 b hb b hn rfl
 have apB2:∀ b,b∈b2.filterMap id ->b∉aY Lp++bp.filterMap id:=by
  intro b hb hn
  simp only [aY,List.mem_append] at hn
  rcases hn with hn | hn
  ·exact vo.2.2 b (by simp only [List.mem_append];exact .inl (.inr hn)) b (by simp only [List.mem_append];exact .inr hb) rfl
  ·exact Wh.2.2 b (by simp only [List.mem_append];exact .inr hn) b hb rfl
 have inL1:∀ b,b∈L1.map (·.1) ->b∈(L1++Lp++L2).map (·.1)++(b1++bp++b2).filterMap id:=fun b hb=>by
  simp only [List.map_append,List.mem_append];exact .inl (.inl (.inl hb))
 have inL2:∀ b,b∈L2.map (·.1) ->b∈(L1++Lp++L2).map (·.1)++(b1++bp++b2).filterMap id:=fun b hb=>by
  simp only [List.map_append,List.mem_append];exact .inl (.inr hb)
 have inB1:∀ b,b∈b1.filterMap id ->b∈(L1++Lp++L2).map (·.1)++(b1++bp++b2).filterMap id:=fun b hb=>by
  simp only [List.filterMap_append,List.mem_append];exact .inr (.inl (.inl hb))
 have inB2:∀ b,b∈b2.filterMap id ->b∈(L1++Lp++L2).map (·.1)++(b1++bp++b2).filterMap id:=fun b hb=>by
  simp only [List.filterMap_append,List.mem_append];exact .inr (.inr hb)
 have inU:∀ b,b∈aY Lp++bp.filterMap id ->b∈(L1++Lp++L2).map (·.1)++(b1++bp++b2).filterMap id:=fun b hb=>by
  simp only [aY,List.mem_append] at hb
  simp only [List.map_append,List.filterMap_append,List.mem_append]
  rcases hb with hb | hb
  ·exact .inl (.inl (.inr hb))
  ·exact .inr (.inl (.inr hb))
 -- a block of the callee's is lent,or new
 have own':∀ b,b∈aY Lp'++bp'.filterMap id ->M' b=none/\(b∈aY Lp++bp.filterMap id\/w.heap.size<=b):=fun b hb=>hc.apart b hb
 have keepM:∀ b,b∈(L1++Lp++L2).map (·.1)++(b1++bp++b2).filterMap id ->b∉aY Lp++bp.filterMap id ->M' b=none:=fun b hb hn=>
  (hc.mem b (lt b hb) hn).trans (hi.apart b hb).1
 have far:∀ a,a∈(L1++Lp++L2).map (·.1)++(b1++bp++b2).filterMap id ->a∉aY Lp++bp.filterMap id ->∀ b,b∈aY Lp'++bp'.filterMap id ->a≠b:=by
  rintro a ha hn b hb rfl
  rcases (own' a hb).2 with h | h
  ·exact hn h
  ·have:=lt a ha;omega
 exact
 {typ:=fun b t hu=>by
   obtain ⟨aL,EI⟩:=hi.typ b t hu
   refine ⟨Nat.lt_of_lt_of_le aL hc.size,fun hb=> ?_⟩
   have hb:b∈(L1++Lp'++L2).map (·.1):=hb
   have keep:b∉aY Lp++bp.filterMap id ->(∃ cs f,w.heap[b]?=some (.cells cs t f)) ->∃ cs f,w'.heap[b]?=some (.cells cs t f):=by
    rintro hn ⟨cs,f,h⟩
    exact ⟨cs,f,by rw [oth b (fD h) hn];exact h⟩
   simp only [List.map_append,List.mem_append] at hb EI
   rcases hb with (hb | hb) | hb
   ·exact keep (apL1 b hb) (EI (.inl (.inl hb)))
   ·exact (hc.typ b t hu).2 hb
   ·exact keep (apL2 b hb) (EI (.inr hb))
  holds:=hc.holds
  blk:=fun b cs hb=>by
   have keep:b∉aY Lp++bp.filterMap id ->Vp w b cs ->Vp w' b cs:=by
    intro hn dN
    have hl:=dN.lt
    obtain ⟨t,ht⟩:=dN
    exact ⟨t,by rw [oth b hl hn];exact ht⟩
   rcases wZ hb with hb | hb
   ·rcases wZ hb with hb | hb
    ·exact keep (apL1 b (List.mem_map.2 ⟨_,hb,rfl⟩)) (hi.blk b cs (by simp [hb]))
    ·exact hc.blk b cs hb
   ·exact keep (apL2 b (List.mem_map.2 ⟨_,hb,rfl⟩)) (hi.blk b cs (by simp [hb]))
  rows:=by
   refine ⟨by simp only [List.length_append,h1,ad6,_h2],?_⟩
   intro i v e sz xs o h3 h4
   have h3:(R1++Rp'++R2)[i]?=some (v,e,sz,xs):=h3
   have keep:∀ (j:Nat),(R1++Rp++R2)[j]?=some (v,e,sz,xs) ->(b1++bp++b2)[j]?=some o ->(∀ g,o=some g ->g∉aY Lp++bp.filterMap id) ->zq w' v e sz xs o:=by
    intro j Pb hj2 hn
    refine (hi.rows.2 j v e sz xs o Pb hj2).keep fun g hg=> ?_
    subst hg
    exact oth g (lt g (sJ (.inr (List.mem_filterMap.2 ⟨some g,List.mem_of_getElem? hj2,rfl⟩)))) (hn g rfl)
   rw [List.append_assoc] at h3 h4
   by_cases Hu:i<R1.length
   ·rw [List.getElem?_append_left Hu] at h3
    rw [List.getElem?_append_left (by omega)] at h4
    refine keep i (by rw [List.append_assoc,List.getElem?_append_left Hu];exact h3) (by rw [List.append_assoc,List.getElem?_append_left (by omega)];exact h4) ?_
    rintro g rfl
    exact apB1 g (List.mem_filterMap.2 ⟨some g,List.mem_of_getElem? h4,rfl⟩)
   ·rw [List.getElem?_append_right (by omega)] at h3 h4
    rw [h1] at h4
    by_cases kg:i - R1.length<Rp'.length
    ·rw [List.getElem?_append_left kg] at h3
     rw [List.getElem?_append_left (by omega)] at h4
     exact hc.rows.2 _ v e sz xs o h3 h4
    ·rw [List.getElem?_append_right (by omega)] at h3 h4
     rw [ad6] at h4
     refine keep (R1.length+(Rp.length+(i - R1.length - Rp'.length))) ?_ ?_ ?_
     ·rw [List.append_assoc,List.getElem?_append_right (by omega),List.getElem?_append_right (by omega),<- h3]
      congr 1;omega
     ·rw [List.append_assoc,List.getElem?_append_right (by omega),List.getElem?_append_right (by omega),<- h4]
      congr 1;omega
     ·rintro g rfl
      exact apB2 g (List.mem_filterMap.2 ⟨some g,List.mem_of_getElem? h4,rfl⟩)
  nodup:=by
   show ((L1++Lp'++L2).map (·.1)++(b1++bp'++b2).filterMap id).Nodup
   simp only [List.map_append,List.filterMap_append,ML]
   have YE:=List.nodup_append.1 hc.nodup
   simp only [ML] at YE
   rw [List.nodup_append]
   refine ⟨vo.1,?_,?_⟩
   ·rw [List.nodup_append,List.nodup_append]
    refine ⟨⟨adZ.1,YE.2.1,?_⟩,Wh.2.1,?_⟩
    ·intro a ha b hb
     exact far a (inB1 a ha) (apB1 a ha) b (sJ (.inr hb))
    ·intro a ha b hb
     rcases wZ ha with ha | ha
     ·exact Wh.2.2 a (by simp [ha]) b hb
     ·exact Ne.symm (far b (inB2 b hb) (apB2 b hb) a (sJ (.inr ha)))
   ·intro a ha b hb
    simp only [List.mem_append] at ha hb
    rcases hb with (hb | hb) | hb
    ·exact vo.2.2 a (by simp only [List.mem_append];exact ha) b (by simp only [List.mem_append];exact .inl (.inl hb))
    ·rcases ha with (ha | ha) | ha
     ·exact far a (inL1 a ha) (apL1 a ha) b (sJ (.inr hb))
     ·exact YE.2.2 a ha b hb
     ·exact far a (inL2 a ha) (apL2 a ha) b (sJ (.inr hb))
    ·exact vo.2.2 a (by simp only [List.mem_append];exact ha) b (by simp only [List.mem_append];exact .inr hb)
  apart:=fun b hb=>by
   have hb:b∈(L1++Lp'++L2).map (·.1)++(b1++bp'++b2).filterMap id:=hb
   simp only [List.map_append,List.filterMap_append,List.mem_append] at hb
   have lent:b∈aY Lp'++bp'.filterMap id ->M' b=none/\(b∈c.U\/c.w0.heap.size<=b):=fun hb=>by
    refine ⟨(own' b hb).1,?_⟩
    rcases (own' b hb).2 with h | h
    ·exact (hi.apart b (inU b h)).2
    ·exact .inr (Nat.le_trans hi.size h)
   rcases hb with ((hb | hb) | hb) | ((hb | hb) | hb)
   ·exact ⟨keepM b (inL1 b hb) (apL1 b hb),(hi.apart b (inL1 b hb)).2⟩
   ·exact lent (sJ (.inl hb))
   ·exact ⟨keepM b (inL2 b hb) (apL2 b hb),(hi.apart b (inL2 b hb)).2⟩
   ·exact ⟨keepM b (inB1 b hb) (apB1 b hb),(hi.apart b (inB1 b hb)).2⟩
   ·exact lent (sJ (.inr hb))
   ·exact ⟨keepM b (inB2 b hb) (apB2 b hb),(hi.apart b (inB2 b hb)).2⟩
  os:=hc.os.trans hi.os
  tape:=hc.tape.trans hi.tape
  output:=hc.output.trans hi.output
  size:=Nat.le_trans hi.size hc.size
  old:=fun b hb hu=>by
   rw [oth b (Nat.lt_of_lt_of_le hb hi.size) ?_]
   ·exact hi.old b hb hu
   ·intro hn
    rcases (hi.apart b (inU b hn)).2 with h1 | h1
    ·exact hu h1
    ·omega
  mem:=fun b hb hu=>by
   refine (hc.mem b (Nat.lt_of_lt_of_le hb hi.size) ?_).trans (hi.mem b hb hu)
   intro hn
   rcases (hi.apart b (inU b hn)).2 with h1 | h1
   ·exact hu h1
   ·omega
  le:=fun b x hx=>hc.le b x (hi.le b x hx)}
theorem Hp.frame {c N M L1 Lp L2 R1 Rp R2 w b1 bp b2 M' Lp' Rp' bp' w'}(hi:Hp c ⟨N,M,L1++Lp++L2,R1++Rp++R2⟩ w (b1++bp++b2))(h1:b1.length=R1.length)(hp:bp.length=Rp.length)(h2:b2.length=R2.length)
 (hc:Hp ⟨w,M,aY Lp++bp.filterMap id⟩ ⟨N,M',Lp',Rp'⟩ w' bp') (hk:aY Lp'=aY Lp) (_hR:Rp'.length=Rp.length):
 Hp c ⟨N,M',L1++Lp'++L2,R1++Rp'++R2⟩ w' (b1++bp'++b2):=hi.frameN h1 hp h2 hc hk
def Vn (P:Program)(f:FuncId)(args:List Value)(T:Tm)(M:aS)(L:LL)(R:RR)(n:Nat)(post:eu)(pan:mX):Prop:=
 dm P f=true/\∀ w U,Pz w U T M L R ->Calls P f args.toArray w (Ps U T M (aY L) n post pan w)
section
variable {P:Program} {F:Fi} {s:List Item} {e:dp} {ds:List Deferred} {dd:Option Nat} {N:Tm} {M:aS}
theorem gu {f:FuncId}{args:List Value}(L1 Lp L2:LL)(R1 Rp R2:RR){post:eu}{pan:mX}(hc:bV P f args N M Lp Rp post pan)
 (hn:∀ v M' L' R',bm M M' ->aY L'=aY Lp ->R'.length=Rp.length ->aJ M' (L1++L'++L2) ->post v M' L' R' ->cy P F s (cI e dd v) ds ⟨N,M',L1++L'++L2,R1++R'++R2⟩ ⟨⟩)
 (hp:∀ ch M' L' R',bm M M' ->aY L'=aY Lp ->R'.length=Rp.length ->aJ M' (L1++L'++L2) ->pan ch M' L' R' ->F.pan ch e ds ⟨N,M',L1++L'++L2,R1++R'++R2⟩):
 dx P F f args dd s e ds ⟨N,M,L1++Lp++L2,R1++Rp++R2⟩ ⟨⟩:=by
 refine ⟨hc.1,fun c w hw=> ?_⟩
 obtain ⟨bs,hi⟩:=hw
 obtain ⟨b1,bp,b2,rfl,h1,s9,h2⟩:=PW hi.rows.1
 refine Calls.mono (hc.2 w _ ⟨bp,rfl,hi.enter h1 s9⟩) ?_
 intro en w' hr
 have fr:∀ {M' L' R'},Dw w (aY Lp++bp.filterMap id) N M (aY Lp) Rp.length M' L' R' w' ->∃ bs',Hp c ⟨N,M',L1++L'++L2,R1++R'++R2⟩ w' bs':=by
  intro M' L' R' hP
  obtain ⟨⟨bp',wA⟩,hk,hR⟩:=hP
  exact ⟨_,hi.frame h1 s9 h2 wA hk hR⟩
 cases en with
 | returned v=>
  obtain ⟨M',L',R',hP,hq⟩:=hr
  obtain ⟨bs',tw⟩:=fr hP
  refine ⟨_,⟨bs',tw⟩,hn v M' L' R' hP.ext hP.2.1 hP.2.2 (iE fun b hb=>(tw.apart b (sJ (.inl hb))).1) hq⟩
 | panicked ch=>
  obtain ⟨M',L',R',hP,hq⟩:=hr
  obtain ⟨bs',tw⟩:=fr hP
  refine ⟨_,⟨bs',tw⟩,hp ch M' L' R' hP.ext hP.2.1 hP.2.2 (iE fun b hb=>(tw.apart b (sJ (.inl hb))).1) hq⟩
 | outgrown=>exact hr.elim
theorem Nx {f:FuncId}{args:List Value}{n:Nat}(L1 Lp L2:LL)(R1 Rp R2:RR){post:eu}{pan:mX}(hc:Vn P f args N M Lp Rp n post pan)
 (hn:∀ v M' L' R',bm M M' ->aY L'=aY Lp ->R'.length=n ->aJ M' (L1++L'++L2) ->post v M' L' R' ->cy P F s (cI e dd v) ds ⟨N,M',L1++L'++L2,R1++R'++R2⟩ ⟨⟩)
 (hp:∀ ch M' L' R',bm M M' ->aY L'=aY Lp ->R'.length=n ->aJ M' (L1++L'++L2) ->pan ch M' L' R' ->F.pan ch e ds ⟨N,M',L1++L'++L2,R1++R'++R2⟩):
 dx P F f args dd s e ds ⟨N,M,L1++Lp++L2,R1++Rp++R2⟩ ⟨⟩:=by
 refine ⟨hc.1,fun c w hw=> ?_⟩
 obtain ⟨bs,hi⟩:=hw
 obtain ⟨b1,bp,b2,rfl,h1,s9,h2⟩:=PW hi.rows.1
 refine Calls.mono (hc.2 w _ ⟨bp,rfl,hi.enter h1 s9⟩) ?_
 intro en w' hr
 have fr:∀ {M' L' R'},Dw w (aY Lp++bp.filterMap id) N M (aY Lp) n M' L' R' w' ->∃ bs',Hp c ⟨N,M',L1++L'++L2,R1++R'++R2⟩ w' bs':=by
  intro M' L' R' hP
  obtain ⟨⟨bp',wA⟩,hk,_⟩:=hP
  exact ⟨_,hi.frameN h1 s9 h2 wA hk⟩
 cases en with
 | returned v=>
  obtain ⟨M',L',R',hP,hq⟩:=hr
  obtain ⟨bs',tw⟩:=fr hP
  refine ⟨_,⟨bs',tw⟩,hn v M' L' R' hP.ext hP.2.1 hP.2.2 (iE fun b hb=>(tw.apart b (sJ (.inl hb))).1) hq⟩
 | panicked ch=>
  obtain ⟨M',L',R',hP,hq⟩:=hr
  obtain ⟨bs',tw⟩:=fr hP
  refine ⟨_,⟨bs',tw⟩,hp ch M' L' R' hP.ext hP.2.1 hP.2.2 (iE fun b hb=>(tw.apart b (sJ (.inl hb))).1) hq⟩
 | outgrown=>exact hr.elim
theorem bT {f:FuncId}{args:List Value}{L:LL}{R:RR}{post:eu}{pan:mX}(hc:bV P f args N M [] [] post pan)
 (hn:∀ v M',bm M M' ->aJ M' L ->post v M' [] [] ->cy P F s (cI e dd v) ds ⟨N,M',L,R⟩ ⟨⟩)
 (hp:∀ ch M',bm M M' ->aJ M' L ->pan ch M' [] [] ->F.pan ch e ds ⟨N,M',L,R⟩):
 dx P F f args dd s e ds ⟨N,M,L,R⟩ ⟨⟩:=by
 have nil:∀ {L':LL},aY L'=aY [] ->L'=[]:=fun h=>by simpa [aY] using h
 have nilR:∀ {R':RR},R'.length=([]:RR).length ->R'=[]:=fun h=>by simpa using h
 have:=gu (P:=P) (F:=F) (s:=s) (e:=e) (ds:=ds) (dd:=dd) (N:=N) [] [] L [] [] R hc
  (fun v M' L' R' he hk hR bi hq=>by rw [nil hk] at bi hq ⊢;rw [nilR hR] at hq ⊢;exact hn v M' he bi hq)
  (fun ch M' L' R' he hk hR bi hq=>by rw [nil hk] at bi hq ⊢;rw [nilR hR] at hq ⊢;exact hp ch M' he bi hq)
 exact this
theorem aI {f:FuncId}{args:List Value}{L:LL}{R:RR}{post:eu}(hc:bV P f args N M [] [] post aM)
 (hn:∀ v M',bm M M' ->aJ M' L ->post v M' [] [] ->cy P F s (cI e dd v) ds ⟨N,M',L,R⟩ ⟨⟩):dx P F f args dd s e ds ⟨N,M,L,R⟩ ⟨⟩:=bT hc hn (fun _ _ _ _ h=>h.elim)
theorem cL {f:FuncId}{args:List Value}{h:Sh}{k:Sh ->Prop}(hk:cq h k)(hr:∀ h',k h' ->dx P F f args dd s e ds h' ⟨⟩)(hb:dm P f=true):dx P F f args dd s e ds h ⟨⟩:=by
 refine ⟨hb,fun c w hw=> ?_⟩
 obtain ⟨h',gh,ML⟩:=hk c w hw
 exact (hr h' ML).2 c w gh
end
def l9 (P:Program)(e:dp)(h:Sh):List ResultVar ->Option (List Value)
 | []=>some []
 | .tmp t::r=>qB (some (e t)) (l9 P e h r)
 | .cell a t::r=>qB (pF h (tk P t) (e a)) (l9 P e h r)
def tf:List Value ->Value
 | [v]=>v
 | vs=> .tuple vs.toArray
def vb (a:Array Value):ResultVar ->Sem Value
 | .tmp t=>pure (a.getD t undef)
 | .cell x t=>do loadVar t (<- asAddr (a.getD x undef))
theorem Jv (fn:Func)(a:Array Value):results fn a=(do
 let vs<- fn.results.mapM (vb a)
 pure (if h:vs.size=1 then vs[0] else .tuple vs)):=rfl
theorem GR {P:Program}{c:Ctx}{h:Sh}{w:World}{t:TypeId}{x v:Value}(hw:Is c h w)(hv:pF h (tk P t) x=some v):
 (do loadVar t (<- asAddr x):Sem Value).run P w=.ok v w:=by
 obtain ⟨bs,hi⟩:=hw
 unfold pF at hv
 split at hv
 ·rename_i n z a tX
  obtain ⟨i,d,lm,hd,hz,hg,hn⟩:=lY tX
  simp only [asAddr,loadVar]
  simp [jL hd,hg,hi.cell hv]
 ·rename_i n z a tX
  obtain ⟨i,d,lm,hd,hz,hg,hn⟩:=lY tX
  obtain ⟨cs,fS,rfl⟩:=Option.map_eq_some_iff.1 hv
  obtain ⟨hl,hc⟩:=iS _ _ _ (hi.cells _ _ _ fS)
  have:=run_loadCells_list (P:=P) (w:=w) a cs (fun j v hj=>by simpa using hc j v hj)
  rw [hl] at this
  simp only [asAddr,loadVar]
  simp [jL hd,hg,Go.sizeOf,typeInfo,lm,hn,this]
 ·cases hv
theorem ES {P:Program}{c:Ctx}{h:Sh}{w:World}(hw:Is c h w){e:dp}{a:Array Value}(ha:∀ t,a.getD t undef=e t):
 ∀ (l:List ResultVar) (vs:List Value),l9 P e h l=some vs ->(l.mapM (vb a)).run P w=.ok vs w:=by
 have cons:∀ {o:Option Value} {p:Option (List Value)} {vs:List Value},qB o p=some vs ->∃ v l,o=some v/\p=some l/\vs=v::l:=by
  intro o p vs h
  unfold qB at h
  split at h
  ·rename_i v l;injection h with h;exact ⟨v,l,rfl,rfl,h.symm⟩
  ·cases h
 intro l
 induction l with
 | nil=>intro vs h;simp [l9] at h;subst h;simp
 | cons x r ih=>
  intro vs hr
  rw [List.mapM_cons]
  cases x with
  | cell x t=>
   obtain ⟨v,l,h1,h2,rfl⟩:=cons hr
   have hl:=GR (P:=P) hw h1
   have:(vb a (.cell x t)).run P w=.ok v w:=by
    show (do loadVar t (<- asAddr (a.getD x undef)):Sem Value).run P w=_
    rw [ha];exact hl
   rw [Sem.run_bind,this]
   simp only [Result.andThen_ok,Sem.run_bind,ih l h2,Sem.run_pure]
  | tmp t=>
   obtain ⟨v,l,h1,h2,rfl⟩:=cons hr
   injection h1 with h1
   subst h1
   have:(vb a (.tmp t)).run P w=.ok (e t) w:=by simp only [vb,ha,Sem.run_pure]
   rw [Sem.run_bind,this]
   simp only [Result.andThen_ok,Sem.run_bind,ih l h2,Sem.run_pure]
theorem jY {P:Program}{fn:Func}{c:Ctx}{h:Sh}{w:World}(hw:Is c h w){e:dp}{vs:List Value}(hr:l9 P e h fn.results.toList=some vs){a:Array Value}(ha:∀ t,a.getD t undef=e t):
 (results fn a).run P w=.ok (tf vs) w:=by
 have h1:=ES (P:=P) hw ha _ _ hr
 have h2:(fn.results.mapM (vb a)).run P w=.ok vs.toArray w:=by
  rw [<- Array.toArray_toList (xs:=fn.results),List.mapM_toArray,<- bind_pure_comp,Sem.run_bind,h1]
  simp
 rw [Jv,Sem.run_bind,h2]
 rcases vs with _ | ⟨t,_ | ⟨u,ts⟩⟩<;>simp [tf]
def Xk (P:Program)(T:Tm)(rs:List ResultVar)(ks:List Nat)(n:Nat)(post:eu)(e:dp)(ds:List Deferred)(h:Sh):Prop:=
 ds=[]/\dU (l9 P e h rs) fun vs=>cq h fun h'=>aF T h'.N/\aY h'.L=ks/\h'.R.length=n/\post (tf vs) h'.M h'.L h'.R
def Tr (T:Tm)(ks:List Nat)(n:Nat)(pan:mX)(ch:List PanicEntry)(_:dp)(ds:List Deferred)(h:Sh):Prop:=
 ds=[]/\cq h fun h'=>aF T h'.N/\aY h'.L=ks/\h'.R.length=n/\pan ch h'.M h'.L h'.R
def fi (P:Program)(T:Tm)(dr:List (Nat×Sched))(ts:List ResultVar)(ks:List Nat)(n:Nat)(post:eu)(pan:mX):Fi:=⟨dr,Xk P T ts ks n post,Tr T ks n pan⟩
theorem ky {T:Tm}{h':Sh}{w0 w:World}{U:List Nat}{M:aS}{ks:List Nat}{n:Nat}(hT:aF T h'.N)(hw:Is ⟨w0,M,U⟩ h' w)(hk:aY h'.L=ks)(hR:h'.R.length=n):Dw w0 U T M ks n h'.M h'.L h'.R w:=by
 refine ⟨?_,hk,hR⟩
 obtain ⟨bs,hi⟩:=hw
 exact ⟨bs,hi.untype hT⟩
theorem Cf {P:Program}{fn:Func}{T:Tm}{dr ts ks k U M post pan}(hr:fn.results.toList=ts){w0:World}{ex:Exit}{a:Act}{w:World}{n:Nat}
 (hq:KontL.toQ ⟨w0,M,U⟩ n (fi P T dr ts ks k post pan).k ex a w):bodyPost P fn (Ps U T M ks k post pan w0) ex a w:=by
 cases ex with
 | normal=>
  obtain ⟨e,ds,h,ha,hw,uw,cM⟩:=hq
  obtain ⟨vs,Hy,cM⟩:=cE cM
  obtain ⟨h',gh,hT,hk,hR,hp⟩:=cM _ _ hw
  subst uw hr
  exact ⟨ha.2.1,_,jY hw Hy ha.2.2,h'.M,h'.L,h'.R,ky hT gh hk hR,hp⟩
 | ret=>
  obtain ⟨e,ds,h,ha,hw,uw,cM⟩:=hq
  obtain ⟨vs,Hy,cM⟩:=cE cM
  obtain ⟨h',gh,hT,hk,hR,hp⟩:=cM _ _ hw
  subst uw hr
  exact ⟨ha.2.1,_,jY hw Hy ha.2.2,h'.M,h'.L,h'.R,ky hT gh hk hR,hp⟩
 | panic ch=>
  obtain ⟨e,ds,h,ha,hw,uw,cM⟩:=hq
  obtain ⟨h',gh,hT,hk,hR,hp⟩:=cM _ _ hw
  subst uw
  exact ⟨ha.2.1,h'.M,h'.L,h'.R,ky hT gh hk hR,hp⟩
 | exit id=>obtain ⟨_,_,_,_,_,h⟩:=hq;exact h.elim
 | goto l=>exact hq.elim
 | outgrown=>exact hq.elim
theorem Pz.facts {w U T M L R}(h:Pz w U T M L R):aJ M L/\hY L/\Is ⟨w,M,U⟩ ⟨T,M,L,R⟩ w:=by
 obtain ⟨bs,_,hi⟩:=h
 exact ⟨iE fun b hb=>(hi.apart b (sJ (.inl hb))).1,nW (List.nodup_append.1 hi.nodup).1,bs,hi⟩
theorem Xa {P:Program}{f:FuncId}{fn:Func}{c:Code}{args:List Value}{dr ts}{T:Tm}{M L R}{k:Nat}{post pan}(hm:P.follows .mixedOrders=true)
 (hn:args.length<=fn.ntmps) (hc:eo P fn.ntmps dr c=true) (hr:fn.results.toList=ts)
 (h:aJ M L ->hY L ->cy P (fi P T dr ts (aY L) k post pan) [.code c] (mz args) [] ⟨T,M,L,R⟩ ⟨⟩) (w:World) (U:List Nat) (hw:Pz w U T M L R):
 c.wp P (bodyPost P fn (Ps U T M (aY L) k post pan w)) {tmps:=args.toArray++Array.replicate (fn.ntmps - args.toArray.size) undef,defers:=[]} w:=by
 obtain ⟨h1,h2,h3⟩:=hw.facts
 have:=jK (c₀:=⟨w,M,U⟩) hm c (fi P T dr ts (aY L) k post pan).k (mz args) [] ⟨T,M,L,R⟩ w _ hc (fr0 args.toArray fn.ntmps (by simpa using hn)) h3 (h h1 h2)
 exact wp_mono this fun ex a w' hq=>Cf hr hq
theorem PG {P:Program}{f:FuncId}{fn:Func}{c:Code}{args:List Value}{dr ts}{T:Tm}{M L R post pan}(hm:P.follows .mixedOrders=true)
 (hn:args.length<=fn.ntmps) (hc:eo P fn.ntmps dr c=true) (hr:fn.results.toList=ts)
 (h:aJ M L ->hY L ->cy P (fi P T dr ts (aY L) R.length post pan) [.code c] (mz args) [] ⟨T,M,L,R⟩ ⟨⟩) (w:World) (U:List Nat) (hw:Pz w U T M L R):
 c.wp P (bodyPost P fn (Ps U T M (aY L) R.length post pan w)) {tmps:=args.toArray++Array.replicate (fn.ntmps - args.toArray.size) undef,defers:=[]} w:=by
 obtain ⟨h1,h2,h3⟩:=hw.facts
 have:=jK (c₀:=⟨w,M,U⟩) hm c (fi P T dr ts (aY L) R.length post pan).k (mz args) [] ⟨T,M,L,R⟩ w _ hc (fr0 args.toArray fn.ntmps (by simpa using hn)) h3 (h h1 h2)
 exact wp_mono this fun ex a w' hq=>Cf hr hq
theorem JH {P:Program}{f:FuncId}{fn:Func}{c:Code}{args:List Value}{dr ts}{T:Tm}{M L R post pan}(hm:P.follows .mixedOrders=true)(Cg:dm P f=true)
 (hf:P.funcs[f]?=some fn) (hb:fn.body=some c) (hn:args.length<=fn.ntmps) (hc:eo P fn.ntmps dr c=true) (hr:fn.results.toList=ts)
 (h:aJ M L ->hY L ->cy P (fi P T dr ts (aY L) R.length post pan) [.code c] (mz args) [] ⟨T,M,L,R⟩ ⟨⟩):bV P f args T M L R post pan:=
 ⟨Cg,fun w U hw=>calls_of_wp hf hb (PG (f:=f) hm hn hc hr h w U hw)⟩
theorem Xp {P:Program}{f:FuncId}{fn:Func}{c:Code}{args:List Value}{dr ts}{T:Tm}{M L R}{k:Nat}{post pan}(hm:P.follows .mixedOrders=true)(Cg:dm P f=true)
 (hf:P.funcs[f]?=some fn) (hb:fn.body=some c) (hn:args.length<=fn.ntmps) (hc:eo P fn.ntmps dr c=true) (hr:fn.results.toList=ts)
 (h:aJ M L ->hY L ->cy P (fi P T dr ts (aY L) k post pan) [.code c] (mz args) [] ⟨T,M,L,R⟩ ⟨⟩):Vn P f args T M L R k post pan:=
 ⟨Cg,fun w U hw=>calls_of_wp hf hb (Xa (f:=f) hm hn hc hr h w U hw)⟩
theorem WP {P:Program}{f:FuncId}{fn:Func}{c:Code}{args:List Value}{dr ts}{T:Tm}{M L R post pan}(hm:P.follows .mixedOrders=true)(Cg:dm P f=true)
 (hf:P.funcs[f]?=some fn) (hb:fn.body=some c) (hn:args.length<=fn.ntmps) (hc:eo P fn.ntmps dr c=true) (hr:fn.results.toList=ts)
 (h:aJ M L ->hY L ->cy P (fi P T dr ts (aY L) R.length post pan) [.code c] (mz args) [] ⟨T,M,L,R⟩ ⟨⟩):CtD P f args T M L R post pan:=
 ⟨Cg,fun _u w U hw=>callsD_of_wp hf hb (PG (f:=f) hm hn hc hr h w U hw)⟩
theorem aB {h:Sh}{k:Sh ->Prop}(hk:k h):cq h k:=fun _ _ hw=>⟨h,hw,hk⟩
theorem al {N M b cs L R}{k:Sh ->Prop}(hk:cq ⟨N,M,L,R⟩ k):cq ⟨N,M,(b,cs)::L,R⟩ k:=fun c w hw=>by
 obtain ⟨bs,hi⟩:=hw
 exact hk c w ⟨bs,hi.drop rfl⟩
theorem aT {N M b cs L R}{k:Sh ->Prop}(hk:bm M (M.add b cs) ->(M.add b cs) b=some cs ->aJ (M.add b cs) L ->cq ⟨N,M.add b cs,L,R⟩ k):cq ⟨N,M,(b,cs)::L,R⟩ k:=fun c w hw=>by
 obtain ⟨bs,hi⟩:=hw
 have hf:=hi.freeze (b:=b) (cs:=cs) (L:=L) rfl
 have bi:=(hi.apart b (by simp)).1
 exact hk (bm.add bi) (by simp [aS.add]) (iE fun k hk=>(hf.apart k (sJ (.inl hk))).1) c w ⟨bs,hf⟩
theorem qp {h:Sh}{k k':Sh ->Prop}(hk:cq h k)(h2:∀ h',k h' ->cq h' k'):cq h k':=fun c w hw=>by
 obtain ⟨h',gh,ML⟩:=hk c w hw
 exact h2 h' ML c w gh
theorem cY {N M L L' R}{k:Sh ->Prop}(hp:L.Perm L')(hk:cq ⟨N,M,L',R⟩ k):cq ⟨N,M,L,R⟩ k:=fun c w hw=>by
 obtain ⟨bs,hi⟩:=hw
 exact hk c w ⟨bs,hi.perm hp⟩
theorem Hp.dropR {c N M L v e sz xs R w bs}(hi:Hp c ⟨N,M,L,(v,e,sz,xs)::R⟩ w bs):∃ bs',Hp c ⟨N,M,L,R⟩ w bs':=by
 obtain ⟨bq,bP⟩:=hi.rows
 cases bs with
 | nil=>simp at bq
 | cons o bs=>
  refine ⟨bs,?_⟩
  have jP:(bs.filterMap id).Sublist ((o::bs).filterMap id):=(List.sublist_cons_self o bs).filterMap id
  have mQ:∀ b,b∈L.map (·.1)++bs.filterMap id ->b∈L.map (·.1)++(o::bs).filterMap id:=by
   intro b hb
   simp only [List.mem_append] at hb ⊢
   rcases hb with hb | hb
   ·exact .inl hb
   ·exact .inr (jP.subset hb)
  exact
  {typ:=hi.typ
   holds:=hi.holds
   blk:=hi.blk
   rows:=⟨by simpa using bq,fun i v e sz xs o h1 h2=>bP (i+1) v e sz xs o (by simpa using h1) (by simpa using h2)⟩
   nodup:=hi.nodup.sublist ((List.Sublist.refl _).append jP)
   apart:=fun b hb=>hi.apart b (mQ b hb)
   os:=hi.os
   tape:=hi.tape
   output:=hi.output
   size:=hi.size
   old:=hi.old
   mem:=hi.mem
   le:=hi.le}
theorem kY {N M L r R}{k:Sh ->Prop}(hk:cq ⟨N,M,L,R⟩ k):cq ⟨N,M,L,r::R⟩ k:=fun c w hw=>by
 obtain ⟨v,e,sz,xs⟩:=r
 obtain ⟨bs,hi⟩:=hw
 obtain ⟨bs',DC⟩:=hi.dropR
 exact hk c w ⟨bs',DC⟩
def At (M:aS)(b o:Nat):List Value ->Prop
 | []=>True
 | v::l=>aN M ⟨b,o,none⟩=some v/\At M b (o+1) l
def Sl (M:aS)(v:Value)(sz:Nat)(xs:List Value):Prop:=
 (∃ a c,v=.slice a 0 c/\xs=[]/\(a=none ->c=0))\/∃ b o n c,v=.slice (some ⟨b,o,none⟩) n c/\n<=c/\xs.length=n*sz/\At M b o xs
theorem ay {M M':aS}(h:bm M M'){a v}(hc:aN M a=some v):aN M' a=some v:=by
 unfold aN at hc ⊢
 split at hc
 ·cases hc
 ·obtain ⟨cs,hb,hv⟩:=Option.bind_eq_some_iff.1 hc
  simp [*,h _ _ hb]
theorem At.ext {M M':aS}(h:bm M M'){b}:∀ {l o},At M b o l ->At M' b o l
 | [],_,_=>trivial
 | _::_,_,hc=>⟨ay h hc.1,At.ext h hc.2⟩
theorem Sl.ext {M M':aS}(h:bm M M'){v sz xs}(hs:Sl M v sz xs):Sl M' v sz xs:=by
 rcases hs with hs | ⟨b,o,n,c,h1,h2,h3,h4⟩
 ·exact .inl hs
 ·exact .inr ⟨b,o,n,c,h1,h2,h3,h4.ext h⟩
theorem lf {M:aS}{b:Nat}{cs:List Value}(hb:M b=some cs):∀ (l:List Value) (o:Nat),(∀ i v,l[i]?=some v ->cs[o+i]?=some v) ->At M b o l:=by
 intro l
 induction l with
 | nil=>intro o _;trivial
 | cons v l ih=>
  intro o h
  refine ⟨?_,ih (o+1) fun i u hu=> ?_⟩
  ·have h0:=h 0 v rfl
   rw [Nat.add_zero] at h0
   simp [aN,hb,h0]
  ·have:=h (i+1) u (by simpa using hu)
   rw [<- this];congr 1;omega
theorem fz {M:aS}{b:Nat}:∀ {l l':List Value} {o:Nat},At M b o (l++l') ↔ At M b o l/\At M b (o+l.length) l'
 | [],l',o=>by simp [At]
 | v::l,l',o=>by
  simp only [List.cons_append,At,fz (l:=l),List.length_cons,and_assoc]
  rw [show o+1+l.length=o+(l.length+1) from by omega]
theorem Hp.freezeR {c N M L v e sz xs R w bs}(hi:Hp c ⟨N,M,L,(v,e,sz,xs)::R⟩ w bs)(dS:0<sz):
 ∃ M' bs',Hp c ⟨N,M',L,R⟩ w bs'/\bm M M'/\Sl M' v sz xs:=by
 obtain ⟨bq,bP⟩:=hi.rows
 cases bs with
 | nil=>simp at bq
 | cons o bs=>
  have hr:=bP 0 v e sz xs o rfl rfl
  rcases hr with ⟨rfl,rfl,rfl⟩ | ⟨g,n,cap,junk,rfl,hg,hn,hc,di,rfl⟩ | ⟨h0,_⟩ | ⟨h0,_⟩
  ·obtain ⟨bs',h'⟩:=hi.dropR
   exact ⟨M,bs',h',bm.rfl',.inl ⟨none,0,rfl,rfl,fun _=>rfl⟩⟩
  ·-- the row's block is told as one of L,then frozen
   have jj:=hi.nodup
   rw [List.filterMap_cons] at jj
   simp only [id] at jj
   have L8:=(hi.apart g (by simp)).1
   have El:(L.map (·.1)++g::bs.filterMap id).Perm (g::(L.map (·.1)++bs.filterMap id)):=List.perm_middle
   have W9:=El.nodup_iff.1 jj
   have h2:Hp c ⟨fun _=>none,M,(g,xs++junk)::L,R⟩ w bs:=
   {typ:=fun b u hu=>by cases hu
    holds:=hi.holds
    blk:=fun b cs hb=>by
     rcases mY hb with hb | hb
     ·injection hb with h1 h2;subst h1 h2;exact ⟨e,hg⟩
     ·exact hi.blk b cs hb
    rows:=⟨by simpa using bq,fun i v e sz xs o h1 h2=>bP (i+1) v e sz xs o (by simpa using h1) (by simpa using h2)⟩
    nodup:=by simpa using W9
    apart:=fun b hb=>hi.apart b (by
     simp only [List.map_cons,List.cons_append,List.mem_cons,List.mem_append] at hb
     simp only [List.filterMap_cons,id,List.mem_append,List.mem_cons]
     rcases hb with hb | hb | hb
     ·exact .inr (.inl hb)
     ·exact .inl hb
     ·exact .inr (.inr hb))
    os:=hi.os
    tape:=hi.tape
    output:=hi.output
    size:=hi.size
    old:=hi.old
    mem:=hi.mem
    le:=hi.le}
   have h3:=h2.freeze (b:=g) (cs:=xs++junk) (L:=L) rfl
   refine ⟨_,bs,h3.retyp hi.typ,bm.add L8,.inr ⟨g,0,n,cap,rfl,di,hn,?_⟩⟩
   refine lf (cs:=xs++junk) (by simp [aS.add]) xs 0 ?_
   intro i u hu
   rw [Nat.zero_add,List.getElem?_append_left (List.getElem?_eq_some_iff.1 hu).1];exact hu
  ·omega
  ·omega
theorem cK {N M L v e sz xs R}{k:Sh ->Prop}(hk:∀ M',bm M M' ->aJ M' L ->Sl M' v sz xs ->cq ⟨N,M',L,R⟩ k)(dS:0<sz:=by decide):cq ⟨N,M,L,(v,e,sz,xs)::R⟩ k:=fun c w hw=>by
 obtain ⟨bs,hi⟩:=hw
 obtain ⟨M',bs',h',he,hs⟩:=hi.freezeR dS
 exact hk M' he (iE fun b hb=>(h'.apart b (sJ (.inl hb))).1) hs c w ⟨bs',h'⟩
abbrev Bs:=List UInt8
def bs (l:Bs):ByteArray:=⟨l.toArray⟩
def st (l:Bs):Value:=.string (bs l)
theorem CM (l:Bs):(bs l).size=l.length:=by simp [bs,ByteArray.size]
theorem uU (a b:Bs):bs a++bs b=bs (a++b):=by
 apply ByteArray.ext
 simp [bs,ByteArray.data_append]
theorem OF {P:Program}(t a b):iD P .lss t (.string (bs a)) (.string (bs b))=some (.bool (Op.bytesLess a b)):=by simp [iD,Ef,bs]
theorem Nh {P:Program}(t a b):iD P .gtr t (.string (bs a)) (.string (bs b))=some (.bool (!(Op.bytesLess a b || a==b))):=by simp [iD,Ef,D7,bs]
theorem TW {a b:Bs}:bs a=bs b ↔ a=b:=by
 constructor
 ·intro h
  have:=congrArg (fun x=>x.data.toList) h
  simpa [bs] using this
 ·rintro rfl;rfl
def RL {α:Type}(r:α ->List Value ->Prop):List α ->List Value ->Prop
 | [],xs=>xs=[]
 | x::l,xs=>∃ cs rest,xs=cs++rest/\r x cs/\RL r l rest
def RS {α:Type}(M:aS)(r:α ->List Value ->Prop)(sz:Nat)(l:List α)(v:Value):Prop:=l.length*sz<=4398046511104/\∃ xs,Sl M v sz xs/\RL r l xs
section
variable {α:Type} {r:α ->List Value ->Prop} {sz:Nat}
theorem eL (dS:∀ x cs,r x cs ->cs.length=sz):∀ {l xs},RL r l xs ->xs.length=l.length*sz
 | [],xs,h=>by simp only [RL] at h;subst h;simp
 | x::l,xs,h=>by
  obtain ⟨cs,rest,rfl,h1,h2⟩:=h
  simp only [List.length_append,dS x cs h1,eL dS h2,List.length_cons,Nat.add_mul]
  omega
theorem SY (dS:∀ x cs,r x cs ->cs.length=sz){M:aS}{b:Nat}:∀ {l xs o},RL r l xs ->At M b o xs ->∀ i x,l[i]?=some x ->∃ cs,At M b (o+i*sz) cs/\r x cs
 | [],xs,o,h,_,i,x,hx=>by simp at hx
 | y::l,xs,o,h,ha,i,x,hx=>by
  obtain ⟨cs,rest,rfl,h1,h2⟩:=h
  obtain ⟨Ph,ha2⟩:=fz.1 ha
  cases i with
  | zero=>
   simp at hx;subst hx
   exact ⟨cs,by simpa using Ph,h1⟩
  | succ i=>
   obtain ⟨cs',h3,h4⟩:=SY dS h2 ha2 i x (by simpa using hx)
   refine ⟨cs',?_,h4⟩
   have:o+(i+1)*sz=o+cs.length+i*sz:=by rw [dS y cs h1,Nat.add_mul];omega
   rw [this];exact h3
theorem cP:∀ {l l':List α} {xs xs'},RL r l xs ->RL r l' xs' ->RL r (l++l') (xs++xs')
 | [],l',xs,xs',h,h'=>by simp only [RL] at h;subst h;exact h'
 | x::l,l',xs,xs',h,h'=>by
  obtain ⟨cs,rest,rfl,h1,h2⟩:=h
  exact ⟨cs,rest++xs',by simp,h1,cP h2 h'⟩
theorem dj {x:α}{cs}(h:r x cs):RL r [x] cs:=⟨cs,[],by simp,h,rfl⟩
theorem dl {r':α ->List Value ->Prop}(h:∀ x cs,r x cs ->r' x cs):∀ {l xs},RL r l xs ->RL r' l xs
 | [],_,hh=>hh
 | _::_,_,⟨cs,rest,h1,h2,h3⟩=>⟨cs,rest,h1,h _ _ h2,dl h h3⟩
theorem aH {M M':aS}{r':α ->List Value ->Prop}(he:bm M M')(h:∀ x cs,r x cs ->r' x cs){l v}(hs:RS M r sz l v):RS M' r' sz l v:=by
 obtain ⟨hb,xs,h1,h2⟩:=hs
 exact ⟨hb,xs,h1.ext he,dl h h2⟩
theorem ax (dO:0<sz)(dS:∀ x cs,r x cs ->cs.length=sz){M:aS}{l v}(hs:RS M r sz l v):
 l.length*sz<=4398046511104/\∃ a c,v=.slice a l.length c/\l.length<=c/\(a=none ->c=0)/\∀ i x,l[i]?=some x ->∃ b o cs,a=some ⟨b,o,none⟩/\At M b (o+i*sz) cs/\r x cs:=by
 obtain ⟨hb,xs,hs,hl⟩:=hs
 refine ⟨hb,?_⟩
 have bq:=eL dS hl
 rcases hs with ⟨a,c,rfl,rfl,zw⟩ | ⟨b,o,n,c,rfl,di,hn,ha⟩
 ·have h0:l.length=0:=by
   simp only [List.length_nil] at bq
   rcases Nat.mul_eq_zero.1 bq.symm with h | h
   ·exact h
   ·omega
  refine ⟨a,c,by rw [h0],by omega,zw,?_⟩
  intro i x hx
  have:=(List.getElem?_eq_some_iff.1 hx).1
  omega
 ·have yF:n=l.length:=Nat.eq_of_mul_eq_mul_right dO (hn.symm.trans bq)
  subst yF
  refine ⟨some ⟨b,o,none⟩,c,rfl,di,(fun h=>by cases h),?_⟩
  intro i x hx
  obtain ⟨cs,h1,h2⟩:=SY dS hl ha i x hx
  exact ⟨b,o,cs,rfl,h1,h2⟩
end
theorem nh {α:Type}{r:α ->List Value ->Prop}{sz:Nat}(dO:0<sz)(dS:∀ x cs,r x cs ->cs.length=sz){M:aS}{l:List α}{a:Option Addr}{n c k:Nat}(h:RS M r sz l (.slice a n c))(hk:k<=l.length):
 RS M r sz (l.drop k) (.slice (kF a c k sz) (n - k) (c - k)):=by
 obtain ⟨hb,xs,hs,hl⟩:=h
 have bq:=eL dS hl
 refine ⟨Nat.le_trans (Nat.mul_le_mul_right _ (by rw [List.length_drop];omega)) hb,xs.drop (k*sz),?_,?_⟩
 ·rcases hs with ⟨a',c',hv,rfl,zw⟩ | ⟨b,o,n',c',hv,di,hn,ha⟩
  ·injection hv with h1 h2 h3
   subst h1 h2 h3
   left
   have o7:k=0:=by
    have:l.length=0:=by
     simp only [List.length_nil] at bq
     rcases Nat.mul_eq_zero.1 bq.symm with h | h
     ·exact h
     ·omega
    omega
   subst o7
   refine ⟨kF a c 0 sz,c - 0,by simp,by simp,fun h=> ?_⟩
   have:a=none:=by
    unfold kF at h
    split at h
    ·exact h
    ·simpa using h
   have:=zw this
   omega
  ·injection hv with h1 h2 h3
   subst h1 h2 h3
   right
   have yF:n=l.length:=Nat.eq_of_mul_eq_mul_right dO (hn.symm.trans bq)
   have bK:At M b (o+k*sz) (xs.drop (k*sz)):=by
    have h2:xs=xs.take (k*sz)++xs.drop (k*sz):=(List.take_append_drop _ _).symm
    rw [h2] at ha
    have:=(fz.1 ha).2
    rw [List.length_take,Nat.min_eq_left (by rw [hn];exact Nat.mul_le_mul_right _ (by omega))] at this
    exact this
   by_cases hck:c=k
   ·refine ⟨b,o,n - k,c - k,by simp [kF,hck],by omega,?_,?_⟩
    ·rw [List.length_drop,hn,Nat.sub_mul]
    ·have:xs.drop (k*sz)=[]:=by
      apply List.drop_eq_nil_of_le
      rw [hn];exact Nat.mul_le_mul_right _ (by omega)
     rw [this];trivial
   ·refine ⟨b,o+k*sz,n - k,c - k,by simp [kF,hck,Addr.add_lit],by omega,?_,bK⟩
    rw [List.length_drop,hn,Nat.sub_mul]
 ·clear bq hs hb
  induction l generalizing xs k with
  | nil=>
   simp only [RL] at hl;subst hl
   simp [RL]
  | cons x l ih=>
   obtain ⟨cs,rest,rfl,h1,h2⟩:=hl
   cases k with
   | zero=>simpa using ⟨cs,rest,rfl,h1,h2⟩
   | succ k=>
    have fS:=dS x cs h1
    have:(cs++rest).drop ((k+1)*sz)=rest.drop (k*sz):=by
     rw [Nat.add_mul,Nat.one_mul,Nat.add_comm,<- fS,List.drop_append]
     simp
    rw [this]
    simpa using ih (by simpa using hk) _ h2
theorem aC {M:aS}{b o:Nat}(h:M b=none):aN M ⟨b,o,none⟩=none:=by simp [aN,h]
theorem bg {M:aS}{b o:Nat}{cs:List Value}(h:M b=some cs):aN M ⟨b,o,none⟩=cs[o]?:=by simp [aN,h]
theorem XW {P:Program}{t:TypeId}{x:Value}{lo hi:Option Value}:aaH P t x lo hi=if cF P t=true then BJ true x lo hi else Bz (cS P t) x lo hi:=(rfl)
theorem Qy (sz a n cap k l):Bz (some sz) (.slice a n cap) (some (.int k l)) none=if 0<=l/\l<=n/\n<=cap then some (.slice (kF a cap l.toNat sz) (n - l.toNat) (cap - l.toNat)) else none:=(rfl)
theorem QO (sz a n cap k h):Bz (some sz) (.slice a n cap) none (some (.int k h))=if 0<=h/\h<=cap then some (.slice (kF a cap 0 sz) h.toNat cap) else none:=(rfl)
theorem Qc (s k l):BJ true (.string s) (some (.int k l)) none=if 0<=l/\l<=s.size then some (.string (s.extract l.toNat s.size)) else none:=(rfl)
theorem QL (s k h):BJ true (.string s) none (some (.int k h))=if 0<=h/\h<=s.size then some (.string (s.extract 0 h.toNat)) else none:=(rfl)
theorem Jt (l:Bs)(a b:Nat):(bs l).extract a b=bs ((l.drop a).take (b - a)):=by
 apply ByteArray.ext
 simp [bs,ByteArray.data_extract,List.extract_eq_take_drop]
theorem afE:((0:Nat):Int)=0:=(rfl)
theorem af2:((1:Nat):Int)=1:=(rfl)
theorem adf:((2:Nat):Int)=2:=(rfl)
theorem afl:((3:Nat):Int)=3:=(rfl)
theorem aet:((4:Nat):Int)=4:=(rfl)
theorem adM:((7:Nat):Int)=7:=(rfl)
theorem WH (n:Nat):(((n+1:Nat):Int)=0)=False:=eq_false (by omega)
theorem SK (n:Nat):((0:Int)<((n+1:Nat):Int))=True:=eq_true (by omega)
theorem VW (n:Nat):((1:Int)<=((n+1:Nat):Int))=True:=eq_true (by omega)
theorem WB (n:Nat):((0:Int)<=(n:Int))=True:=eq_true (by omega)
structure V where
 k:Int
 n:Int
 t:Bs
def V.cs (v:V):List Value:=[.int .i64 v.k,.int .i64 v.n,st v.t]
inductive X where
 | mk (k:Int) (v:V) (tab name:Bs) (kids:List X)
namespace X
def k:X ->Int | mk k _ _ _ _=>k
def v:X ->V | mk _ v _ _ _=>v
def tab:X ->Bs | mk _ _ t _ _=>t
def name:X ->Bs | mk _ _ _ n _=>n
def kids:X ->List X | mk _ _ _ _ l=>l
end X
mutual
def RX (M:aS):X ->List Value ->Prop
 | .mk k v tab name kids,cs=>∃ s xs,cs=[.int .i64 k,.int .i64 v.k,.int .i64 v.n,st v.t,st tab,st name,s]/\kids.length*7<=4398046511104/\Sl M s 7 xs/\RXs M kids xs
def RXs (M:aS):List X ->List Value ->Prop
 | [],xs=>xs=[]
 | x::l,xs=>∃ cs rest,xs=cs++rest/\RX M x cs/\RXs M l rest
end
theorem Rb {M:aS}:∀ {l xs},RXs M l xs ↔ RL (RX M) l xs
 | [],_=>by simp [RXs,RL]
 | x::l,xs=>by simp only [RXs,RL,Rb (l:=l)]
theorem vC {M:aS}{x:X}{cs}:RX M x cs ↔ ∃ s,cs=[.int .i64 x.k,.int .i64 x.v.k,.int .i64 x.v.n,st x.v.t,st x.tab,st x.name,s]/\RS M (RX M) 7 x.kids s:=by
 obtain ⟨k,v,tab,name,kids⟩:=x
 simp only [RX,RS,X.k,X.v,X.tab,X.name,X.kids,Rb]
 constructor
 ·rintro ⟨s,xs,h1,h0,h2,h3⟩;exact ⟨s,h1,h0,xs,h2,h3⟩
 ·rintro ⟨s,h1,h0,xs,h2,h3⟩;exact ⟨s,xs,h1,h0,h2,h3⟩
theorem dT {M:aS}{x:X}{cs}(h:RX M x cs):cs.length=7:=by
 obtain ⟨s,rfl,_⟩:=vC.1 h;rfl
mutual
theorem bL {M M':aS}(he:bm M M'):∀ (x:X) (cs:List Value),RX M x cs ->RX M' x cs
 | .mk _ _ _ _ kids,_,h=>by
  obtain ⟨s,xs,h1,h0,h2,h3⟩:=h
  exact ⟨s,xs,h1,h0,h2.ext he,Ka he kids xs h3⟩
theorem Ka {M M':aS}(he:bm M M'):∀ (l:List X) (xs:List Value),RXs M l xs ->RXs M' l xs
 | [],_,h=>h
 | x::l,_,h=>by
  obtain ⟨cs,rest,h1,h2,h3⟩:=h
  exact ⟨cs,rest,h1,bL he x cs h2,Ka he l rest h3⟩
end
structure It where
 x:X
 as:Bs
def Am (M:aS)(i:It)(cs:List Value):Prop:=∃ c,RX M i.x c/\cs=c++[st i.as]
structure So where
 k:Int
 name:Bs
 as:Bs
 on:X
def Gx (M:aS)(s:So)(cs:List Value):Prop:=∃ c,RX M s.on c/\cs=[.int .i64 s.k,st s.name,st s.as]++c
structure Se where
 distinct:Bool
 star:Bool
 items:List It
 src:List So
 hasW:Bool
 hasH:Bool
 wh:X
 hv:X
 group:List X
def Hw (M:aS)(s:Se)(cs:List Value):Prop:=∃ i f w h g,RS M (Am M) 8 s.items i/\RS M (Gx M) 10 s.src f/\RX M s.wh w/\RX M s.hv h/\RS M (RX M) 7 s.group g/\
 cs=[.bool s.distinct,.bool s.star,i,f,.bool s.hasW,.bool s.hasH]++(w++(h++[g]))
structure Q where
 parts:List Se
 ops:List Int
 order:List X
 limit:Int
def RI (n:Int)(cs:List Value):Prop:=cs=[.int .i64 n]
def RQ (M:aS)(q:Q)(cs:List Value):Prop:=∃ p o r,RS M (Hw M) 21 q.parts p/\RS M RI 1 q.ops o/\RS M (RX M) 7 q.order r/\cs=[p,o,r,.int .i64 q.limit]
structure Co where
 name:Bs
 ty:Int
def ua (c:Co)(cs:List Value):Prop:=cs=[st c.name,.int .i64 c.ty]
def RV (v:V)(cs:List Value):Prop:=cs=v.cs
def Hv (M:aS)(l:List V)(cs:List Value):Prop:=∃ s,RS M RV 3 l s/\cs=[s]
structure Stm where
 k:Int
 name:Bs
 cols:List Co
 q:Q
 rows:List (List V)
 hasW:Bool
 wh:X
def my (M:aS)(s:Stm)(cs:List Value):Prop:=∃ c q r w,RS M ua 2 s.cols c/\RQ M s.q q/\RS M (Hv M) 1 s.rows r/\RX M s.wh w/\
 cs=[.int .i64 s.k,st s.name,c]++(q++([r,.bool s.hasW]++w))
def X3 (e at_:Int):Value:=.agg #[.int .i64 e,.int .i64 at_]
theorem jT {M M':aS}(he:bm M M')(i:It)(cs)(h:Am M i cs):Am M' i cs:=by
 obtain ⟨c,h1,h2⟩:=h;exact ⟨c,bL he _ _ h1,h2⟩
theorem qV {M M':aS}(he:bm M M')(i:So)(cs)(h:Gx M i cs):Gx M' i cs:=by
 obtain ⟨c,h1,h2⟩:=h;exact ⟨c,bL he _ _ h1,h2⟩
theorem lF {M M':aS}(he:bm M M')(i:Se)(cs)(h:Hw M i cs):Hw M' i cs:=by
 obtain ⟨a,f,w,hh,g,h1,h2,h3,h4,h5,h6⟩:=h
 exact ⟨a,f,w,hh,g,aH he (jT he) h1,aH he (qV he) h2,bL he _ _ h3,bL he _ _ h4,aH he (bL he) h5,h6⟩
theorem Jd {M M':aS}(he:bm M M')(i:Q)(cs)(h:RQ M i cs):RQ M' i cs:=by
 obtain ⟨a,f,w,h1,h2,h3,h4⟩:=h
 exact ⟨a,f,w,aH he (lF he) h1,aH he (fun _ _ h=>h) h2,aH he (bL he) h3,h4⟩
theorem iP {M M':aS}(he:bm M M')(i:List V)(cs)(h:Hv M i cs):Hv M' i cs:=by
 obtain ⟨s,h1,h2⟩:=h;exact ⟨s,aH he (fun _ _ h=>h) h1,h2⟩
theorem eT {M M':aS}(he:bm M M')(i:Stm)(cs)(h:my M i cs):my M' i cs:=by
 obtain ⟨c,q,r,w,h1,h2,h3,h4,h5⟩:=h
 exact ⟨c,q,r,w,aH he (fun _ _ h=>h) h1,Jd he _ _ h2,aH he (iP he) h3,bL he _ _ h4,h5⟩
theorem kO {M:aS}{i:It}{cs}(h:Am M i cs):cs.length=8:=by
 obtain ⟨c,h1,rfl⟩:=h;simp [dT h1]
theorem oY {M:aS}{i:So}{cs}(h:Gx M i cs):cs.length=10:=by
 obtain ⟨c,h1,rfl⟩:=h;simp [dT h1]
theorem lK {M:aS}{i:Se}{cs}(h:Hw M i cs):cs.length=21:=by
 obtain ⟨a,f,w,hh,g,_,_,h3,h4,_,rfl⟩:=h;simp [dT h3,dT h4]
theorem QW {M:aS}{i:Q}{cs}(h:RQ M i cs):cs.length=4:=by
 obtain ⟨_,_,_,_,_,_,rfl⟩:=h;rfl
theorem fP {M:aS}{i:Stm}{cs}(h:my M i cs):cs.length=16:=by
 obtain ⟨_,_,_,_,_,h2,_,h4,rfl⟩:=h;simp [QW h2,dT h4]
theorem FJ (z pl parts):uX (some (z,pl)) parts=(nF pl z parts).map fun cs=> .agg cs.toArray:=(rfl)
theorem NV (pl z):nF pl z []=some z:=(rfl)
theorem Jo (pl z i vs rest):nF pl z ((i,vs)::rest)=match pl[i]? with
 | some (off,size)=>if vs.length=size/\off+vs.length<=z.length then nF pl (pj z off vs) rest else none
 | none=>none:=(rfl)
theorem Q8 (z i):pj z i []=z:=(rfl)
theorem O6 (z i v vs):pj z i (v::vs)=pj (z.set i v) (i+1) vs:=(rfl)
theorem afo (l:List Value):l.toArray=⟨l⟩:=(rfl)
theorem EP (t v):LG (.iface t v)=true:=(rfl)
theorem GT (sz i):od sz i []=true:=(rfl)
theorem DV (sz i j cs r):od sz i ((j,cs)::r)=(j==i && cs.length==sz && od sz (i+1) r):=(rfl)
theorem OX:wD []=[]:=(rfl)
theorem H1 (j cs r):wD ((j,cs)::r)=cs++wD r:=(rfl)
theorem cN {k:IntKind}{a b:Int}(h:a=b):Value.int k a=.int k b:=by rw [h]
def vA (T:Tm)(ks:List Nat)(n:Nat)(post:eu)(v:Value)(h:Sh):Prop:=aF T h.N/\aY h.L=ks/\h.R.length=n/\post v h.M h.L h.R
theorem Qm {P e h}:l9 P e h []=some []:=(rfl)
theorem PB {P e h t r}:l9 P e h (.tmp t::r)=qB (some (e t)) (l9 P e h r):=(rfl)
theorem OA {P e h a t r}:l9 P e h (.cell a t::r)=qB (pF h (tk P t) (e a)) (l9 P e h r):=(rfl)
theorem Rq (v):tf [v]=v:=(rfl)
theorem SL (v u):tf [v,u]=.tuple #[v,u]:=(rfl)
theorem Rt:tf []=.tuple #[]:=(rfl)
theorem abc {P T dr ts ks n post pan}:(fi P T dr ts ks n post pan).ret=Xk P T ts ks n post:=(rfl)
theorem l7 {P T dr ts ks n post pan}:(fi P T dr ts ks n post pan).pan=Tr T ks n pan:=(rfl)
theorem afk {P T dr ts ks n post pan}:(fi P T dr ts ks n post pan).dr=dr:=(rfl)
theorem VC {P T ts ks n post e h}:Xk P T ts ks n post e [] h=dU (l9 P e h ts) fun vs=>cq h (vA T ks n post (tf vs)):=by simp [Xk];rfl
theorem j2 {T ks n pan ch e h}:Tr T ks n pan ch e [] h=cq h (vA T ks n (fun _=>pan ch) undef):=by simp [Tr];rfl
theorem Ml (j s r id):JN ((j,s)::r) id=if j=id then s else JN r id:=(rfl)
theorem aQ {T N M L R ks n post v}(hT:aF T N)(hk:aY L=ks)(hn:R.length=n)(hp:post v M L R):cq ⟨N,M,L,R⟩ (vA T ks n post v):=aB ⟨hT,hk,hn,hp⟩
theorem bM {N M R}{k:Sh ->Prop}:∀ {L:LL},cq ⟨N,M,[],R⟩ k ->cq ⟨N,M,L,R⟩ k
 | [],h=>h
 | (_,_)::_,h=>al (bM h)
theorem bW {N M L}{k:Sh ->Prop}:∀ {R:RR},cq ⟨N,M,L,[]⟩ k ->cq ⟨N,M,L,R⟩ k
 | [],h=>h
 | _::_,h=>kY (bW h)
theorem ak {T N M L R post v}(hT:aF T N)(hp:post v M [] []):cq ⟨N,M,L,R⟩ (vA T (aY []) 0 post v):=bM (bW (aQ hT rfl rfl hp))
theorem aF.rfl' {T:Tm}:aF T T:=fun _ _ h=>h
theorem aF.trans {T T' T'':Tm}(h:aF T T')(h':aF T' T''):aF T T'':=fun b t hb=>h' b t (h b t hb)
def aE (e:dp):List (Nat×Value) ->Prop
 | []=>True
 | (t,v)::l=>e t=v/\aE e l
def LI (ds0:List Deferred)(n ti:Nat)(lv:List (Nat×Value))(J:Nat ->dp ->Sh ->Prop):Nat ->dp ->List Deferred ->Sh ->Prop:=
 fun m e ds h=>ds=ds0/\∃ i,i<=n/\m=n - i/\aE e lv/\e ti=.int .i64 (i:Nat)/\J i e h
section
variable {P:Program} {F:Fi} {b:Code} {s:List Item} {e:dp} {ds:List Deferred} {h:Sh}
theorem gn (I:Nat ->dp ->List Deferred ->Sh ->Prop)(h0:∃ m,I m e ds h)(hs:∀ m e' ds' h',I m e' ds' h' ->cy P F (.code b:: .lp I m::s) e' ds' h' ⟨⟩):Gj P F b s e ds h ⟨⟩:=
 ⟨I,aB h0,hs⟩
theorem aO (n ti:Nat)(lv:List (Nat×Value))(J:Nat ->dp ->Sh ->Prop)(i0:Nat)(hi:i0<=n)(hl:aE e lv)(ht:e ti=.int .i64 (i0:Nat))(hJ:J i0 e h)
 (hs:∀ i e' h',i<=n ->aE e' lv ->e' ti=.int .i64 (i:Nat) ->J i e' h' ->cy P F (.code b:: .lp (LI ds n ti lv J) (n - i)::s) e' ds h' ⟨⟩):Gj P F b s e ds h ⟨⟩:=by
 refine gn (LI ds n ti lv J) ⟨n - i0,rfl,i0,hi,rfl,hl,ht,hJ⟩ ?_
 rintro m e' ds' h' ⟨rfl,i,hi,rfl,hl,ht,hJ⟩
 exact hs i e' h' hi hl ht hJ
theorem ce {n ti:Nat}{lv:List (Nat×Value)}{J:Nat ->dp ->Sh ->Prop}{i:Nat}(hi:i<n)(hl:aE e lv)(ht:e ti=.int .i64 ((i+1:Nat):Int))(hJ:J (i+1) e h):
 cy P F (.lp (LI ds n ti lv J) (n - i)::s) e ds h ⟨⟩:=by
 rw [eJ]
 exact aB ⟨n - (i+1),by omega,rfl,i+1,by omega,rfl,hl,ht,hJ⟩
theorem aR {I:Nat ->dp ->List Deferred ->Sh ->Prop}{m:Nat}(hc:cq h fun h=>∃ m',m'<m/\I m' e ds h):cy P F (.lp I m::s) e ds h ⟨⟩:=by
 rw [eJ];exact hc
end
theorem cZ {P:Program}{F:Fi}{f:FuncId}{args:List Value}{dd:Option Nat}{s:List Item}{e:dp}{ds:List Deferred}{N:Tm}{M:aS}{b:Nat}{cs:List Value}{L:LL}{R:RR}(hb:dm P f=true)
 (h:∀ M',bm M M' ->M' b=some cs ->aJ M' L ->dx P F f args dd s e ds ⟨N,M',L,R⟩ ⟨⟩):dx P F f args dd s e ds ⟨N,M,(b,cs)::L,R⟩ ⟨⟩:=
 cL (k:=fun h'=>∃ M',bm M M'/\M' b=some cs/\aJ M' L/\h'=⟨N,M',L,R⟩) (aT fun he h1 h2=>aB ⟨_,he,h1,h2,rfl⟩)
  (by rintro h' ⟨M',he,h1,h2,rfl⟩;exact h M' he h1 h2) hb
theorem dB {α:Type}{r:α ->List Value ->Prop}{sz:Nat}(dS:∀ x cs,r x cs ->cs.length=sz){M:aS}{b n:Nat}{cs:List Value}{l:List α}(hM:M b=some cs)(hl:RL r l cs)(hn:l.length=n)(hb:n*sz<=4398046511104):
 RS M r sz l (.slice (some ⟨b,0,none⟩) n n):=by
 subst hn
 exact ⟨hb,cs,.inr ⟨b,0,l.length,l.length,rfl,Nat.le_refl _,eL dS hl,lf hM cs 0 (by simp)⟩,hl⟩
def rj (s:Bs)(cs:List Value):Prop:=cs=[st s]
theorem ff {s:Bs}{cs}(h:rj s cs):cs.length=1:=by unfold rj at h;subst h;rfl
theorem kQ:∀ (l:List Bs),RL rj l (l.map st)
 | []=>rfl
 | s::l=>⟨[st s],l.map st,rfl,rfl,kQ l⟩
theorem SC (k n):(Value.int k n).oneCell'=true:=rfl
theorem TY (s):(Value.string s).oneCell'=true:=rfl
theorem Mq (s):(Value.bool s).oneCell'=true:=rfl
theorem XZ (a n c):(Value.slice a n c).oneCell'=true:=rfl
theorem Un (a):(Value.pointer a).oneCell'=true:=rfl
theorem NM (f a c):(Value.func f a c).oneCell'=true:=rfl
theorem Ie (f a c):(Value.func f a c).cells.toList=[.func f a c]:=rfl
theorem FA (t v):(Value.iface t v).cells.toList=[.iface t v]:=rfl
theorem ZZ {α β:Type}(f:α ->β)(l:List α):Array.map f ⟨l⟩=⟨l.map f⟩:=by simp
theorem aim (l:List UInt8):ByteArray.mk ⟨l⟩=bs l:=rfl
theorem bH {n:Int}(h0: -9223372036854775808<=n)(h1:n<=9223372036854775807):IntKind.i64.wrap n=n:=by
 have hb:IntKind.i64.bits=64:=rfl
 have hs:IntKind.i64.signed=true:=rfl
 simp only [IntKind.wrap,hb,hs,Bool.true_and]
 by_cases hc:n % (2 ^ 64:Int)>=(2 ^ (64 - 1):Int)
 ·rw [if_pos (by simpa using hc)]
  omega
 ·rw [if_neg (by simpa using hc)]
  omega
theorem aA (i:Nat)(h:i<140737488355328):IntKind.i64.wrap ((i:Int)+1)=((i+1:Nat):Int):=by
 rw [bH (by omega) (by omega)];rfl
theorem Tu (n:Nat)(h:n<1000000000000000000):IntKind.i64.wrap (0 - (n:Int))= -(n:Int):=by
 rw [bH (by omega) (by omega)];omega
def pL (pb:Nat)(lv:Value)(en op:Int):LL:=[(pb,[lv,.int .i64 en,.int .i64 op])]
theorem Sd (pb lv en op k o):eD (pL pb lv en op) ⟨k,o,none⟩=if k=pb then some ([lv,.int .i64 en,.int .i64 op][o]?) else none:=(rfl)
theorem Sa (pb lv en op v):uJ (pL pb lv en op) pb 0 [v]=some (pL pb v en op):=by simp [uJ,pL,pj]
theorem TA (pb lv en op n):uJ (pL pb lv en op) pb 2 [.int .i64 n]=some (pL pb lv en n):=by simp [uJ,pL,pj]
theorem aK (M pb lv en op):aJ M (pL pb lv en op)=(M pb=none):=by simp [aJ,pL]
theorem MI (b pb lv en op):bf b (pL pb lv en op)=(b≠pb/\pb≠b):=by simp [bf,pL]
def lV (M:aS):LL ->Prop
 | []=>True
 | (b,cs)::l=>M b=some cs/\lV M l
theorem BS {M M':aS}(h:bm M M'):∀ {L},lV M L ->lV M' L
 | [],_=>trivial
 | (_,_)::_,⟨h1,h2⟩=>⟨h _ _ h1,BS h h2⟩
theorem lz {N R}{k:Sh ->Prop}:∀ {L:LL} {M:aS},(∀ M',bm M M' ->lV M' L ->cq ⟨N,M',[],R⟩ k) ->cq ⟨N,M,L,R⟩ k
 | [],M,h=>h M bm.rfl' trivial
 | (b,cs)::L,M,h=>aT fun he hb _=>lz fun M' nj hL=>h M' (he.trans nj) ⟨nj _ _ hb,hL⟩
theorem CB {T0:Tm}{h:Sh}{b:Nat}{cs:List Value}(hc:∀ o v,cs[o]?=some v ->h.cell ⟨b,o,none⟩=some v):fO ⟨T0,fun _=>none,[(b,cs)],[]⟩ h:=by
 intro a v hv
 obtain ⟨k,o,sp⟩:=a
 simp only [Sh.cell,aN,eD] at hv
 by_cases hk:k=b
 ·subst hk
  cases sp with
  | some q=>simp at hv
  | none=>exact hc o v (by simpa using hv)
 ·cases sp<;>simp [hk] at hv
theorem QK {T ks n pan}(ops:List Oper):wq (Tr T ks n pan) ops=True:=eq_true (fun _ _ _ _ _ _ _ _ _ h=>h)
theorem gx {T0 T:Tm}{M:aS}{b:Nat}{cs:List Value}{L:LL}{R:RR}(hb:M b=none):fO ⟨T0,fun _=>none,[(b,cs)],[]⟩ ⟨T,M,(b,cs)::L,R⟩:=
 CB fun o v hv=>by simp [Sh.cell,aN,eD,hb,hv]
theorem uq {T0 T:Tm}{M:aS}{b b':Nat}{cs cs':List Value}{L:LL}{R:RR}(hb:M b=none)(cu:¬ b=b'):fO ⟨T0,fun _=>none,[(b,cs)],[]⟩ ⟨T,M,(b',cs')::(b,cs)::L,R⟩:=
 CB fun o v hv=>by simp [Sh.cell,aN,eD,hb,hv,cu]
section
variable {P:Program} {F:Fi} {s:List Vc.Item} {e:dp} {ds:List Deferred} {dd:Option Nat} {T:Tm} {M:aS} {L:LL} {R:RR} {t tx el:TypeId} {sz:Nat} {z news xs:List Value} {y:Value}
theorem mH (bP:dR P t=some (el,sz,z))(cB:j8 P t=true)(hs:Srcs P tx sz ⟨T,M,L,R⟩ y news)(hb:news.length<=4398046511104)
 (k:∀ a m c,m*sz=news.length ->cy P F s (cI e dd (.slice a m c)) ds ⟨T,M,L,(.slice a m c,el,sz,news)::R⟩ ⟨⟩):nG P F t tx (.slice none 0 0) y dd s e ds ⟨T,M,L,R⟩ ⟨⟩:=
 .inr ⟨el,sz,z,news,bP,cB,hs,.inr (.inl ⟨rfl,hb,k⟩)⟩
theorem gL {x:Value}(bP:dR P t=some (el,sz,z))(cB:j8 P t=true)(hs:Srcs P tx sz ⟨T,M,L,(x,el,sz,xs)::R⟩ y news)(hb:xs.length+news.length<=4398046511104)
 (k:∀ a m c,m*sz=xs.length+news.length ->cy P F s (cI e dd (.slice a m c)) ds ⟨T,M,L,(.slice a m c,el,sz,xs++news)::R⟩ ⟨⟩):nG P F t tx x y dd s e ds ⟨T,M,L,(x,el,sz,xs)::R⟩ ⟨⟩:=
 .inr ⟨el,sz,z,news,bP,cB,hs,.inl ⟨0,xs,rfl,hb,k⟩⟩
theorem l4 {a:Addr}{n:Nat}(bP:dR P t=some (el,sz,z))(cB:j8 P t=true)(hs:Srcs P tx sz ⟨T,M,L,R⟩ y news)(hc:Sh.cells ⟨T,M,L,R⟩ a 0 (n*sz)=some xs)(dO:0<news.length)(hb:xs.length+news.length<=4398046511104)
 (k:∀ a m c,m*sz=xs.length+news.length ->cy P F s (cI e dd (.slice a m c)) ds ⟨T,M,L,(.slice a m c,el,sz,xs++news)::R⟩ ⟨⟩):nG P F t tx (.slice (some a) n n) y dd s e ds ⟨T,M,L,R⟩ ⟨⟩:=
 .inr ⟨el,sz,z,news,bP,cB,hs,.inr (.inr (.inl ⟨a,n,xs,rfl,hc,dO,hb,k⟩))⟩
theorem wj {b o n c:Nat}(bP:dR P t=some (el,sz,z))(cB:j8 P t=true)(hs:Srcs P tx sz ⟨T,M,L,R⟩ y [])(di:n<=c)
 (k:cy P F s (cI e dd (.slice (some ⟨b,o,none⟩) n c)) ds ⟨T,M,L,R⟩ ⟨⟩):nG P F t tx (.slice (some ⟨b,o,none⟩) n c) y dd s e ds ⟨T,M,L,R⟩ ⟨⟩:=
 .inr ⟨el,sz,z,[],bP,cB,hs,.inr (.inr (.inr (.inl ⟨b,o,n,c,rfl,di,rfl,k⟩)))⟩
theorem DN {x:Value}{L':LL}(bP:dR P t=some (el,sz,z))(cB:j8 P t=true)(ye:ME x el sz xs ⟨T,M,L,R⟩ L')(hs:Srcs P tx sz ⟨T,M,L,R⟩ y news)(oS:Srcs P tx sz ⟨T,M,L',R⟩ y news)(dO:0<news.length)(hb:xs.length+news.length<=4398046511104)
 (k:∀ N' g m c junk,aF T N' ->N' g=some el ->M g=none ->bf g L' ->m*sz=xs.length+news.length ->m<=c ->(xs++news++junk).length=c*sz ->cy P F s (cI e dd (.slice (some ⟨g,0,none⟩) m c)) ds ⟨N',M,(g,xs++news++junk)::L',R⟩ ⟨⟩):nG P F t tx x y dd s e ds ⟨T,M,L,R⟩ ⟨⟩:=
 .inr ⟨el,sz,z,news,bP,cB,hs,.inr (.inr (.inr (.inr (.inr ⟨xs,L',ye,oS,dO,hb,k⟩))))⟩
theorem yx {n:Nat}{ik:IntKind}(bP:dR P t=some (el,sz,z))(cB:j8 P t=true)(hk:P.underlying tx=some (.int ik))(h0:0<n)(hb:n<=4294967296)
 (k:∀ a c zs,zs.length=n*sz ->n<=c ->cy P F s (cI e dd (.slice a n c)) ds ⟨T,M,L,(.slice a n c,el,sz,zs)::R⟩ ⟨⟩):nG P F t tx (.slice none 0 0) (.int .i64 (n:Nat)) dd s e ds ⟨T,M,L,R⟩ ⟨⟩:=
 .inl ⟨el,sz,z,n,ik,bP,cB,hk,rfl,rfl,h0,hb,k⟩
end
theorem oU {T:Tm}{M:aS}{L:LL}{R:RR}{a:Option Addr}{n c:Nat}{el:TypeId}{sz:Nat}{zs:List Value}{k:Sh ->Prop}(dS:0<sz)(hk:cq ⟨T,M,L,(.slice a 0 c,el,sz,[])::R⟩ k):
 cq ⟨T,M,L,(.slice a n c,el,sz,zs)::R⟩ k:=fun cx w hw=>by
 obtain ⟨bs,hi⟩:=hw
 refine hk cx w ⟨bs,{hi with rows:= ?_}⟩
 refine ⟨hi.rows.1,?_⟩
 intro i v e' sz' xs o h1 h2
 cases i with
 | succ i=>exact hi.rows.2 (i+1) v e' sz' xs o (by simpa using h1) h2
 | zero=>
  simp only [List.getElem?_cons_zero,Option.some.injEq,Prod.mk.injEq] at h1
  obtain ⟨rfl,rfl,rfl,rfl⟩:=h1
  have hr:=hi.rows.2 0 _ _ _ _ o rfl h2
  rcases hr with ⟨h0,hx,ho⟩ | ⟨g,m,cap,junk,hv,hg,hn,hc,di,ho⟩ | ⟨h0,_⟩ | ⟨h0,_⟩
  ·cases h0;exact .inl ⟨rfl,rfl,ho⟩
  ·cases hv
   exact .inr (.inl ⟨g,0,c,zs++junk,rfl,by simpa using hg,by simp,by simpa using hc,by omega,ho⟩)
  ·omega
  ·omega
theorem xV {h:Sh}{b:Nat}{cs:List Value}(hc:∀ o v,cs[o]?=some v ->h.cell ⟨b,o,none⟩=some v):∀ (n i:Nat),i+n=cs.length ->h.cells ⟨b,0,none⟩ i n=some (cs.drop i):=by
 intro n
 induction n with
 | zero=>intro i hi;rw [List.drop_eq_nil_of_le (by omega)];rfl
 | succ n ih=>
  intro i hi
  have aL:i<cs.length:=by omega
  rw [sM,ih (i+1) (by omega),Nat.zero_add,hc i cs[i] (gq aL),dq aL]
  rfl
theorem cD {T:Tm}{M:aS}(L1:LL){L2:LL}{R:RR}{b n:Nat}{cs:List Value}(hb:M b=none)(ha:bf b L1)(hn:n=cs.length):Sh.cells ⟨T,M,L1++(b,cs)::L2,R⟩ ⟨b,0,none⟩ 0 n=some cs:=by
 have key:∀ {L1:LL} (o:Nat),bf b L1 ->eD (L1++(b,cs)::L2) ⟨b,o,none⟩=some cs[o]?:=by
  intro L1 o
  induction L1 with
  | nil=>intro _;simp [eD]
  | cons p l ih=>
   obtain ⟨k,ds⟩:=p
   intro h
   simp only [List.cons_append,eD,if_neg h.1.1]
   exact ih h.2
 have:=xV (h:=⟨T,M,L1++(b,cs)::L2,R⟩) (b:=b) (cs:=cs) (fun o v hv=>by simp [Sh.cell,aN,hb,key o ha,hv]) n 0 (by omega)
 simpa using this
theorem jX {T0 T:Tm}{M:aS}(L1:LL){L2:LL}{R:RR}{b:Nat}{cs:List Value}(hb:M b=none)(ha:bf b L1):fO ⟨T0,fun _=>none,[(b,cs)],[]⟩ ⟨T,M,L1++(b,cs)::L2,R⟩:=by
 have key:∀ {L1:LL} (o:Nat),bf b L1 ->eD (L1++(b,cs)::L2) ⟨b,o,none⟩=some cs[o]?:=by
  intro L1 o
  induction L1 with
  | nil=>intro _;simp [eD]
  | cons p l ih=>
   obtain ⟨k,ds⟩:=p
   intro h
   simp only [List.cons_append,eD,if_neg h.1.1]
   exact ih h.2
 exact CB fun o v hv=>by simp [Sh.cell,aN,hb,key o ha,hv]
section
variable {P:Program} {F:Fi} {b:Code} {s:List Item} {e:dp} {ds:List Deferred} {h:Sh}
theorem bY (n ti:Nat)(lv:List (Nat×Value))(J:Nat ->dp ->Sh ->Prop)(i0:Nat)(hi:i0<=n)(hl:aE e lv)(ht:e ti=.int .i64 (i0:Nat))(hJ:cq h fun h=>J i0 e h)
 (hs:∀ i e' h',i<=n ->aE e' lv ->e' ti=.int .i64 (i:Nat) ->J i e' h' ->cy P F (.code b:: .lp (LI ds n ti lv J) (n - i)::s) e' ds h' ⟨⟩):Gj P F b s e ds h ⟨⟩:=by
 refine ⟨LI ds n ti lv J,qp hJ fun h' hJ'=>aB ⟨n - i0,rfl,i0,hi,rfl,hl,ht,hJ'⟩,?_⟩
 rintro m e' ds' h' ⟨rfl,i,hi,rfl,hl,ht,hJ⟩
 exact hs i e' h' hi hl ht hJ
end
theorem eX {T0 T:Tm}{M M':aS}(L1:LL){L2:LL}{R:RR}{b:Nat}{cs:List Value}(hM:bm M M')(hb:M' b=none)(ha:bf b L1):fO ⟨T0,M,[(b,cs)],[]⟩ ⟨T,M',L1++(b,cs)::L2,R⟩:=by
 have key:∀ {L1:LL} (o:Nat),bf b L1 ->eD (L1++(b,cs)::L2) ⟨b,o,none⟩=some cs[o]?:=by
  intro L1 o
  induction L1 with
  | nil=>intro _;simp [eD]
  | cons p l ih=>
   obtain ⟨k,ds⟩:=p
   intro h
   simp only [List.cons_append,eD,if_neg h.1.1]
   exact ih h.2
 intro a v hv
 simp only [Sh.cell] at hv ⊢
 cases hm:aN M a with
 | some u=>
  rw [hm] at hv
  injection hv with hv;subst hv
  rw [ay hM hm]
 | none=>
  rw [hm] at hv
  obtain ⟨k,o,sp⟩:=a
  simp only [eD] at hv
  by_cases hk:k=b
  ·subst hk
   cases sp with
   | some q=>simp at hv
   | none=>
    simp only [if_true,Option.isSome_none,Bool.false_eq_true,if_false,Option.getD_some] at hv
    rw [aC hb,key o ha]
    simpa using hv
  ·simp [hk] at hv
def ke (w w':World):Prop:=w'.os=w.os/\w'.tape=w.tape/\w'.output=w.output/\w.heap.size<=w'.heap.size/\∀ b,b<w.heap.size ->w'.heap[b]?=w.heap[b]?
theorem ke.rfl' {w:World}:ke w w:=⟨rfl,rfl,rfl,Nat.le_refl _,fun _ _=>rfl⟩
theorem tM {w:World}{a:Addr}{n b:Nat}(h:b≠a.block):(w.freeze a n).heap[b]?=w.heap[b]?:=by
 unfold World.freeze
 split
 ·rfl
 ·show (w.heap.modify a.block _)[b]?=_
  rw [Array.getElem?_modify,if_neg (Ne.symm h)]
theorem ke.bytes {w:World}{e s}:ke w (Lib.bytesWorld w e s):=by
 have dS:(Lib.bytesWorld w e s).heap.size=w.heap.size+1:=by
  simp [Lib.bytesWorld,World.freeze]
 refine ⟨rfl,rfl,rfl,by omega,?_⟩
 intro b hb
 have h1:(w.drew.alloc (.cells (Lib.bytesCells w e s) e)).heap[b]?=w.heap[b]?:=cj (w:=w.drew) hb
 rw [<- h1]
 exact tM (by simp;omega)
theorem Hp.keeps {c N M L R w w' bs}(hi:Hp c ⟨N,M,L,R⟩ w bs)(hk:ke w w'):Hp c ⟨N,M,L,R⟩ w' bs:=by
 obtain ⟨k1,k2,k3,k4,k5⟩:=hk
 exact
 {typ:=fun b u hu=>by
   obtain ⟨aL,hc⟩:=hi.typ b u hu
   refine ⟨by omega,fun hb=> ?_⟩
   obtain ⟨cs',f,hc⟩:=hc hb
   exact ⟨cs',f,by rw [k5 b (fD hc)];exact hc⟩
  holds:=fun b x hb=>by
   have:=hi.holds.lt hb
   obtain ⟨t,f,ht⟩:=hi.holds _ _ hb
   exact ⟨t,f,by rw [k5 b this];exact ht⟩
  blk:=fun b x hb=>by
   have h2:=hi.blk _ _ hb
   have hl:=h2.lt
   obtain ⟨t,ht⟩:=h2
   exact ⟨t,by rw [k5 b hl];exact ht⟩
  rows:=⟨hi.rows.1,fun i v e sz xs o h1 h2=>(hi.rows.2 i v e sz xs o h1 h2).keep fun g hg=>by
   subst hg
   exact k5 g (hi.rows.2 i v e sz xs _ h1 h2).lt⟩
  nodup:=hi.nodup
  apart:=hi.apart
  os:=k1.trans hi.os
  tape:=k2.trans hi.tape
  output:=k3.trans hi.output
  size:=Nat.le_trans hi.size k4
  old:=fun b hb hu=>by rw [k5 b (Nat.lt_of_lt_of_le hb hi.size)];exact hi.old b hb hu
  mem:=hi.mem
  le:=hi.le}
theorem xp {P:Program}{f:FuncId}{args:List Value}{M:aS}{v:Value}(hb:dm P f=true)
 (h:∀ w,qu M w ->Calls P f args.toArray w fun e w'=>e=.returned v/\ke w w'):Ct P f args M [] [] (fun r M' _ _=>r=v/\M'=M) aM:=by
 intro T
 refine ⟨hb,fun w U hw=> ?_⟩
 obtain ⟨bs,rfl,hi⟩:=hw
 refine Calls.mono (h w hi.holds) ?_
 rintro e w' ⟨rfl,gh⟩
 exact ⟨M,[],[],⟨⟨bs,hi.keeps gh⟩,rfl,rfl⟩,rfl,rfl⟩
theorem Ud {P:Program}{f:FuncId}{args:List Value}{M:aS}{cs:List Value}{t:TypeId}(F:Nat ->Value)(hb:dm P f=true)
 (h:∀ w,qu M w ->Calls P f args.toArray w fun e w'=>e=.returned (F w.heap.size)/\w'=w.alloc (.cells cs.toArray t)):Ct P f args M [] [] (fun r M' _ _=>∃ b,r=F b/\M' b=some cs) aM:=by
 intro T
 refine ⟨hb,fun w U hw=> ?_⟩
 obtain ⟨bs,rfl,hi⟩:=hw
 refine Calls.mono (h w hi.holds) ?_
 rintro e w' ⟨rfl,rfl⟩
 have h2:=(hi.alloc (t:=t) cs).untype (N':=T) hi.extT
 have h3:=h2.freeze (b:=w.heap.size) (cs:=cs) (L:=[]) rfl
 exact ⟨_,[],[],⟨⟨bs,h3⟩,rfl,rfl⟩,w.heap.size,rfl,by simp [aS.add]⟩
theorem dC {P:Program}{F:Fi}{s:List Vc.Item}{e:dp}{ds:List Deferred}{dd:Option Nat}{N:Tm}{M:aS}{f:FuncId}{args:List Value}{R:RR}(L1:LL){Lp:LL}{post:eu}{pan:mX}(hc:bV P f args N M Lp [] post pan)
 (hn:∀ v M' L',bm M M' ->aY L'=aY Lp ->aJ M' (L1++L') ->post v M' L' [] ->cy P F s (cI e dd v) ds ⟨N,M',L1++L',R⟩ ⟨⟩)
 (hp:∀ ch M' L',bm M M' ->aY L'=aY Lp ->aJ M' (L1++L') ->pan ch M' L' [] ->F.pan ch e ds ⟨N,M',L1++L',R⟩):
 dx P F f args dd s e ds ⟨N,M,L1++Lp,R⟩ ⟨⟩:=by
 have nilR:∀ {R':RR},R'.length=([]:RR).length ->R'=[]:=fun h=>by simpa using h
 have:=gu (P:=P) (F:=F) (s:=s) (e:=e) (ds:=ds) (dd:=dd) (N:=N) L1 Lp [] [] [] R hc
  (fun v M' L' R' he hk hR bi hq=>by
   rw [nilR hR] at hq ⊢
   rw [List.append_nil] at bi ⊢
   exact hn v M' L' he hk bi hq)
  (fun ch M' L' R' he hk hR bi hq=>by
   rw [nilR hR] at hq ⊢
   rw [List.append_nil] at bi ⊢
   exact hp ch M' L' he hk bi hq)
 rw [List.append_nil] at this
 exact this
def Zp (P:Program)(f:FuncId)(args:List Value)(h:Sh)(k:Sh ->Prop):Prop:=
 dm P f=true/\∀ c w u,Is c h w ->CallsD P f args.toArray u w fun e u' w'=>u'=u/\∃ v,e=.returned v/\∃ h',Is c h' w'/\k h'
def dFn (d:Deferred):Option (FuncId×List Value):=match d.target with
 | .fn (.func f) cap=>some (f,d.args.toList++cap.toList)
 | _=>none
def BL (P:Program):List Deferred ->Sh ->(Sh ->Prop) ->Prop
 | [],h,k=>k h
 | d::ds,h,k=>dU (dFn d) fun (f,args)=>Zp P f args h fun h'=>BL P ds h' k
def Ya (ch:List PanicEntry):Bool:=match ch with | {recovered:=true,..}::_=>false | _=>true
def VM (P:Program)(T:Tm)(rs:List ResultVar)(ks:List Nat)(n:Nat)(post:eu)(e:dp)(ds:List Deferred)(h:Sh):Prop:=
 BL P ds h fun h=>dU (l9 P e h rs) fun vs=>cq h (vA T ks n post (tf vs))
def aaM (P:Program)(T:Tm)(ks:List Nat)(n:Nat)(pan:mX)(ch:List PanicEntry)(_:dp)(ds:List Deferred)(h:Sh):Prop:=
 Ya ch=true/\BL P ds h fun h=>cq h (vA T ks n (fun _=>pan ch) undef)
def Pf (P:Program)(T:Tm)(dr:List (Nat×Sched))(ts:List ResultVar)(ks:List Nat)(n:Nat)(post:eu)(pan:mX):Fi:=⟨dr,VM P T ts ks n post,aaM P T ks n pan⟩
theorem Js {ch:List PanicEntry}(h:Ya ch=true):settle (.panicking ch)=.panicking ch:=by
 unfold Ya at h
 unfold settle
 split
 ·rename_i hh
  injection hh with hh
  subst hh
  simp at h
 ·rfl
theorem PY {P:Program}{f:FuncId}{args:List Value}{N:Tm}{M:aS}{R:RR}(L1:LL){Lp:LL}{post:eu}(hc:CtD P f args N M Lp [] post aM){k:Sh ->Prop}
 (hn:∀ v M' L',bm M M' ->aY L'=aY Lp ->aJ M' (L1++L') ->post v M' L' [] ->k ⟨N,M',L1++L',R⟩):Zp P f args ⟨N,M,L1++Lp,R⟩ k:=by
 refine ⟨hc.1,fun c w u hw=> ?_⟩
 obtain ⟨bs,hi⟩:=hw
 have kg:Hp c ⟨N,M,L1++Lp++[],[]++[]++R⟩ w ([]++[]++bs):=by simpa using hi
 have zz:=kg.enter (R1:=[]) (Rp:=[]) (b1:=[]) (bp:=[]) rfl rfl
 intro cf cs hu
 obtain ⟨e,u',w',fr,⟨rfl,hr⟩,rest⟩:=hc.2 u w _ ⟨[],rfl,zz⟩ cf cs hu
 refine ⟨e,u',w',fr,⟨rfl,?_⟩,rest⟩
 cases e with
 | returned v=>
  obtain ⟨M',L',R',⟨⟨bp',wA⟩,hk,hR⟩,hq⟩:=hr
  have No:R'=[]:=by simpa using hR
  subst No
  have YA:bp'=[]:=by simpa using wA.rows.1.symm
  subst YA
  have tw:=kg.frame (R1:=[]) (Rp:=[]) (b1:=[]) (bp:=[]) (bp':=[]) (Rp':=[]) rfl rfl (by simpa using hi.rows.1.symm) wA hk rfl
  have uO:Hp c ⟨N,M',L1++L',R⟩ w' bs:=by simpa using tw
  exact ⟨v,rfl,_,⟨bs,uO⟩,hn v M' L' (fun b cs hb=>wA.le b cs hb) hk (iE fun b hb=>(uO.apart b (sJ (.inl hb))).1) hq⟩
 | panicked ch=>obtain ⟨_,_,_,_,hq⟩:=hr;exact hq.elim
 | outgrown=>exact hr.elim
theorem Bh {P:Program}{fn:Func}{a:Array Value}{R:Ending ->World ->Prop}{c:Ctx}{ends:FrameMode ->World ->Prop}{u:FrameMode}(hu:u≠ .run)(Tb:settle u=u)
 (ah1:∀ w,ends u w ->Leaves P fn a R [] u w):∀ (ds:List Deferred) (h:Sh) (w:World) (k:Sh ->Prop),Is c h w ->(∀ h w,Is c h w ->k h ->ends u w) ->BL P ds h k ->Leaves P fn a R ds u w:=by
 intro ds
 induction ds with
 | nil=>intro h w k hw hk hd;exact ah1 w (hk h w hw hd)
 | cons d ds ih=>
  intro h w k hw hk hd
  obtain ⟨⟨f,args⟩,hdf,hb,hd⟩:=cE hd
  obtain ⟨t,da⟩:=d
  unfold dFn at hdf
  simp only at hdf
  split at hdf
  ·rename_i t2 g cap
   injection hdf with hdf
   injection hdf with h1 h2
   subst h1 h2
   have Cg:=hb
   unfold dm at Cg
   refine ⟨hu,_,cap,g,(da.toList++cap.toList).toArray,rfl,?_,?_⟩
   ·show (invoke (.fn (.func g) cap) da).run P w=_
    have nS:(da.toList++cap.toList).toArray=da++cap:=by apply Array.toList_inj.1;simp
    rw [nS]
    cases RM:P.funcs[g]? with
    | none=>rw [RM] at Cg;cases Cg
    | some fn=>
     rw [RM] at Cg
     simp only [Bool.and_eq_true,Bool.not_eq_true'] at Cg
     obtain ⟨fx,dN⟩:=Cg
     simp only [invoke,callFunc,Sem.run_bind,Result.andThen_ok,run_program,RM]
     obtain ⟨body,UT⟩:=Option.isSome_iff_exists.1 fx
     simp [dN,UT]
   ·intro cf cs xB
    obtain ⟨e,u',w',fr,⟨rfl,v,rfl,h',gh,ML⟩,rest⟩:=hd c w u hw cf cs xB
    refine ⟨_,u',w',fr,?_,rest⟩
    simp only
    rw [Tb]
    exact ih h' w' k gh hk ML
  ·cases hdf
theorem IF {P:Program}{fn:Func}{T:Tm}{dr ts ks k U M post pan}(hr:fn.results.toList=ts){w0:World}{ex:Exit}{a:Act}{w:World}{n:Nat}
 (hq:KontL.toQ ⟨w0,M,U⟩ n (Pf P T dr ts ks k post pan).k ex a w):bodyPostD P fn (Ps U T M ks k post pan w0) ex a w:=by
 have Gt:∀ {e ds h},Fr n a e ds ->Is ⟨w0,M,U⟩ h w ->VM P T ts ks k post e ds h ->Leaves P fn a.tmps (Ps U T M ks k post pan w0) a.defers .returning w:=by
  intro e ds h ha hw hd
  rw [ha.2.1]
  refine Bh (c:=⟨w0,M,U⟩) (ends:=fun u w=>u=.returning/\∃ h vs,Is ⟨w0,M,U⟩ h w/\l9 P e h ts=some vs/\cq h (vA T ks k post (tf vs))) (by simp) rfl ?_ ds h w _ hw ?_ hd
  ·rintro w ⟨_,h,vs,hw,Hy,cM⟩
   obtain ⟨h',gh,hT,hk,hR,hp⟩:=cM _ _ hw
   subst hr
   exact ⟨_,jY hw Hy ha.2.2,h'.M,h'.L,h'.R,ky hT gh hk hR,hp⟩
  ·intro h w hw hk
   obtain ⟨vs,Hy,cM⟩:=cE hk
   exact ⟨rfl,h,vs,hw,Hy,cM⟩
 cases ex with
 | normal=>obtain ⟨e,ds,h,ha,hw,hd⟩:=hq;exact Gt ha hw hd
 | ret=>obtain ⟨e,ds,h,ha,hw,hd⟩:=hq;exact Gt ha hw hd
 | panic ch=>
  obtain ⟨e,ds,h,ha,hw,afs,hd⟩:=hq
  show Leaves P fn a.tmps _ a.defers (.panicking ch) w
  rw [ha.2.1]
  refine Bh (c:=⟨w0,M,U⟩) (ends:=fun u w=>u=.panicking ch/\∃ h,Is ⟨w0,M,U⟩ h w/\cq h (vA T ks k (fun _=>pan ch) undef)) (by simp) (Js afs) ?_ ds h w _ hw ?_ hd
  ·rintro w ⟨_,h,hw,cM⟩
   obtain ⟨h',gh,hT,hk,hR,hp⟩:=cM _ _ hw
   exact ⟨h'.M,h'.L,h'.R,ky hT gh hk hR,hp⟩
  ·intro h w hw hk
   exact ⟨rfl,h,hw,hk⟩
 | exit id=>obtain ⟨_,_,_,_,_,h⟩:=hq;exact h.elim
 | goto l=>exact hq.elim
 | outgrown=>exact hq.elim
theorem W1 {P:Program}{f:FuncId}{fn:Func}{c:Code}{args:List Value}{dr ts}{T:Tm}{M L R post pan}(hm:P.follows .mixedOrders=true)(Cg:dm P f=true)
 (hf:P.funcs[f]?=some fn) (hb:fn.body=some c) (hn:args.length<=fn.ntmps) (hc:eo P fn.ntmps dr c=true) (hr:fn.results.toList=ts)
 (h:aJ M L ->hY L ->cy P (Pf P T dr ts (aY L) R.length post pan) [.code c] (mz args) [] ⟨T,M,L,R⟩ ⟨⟩):bV P f args T M L R post pan:=by
 refine ⟨Cg,fun w U hw=>calls_of_wp_defers hf hb ?_⟩
 obtain ⟨h1,h2,h3⟩:=hw.facts
 have:=jK (c₀:=⟨w,M,U⟩) hm c (Pf P T dr ts (aY L) R.length post pan).k (mz args) [] ⟨T,M,L,R⟩ w _ hc (fr0 args.toArray fn.ntmps (by simpa using hn)) h3 (h h1 h2)
 exact wp_mono this fun ex a w' hq=>IF hr hq
theorem X9 {P T dr ts ks n post pan}:(Pf P T dr ts ks n post pan).ret=VM P T ts ks n post:=(rfl)
theorem xk {P T dr ts ks n post pan}:(Pf P T dr ts ks n post pan).pan=aaM P T ks n pan:=(rfl)
theorem Z3 {P T dr ts ks n post pan}:(Pf P T dr ts ks n post pan).dr=dr:=(rfl)
theorem QV {P T ts ks n post e h}:VM P T ts ks n post e [] h=dU (l9 P e h ts) fun vs=>cq h (vA T ks n post (tf vs)):=(rfl)
theorem MP (P:Program)(t a n c):iD P .eql t (.slice a n c) (.slice none 0 0)=if dH P t=true then some (.bool a.isNone) else none:=(rfl)
theorem NS {P T ks n pan}(ops:List Oper):wq (aaM P T ks n pan) ops=True:=eq_true (fun _ _ _ _ _ _ _ _ _ h=>h)
theorem eU {P:Program}{F:Fi}{v:Value}{a b:Code}{S:List Item}{e:dp}{ds:List Deferred}{h:Sh}(Q:dp ->List Deferred ->Sh ->Prop)
 (k:∀ S',(∀ e ds h,Q e ds h ->cy P F S' e ds h ⟨⟩) ->yK P F v a b S' e ds h ⟨⟩) (hS:∀ e ds h,Q e ds h ->cy P F S e ds h ⟨⟩):yK P F v a b S e ds h ⟨⟩:=k S hS
theorem lE {P:Program}{F:Fi}{c:Code}{S:List Item}{e:dp}{ds:List Deferred}{h:Sh}(Q:dp ->List Deferred ->Sh ->Prop)
 (k:∀ S',(∀ e ds h,Q e ds h ->cy P F S' e ds h ⟨⟩) ->cy P F (.code c::S') e ds h ⟨⟩) (hS:∀ e ds h,Q e ds h ->cy P F S e ds h ⟨⟩):cy P F (.code c::S) e ds h ⟨⟩:=k S hS
theorem eF {N M L R e sz}{k:Sh ->Prop}(hk:cq ⟨N,M,L,(.slice none 0 0,e,sz,[])::R⟩ k):cq ⟨N,M,L,R⟩ k:=fun c w hw=>by
 obtain ⟨bs,hi⟩:=hw
 exact hk c w ⟨_,hi.addNil⟩
theorem Hp.typed {c N M L R w bs b cs t}(hi:Hp c ⟨N,M,L,R⟩ w bs)(hT:N b=some t)(hb:(b,cs)∈L):w.heap[b]?=some (.cells cs.toArray t (0,0)):=by
 obtain ⟨u,hu⟩:=hi.blk b cs hb
 obtain ⟨_,h⟩:=hi.typ b t hT
 obtain ⟨cs',f,h⟩:=h (List.mem_map.2 ⟨_,hb,rfl⟩)
 rw [hu] at h
 injection h with h
 injection h with h1 h2 h3
 subst h2
 exact hu
theorem l5 {P:Program}{F:Fi}{ops:List Oper}{sc:Sched}{S:List Item}{e:dp}{ds:List Deferred}{h:Sh}(Q:dp ->List Deferred ->Sh ->Prop)
 (k:∀ S',(∀ e ds h,Q e ds h ->cy P F S' e ds h ⟨⟩) ->E5 P F ops sc S' e ds h ⟨⟩) (hS:∀ e ds h,Q e ds h ->cy P F S e ds h ⟨⟩):E5 P F ops sc S e ds h ⟨⟩:=k S hS
section
variable {P:Program} {F:Fi} {s:List Item} {e:dp} {ds:List Deferred} {h:Sh}
theorem Rbk (id b):cy P F (.code (.block id b)::s) e ds h ⟨⟩=cy P F (.code b:: .blk id::s) e ds h ⟨⟩:=(rfl)
theorem Rcb (t a b):yK P F (.bool t) a b s e ds h ⟨⟩=if t=true then cy P F (.code a::s) e ds h ⟨⟩ else cy P F (.code b::s) e ds h ⟨⟩:=(rfl)
theorem aD:(∀ t a b,yK P F (.bool t) a b s e ds h ⟨⟩=if t=true then cy P F (.code a::s) e ds h ⟨⟩ else cy P F (.code b::s) e ds h ⟨⟩)/\∀ id b,cy P F (.code (.block id b)::s) e ds h ⟨⟩=cy P F (.code b:: .blk id::s) e ds h ⟨⟩:=⟨fun _ _ _=>rfl,fun _ _=>rfl⟩
end
structure FnF (P:Program) (f:FuncId) (fn:Func) (nt:Nat) (dr:List (Nat×Sched)) (ts:List ResultVar):Prop where
 mx:P.follows .mixedOrders=true
 bd:dm P f=true
 fe:P.funcs[f]?=some fn
 nt:fn.ntmps=nt
 ok:∀ c,fn.body=some c ->eo P fn.ntmps dr c=true
 rs:fn.results.toList=ts
theorem bS {P f fn nt dr ts}(hm:P.follows .mixedOrders=true)(hf:P.funcs[f]?=some fn)(h:((dm P f && fn.ntmps==nt) && match fn.body with | some c=>eo P fn.ntmps dr c | none=>true)=true)(hr:fn.results.toList=ts):FnF P f fn nt dr ts:=by
 simp only [Bool.and_eq_true,beq_iff_eq] at h
 exact ⟨hm,h.1.1,hf,h.1.2,fun c hc=>by have:=h.2;rw [hc] at this;exact this,hr⟩
theorem FnF.le {P f fn nt dr ts}(F:FnF P f fn nt dr ts){n:Nat}(h:Nat.ble n nt=true):n<=fn.ntmps:=by rw [F.nt];exact Nat.le_of_ble_eq_true h
section
variable {P:Program} {f:FuncId} {fn:Func} {c:Code} {args:List Value} {nt:Nat} {dr:List (Nat×Sched)} {ts:List ResultVar} {T:Tm} {M:aS} {L:List (Nat×List Value)} {R:List (Value×TypeId×Nat×List Value)} {k:Nat} {post:eu} {pan:mX}
theorem az (F:FnF P f fn nt dr ts)(hb:fn.body=some c)(hn:Nat.ble args.length nt=true)(h:aJ M L ->hY L ->cy P (fi P T dr ts (aY L) R.length post pan) [.code c] (mz args) [] ⟨T,M,L,R⟩ ⟨⟩):bV P f args T M L R post pan:=
 JH F.mx F.bd F.fe hb (F.le hn) (F.ok c hb) F.rs h
theorem ny (F:FnF P f fn nt dr ts)(hb:fn.body=some c)(hn:Nat.ble args.length nt=true)(h:aJ M L ->hY L ->cy P (fi P T dr ts (aY L) k post pan) [.code c] (mz args) [] ⟨T,M,L,R⟩ ⟨⟩):Vn P f args T M L R k post pan:=
 Xp F.mx F.bd F.fe hb (F.le hn) (F.ok c hb) F.rs h
theorem Ey (F:FnF P f fn nt dr ts)(hb:fn.body=some c)(hn:Nat.ble args.length nt=true)(h:aJ M L ->hY L ->cy P (Pf P T dr ts (aY L) R.length post pan) [.code c] (mz args) [] ⟨T,M,L,R⟩ ⟨⟩):bV P f args T M L R post pan:=
 W1 F.mx F.bd F.fe hb (F.le hn) (F.ok c hb) F.rs h
theorem RC (F:FnF P f fn nt dr ts)(hb:fn.body=some c)(hn:Nat.ble args.length nt=true)(h:aJ M L ->hY L ->cy P (fi P T dr ts (aY L) R.length post pan) [.code c] (mz args) [] ⟨T,M,L,R⟩ ⟨⟩):CtD P f args T M L R post pan:=
 WP F.mx F.bd F.fe hb (F.le hn) (F.ok c hb) F.rs h
end
attribute [go_sem] WC Yu V8 H5 Ys Wj EJ K8 Yb Ym TN Q0 abj X8 ID E1 Tn X9 xk Z3 QV Ml S5 abO SQ NY Qg Jk WW Nw C5 AD I7 HA NQ Mm Az Hz RT I9 UJ Xy JX OV QI FQ MV JO Rz HH Tw SV nX Tg HE UX Dr Mz XL Nt V7 X0 Gg OD ER OS Tv OE SA Vv WL MJ V5 FM Uk Z9 Qz aae acj JT Us Ru Xx ab9 VJ O5 V0 QR Yf Oe Eh Yn MG O4 Nn G7 Na Qn Sz H8 O2 Yw TG HK Qt TR Sr Fm Ix OH Iu Ij EQ CJ H0 FV MT Yp QF UK ab4 yM S0 On TC Jp Qj Jj Mw St QY Sc Xf MY JQ Ga Oo OJ UB Xs Oh Si S2 Q2 Sj Tj P1 TL Tl Ts TX Mu MA MM OF Nh Og aa2 Rf VY EZ DI OK OQ O7 RU OW Vs Bool.if_true_left Bool.if_true_right Bool.if_false_left Bool.if_false_right Bool.decide_eq_true Bool.decide_eq_false Bool.or_eq_true Bool.and_eq_true Bool.eq_false_iff decide_not Bool.false_or Bool.or_false Bool.and_false Bool.false_and or_false false_or and_false false_and or_true true_or not_true_eq_false VE JF sM Iy aC bg aim MP NS Option.isNone_none Option.isNone_some QK true_implies ZZ Sd Sa TA aK MI SC TY Mq XZ Un NM Ie FA List.all_cons List.all_nil Rt Int.ofNat_lt Int.ofNat_le Int.toNat_natCast Nat.mul_one XW afE af2 adf afl aet adM WH SK VW WB gt_iff_lt ge_iff_le Int.le_refl Nat.add_sub_cancel Nat.sub_zero and_self Qy QO Qc QL Jt Option.map_none Nat.zero_mul Nat.one_mul IQ mz st CM TW Qm PB OA Rq SL abc VC Cp List.getD_cons_zero List.getD_cons_succ if_true if_false beq_self_eq_true Nl FJ NV Jo Q8 O6 List.set_cons_zero List.set_cons_succ List.length_set afo EP l7 j2 afk GT DV OX H1 Nat.add_zero Nat.zero_add Nat.zero_lt_succ List.getElem?_cons_zero List.getElem?_cons_succ List.getElem?_nil Option.bind_some Option.bind_none Option.map_some Option.getD_some decide_eq_true_eq decide_true decide_false Classical.not_not ite_not Bool.and_true Bool.true_and Bool.or_true beq_true beq_false Bool.not_eq_eq_eq_not decide_eq_false_iff_not Bool.not_true Bool.not_false Bool.not_not List.map_cons List.map_nil List.append_assoc List.nil_append List.append_nil List.cons_append Array.toList_map List.length_cons List.length_nil aJ hY bf and_true true_and implies_true ne_eq not_false_eq_true
theorem Ug {P:Program}{f:FuncId}{args:List Value}{T:Tm}{M:aS}{v:Value}{e:TypeId}{sz:Nat}{xs:List Value}{Q:Value ->Prop}(dS:0<sz)(hb:dm P f=true)
 (hc:∀ M',bm M M' ->Sl M' v sz xs ->bV P f args T M' [] [] (fun r _ _ _=>Q r) aM):
 bV P f args T M [] [(v,e,sz,xs)] (fun r _ _ R'=>Q r/\R'=[(v,e,sz,xs)]) aM:=by
 refine ⟨hb,fun w U hw=> ?_⟩
 obtain ⟨bs,hU,hi⟩:=hw
 obtain ⟨bq,bP⟩:=hi.rows
 obtain ⟨o,rfl⟩:∃ o,bs=[o]:=by
  cases bs with
  | nil=>simp at bq
  | cons o bs=>cases bs with
   | nil=>exact ⟨o,rfl⟩
   | cons _ _=>simp at bq
 have hr:=bP 0 _ _ _ _ o rfl rfl
 obtain ⟨M1,bs1,Hu,he,hs⟩:=hi.freezeR dS
 have fx:bs1=[]:=by simpa using Hu.rows.1.symm
 subst fx
 have hen:Hp ⟨w,M1,aY []++([]:List (Option Nat)).filterMap id⟩ ⟨T,M1,[],[]⟩ w []:=Hp.enter (L1:=[]) (Lp:=[]) (L2:=[]) (R1:=[]) (Rp:=[]) (R2:=[]) (b1:=[]) (bp:=[]) (b2:=[]) Hu rfl rfl
 refine Calls.mono ((hc M1 he hs).2 w _ ⟨[],rfl,hen⟩) ?_
 intro en w' hq
 cases en with
 | returned r=>
  obtain ⟨M2,L2,R2,⟨⟨bs2,h2⟩,hk,hR⟩,hq⟩:=hq
  have hnU:∀ b,b∈U ->M b=none:=fun b hb=>(hi.apart b (by rw [hU] at hb;simpa [aY] using hb)).1
  refine ⟨fun k=>if k∈U then none else M2 k,[],[(v,e,sz,xs)],⟨⟨[o],?_⟩,rfl,rfl⟩,hq,rfl⟩
  exact
  {typ:=fun b t hu=>⟨(h2.typ b t hu).1,fun hb=>by simp at hb⟩
   holds:=fun b c Pi=>by
    have aal:(if b∈U then none else M2 b)=some c:=Pi
    split at aal
    ·cases aal
    ·exact h2.holds b c aal
   blk:=fun b cs hb=>by cases hb
   rows:=⟨rfl,fun i v' e' sz' xs' o' h3 h4=>by
    cases i with
    | zero=>
     simp only [List.getElem?_cons_zero,Option.some.injEq,Prod.mk.injEq] at h3 h4
     obtain ⟨rfl,rfl,rfl,rfl⟩:=h3
     subst h4
     rcases hr with hr | ⟨g,n,cap,junk,hv,hg,hn,wA,di,ho⟩ | ⟨h0,_⟩ | ⟨h0,_⟩
     ·exact .inl hr
     ·refine .inr (.inl ⟨g,n,cap,junk,hv,?_,hn,wA,di,ho⟩)
      rw [h2.old g (Array.getElem?_eq_some_iff.1 hg).1 (by simp [aY])]
      exact hg
     ·omega
     ·omega
    | succ i=>simp at h3⟩
   nodup:=hi.nodup
   apart:=fun b hb=>by
    have h5:=hi.apart b hb
    have hbU:b∈U:=by rw [hU];simpa [aY] using hb
    exact ⟨if_pos hbU,h5.2⟩
   os:=h2.os
   tape:=h2.tape
   output:=h2.output
   size:=h2.size
   old:=fun b hb _=>h2.old b hb (by simp [aY])
   mem:=fun b hb hn=>by
    show (if b∈U then none else M2 b)=M b
    rw [if_neg hn]
    exact (h2.mem b hb (by simp [aY])).trans (Hu.mem b hb hn)
   le:=fun b x YY=>by
    show (if b∈U then none else M2 b)=some x
    have YY:M b=some x:=YY
    rw [if_neg (fun hn=>by rw [hnU b hn] at YY;cases YY)]
    exact h2.le b x (he b x YY)}
 | panicked ch=>
  obtain ⟨_,_,_,_,hq⟩:=hq
  exact hq.elim
 | outgrown=>exact hq.elim
def La (P:Program)(ts:List ResultVar)(k:Value ->Sh ->Prop)(e:dp)(ds:List Deferred)(h:Sh):Prop:=ds=[]/\dU (l9 P e h ts) fun vs=>k (tf vs) h
def QB (k:List PanicEntry ->Sh ->Prop)(ch:List PanicEntry)(_:dp)(ds:List Deferred)(h:Sh):Prop:=ds=[]/\k ch h
def Sw (P:Program)(dr:List (Nat×Sched))(ts:List ResultVar)(k:Value ->Sh ->Prop)(pk:List PanicEntry ->Sh ->Prop):Fi:=⟨dr,La P ts k,QB pk⟩
section
variable {P:Program} {dr:List (Nat×Sched)} {ts:List ResultVar} {k:Value ->Sh ->Prop} {pk:List PanicEntry ->Sh ->Prop}
theorem QA:(Sw P dr ts k pk).ret=La P ts k:=(rfl)
theorem Qf:(Sw P dr ts k pk).pan=QB pk:=(rfl)
theorem W8:(Sw P dr ts k pk).dr=dr:=(rfl)
theorem S8 {e h}:La P ts k e [] h=dU (l9 P e h ts) fun vs=>k (tf vs) h:=by simp [La]
end
attribute [go_sem] QA Qf W8 S8
theorem yz {P:Program}{F:Fi}{f:FuncId}{fn:Func}{c:Code}{args:List Value}{nt:Nat}{dr:List (Nat×Sched)}{ts:List ResultVar}{dd:Option Nat}{s:List Item}{e:dp}{ds:List Deferred}{h:Sh}(FF:FnF P f fn nt dr ts)(hb:fn.body=some c)(hn:Nat.ble args.length nt=true)
 (hr:cy P (Sw P dr ts (fun v h'=>cy P F s (cI e dd v) ds h' ⟨⟩) (fun ch h'=>F.pan ch e ds h')) [.code c] (mz args) [] h ⟨⟩):dx P F f args dd s e ds h ⟨⟩:=by
 refine ⟨FF.bd,fun c₀ w hw=>calls_of_wp FF.fe hb ?_⟩
 have hl:args.toArray.size<=fn.ntmps:=by simpa using FF.le hn
 have:=jK (c₀:=c₀) FF.mx c (Sw P dr ts (fun v h'=>cy P F s (cI e dd v) ds h' ⟨⟩) (fun ch h'=>F.pan ch e ds h')).k (mz args) [] h w _ (FF.ok c hb) (fr0 args.toArray fn.ntmps hl) hw hr
 refine wp_mono this fun ex a w' hq=> ?_
 cases ex with
 | normal=>
  obtain ⟨e',ds',h',ha,gh,uw,cM⟩:=hq
  obtain ⟨vs,Hy,cM⟩:=cE cM
  subst uw
  have acF:l9 P e' h' fn.results.toList=some vs:=by rw [FF.rs];exact Hy
  exact ⟨ha.2.1,_,jY gh acF ha.2.2,h',gh,cM⟩
 | ret=>
  obtain ⟨e',ds',h',ha,gh,uw,cM⟩:=hq
  obtain ⟨vs,Hy,cM⟩:=cE cM
  subst uw
  have acF:l9 P e' h' fn.results.toList=some vs:=by rw [FF.rs];exact Hy
  exact ⟨ha.2.1,_,jY gh acF ha.2.2,h',gh,cM⟩
 | panic ch=>
  obtain ⟨e',ds',h',ha,gh,uw,cM⟩:=hq
  subst uw
  exact ⟨ha.2.1,h',gh,cM⟩
 | exit id=>obtain ⟨_,_,_,_,_,h⟩:=hq;exact h.elim
 | goto l=>exact hq.elim
 | outgrown=>exact hq.elim
theorem QU {k}(ops:List Oper):wq (QB k) ops=True:=eq_true (fun _ _ _ _ _ _ _ _ _ h=>h)
attribute [go_sem] QU
def fk (M:aS):LL ->aS
 | []=>M
 | (b,c)::l=>(fk M l).add b c
def lg (M:aS)(L:LL):aS:=fun b=>if b∈aY L then none else M b
def Dl:LL ->LL ->Prop
 | [],[]=>True
 | (b,c)::l,(b',c')::l'=>b=b'/\(∃ x,c'=c++x/\Pfx c x)/\Dl l l'
 | _,_=>False
theorem nT:∀ {Lp L:LL},Dl Lp L ->aY Lp=aY L
 | [],[],_=>rfl
 | (b,c)::l,(b',c')::l',h=>by
  obtain ⟨rfl,_,h⟩:=h
  have:=nT h
  simp only [aY,List.map_cons] at this ⊢
  rw [this]
theorem A4:∀ (L:LL),Dl L L
 | []=>trivial
 | (_,c)::l=>⟨rfl,⟨[],(List.append_nil c).symm,.inl rfl⟩,A4 l⟩
theorem qn {M:aS}:∀ {Lp:LL} {b:Nat},b∉aY Lp ->fk M Lp b=M b
 | [],_,_=>rfl
 | (k,c)::l,b,h=>by
  simp only [aY,List.map_cons,List.mem_cons,not_or] at h
  show (if b=k then some c else fk M l b)=_
  rw [if_neg h.1];exact qn h.2
theorem By {M:aS}:∀ {Lp L:LL} {b:Nat} {c:List Value},Dl Lp L ->fk M Lp b=some c ->M b=some c\/∃ x,(b,c++x)∈L/\Pfx c x
 | [],[],_,_,_,h=> .inl h
 | (k,c0)::l,(k',c')::l',b,c,hp,h=>by
  obtain ⟨rfl,⟨x,rfl,hx⟩,hp⟩:=hp
  have h:(if b=k then some c0 else fk M l b)=some c:=h
  split at h
  ·rename_i hb
   injection h with h
   subst h;subst hb
   exact .inr ⟨x,by simp,hx⟩
  ·rcases By hp h with h | ⟨y,h1,h2⟩
   ·exact .inl h
   ·exact .inr ⟨y,wU h1,h2⟩
theorem gY {M:aS}:∀ {Lp:LL},aJ M Lp ->bm M (fk M Lp)
 | [],_=>bm.rfl'
 | (k,c)::l,h=>fun b x hb=>by
  show (if b=k then some c else fk M l b)=_
  rw [if_neg]
  ·exact gY h.2 b x hb
  ·rintro rfl;rw [h.1] at hb;cases hb
theorem sT {M:aS}{A B:LL}(h:aY A=aY B)(hb:aJ M B):aJ M A:=iE fun b C7=>qQ hb b (by rw [<- h];exact C7)
theorem nK {M M2:aS}{Lp:LL}(hn:aJ M Lp)(h:bm (fk M Lp) M2):bm M (lg M2 Lp):=fun b x hb=>by
 have:b∉aY Lp:=fun hk=>by rw [qQ hn b hk] at hb;cases hb
 show (if b∈aY Lp then none else M2 b)=_
 rw [if_neg this]
 exact h _ _ (by rw [qn this];exact hb)
theorem lO {P:Program}{F:Fi}{f:FuncId}{args:List Value}{dd:Option Nat}{s:List Item}{e:dp}{ds:List Deferred}{N:Tm}{M:aS}{L:LL}{post:eu}(L1 Lp:LL)(hp:Dl Lp L)(hc:bV P f args N (fk M Lp) L1 [] post aM)
 (hn:∀ r M2 L2,bm (fk M Lp) M2 ->aY L2=aY L1 ->aJ (lg M2 Lp) (L2++L) ->post r M2 L2 [] ->cy P F s (cI e dd r) ds ⟨N,lg M2 Lp,L2++L,[]⟩ ⟨⟩):dx P F f args dd s e ds ⟨N,M,L1++L,[]⟩ ⟨⟩:=by
 refine ⟨hc.1,fun c w hw=> ?_⟩
 obtain ⟨bs,hi⟩:=hw
 obtain rfl:bs=[]:=by simpa using hi.rows.1.symm
 have hk:=nT hp
 have jj:(aY L1++aY L).Nodup:=by have:=hi.nodup;simpa [aY] using this
 have hd:=List.nodup_append.1 jj
 have own:∀ b,b∈aY L1\/b∈aY L ->M b=none/\(b∈c.U\/c.w0.heap.size<=b):=fun b hb=>hi.apart b (by simpa [aY] using hb)
 have aL:∀ b,b∈aY L1\/b∈aY L ->b<w.heap.size:=fun b hb=>hi.own_lt (by simpa [aY] using hb)
 have uD:Pz w (aY L1) N (fk M Lp) L1 []:=⟨[],by simp,
  {typ:=fun b t h=>⟨(hi.typ b t h).1,fun hb=>(hi.typ b t h).2 (by rw [List.map_append];exact sJ (.inl hb))⟩
   holds:=fun b x hb=>by
    rcases By hp hb with h | ⟨y,h1,h2⟩
    ·exact hi.holds b x h
    ·obtain ⟨t,ht⟩:=hi.blk _ _ (sJ (.inr h1))
     exact ⟨t,_,y,ht,h2⟩
   blk:=fun b cs h=>hi.blk b cs (sJ (.inl h))
   rows:=⟨rfl,fun i v e sz xs o h=>by simp at h⟩
   nodup:=by simpa [aY] using hd.1
   apart:=fun b h=>by
    have h':b∈aY L1:=by simpa [aY] using h
    refine ⟨?_,.inl h'⟩
    show fk M Lp b=none
    rw [qn fun h2=>hd.2.2 b h' b (by rw [<- hk];exact h2) rfl]
    exact (own b (.inl h')).1
   os:=rfl
   tape:=rfl
   output:=rfl
   size:=Nat.le_refl _
   old:=fun _ _ _=>rfl
   mem:=fun _ _ _=>rfl
   le:=fun _ _ h=>h}⟩
 refine Calls.mono (hc.2 w _ uD) ?_
 intro en w' hr
 cases en with
 | returned v=>
  obtain ⟨M2,L2,R2,⟨⟨bs2,h2⟩,lh,hR2⟩,hq⟩:=hr
  obtain rfl:R2=[]:=by simpa using hR2
  obtain rfl:bs2=[]:=by simpa using h2.rows.1.symm
  have same:∀ b,b<w.heap.size ->b∉aY L1 ->w'.heap[b]?=w.heap[b]?:=fun b hb hn=>h2.old b hb hn
  have off:∀ b,b∉aY L ->lg M2 Lp b=M2 b:=fun b hb=>by
   show (if b∈aY Lp then none else M2 b)=_
   rw [if_neg (by rw [hk];exact hb)]
  have offk:∀ b,b∈aY L ->lg M2 Lp b=none:=fun b hb=>by
   show (if b∈aY Lp then none else M2 b)=_
   rw [if_pos (by rw [hk];exact hb)]
  have hm2:L2.map (·.1)=aY L1:=lh
  have offa:∀ b,b∈aY (L2++L) ->lg M2 Lp b=none:=fun b hb=>by
   rw [vV,List.mem_append] at hb
   rcases hb with hb | hb
   ·rw [off b fun h=>hd.2.2 b (by rw [<- lh];exact hb) b h rfl]
    exact (h2.apart b (by simpa [aY] using hb)).1
   ·exact offk b hb
  refine ⟨_,⟨[],?_⟩,hn v M2 L2 h2.le lh (iE offa) hq⟩
  exact
  {typ:=fun b t hu=>by
    obtain ⟨nB,hc⟩:=hi.typ b t hu
    refine ⟨Nat.lt_of_lt_of_le nB h2.size,fun hb=> ?_⟩
    have hb:b∈(L2++L).map (·.1):=hb
    rw [List.map_append,List.mem_append] at hb
    rcases hb with hb | hb
    ·exact (h2.typ b t hu).2 hb
    ·obtain ⟨cs,f,h⟩:=hc (by rw [List.map_append,List.mem_append];exact .inr hb)
     exact ⟨cs,f,by rw [same b nB fun h3=>hd.2.2 b h3 b hb rfl];exact h⟩
   holds:=fun b x hb=>by
    have C7:(if b∈aY Lp then none else M2 b)=some x:=hb
    split at C7
    ·cases C7
    ·exact h2.holds b x C7
   blk:=fun b cs hb=>by
    rcases wZ hb with hb | hb
    ·exact h2.blk b cs hb
    ·have Pq:b∈aY L:=List.mem_map.2 ⟨_,hb,rfl⟩
     obtain ⟨t,ht⟩:=hi.blk b cs (sJ (.inr hb))
     exact ⟨t,by rw [same b (aL b (.inr Pq)) fun h3=>hd.2.2 b h3 b Pq rfl];exact ht⟩
   rows:=⟨rfl,fun i v e sz xs o h=>by simp at h⟩
   nodup:=by
    show ((L2++L).map (·.1)++([]:List (Option Nat)).filterMap id).Nodup
    simp only [List.map_append,hm2,List.filterMap_nil,List.append_nil]
    exact jj
   apart:=fun b hb=>by
    have C7:b∈aY (L2++L):=by simpa [aY] using hb
    refine ⟨offa b C7,(own b ?_).2⟩
    rw [vV,List.mem_append,lh] at C7
    exact C7
   os:=h2.os.trans hi.os
   tape:=h2.tape.trans hi.tape
   output:=h2.output.trans hi.output
   size:=Nat.le_trans hi.size h2.size
   old:=fun b hb hu=>by
    have Bl:b∉aY L1:=fun h=>by
     rcases (own b (.inl h)).2 with h | h
     ·exact hu h
     ·omega
    rw [same b (Nat.lt_of_lt_of_le hb hi.size) Bl];exact hi.old b hb hu
   mem:=fun b hb hu=>by
    have bi:¬ (b∈aY L1\/b∈aY L):=fun h=>by
     rcases (own b h).2 with h | h
     ·exact hu h
     ·omega
    show lg M2 Lp b=_
    rw [off b fun h=>bi (.inr h)]
    have h3:M2 b=fk M Lp b:=h2.mem b (Nat.lt_of_lt_of_le hb hi.size) fun h=>bi (.inl h)
    rw [h3,qn (by rw [hk];exact fun h=>bi (.inr h))]
    exact hi.mem b hb hu
   le:=fun b x hx=>by
    have h3:M b=some x:=hi.le b x hx
    have hnk:b∉aY L:=fun h=>by rw [(own b (.inr h)).1] at h3;cases h3
    show lg M2 Lp b=_
    rw [off b hnk]
    exact h2.le b x (by show fk M Lp b=_;rw [qn (by rw [hk];exact hnk)];exact h3)}
 | panicked ch=>obtain ⟨_,_,_,_,hf⟩:=hr;exact hf.elim
 | outgrown=>exact hr.elim
theorem jE {N M L L2 R}{k:Sh ->Prop}(hs:∀ p∈L2,p∈L)(hn:(aY L2).Nodup)(hk:cq ⟨N,M,L2,R⟩ k):cq ⟨N,M,L,R⟩ k:=fun c w hw=>by
 obtain ⟨bs,hi⟩:=hw
 have jP:∀ b,b∈L2.map (·.1) ->b∈L.map (·.1):=fun b hb=>by
  obtain ⟨p,hp,rfl⟩:=List.mem_map.1 hb
  exact List.mem_map.2 ⟨p,hs p hp,rfl⟩
 have agb:∀ b,b∈L2.map (·.1)++bs.filterMap id ->b∈L.map (·.1)++bs.filterMap id:=fun b hb=>by
  rcases wZ hb with h | h
  ·exact sJ (.inl (jP b h))
  ·exact sJ (.inr h)
 have jj:=List.nodup_append.1 hi.nodup
 exact hk c w ⟨bs,
  {typ:=fun b u hu=>⟨(hi.typ b u hu).1,fun hb=>(hi.typ b u hu).2 (jP b hb)⟩
   holds:=hi.holds
   blk:=fun b x hb=>hi.blk b x (hs _ hb)
   rows:=hi.rows
   nodup:=List.nodup_append.2 ⟨hn,jj.2.1,fun a ha b hb=>jj.2.2 a (jP a ha) b hb⟩
   apart:=fun b hb=>hi.apart b (agb b hb)
   os:=hi.os
   tape:=hi.tape
   output:=hi.output
   size:=hi.size
   old:=hi.old
   mem:=hi.mem
   le:=hi.le}⟩
def mC:Value ->Prop
 | .int _ n=>n=0
 | _=>True
theorem xt {M M':aS}{b:Nat}(h:M' b=M b):∀ {l:List Value} {o:Nat},At M b o l ->At M' b o l
 | [],_,_=>trivial
 | v::l,o,hc=>⟨by have:=hc.1;unfold aN at this ⊢;simp only [h];exact this,xt h hc.2⟩
theorem Jz {M2:aS}{Lp:LL}{v:Value}{sz:Nat}{xs:List Value}(hz:∀ b c,(b,c)∈Lp ->M2 b=some c/\∀ u∈c,mC u)(hx:xs≠[] ->∃ (i:Nat) (k:IntKind) (n:Int),xs[i]?=some (.int k n)/\n≠0)(h:Sl M2 v sz xs):Sl (lg M2 Lp) v sz xs:=by
 rcases h with h | ⟨b,o,n,c,h1,h2,h3,h4⟩
 ·exact .inl h
 ·refine .inr ⟨b,o,n,c,h1,h2,h3,?_⟩
  by_cases h0:xs=[]
  ·subst h0;trivial
  obtain ⟨i,k,m,hi,hm⟩:=hx h0
  have gO:∀ {l:List Value} {o i:Nat} {v:Value},At M2 b o l ->l[i]?=some v ->aN M2 ⟨b,o+i,none⟩=some v:=by
   intro l
   induction l with
   | nil=>intro o i v _ h;simp at h
   | cons u l ih=>
    intro o i v bQ h
    cases i with
    | zero=>simp at h;subst h;exact bQ.1
    | succ i=>
     have:=ih bQ.2 (by simpa using h)
     rw [show o+(i+1)=o+1+i by omega];exact this
  have hc:=gO h4 hi
  have eZ:b∉aY Lp:=fun hk=>by
   obtain ⟨⟨b',c'⟩,DT,rfl⟩:=List.mem_map.1 hk
   obtain ⟨e1,e2⟩:=hz _ _ DT
   unfold aN at hc
   simp only [Option.isSome_none,Bool.false_eq_true,if_false] at hc
   rw [e1] at hc
   have:=e2 _ (List.mem_of_getElem? (by simpa using hc))
   exact hm this
  refine xt ?_ h4
  show (if b∈aY Lp then none else M2 b)=_
  rw [if_neg eZ]
def mi (W:World):aS:=fun b=>match W.heap[b]? with
 | some (.cells cs _ _)=>some cs.toList
 | _=>none
theorem zm {W:World}{b:Nat}{cs:Array Value}{t f}(h:W.heap[b]?=some (.cells cs t f)):mi W b=some cs.toList:=by simp [mi,h]
theorem FP (W:World):qu (mi W) W:=by
 intro b c hb
 unfold mi at hb
 split at hb
 ·rename_i cs t f h
  injection hb with hb
  subst hb
  exact ⟨t,f,[],by rw [h];simp,.inl rfl⟩
 ·cases hb
theorem Ac {W:World}{a:Addr}{v:Value}(h:W.cell? a=some v):a.spot=none/\aN (mi W) a=some v:=by
 unfold World.cell? at h
 split at h
 ·rename_i cs t f hb
  split at h
  ·cases h
  ·rename_i hs
   have hs:a.spot=none:=by simpa using hs
   refine ⟨hs,?_⟩
   simp [aN,hs,zm hb,h]
 ·cases h
theorem Hm:∀ {n o:Nat} {f:Nat ->Option Value} {cs:List Value},(List.range' o n).mapM f=some cs ->cs.length=n/\∀ i,i<n ->f (o+i)=cs[i]?
 | 0,o,f,cs,h=>by
  simp at h;subst h;simp
 | n+1,o,f,cs,h=>by
  rw [List.range'_succ,List.mapM_cons] at h
  simp only [Option.bind_eq_bind,Option.bind_eq_some_iff,Option.pure_def,Option.some.injEq] at h
  obtain ⟨v,hv,l,hl,rfl⟩:=h
  obtain ⟨h1,h2⟩:=Hm hl
  refine ⟨by simp [h1],fun i hi=> ?_⟩
  cases i with
  | zero=>simpa using hv
  | succ i=>rw [List.getElem?_cons_succ,<- h2 i (by omega)];congr 1;omega
theorem MR {W:World}{base:Nat}{a:Addr}{n:Nat}{cs:List Value}(h:W.cells? base a n=some cs):cs.length=n/\∀ i,i<n ->W.cell? (a.add i)=cs[i]?:=by
 unfold World.cells? at h
 split at h
 ·rw [List.range_eq_range'] at h
  obtain ⟨h1,h2⟩:=Hm h
  exact ⟨h1,fun i hi=>by have:=h2 i hi;simpa using this⟩
 ·cases h
theorem RP {M:aS}{b:Nat}:∀ (cs:List Value) (o:Nat),(∀ i,i<cs.length ->aN M ⟨b,o+i,none⟩=cs[i]?) ->At M b o cs
 | [],o,h=>trivial
 | v::cs,o,h=>by
  refine ⟨by simpa using h 0 (by simp),RP cs (o+1) fun i hi=> ?_⟩
  have:=h (i+1) (by simpa using hi)
  rw [show o+1+i=o+(i+1) by omega,this];rfl
theorem BX {W:World}{base:Nat}{a:Addr}{n:Nat}{cs:List Value}(h:W.cells? base a n=some cs)(hn:0<n):a.spot=none/\cs.length=n/\At (mi W) a.block a.off cs:=by
 obtain ⟨h1,h2⟩:=MR h
 have h0:=h2 0 hn
 have e0:a.add 0=a:=by simp [Addr.add]
 rw [e0,gq (by omega)] at h0
 obtain ⟨hs,_⟩:=Ac h0
 refine ⟨hs,h1,RP cs _ fun i hi=> ?_⟩
 have DC:=h2 i (by omega)
 obtain ⟨b,o,s⟩:=a
 simp only at hs
 subst hs
 rw [Addr.add_lit,gq hi] at DC
 rw [gq hi]
 exact (Ac DC).2
section
variable {H:Type} {enc:TypeId×Value ->H} {P:Program} {W W':World} {base:Nat} {aop:Bool}
theorem ZA {α:Type}{r:α ->List Value ->Prop}{sz:Nat}{M:aS}{b:Nat}:∀ (n o:Nat),(∀ i,i<n ->∃ cs,At M b (o+i*sz) cs/\cs.length=sz/\∃ x,r x cs) ->∃ l xs,l.length=n/\RL r l xs/\xs.length=n*sz/\At M b o xs
 | 0,o,h=>⟨[],[],rfl,rfl,by simp,trivial⟩
 | n+1,o,h=>by
  obtain ⟨cs,h1,h2,x,h3⟩:=h 0 (by omega)
  obtain ⟨l,xs,h4,h5,h6,h7⟩:=ZA (α:=α) (r:=r) (sz:=sz) (M:=M) (b:=b) n (o+sz) fun i hi=>by
   obtain ⟨cs,h1,h2⟩:=h (i+1) (by omega)
   refine ⟨cs,?_,h2⟩
   rw [show o+sz+i*sz=o+(i+1)*sz by rw [Nat.add_mul];omega];exact h1
  refine ⟨x::l,cs++xs,by simp [h4],⟨cs,xs,rfl,h3,h5⟩,by rw [List.length_append,h2,h6,Nat.add_mul];omega,fz.2 ⟨by simpa using h1,?_⟩⟩
  rw [h2];exact h7
end
end Vc

import Derived.Test.YtmccpbcbofhmlaaGreatDoorA
import Derived.Defers
import Derived.Lib.LaidTab
import Derived.Lib.ConvBytes
import Derived.Attr
set_option linter.all false
namespace Vc
open Go
inductive Item where
 | code (c:Code)
 | ops (all r:List Oper)
 | sch (all:List Oper) (s:Sched) (h0:Sh)
 | chk (t:Bool) (h0:Sh)
 | anew (t:Bool) (all:List Oper) (sc:Sched) (h0:Sh)
 | blk (id:Nat)
 | lp (I:Nat ->dj ->List Deferred ->Sh ->Prop) (m:Nat)
structure Fi where
 dr:List (Nat×Sched)
 ret:dj ->List Deferred ->Sh ->Prop
 pan:List PanicEntry ->dj ->List Deferred ->Sh ->Prop
def Fi.k (F:Fi):KontL where
 nrm:=F.ret
 exi:=fun _ _ _ _=>False
 ret:=F.ret
 pan:=F.pan
def iw (P:Program)(F:Fi):List Item ->KontL
 | []=>F.k
 | .code c::s=>{iw P F s with nrm:=TY P F.dr c (iw P F s)}
 | .ops all r::s=>{iw P F s with nrm:=jH P all (iw P F s) r}
 | .sch all sc h0::s=>{iw P F s with nrm:=vS P all (iw P F s) h0 sc}
 | .chk t h0::s=>{iw P F s with nrm:=fun e ds h=>(t=false ->fZ h0 h)/\(iw P F s).nrm e ds h}
 | .anew t all sc h0::s=>{iw P F s with nrm:=fun e ds h=>∃ h1,fZ h0 h1/\(t=false ->fZ h1 h)/\vS P all (iw P F s) h1 sc e ds h}
 | .blk id::s=>{iw P F s with exi:=fun i=>if i=id then (iw P F s).nrm else (iw P F s).exi i}
 | .lp I m::s=>{iw P F s with nrm:=fun e ds h=>bK h fun h=>∃ m',m'<m/\I m' e ds h}
structure Tok {α:Type} (a:α):Type
def cj (P:Program)(F:Fi)(s:List Item)(e:dj)(ds:List Deferred)(h:Sh)(_k:Tok (F,s,e,ds,h)):Prop:=(iw P F s).nrm e ds h
def GD (P:Program)(F:Fi)(id:Nat)(s:List Item)(e:dj)(ds:List Deferred)(h:Sh)(_k:Tok (F,s,e,ds,h)):Prop:=(iw P F s).exi id e ds h
theorem kA {P F}:∀ s,(iw P F s).ret=F.ret
 | []=>rfl
 | .code _::s=>kA s
 | .ops _ _::s=>kA s
 | .sch _ _ _::s=>kA s
 | .chk _ _::s=>kA s
 | .anew _ _ _ _::s=>kA s
 | .blk _::s=>kA s
 | .lp _ _::s=>kA s
theorem iX {P F}:∀ s,(iw P F s).pan=F.pan
 | []=>rfl
 | .code _::s=>iX s
 | .ops _ _::s=>iX s
 | .sch _ _ _::s=>iX s
 | .chk _ _::s=>iX s
 | .anew _ _ _ _::s=>iX s
 | .blk _::s=>iX s
 | .lp _ _::s=>iX s
section
variable {P:Program} {F:Fi} {s:List Item} {e:dj} {ds:List Deferred} {h h0:Sh} {all r:List Oper} {dd:Option Nat} {ty:TypeId} {pos:String} {af:Array Edge}
theorem UE:cj P F [] e ds h ⟨⟩=F.ret e ds h:=(rfl)
theorem kG:cj P F (.code .skip::s) e ds h ⟨⟩=cj P F s e ds h ⟨⟩:=(rfl)
theorem nI (a b):cj P F (.code (.seq a b)::s) e ds h ⟨⟩=cj P F (.code a:: .code b::s) e ds h ⟨⟩:=(rfl)
theorem AV (id b):cj P F (.code (.block id b)::s) e ds h ⟨⟩=cj P F (.code b:: .blk id::s) e ds h ⟨⟩:=(rfl)
theorem WU (id):cj P F (.blk id::s) e ds h ⟨⟩=cj P F s e ds h ⟨⟩:=(rfl)
theorem VA:cj P F (.code .ret::s) e ds h ⟨⟩=F.ret e ds h:=by
 show (iw P F s).ret e ds h=_;rw [kA]
theorem PF (id):cj P F (.code (.exit id)::s) e ds h ⟨⟩=GD P F id s e ds h ⟨⟩:=(rfl)
theorem OK (id c):GD P F id (.code c::s) e ds h ⟨⟩=GD P F id s e ds h ⟨⟩:=(rfl)
theorem Vh (id a r):GD P F id (.ops a r::s) e ds h ⟨⟩=GD P F id s e ds h ⟨⟩:=(rfl)
theorem UH (id a r):GD P F id (.sch a r h0::s) e ds h ⟨⟩=GD P F id s e ds h ⟨⟩:=(rfl)
theorem Vw (id t):GD P F id (.chk t h0::s) e ds h ⟨⟩=GD P F id s e ds h ⟨⟩:=(rfl)
theorem PQ (id t a sc):GD P F id (.anew t a sc h0::s) e ds h ⟨⟩=GD P F id s e ds h ⟨⟩:=(rfl)
theorem YC (id I m):GD P F id (.lp I m::s) e ds h ⟨⟩=GD P F id s e ds h ⟨⟩:=(rfl)
theorem Um (i id):GD P F i (.blk id::s) e ds h ⟨⟩=if i=id then cj P F s e ds h ⟨⟩ else GD P F i s e ds h ⟨⟩:=by
 simp only [GD,iw,cj];split<;>rfl
theorem HT (id ops):cj P F (.code (.region id ⟨ops⟩ false)::s) e ds h ⟨⟩=cj P F (.ops ops ops::s) e ds h ⟨⟩:=(rfl)
theorem FD:cj P F (.ops all []::s) e ds h ⟨⟩=cj P F s e ds h ⟨⟩:=(rfl)
def Em (P:Program)(F:Fi)(ops:List Oper)(sc:Sched)(s:List Item)(e:dj)(ds:List Deferred)(h:Sh)(_k:Tok (F,ops,s,e,ds,h)):Prop:=
 ∃ h0,fZ h0 h/\cj P F (.sch ops sc h0::s) e ds h ⟨⟩
theorem QM (id ops):cj P F (.code (.region id ⟨ops⟩ true)::s) e ds h ⟨⟩=(yf F.pan ops/\Em P F ops (Gn F.dr id) s e ds h ⟨⟩):=by
 show sN P F.dr id ops true (iw P F s) e ds h=_
 unfold sN
 rw [if_pos rfl,iX]
 rfl
theorem eL {ops:List Oper}{sc:Sched}(h0:Sh)(hs:fZ h0 h)(hr:cj P F (.sch ops sc h0::s) e ds h ⟨⟩):Em P F ops sc s e ds h ⟨⟩:=⟨h0,hs,hr⟩
theorem aU {ops:List Oper}{sc:Sched}(hr:cj P F (.sch ops sc h::s) e ds h ⟨⟩):Em P F ops sc s e ds h ⟨⟩:=⟨h,fZ.refl h,hr⟩
theorem Ov:cj P F (.sch all .done h0::s) e ds h ⟨⟩=cj P F s e ds h ⟨⟩:=(rfl)
theorem aaU:cj P F (.sch all .no h0::s) e ds h ⟨⟩=True:=(rfl)
def sj (P:Program)(F:Fi)(v:Value)(a b:Code)(s:List Item)(e:dj)(ds:List Deferred)(h:Sh)(_k:Tok (F,a,b,s,e,ds,h)):Prop:=
 match v with
 | .bool t=>if t=true then cj P F (.code a::s) e ds h ⟨⟩ else cj P F (.code b::s) e ds h ⟨⟩
 | _=>False
theorem O4 (c a b):cj P F (.code (.cond c a b)::s) e ds h ⟨⟩=sj P F (ev e c) a b s e ds h ⟨⟩:=(rfl)
theorem cd (t a b):sj P F (.bool t) a b s e ds h ⟨⟩=if t=true then cj P F (.code a::s) e ds h ⟨⟩ else cj P F (.code b::s) e ds h ⟨⟩:=(rfl)
def iK (P:Program)(F:Fi)(o:Option Value)(dd:Option Nat)(s:List Item)(e:dj)(ds:List Deferred)(h:Sh)(_k:Tok (F,s,e,ds,h)):Prop:=
 match o with
 | some v=>cj P F s (cB e dd v) ds h ⟨⟩
 | none=>False
theorem NL (v):iK P F (some v) dd s e ds h ⟨⟩=cj P F s (cB e dd v) ds h ⟨⟩:=(rfl)
def PH (P:Program)(F:Fi)(o:Option Oper)(all:List Oper)(sc:Sched)(h0:Sh)(s:List Item)(e:dj)(ds:List Deferred)(h:Sh)(_k:Tok (F,all,sc,h0,s,e,ds,h)):Prop:=
 match o with
 | some o=>if want all e o.guard=true then iK P F (pv P e h0 o.op) o.dst (.sch all sc h0::s) e ds h ⟨⟩ else cj P F (.sch all sc h0::s) (cB e o.dst undef) ds h ⟨⟩
 | none=>False
theorem PB (i sc):cj P F (.sch all (.take i sc) h0::s) e ds h ⟨⟩=PH P F all[i]? all sc h0 s e ds h ⟨⟩:=by
 show ed all[i]? _=_
 unfold PH ed
 cases all[i]? with
 | none=>rfl
 | some o=>
  simp only []
  split
  ·unfold iK
   cases pv P e h0 o.op<;>rfl
  ·rfl
theorem G7 (d op ty pos af g sc):PH P F (some ⟨d,op,ty,pos,af,g⟩) all sc h0 s e ds h ⟨⟩=
 if want all e g=true then iK P F (pv P e h0 op) d (.sch all sc h0::s) e ds h ⟨⟩ else cj P F (.sch all sc h0::s) (cB e d undef) ds h ⟨⟩:=(rfl)
theorem ou {d op ty pos af}:nh ⟨d,op,ty,pos,af,none⟩=false:=(rfl)
def aap (P:Program)(F:Fi)(o:Option Oper)(all:List Oper)(t:Bool)(sc alt:Sched)(h0:Sh)(s:List Item)(e:dj)(ds:List Deferred)(h:Sh)(_k:Tok (F,all,sc,alt,h0,s,e,ds,h)):Prop:=
 match o with
 | some o=>if nh o=true then (Yh P (iw P F s) all o e ds h fun v ds h'=>(t=false ->fZ h0 h')/\vS P all (iw P F s) h0 sc (cB e o.dst v) ds h')/\vS P all (iw P F s) h0 alt e ds h
  else cj P F (.ops all [o]:: .chk t h0:: .sch all sc h0::s) e ds h ⟨⟩/\cj P F (.sch all alt h0::s) e ds h ⟨⟩
 | none=>False
theorem W7 (i t sc alt):cj P F (.sch all (.eff i t sc alt) h0::s) e ds h ⟨⟩=aap P F all[i]? all t sc alt h0 s e ds h ⟨⟩:=by
 show (ed all[i]? _/\_)=_
 unfold aap ed
 cases all[i]? with
 | none=>simp
 | some o=>
  by_cases hp:nh o=true
  ·simp only [hp,if_true]
  ·simp only [hp]
   show _=(jH P all _ [o] e ds h/\_)
   unfold jH
   rw [if_neg hp]
   rfl
theorem K9 (d op ty pos af g t sc alt)(hp:gk op=false):aap P F (some ⟨d,op,ty,pos,af,g⟩) all t sc alt h0 s e ds h ⟨⟩=(cj P F (.ops all [⟨d,op,ty,pos,af,g⟩]:: .chk t h0:: .sch all sc h0::s) e ds h ⟨⟩/\cj P F (.sch all alt h0::s) e ds h ⟨⟩):=by
 show (if nh _=true then _ else _)=_
 rw [if_neg (by simp [nh,hp])]
def Su (P:Program)(F:Fi)(o:Option Oper)(all:List Oper)(t:Bool)(sc alt:Sched)(h0:Sh)(s:List Item)(e:dj)(ds:List Deferred)(h:Sh)(_k:Tok (F,all,sc,alt,h0,s,e,ds,h)):Prop:=
 match o with
 | some o=>if nh o=true then (Yh P (iw P F s) all o e ds h fun v ds h'=>∃ h1,fZ h0 h1/\(t=false ->fZ h1 h')/\vS P all (iw P F s) h1 sc (cB e o.dst v) ds h')/\vS P all (iw P F s) h0 alt e ds h
  else cj P F (.ops all [o]:: .anew t all sc h0::s) e ds h ⟨⟩/\cj P F (.sch all alt h0::s) e ds h ⟨⟩
 | none=>False
theorem QR (i t sc alt):cj P F (.sch all (.effN i t sc alt) h0::s) e ds h ⟨⟩=Su P F all[i]? all t sc alt h0 s e ds h ⟨⟩:=by
 show (ed all[i]? _/\_)=_
 unfold Su ed
 cases all[i]? with
 | none=>simp
 | some o=>
  by_cases hp:nh o=true
  ·simp only [hp,if_true]
  ·simp only [hp]
   show _=(jH P all _ [o] e ds h/\_)
   unfold jH
   rw [if_neg hp]
   rfl
theorem In (d op ty pos af g t sc alt)(hp:gk op=false):Su P F (some ⟨d,op,ty,pos,af,g⟩) all t sc alt h0 s e ds h ⟨⟩=(cj P F (.ops all [⟨d,op,ty,pos,af,g⟩]:: .anew t all sc h0::s) e ds h ⟨⟩/\cj P F (.sch all alt h0::s) e ds h ⟨⟩):=by
 show (if nh _=true then _ else _)=_
 rw [if_neg (by simp [nh,hp])]
def Yi (P:Program)(F:Fi)(t:Bool)(all:List Oper)(sc:Sched)(h0:Sh)(s:List Item)(e:dj)(ds:List Deferred)(h:Sh)(_k:Tok (F,all,sc,h0,s,e,ds,h)):Prop:=
 ∃ h1,fZ h0 h1/\(t=false ->fZ h1 h)/\cj P F (.sch all sc h1::s) e ds h ⟨⟩
theorem Sv (t sc):cj P F (.anew t all sc h0::s) e ds h ⟨⟩=Yi P F t all sc h0 s e ds h ⟨⟩:=(rfl)
theorem yB {t:Bool}{sc:Sched}(yY:fZ h0 h)(hr:cj P F (.sch all sc h::s) e ds h ⟨⟩):Yi P F t all sc h0 s e ds h ⟨⟩:=⟨h,yY,fun _=>fZ.refl _,hr⟩
theorem CY:cj P F (.chk true h0::s) e ds h ⟨⟩=cj P F s e ds h ⟨⟩:=by
 simp [cj,iw]
theorem zI:cj P F (.chk false h0::s) e ds h ⟨⟩=(fZ h0 h/\cj P F s e ds h ⟨⟩):=by
 simp [cj,iw]
theorem Jd (op:Op)(g:Nat×Bool)(hp:gk op=true):cj P F (.ops all (⟨dd,op,ty,pos,af,some g⟩::r)::s) e ds h ⟨⟩=
 iK P F (if want all e (some g)=true then pv P e h op else some undef) dd (.ops all r::s) e ds h ⟨⟩:=by
 show jH P all (iw P F s) (⟨dd,op,ty,pos,af,some g⟩::r) e ds h=_
 unfold jH
 rw [if_pos (by simp [nh,hp])]
 show ed (if want all e (some g)=true then pv P e h op else some undef) _=_
 unfold ed iK
 cases (if want all e (some g)=true then pv P e h op else some undef)<;>rfl
theorem IR (op:Op)(g:Nat×Bool)(hp:gk op=false):cj P F (.ops all (⟨dd,op,ty,pos,af,some g⟩::r)::s) e ds h ⟨⟩=
 if want all e (some g)=true then cj P F (.ops all (⟨dd,op,ty,pos,af,none⟩::r)::s) e ds h ⟨⟩ else cj P F (.ops all r::s) (cB e dd undef) ds h ⟨⟩:=by
 show jH P all (iw P F s) (⟨dd,op,ty,pos,af,some g⟩::r) e ds h=_
 unfold jH
 rw [if_neg (by simp [nh,hp])]
 rfl
theorem Lj (x):gk (.move x)=true:=(rfl)
theorem DF (x):gk (.assign x)=true:=(rfl)
theorem NN (c a b):gk (.pick c a b)=true:=(rfl)
theorem zG (x):gk (.nilCheck x)=true:=(rfl)
theorem I6 (t x i):gk (.fieldAddr t x i)=true:=(rfl)
theorem RK (t x i):gk (.indexAddr t x i)=true:=(rfl)
theorem HR (t x i):gk (.index t x i)=true:=(rfl)
theorem Qy (op t x y u):gk (.binOp op t x y u)=true:=(rfl)
theorem UY (op t x):gk (.unOp op t x)=true:=(rfl)
theorem CA (x i):gk (.extract x i)=true:=(rfl)
theorem HF (t ps):gk (.build t ps)=true:=(rfl)
theorem Ce (a b x):gk (.convert a b x)=true:=(rfl)
theorem ID (t x):gk (.makeInterface t x)=true:=(rfl)
theorem Nd (fn a b):gk (.makeFunc fn a b)=true:=(rfl)
theorem HS (t x lo hi c):gk (.slice t x lo hi c)=true:=(rfl)
theorem EZ (t x i):gk (.field t x i)=true:=(rfl)
theorem LK (t x):gk (.load t x)=true:=(rfl)
theorem QD (a t):gk (.call ⟨.builtin .len,a,t⟩)=true:=(rfl)
theorem SZ (a t):gk (.call ⟨.builtin .cap,a,t⟩)=true:=(rfl)
theorem DE (a t):gk (.call ⟨.builtin .append,a,t⟩)=false:=(rfl)
theorem Ld (f a t):gk (.call ⟨.value f,a,t⟩)=false:=(rfl)
theorem P9 (t x):gk (.box t x)=false:=(rfl)
theorem GN (t):gk (.alloc t)=false:=(rfl)
theorem Q4 (t n ps):gk (.buildSlice t n ps)=false:=(rfl)
theorem Ia (t x y):gk (.store t x y)=false:=(rfl)
theorem HA (x):gk (.panic x)=false:=(rfl)
theorem GZ (c):gk (.defer c)=false:=(rfl)
theorem PJ {α:Type}(c:Prop)[Decidable c](a b:α):(if c then some a else some b)=some (if c then a else b):=by split<;>rfl
theorem SC (c:Prop)[Decidable c](a b:Bool):(if c then Value.bool a else Value.bool b)=Value.bool (if c then a else b):=by split<;>rfl
theorem mK (d v t):cB e (some d) v t=if t=d then v else e t:=(rfl)
theorem dS (o:Option Value):(ed o fun v=>cj P F (.ops all r::s) (cB e dd v) ds h ⟨⟩)=iK P F o dd (.ops all r::s) e ds h ⟨⟩:=by
 unfold ed iK;cases o<;>rfl
theorem Rb (x):cj P F (.ops all (⟨dd,.move x,ty,pos,af,none⟩::r)::s) e ds h ⟨⟩=iK P F (some (ev e x)) dd (.ops all r::s) e ds h ⟨⟩:=(rfl)
theorem Hu (x):cj P F (.ops all (⟨dd,.assign x,ty,pos,af,none⟩::r)::s) e ds h ⟨⟩=iK P F (some (ev e x)) dd (.ops all r::s) e ds h ⟨⟩:=(rfl)
theorem O9 (c a b):cj P F (.ops all (⟨dd,.pick c a b,ty,pos,af,none⟩::r)::s) e ds h ⟨⟩=iK P F (FW (ev e c) (ev e a) (ev e b)) dd (.ops all r::s) e ds h ⟨⟩:=dS _
theorem Cc (x):cj P F (.ops all (⟨dd,.nilCheck x,ty,pos,af,none⟩::r)::s) e ds h ⟨⟩=iK P F (Sx (ev e x)) dd (.ops all r::s) e ds h ⟨⟩:=dS _
theorem MF (t x i):cj P F (.ops all (⟨dd,.fieldAddr t x i,ty,pos,af,none⟩::r)::s) e ds h ⟨⟩=iK P F (tL (cN P t i) (ev e x)) dd (.ops all r::s) e ds h ⟨⟩:=dS _
theorem WD (t x i):cj P F (.ops all (⟨dd,.indexAddr t x i,ty,pos,af,none⟩::r)::s) e ds h ⟨⟩=iK P F (No (dy P t) (ev e x) (ev e i)) dd (.ops all r::s) e ds h ⟨⟩:=dS _
theorem Md (t x i):cj P F (.ops all (⟨dd,.index t x i,ty,pos,af,none⟩::r)::s) e ds h ⟨⟩=iK P F (vAt (cP P t) (ev e x) (ev e i)) dd (.ops all r::s) e ds h ⟨⟩:=dS _
theorem Vp (t x):cj P F (.ops all (⟨dd,.unOp .not t x,ty,pos,af,none⟩::r)::s) e ds h ⟨⟩=iK P F (PW (ev e x)) dd (.ops all r::s) e ds h ⟨⟩:=dS _
theorem UL (t x):cj P F (.ops all (⟨dd,.unOp .neg t x,ty,pos,af,none⟩::r)::s) e ds h ⟨⟩=iK P F (RN (ev e x)) dd (.ops all r::s) e ds h ⟨⟩:=dS _
theorem FO (x i):cj P F (.ops all (⟨dd,.extract x i,ty,pos,af,none⟩::r)::s) e ds h ⟨⟩=iK P F (MC (ev e x) i) dd (.ops all r::s) e ds h ⟨⟩:=dS _
def ll (e:dj):List (Nat×Operand) ->List (Nat×List Value)
 | []=>[]
 | (i,x)::r=>(i,(ev e x).cells.toList)::ll e r
theorem rN (e:dj)(l:List (Nat×Operand)):(l.map fun x=>(x.1,(ev e x.2).cells.toList))=ll e l:=by
 induction l with
 | nil=>rfl
 | cons p l ih=>obtain ⟨i,x⟩:=p;simp [ll,ih]
theorem Lq (t ps):cj P F (.ops all (⟨dd,.build t ⟨ps⟩,ty,pos,af,none⟩::r)::s) e ds h ⟨⟩=iK P F (uD (bt P t) (ll e ps)) dd (.ops all r::s) e ds h ⟨⟩:=by
 rw [<- rN];exact dS _
def AY (P:Program)(F:Fi)(k:Nat)(o:Option Value)(x:Value)(dd:Option Nat)(s:List Item)(e:dj)(ds:List Deferred)(h:Sh)(_k:Tok (F,s,e,ds,h)):Prop:=match k with
 | 1=>(match x with
  | .string t=>∀ b c junk,h.M b=none ->ce b h.L ->cj P F s (cB e dd (.slice (some ⟨b,0,none⟩) t.size c)) ds {h with M:=h.M.add b (t.data.toList.map (fun b=>Value.int .u8 b.toNat)++junk)} ⟨⟩
  | _=>False)
 | 2=>(match x,h.L with
  | .slice (some ⟨b,0,none⟩) _ _,(b',cs)::L=>b=b'/\(ce b L ->cj P F s (cB e dd x) ds {h with M:=h.M.add b cs,L:=L} ⟨⟩)
  | _,_=>False)
 | _=>iK P F o dd s e ds h ⟨⟩
theorem D8 (a b x):cj P F (.ops all (⟨dd,.convert a b x,ty,pos,af,none⟩::r)::s) e ds h ⟨⟩=AY P F (Ti P a b) (o5 P h a b (ev e x)) (ev e x) dd (.ops all r::s) e ds h ⟨⟩:=by
 show JM P a b (ev e x) h (fun v h'=>cj P F (.ops all r::s) (cB e dd v) ds h' ⟨⟩)=_
 unfold JM AY
 generalize Ti P a b=k
 rcases k with _ | _ | _ | k
 ·exact dS _
 ·rfl
 ·rfl
 ·exact dS _
theorem VM (o x):AY P F 0 o x dd s e ds h ⟨⟩=iK P F o dd s e ds h ⟨⟩:=(rfl)
theorem U9 (o t N M L R):AY P F 1 o (.string t) dd s e ds ⟨N,M,L,R⟩ ⟨⟩=∀ b c junk,M b=none ->ce b L ->cj P F s (cB e dd (.slice (some ⟨b,0,none⟩) t.size c)) ds ⟨N,M.add b (t.data.toList.map (fun b=>Value.int .u8 b.toNat)++junk),L,R⟩ ⟨⟩:=(rfl)
theorem Vd (o b n c cs N M L R):AY P F 2 o (.slice (some ⟨b,0,none⟩) n c) dd s e ds ⟨N,M,(b,cs)::L,R⟩ ⟨⟩=(ce b L ->cj P F s (cB e dd (.slice (some ⟨b,0,none⟩) n c)) ds ⟨N,M.add b cs,L,R⟩ ⟨⟩):=by
 simp [AY]
def Ig (P:Program)(F:Fi)(k:Bool)(t:TypeId)(x:Value)(dd:Option Nat)(s:List Item)(e:dj)(ds:List Deferred)(h:Sh)(_k:Tok (F,s,e,ds,h)):Prop:=k=true/\(match x with
 | .string u=>∀ g,cj P F s (cB e dd (.pointer (some ⟨g,0,none⟩))) ds {h with R:=(.pointer (some ⟨g,0,none⟩),t,0,[.string u,.int .i64 ((0:Nat):Int)])::h.R} ⟨⟩
 | _=>False)
theorem Nm (t x):cj P F (.ops all (⟨dd,.range t x,ty,pos,af,none⟩::r)::s) e ds h ⟨⟩=Ig P F (cP P t) t (ev e x) dd (.ops all r::s) e ds h ⟨⟩:=(rfl)
theorem Ih (t u N M L R):Ig P F true t (.string u) dd s e ds ⟨N,M,L,R⟩ ⟨⟩=∀ g,cj P F s (cB e dd (.pointer (some ⟨g,0,none⟩))) ds ⟨N,M,L,(.pointer (some ⟨g,0,none⟩),t,0,[.string u,.int .i64 ((0:Nat):Int)])::R⟩ ⟨⟩:=by
 simp [Ig]
def Td (P:Program)(F:Fi)(it:Value)(dd:Option Nat)(s:List Item)(e:dj)(ds:List Deferred)(h:Sh)(_k:Tok (F,s,e,ds,h)):Prop:=KR it h fun v h'=>cj P F s (cB e dd v) ds h' ⟨⟩
theorem SE (it):cj P F (.ops all (⟨dd,.next it true,ty,pos,af,none⟩::r)::s) e ds h ⟨⟩=Td P F (ev e it) dd (.ops all r::s) e ds h ⟨⟩:=(rfl)
theorem Rn (g t u N M L R)(pos:Nat):Td P F (.pointer (some ⟨g,0,none⟩)) dd s e ds ⟨N,M,L,(.pointer (some ⟨g,0,none⟩),t,0,[.string u,.int .i64 (pos:Int)])::R⟩ ⟨⟩=
 if pos<u.size then cj P F s (cB e dd (.tuple #[.bool true,.int .i64 (pos:Int),.int .i32 ((Utf8.decode u pos).1:Nat)])) ds ⟨N,M,L,(.pointer (some ⟨g,0,none⟩),t,0,[.string u,.int .i64 ((pos+(Utf8.decode u pos).2:Nat):Int)])::R⟩ ⟨⟩
 else cj P F s (cB e dd (.tuple #[.bool false])) ds ⟨N,M,L,(.pointer (some ⟨g,0,none⟩),t,0,[.string u,.int .i64 (pos:Int)])::R⟩ ⟨⟩:=by
 simp only [Td,KR,Int.toNat_natCast,true_and,and_self]
theorem HY (t x):gk (.range t x)=false:=(rfl)
theorem ML (x b):gk (.next x b)=false:=(rfl)
theorem NW (t x):cj P F (.ops all (⟨dd,.makeInterface t x,ty,pos,af,none⟩::r)::s) e ds h ⟨⟩=iK P F (wR (P.concrete t) t (ev e x)) dd (.ops all r::s) e ds h ⟨⟩:=dS _
theorem O6 (fn a b):cj P F (.ops all (⟨dd,.makeFunc fn a b,ty,pos,af,none⟩::r)::s) e ds h ⟨⟩=iK P F (some (.func fn (a.map (ev e)) (b.map (ev e)))) dd (.ops all r::s) e ds h ⟨⟩:=(rfl)
def Y2 (P:Program)(t:TypeId)(x:Value)(lo hi:Option Value):Option Value:=if cP P t=true then xT true x lo hi else zh (dy P t) x lo hi
theorem Lv (t x lo hi):cj P F (.ops all (⟨dd,.slice t x lo hi none,ty,pos,af,none⟩::r)::s) e ds h ⟨⟩=iK P F (Y2 P t (ev e x) (lo.map (ev e)) (hi.map (ev e))) dd (.ops all r::s) e ds h ⟨⟩:=dS _
theorem Ji (t x i):cj P F (.ops all (⟨dd,.field t x i,ty,pos,af,none⟩::r)::s) e ds h ⟨⟩=iK P F (Wi (Z9 P t i) (ev e x)) dd (.ops all r::s) e ds h ⟨⟩:=dS _
theorem OT (t x):cj P F (.ops all (⟨dd,.load t x,ty,pos,af,none⟩::r)::s) e ds h ⟨⟩=iK P F (pz h (tk P t) (ev e x)) dd (.ops all r::s) e ds h ⟨⟩:=dS _
theorem U5 (x t):cj P F (.ops all (⟨dd,.call ⟨.builtin .len,⟨[x]⟩,⟨[t]⟩⟩,ty,pos,af,none⟩::r)::s) e ds h ⟨⟩=iK P F (NB (cP P t) (ea P t) (ev e x)) dd (.ops all r::s) e ds h ⟨⟩:=dS _
theorem VN (x t):cj P F (.ops all (⟨dd,.call ⟨.builtin .cap,⟨[x]⟩,⟨[t]⟩⟩,ty,pos,af,none⟩::r)::s) e ds h ⟨⟩=iK P F (Sj (ea P t) (ev e x)) dd (.ops all r::s) e ds h ⟨⟩:=dS _
theorem WO (x):pv P e h (.move x)=some (ev e x):=(rfl)
theorem Ml (x):pv P e h (.assign x)=some (ev e x):=(rfl)
theorem Xe (c a b):pv P e h (.pick c a b)=FW (ev e c) (ev e a) (ev e b):=(rfl)
theorem Gc (x):pv P e h (.nilCheck x)=Sx (ev e x):=(rfl)
theorem QH (t x i):pv P e h (.fieldAddr t x i)=tL (cN P t i) (ev e x):=(rfl)
theorem abd (t x i):pv P e h (.indexAddr t x i)=No (dy P t) (ev e x) (ev e i):=(rfl)
theorem S6 (t x i):pv P e h (.index t x i)=vAt (cP P t) (ev e x) (ev e i):=(rfl)
theorem Zu (op t x y u):pv P e h (.binOp op t x y u)=gZ P op t (ev e x) (ev e y):=(rfl)
theorem Yz (t x):pv P e h (.unOp .not t x)=PW (ev e x):=(rfl)
theorem YY (t x):pv P e h (.unOp .neg t x)=RN (ev e x):=(rfl)
theorem Ic (x i):pv P e h (.extract x i)=MC (ev e x) i:=(rfl)
theorem PD (t ps):pv P e h (.build t ⟨ps⟩)=uD (bt P t) (ll e ps):=by rw [<- rN];rfl
theorem H5 (a b x):pv P e h (.convert a b x)=o5 P h a b (ev e x):=(rfl)
theorem ST (t x):pv P e h (.makeInterface t x)=wR (P.concrete t) t (ev e x):=(rfl)
theorem U4 (fn a b):pv P e h (.makeFunc fn a b)=some (.func fn (a.map (ev e)) (b.map (ev e))):=(rfl)
theorem OF (t x lo hi):pv P e h (.slice t x lo hi none)=Y2 P t (ev e x) (lo.map (ev e)) (hi.map (ev e)):=(rfl)
theorem LT (t x i):pv P e h (.field t x i)=Wi (Z9 P t i) (ev e x):=(rfl)
theorem WN (o n cs):Wi (some (false,o,n)) (.agg ⟨cs⟩)=cs[o]?:=by simp [Wi]
theorem VV (o n cs):Wi (some (true,o,n)) (.agg ⟨cs⟩)=some (.agg ⟨(cs.drop o).take n⟩):=by
 simp only [Wi,Option.some.injEq,Value.agg.injEq]
 apply Array.toList_inj.1
 simp
theorem Wq (t x):pv P e h (.load t x)=pz h (tk P t) (ev e x):=(rfl)
theorem abc (x t):pv P e h (.call ⟨.builtin .len,⟨[x]⟩,⟨[t]⟩⟩)=NB (cP P t) (ea P t) (ev e x):=(rfl)
theorem aad (x t):pv P e h (.call ⟨.builtin .cap,⟨[x]⟩,⟨[t]⟩⟩)=Sj (ea P t) (ev e x):=(rfl)
theorem Uz (a n c):Sj true (.slice a n c)=some (.int .i64 (c:Nat)):=(rfl)
def aak (P:Program)(F:Fi)(o:Option Value)(op:BinOp)(t:TypeId)(x y:Operand)(dd:Option Nat)(s:List Item)(e:dj)(ds:List Deferred)(h:Sh)(_k:Tok (F,op,t,x,y,s,e,ds,h)):Prop:=
 match o with
 | some v=>cj P F s (cB e dd v) ds h ⟨⟩
 | none=>ae7 P (do eqGuard op t x y (ev e x) (ev e y);binOp op t (ev e x) (ev e y)) h fun v=>cj P F s (cB e dd v) ds h ⟨⟩
theorem Wn (op t x y u):cj P F (.ops all (⟨dd,.binOp op t x y u,ty,pos,af,none⟩::r)::s) e ds h ⟨⟩=aak P F (gZ P op t (ev e x) (ev e y)) op t x y dd (.ops all r::s) e ds h ⟨⟩:=by
 simp only [cj,iw,jH,ou,Bool.false_eq_true,if_false,want,if_true,Gy]
 unfold aak
 cases gZ P op t (ev e x) (ev e y)<;>rfl
theorem NU (v op t x y):aak P F (some v) op t x y dd s e ds h ⟨⟩=cj P F s (cB e dd v) ds h ⟨⟩:=(rfl)
def VL (P:Program)(F:Fi)(t:TypeId)(cs:List Value)(dd:Option Nat)(s:List Item)(e:dj)(ds:List Deferred)(h:Sh)(_k:Tok (F,s,e,ds,h)):Prop:=
 OI t cs h fun b h'=>cj P F s (cB e dd (.pointer (some ⟨b,0,none⟩))) ds h' ⟨⟩
def Kw (P:Program)(F:Fi)(o:Option (List Value))(n:Nat)(dd:Option Nat)(s:List Item)(e:dj)(ds:List Deferred)(h:Sh)(_k:Tok (F,s,e,ds,h)):Prop:=
 match o with
 | some cs=>DM cs h fun b h'=>cj P F s (cB e dd (.slice (some ⟨b,0,none⟩) n n)) ds h' ⟨⟩
 | none=>False
theorem V0 (t)(cs:List Value)(N M L R):VL P F t cs dd s e ds ⟨N,M,L,R⟩ ⟨⟩=∀ b T,M b=none ->ce b L ->aH N T ->T b=some t ->cj P F s (cB e dd (.pointer (some ⟨b,0,none⟩))) ds ⟨T,M,(b,cs)::L,R⟩ ⟨⟩:=(rfl)
theorem OC (cs:List Value)(n N M L R):Kw P F (some cs) n dd s e ds ⟨N,M,L,R⟩ ⟨⟩=∀ b,M b=none ->ce b L ->cj P F s (cB e dd (.slice (some ⟨b,0,none⟩) n n)) ds ⟨N,M,(b,cs)::L,R⟩ ⟨⟩:=(rfl)
theorem U1 (t x):cj P F (.ops all (⟨dd,.box t x,ty,pos,af,none⟩::r)::s) e ds h ⟨⟩=VL P F t (ev e x).cells.toList dd (.ops all r::s) e ds h ⟨⟩:=(rfl)
def I9 (P:Program)(F:Fi)(t:TypeId)(o:Option (Bool×Nat×Value))(dd:Option Nat)(s:List Item)(e:dj)(ds:List Deferred)(h:Sh)(_k:Tok (F,s,e,ds,h)):Prop:=
 match o with
 | some (_,_,z)=>VL P F t z.cells.toList dd s e ds h ⟨⟩
 | none=>False
theorem Mw (t):cj P F (.ops all (⟨dd,.alloc t,ty,pos,af,none⟩::r)::s) e ds h ⟨⟩=I9 P F t (tk P t) dd (.ops all r::s) e ds h ⟨⟩:=by
 show ed (tk P t) _=_
 unfold ed I9
 cases tk P t<;>rfl
theorem Ga (t g n z):I9 P F t (some (g,n,z)) dd s e ds h ⟨⟩=VL P F t z.cells.toList dd s e ds h ⟨⟩:=(rfl)
def YP (P:Program)(F:Fi)(o:Option (TypeId×Nat×List Value))(n:Nat)(ps:List (Nat×List Value))(dd:Option Nat)(s:List Item)(e:dj)(ds:List Deferred)(h:Sh)(_k:Tok (F,s,e,ds,h)):Prop:=
 match o with
 | some (_,sz,z)=>n*sz<=16777216/\Kw P F (EM sz z n ps) n dd s e ds h ⟨⟩
 | none=>False
theorem Vu (t n ps):cj P F (.ops all (⟨dd,.buildSlice t n ⟨ps⟩,ty,pos,af,none⟩::r)::s) e ds h ⟨⟩=YP P F (eC P t) n (ll e ps) dd (.ops all r::s) e ds h ⟨⟩:=by
 rw [<- rN]
 show ed (eC P t) _=_
 unfold ed YP
 cases eC P t with
 | none=>rfl
 | some p=>
  obtain ⟨el,sz,z⟩:=p
  simp only [Kw]
  show (_/\ed _ _)=_
  unfold ed
  cases EM sz z n (ps.map fun x=>(x.1,(ev e x.2).cells.toList))<;>rfl
theorem LS (el sz z n ps):YP P F (some (el,sz,z)) n ps dd s e ds h ⟨⟩=(n*sz<=16777216/\Kw P F (EM sz z n ps) n dd s e ds h ⟨⟩):=(rfl)
def nN (sz:Nat):Nat ->List (Nat×List Value) ->Bool
 | _,[]=>true
 | i,(j,cs)::r=>j==i && cs.length==sz && nN sz (i+1) r
def u1:List (Nat×List Value) ->List Value
 | []=>[]
 | (_,cs)::r=>cs++u1 r
theorem E1 (vs:List Value):∀ (pre z post:List Value),z.length=vs.length ->mC (pre++z++post) pre.length vs=pre++vs++post:=by
 induction vs with
 | nil=>intro pre z post hz;cases z<;>simp_all [mC]
 | cons v vs ih=>
  intro pre z post hz
  cases z with
  | nil=>simp at hz
  | cons y z=>
   simp only [mC]
   have h1:(pre++(y::z)++post).set pre.length v=(pre++[v])++z++post:=by simp
   rw [h1]
   have:=ih (pre++[v]) z post (by simpa using hz)
   rw [show (pre++[v]).length=pre.length+1 from by simp] at this
   rw [this];simp
theorem zE {sz n:Nat}{z:List Value}(hz:z.length=sz):∀ (ps:List (Nat×List Value)) (i:Nat) (pre:List Value),nN sz i ps=true ->i+ps.length=n ->pre.length=i*sz ->
 nz ((List.range n).map fun i=>(i*sz,sz)) (pre++(List.range (n - i)).flatMap fun _=>z) ps=some (pre++u1 ps):=by
 intro ps
 induction ps with
 | nil=>intro i pre cq hn hp;simp at hn;subst hn;simp [nz,u1]
 | cons p ps ih=>
  obtain ⟨j,cs⟩:=p
  intro i pre cq hn hp
  simp only [nN,Bool.and_eq_true,beq_iff_eq] at cq
  obtain ⟨⟨rfl,iE⟩,cq⟩:=cq
  simp only [List.length_cons] at hn
  have aN:j<n:=by omega
  simp only [nz,List.getElem?_map,List.getElem?_range aN,Option.map_some]
  have aar:(List.range (n - j)).flatMap (fun _=>z)=z++(List.range (n - (j+1))).flatMap (fun _=>z):=by
   rw [show n - j=(n - (j+1))+1 from by omega,List.range_succ_eq_map,List.flatMap_cons,List.flatMap_map]
  rw [aar,if_pos]
  ·rw [<- hp]
   have:=E1 cs pre z ((List.range (n - (j+1))).flatMap fun _=>z) (by rw [hz,iE])
   rw [<- List.append_assoc,this]
   have:=ih (j+1) (pre++cs) cq (by omega) (by rw [List.length_append,hp,iE,Nat.add_mul];omega)
   rw [this];simp [u1]
  ·refine ⟨iE,?_⟩
   simp only [List.length_append]
   omega
theorem NS {sz n:Nat}{z:List Value}{ps:List (Nat×List Value)}(h1:nN sz 0 ps=true)(h2:ps.length=n)(hz:z.length=sz):EM sz z n ps=some (u1 ps):=by
 have:=zE (n:=n) hz ps 0 [] h1 (by omega) (by simp)
 simpa [EM] using this
def Uw (P:Program)(F:Fi)(o:Option (List (Nat×List Value)))(dd:Option Nat)(s:List Item)(e:dj)(ds:List Deferred)(h:Sh)(_k:Tok (F,s,e,ds,h)):Prop:=
 match o with
 | some L=>cj P F s (cB e dd undef) ds ⟨h.N,h.M,L,h.R⟩ ⟨⟩
 | none=>False
theorem MZ (L N M L0 R):Uw P F (some L) dd s e ds ⟨N,M,L0,R⟩ ⟨⟩=cj P F s (cB e dd undef) ds ⟨N,M,L,R⟩ ⟨⟩:=(rfl)
def IV (P:Program)(F:Fi)(o:Option (Bool×Nat×Value))(x:Value)(vs:List Value)(dd:Option Nat)(s:List Item)(e:dj)(ds:List Deferred)(h:Sh)(_k:Tok (F,s,e,ds,h)):Prop:=
 match o,x with
 | some (_,n,_),.pointer (some ⟨b,i,none⟩)=>(vs.length=n/\vs.all (·.oneCell')=true)/\Uw P F (od h.L b i vs) dd s e ds h ⟨⟩
 | _,_=>False
theorem L7 (t x y):cj P F (.ops all (⟨dd,.store t x y,ty,pos,af,none⟩::r)::s) e ds h ⟨⟩=IV P F (tk P t) (ev e x) (ev e y).cells.toList dd (.ops all r::s) e ds h ⟨⟩:=by
 show ed (tk P t) _=_
 unfold ed zK IV
 cases tk P t with
 | none=>rfl
 | some p=>
  obtain ⟨g,n,z⟩:=p
  simp only []
  generalize ev e x=v
  cases v<;>try rfl
  rename_i a
  cases a with
  | none=>rfl
  | some a=>
   obtain ⟨b,i,sp⟩:=a
   cases sp with
   | some q=>simp
   | none=>
    simp only [true_and]
    unfold Uw
    cases od h.L b i (ev e y).cells.toList<;>rfl
theorem El (g n z b i vs)(N M L R):IV P F (some (g,n,z)) (.pointer (some ⟨b,i,none⟩)) vs dd s e ds ⟨N,M,L,R⟩ ⟨⟩=((vs.length=n/\vs.all (·.oneCell')=true)/\Uw P F (od L b i vs) dd s e ds ⟨N,M,L,R⟩ ⟨⟩):=(rfl)
theorem K8 (b cs l k i vs):od ((b,cs)::l) k i vs=if k=b then (if i+vs.length<=cs.length then some ((b,mC cs i vs)::l) else none) else (od l k i vs).map ((b,cs):: ·):=(rfl)
def dk (P:Program)(F:Fi)(f:FuncId)(args:List Value)(dd:Option Nat)(s:List Item)(e:dj)(ds:List Deferred)(h:Sh)(_k:Tok (F,s,e,ds,h)):Prop:=
 P6 P f args h (fun v h'=>cj P F s (cB e dd v) ds h' ⟨⟩) (fun ch h'=>F.pan ch e ds h')
def rFn (P:Program)(F:Fi)(v:Value)(args:List Value)(dd:Option Nat)(s:List Item)(e:dj)(ds:List Deferred)(h:Sh)(_k:Tok (F,s,e,ds,h)):Prop:=
 match v with
 | .func (.func f) first cap=>dk P F f (first.toList++args++cap.toList) dd s e ds h ⟨⟩
 | _=>False
theorem Sz (f args tys):cj P F (.ops all (⟨dd,.call ⟨.value f,⟨args⟩,tys⟩,ty,pos,af,none⟩::r)::s) e ds h ⟨⟩=rFn P F (ev e f) (args.map (ev e)) dd (.ops all r::s) e ds h ⟨⟩:=by
 simp only [cj,iw,jH,ou,Bool.false_eq_true,if_false,want,if_true,Gy,YV,rFn,dk,iX]
 generalize ev e f=v
 cases v<;>try rfl
theorem PG (f a c args):rFn P F (.func (.func f) ⟨a⟩ ⟨c⟩) args dd s e ds h ⟨⟩=dk P F f (a++args++c) dd s e ds h ⟨⟩:=(rfl)
def pA (P:Program)(F:Fi)(t tx:TypeId)(x y:Value)(dd:Option Nat)(s:List Item)(e:dj)(ds:List Deferred)(h:Sh)(_k:Tok (F,s,e,ds,h)):Prop:=
 KD P t tx x y h fun v h'=>cj P F s (cB e dd v) ds h' ⟨⟩
theorem GX (x y t tx):cj P F (.ops all (⟨dd,.call ⟨.builtin .append,⟨[x,y]⟩,⟨[t,tx]⟩⟩,ty,pos,af,none⟩::r)::s) e ds h ⟨⟩=pA P F t tx (ev e x) (ev e y) dd (.ops all r::s) e ds h ⟨⟩:=(rfl)
theorem Fe (t){N M L R}:cj P F (.ops all (⟨dd,.makeMap t none,ty,pos,af,none⟩::r)::s) e ds ⟨N,M,L,R⟩ ⟨⟩=∀ g,cj P F (.ops all r::s) (cB e dd (.map (some g))) ds ⟨N,M,L,(.map (some g),t,0,[])::R⟩ ⟨⟩:=(rfl)
def aaJ (P:Program)(F:Fi)(K:Option IntKind)(m k x:Value)(dd:Option Nat)(s:List Item)(e:dj)(ds:List Deferred)(h:Sh)(_k:Tok (F,s,e,ds,h)):Prop:=
 Xi K m k x h fun h'=>cj P F s (cB e dd undef) ds h' ⟨⟩
theorem GV (t m k x):cj P F (.ops all (⟨dd,.insert t m k x,ty,pos,af,none⟩::r)::s) e ds h ⟨⟩=aaJ P F (Ja P t) (ev e m) (ev e k) (ev e x) dd (.ops all r::s) e ds h ⟨⟩:=(rfl)
theorem LD (K g n x t' xs){N M L R}:aaJ P F (some K) (.map (some g)) (.int K n) x dd s e ds ⟨N,M,L,(.map (some g),t',0,xs)::R⟩ ⟨⟩=(lq K n xs=true/\cj P F s (cB e dd undef) ds ⟨N,M,L,(.map (some g),t',0,xs++[.int K n,x])::R⟩ ⟨⟩):=by
 simp only [aaJ,Xi,true_and]
def Tw (P:Program)(F:Fi)(K:Option IntKind)(m k:Value)(dd:Option Nat)(s:List Item)(e:dj)(ds:List Deferred)(h:Sh)(_k:Tok (F,s,e,ds,h)):Prop:=
 Jq K m k h fun v=>cj P F s (cB e dd v) ds h ⟨⟩
theorem Ij (t m k):cj P F (.ops all (⟨dd,.lookup t m k false,ty,pos,af,none⟩::r)::s) e ds h ⟨⟩=Tw P F (Ja P t) (ev e m) (ev e k) dd (.ops all r::s) e ds h ⟨⟩:=(rfl)
theorem Hq (K g n t' xs){N M L R}:Tw P F (some K) (.map (some g)) (.int K n) dd s e ds ⟨N,M,L,(.map (some g),t',0,xs)::R⟩ ⟨⟩=iK P F (sS K n xs) dd s e ds ⟨N,M,L,(.map (some g),t',0,xs)::R⟩ ⟨⟩:=by
 simp only [Tw,Jq,true_and,and_self]
 cases sS K n xs<;>rfl
theorem U6 (x y tys):cj P F (.ops all (⟨dd,.call ⟨.builtin .min,⟨[x,y]⟩,tys⟩,ty,pos,af,none⟩::r)::s) e ds h ⟨⟩=iK P F (Fs (ev e x) (ev e y)) dd (.ops all r::s) e ds h ⟨⟩:=by
 show ed (Fs (ev e x) (ev e y)) _=_
 unfold iK
 cases Fs (ev e x) (ev e y)<;>rfl
theorem SJ (k a b):Fs (.int k a) (.int k b)=some (.int k (if b<a then b else a)):=by simp [Fs]
theorem Sa (a t):gk (.call ⟨.builtin .min,a,t⟩)=false:=(rfl)
theorem EK (K n):lq K n []=true:=(rfl)
theorem C5 (K n a v r):lq K n (.int K a::v::r)=(!decide (a=n) && lq K n r):=by simp [lq]
theorem Ha (K n a v r):sS K n (.int K a::v::r)=if a=n then some v else sS K n r:=by simp [sS]
theorem Vx (x y tys):cj P F (.ops all (⟨dd,.call ⟨.builtin .max,⟨[x,y]⟩,tys⟩,ty,pos,af,none⟩::r)::s) e ds h ⟨⟩=iK P F (Fp (ev e x) (ev e y)) dd (.ops all r::s) e ds h ⟨⟩:=by
 show ed (Fp (ev e x) (ev e y)) _=_
 unfold ed iK
 cases Fp (ev e x) (ev e y)<;>rfl
theorem PZ (k a b):Fp (.int k a) (.int k b)=some (.int k (if b>a then b else a)):=by simp [Fp]
theorem OV (a t):gk (.call ⟨.builtin .max,a,t⟩)=false:=(rfl)
def rMk (P:Program)(F:Fi)(o:Option (TypeId×Nat×List Value))(ok:Bool)(l c:Value)(dd:Option Nat)(s:List Item)(e:dj)(ds:List Deferred)(h:Sh)(_k:Tok (F,s,e,ds,h)):Prop:=
 ed o fun (_,_,z)=>ok=true/\xMk l c fun n=>n<=4294967296/\DM ((List.range n).flatMap fun _=>z) h fun b h'=>cj P F s (cB e dd (.slice (some ⟨b,0,none⟩) n n)) ds h' ⟨⟩
theorem YN (t l c):cj P F (.ops all (⟨dd,.makeSlice t l c,ty,pos,af,none⟩::r)::s) e ds h ⟨⟩=rMk P F (eC P t) (kX P t) (ev e l) (ev e c) dd (.ops all r::s) e ds h ⟨⟩:=(rfl)
theorem Sq (el sz z k k')(n:Nat){N M L R}:rMk P F (some (el,sz,z)) true (.int k n) (.int k' n) dd s e ds ⟨N,M,L,R⟩ ⟨⟩=(n<=4294967296/\∀ b,M b=none ->ce b L ->cj P F s (cB e dd (.slice (some ⟨b,0,none⟩) n n)) ds ⟨N,M,(b,(List.range n).flatMap fun _=>z)::L,R⟩ ⟨⟩):=by
 simp only [rMk,ed,xMk,DM,Int.toNat_natCast,true_and,Int.natCast_nonneg]
theorem Uj (t l c):gk (.makeSlice t l c)=false:=(rfl)
theorem Cm (t r):gk (.makeMap t r)=false:=(rfl)
theorem ER (t m k x):gk (.insert t m k x)=false:=(rfl)
theorem DO (t m k c):gk (.lookup t m k c)=false:=(rfl)
def GP (P:Program)(F:Fi)(v:Value)(args:Array Value)(dd:Option Nat)(s:List Item)(e:dj)(ds:List Deferred)(h:Sh)(_k:Tok (F,s,e,ds,h)):Prop:=
 match v with
 | .func fn first captured=>cj P F s (cB e dd undef) ({target:=.fn fn captured,args:=first++args}::ds) h ⟨⟩
 | _=>False
theorem Mv (f args tys):cj P F (.ops all (⟨dd,.defer ⟨.value f,args,tys⟩,ty,pos,af,none⟩::r)::s) e ds h ⟨⟩=GP P F (ev e f) (args.map (ev e)) dd (.ops all r::s) e ds h ⟨⟩:=by
 simp only [cj,iw,jH,ou,Bool.false_eq_true,if_false,want,if_true,Gy,GP]
 generalize ev e f=v
 cases v<;>rfl
theorem DD (fn a c args):GP P F (.func fn a c) args dd s e ds h ⟨⟩=cj P F s (cB e dd undef) ({target:=.fn fn c,args:=a++args}::ds) h ⟨⟩:=(rfl)
theorem MX (x):cj P F (.ops all (⟨dd,.panic x,ty,pos,af,none⟩::r)::s) e ds h ⟨⟩=(Km (ev e x)=true/\F.pan [{v:=ev e x,recovered:=false}] e ds h):=by
 simp only [cj,iw,jH,ou,Bool.false_eq_true,if_false,want,if_true,Gy,iX]
def ES (P:Program)(F:Fi)(b:Code)(s:List Item)(e:dj)(ds:List Deferred)(h:Sh)(_k:Tok (F,b,s,e,ds,h)):Prop:=
 ∃ (I:Nat ->dj ->List Deferred ->Sh ->Prop),(bK h fun h=>∃ m,I m e ds h)/\∀ m e ds h,I m e ds h ->cj P F (.code b:: .lp I m::s) e ds h ⟨⟩
theorem SV (b):cj P F (.code (.loop b)::s) e ds h ⟨⟩=ES P F b s e ds h ⟨⟩:=(rfl)
theorem dB (I m):cj P F (.lp I m::s) e ds h ⟨⟩=bK h fun h=>∃ m',m'<m/\I m' e ds h:=(rfl)
theorem H9 (t a b):FW (.bool t) a b=some (if t=true then a else b):=(rfl)
theorem P1 (a):Sx (.pointer (some a))=some (.pointer (some a)):=(rfl)
theorem G9 (k b i):tL (some k) (.pointer (some ⟨b,i,none⟩))=some (.pointer (some ⟨b,i+k,none⟩)):=by simp [tL,Addr.add_lit]
theorem Mf (t):PW (.bool t)=some (.bool !t):=(rfl)
theorem Pk (k n):RN (.int k n)=some (.int k (k.wrap (0 - n))):=(rfl)
theorem OW (l i):MC (.tuple ⟨l⟩) i=l[i]?:=by simp [MC]
theorem Pf (sl x):NB true sl (.string x)=some (.int .i64 x.size):=(rfl)
theorem V9 (a n c):NB false true (.slice a n c)=some (.int .i64 n):=(rfl)
theorem Im (P:Program)(h:Sh)(a b k n):o5 P h a b (.int k n)=DY (cvT P a b) (.int k n):=(rfl)
theorem NZ (P:Program)(h:Sh)(a b x n c):o5 P h a b (.slice x n c)=if DA P a b=true then Ux h (.slice x n c) else none:=(rfl)
theorem NT (k j n):DY (some k) (.int j n)=some (.int k (k.wrap n)):=(rfl)
theorem Fy (t v):wR true t v=some (.iface t v):=(rfl)
theorem Nx (n z a):pz h (some (false,n,z)) (.pointer (some a))=h.cell a:=(rfl)
theorem LB (n z a):pz h (some (true,n,z)) (.pointer (some a))=(h.cells a 0 n).map fun cs=> .agg cs.toArray:=(rfl)
theorem Pj (sz b i n c k x):No (some sz) (.slice (some ⟨b,i,none⟩) n c) (.int k x)=if 0<=x/\x<n then some (.pointer (some ⟨b,i+x.toNat*sz,none⟩)) else none:=by simp [No,Addr.add_lit]
theorem W0 (x k n):vAt true (.string x) (.int k n)=if 0<=n/\n<x.size then some (.int .u8 (rS x n.toNat).toNat) else none:=(rfl)
theorem NK (op t k a b):gZ P op t (.int k a) (.int k b)=match jl op k a b with | some v=>some v | none=>qW op k a b:=by
 simp only [gZ,Ef,Bp,if_true]
 cases jl op k a b<;>rfl
theorem LX (t k j a b)(hk:¬ k=j)(hb:0<=b):gZ P .shl t (.int k a) (.int j b)=some (.int k (k.wrap (a*2 ^ (min b.toNat k.bits)))):=by
 simp [gZ,Ef,Bp,hk,CJ,hb]
theorem Nl (t k j a b)(hk:¬ k=j)(hb:0<=b):gZ P .shr t (.int k a) (.int j b)=some (.int k (a.fdiv (2 ^ (min b.toNat k.bits)))):=by
 simp [gZ,Ef,Bp,hk,CJ,hb]
theorem TF (k a b):jl .shr k a b=none:=(rfl)
theorem LN (k a b):qW .shr k a b=if 0<=b then some (.int k (a.fdiv (2 ^ (min b.toNat k.bits)))) else none:=(rfl)
theorem Tb (k a b):jl .add k a b=some (.int k (k.wrap (a+b))):=(rfl)
theorem QT (k a b):jl .sub k a b=some (.int k (k.wrap (a - b))):=(rfl)
theorem OY (k a b):jl .mul k a b=some (.int k (k.wrap (a*b))):=(rfl)
theorem Qq (k a b):jl .eql k a b=some (.bool (decide (a=b))):=(rfl)
theorem QI (k a b):jl .neq k a b=some (.bool (!decide (a=b))):=(rfl)
theorem PU (k a b):jl .lss k a b=some (.bool (decide (a<b))):=(rfl)
theorem Re (k a b):jl .leq k a b=some (.bool (decide (a<=b))):=(rfl)
theorem Pc (k a b):jl .gtr k a b=some (.bool (decide (a>b))):=(rfl)
theorem TB (k a b):jl .geq k a b=some (.bool (decide (a>=b))):=(rfl)
theorem Q9 (k a b):jl .quo k a b=none:=(rfl)
theorem Po (k a b):jl .rem k a b=none:=(rfl)
theorem Sn (k a b):jl .and k a b=none:=(rfl)
theorem VK (k a b):jl .or k a b=none:=(rfl)
theorem QK (k a b):jl .xor k a b=none:=(rfl)
theorem LJ (t a b):gZ P .eql t (.string a) (.string b)=some (.bool (decide (a=b))):=(rfl)
theorem MM (t a b):gZ P .neq t (.string a) (.string b)=some (.bool (!decide (a=b))):=(rfl)
theorem LA (t a b):gZ P .add t (.string a) (.string b)=if a.size+b.size<=9223372036854775807 then some (.string (a++b)) else none:=(rfl)
theorem MW (t a b):gZ P .eql t (.bool a) (.bool b)=if qv P t=true then some (.bool (a==b)) else none:=(rfl)
theorem Mq (t a b):gZ P .neq t (.bool a) (.bool b)=if qv P t=true then some (.bool (!(a==b))) else none:=(rfl)
theorem Nf (l):(Value.agg ⟨l⟩).cells.toList=l:=(rfl)
theorem Nb (k n):(Value.int k n).cells.toList=[.int k n]:=(rfl)
theorem Nz (x):(Value.string x).cells.toList=[.string x]:=(rfl)
theorem HK (x):(Value.bool x).cells.toList=[.bool x]:=(rfl)
theorem Q5 (a l c):(Value.slice a l c).cells.toList=[.slice a l c]:=(rfl)
theorem ME (a):(Value.pointer a).cells.toList=[.pointer a]:=(rfl)
theorem ZZ (t):ev e (.tmp t)=e t:=(rfl)
theorem PR (v):ev e (.const v)=v:=(rfl)
theorem VF (f):ev e (.func f)=.func (.func f) #[] #[]:=(rfl)
theorem MT (g):ev e (.global g)=.pointer (some ⟨g,0,none⟩):=(rfl)
theorem Fc:ll e []=[]:=(rfl)
theorem C7 (i x r):ll e ((i,x)::r)=(i,(ev e x).cells.toList)::ll e r:=(rfl)
theorem Mu (v):cB e none v=e:=(rfl)
theorem MY (ops:List Oper):want ops e none=true:=(rfl)
def isB (v:Value)(b:Bool):Bool:=match v with | .bool c=>c==b | _=>false
theorem PC (c b):isB (.bool c) b=(c==b):=(rfl)
theorem Mi (b):isB undef b=false:=(rfl)
theorem Wy (c:Prop)[Decidable c](x y:Value)(b):isB (if c then x else y) b=if c then isB x b else isB y b:=by split<;>rfl
theorem NX (ops:List Oper)(j b):want ops e (some (j,b))=match (ops[j]?).bind (·.dst) with
 | some t=>isB (e t) b
 | none=>false:=(rfl)
end
theorem UR (N M L R a):Sh.cell ⟨N,M,L,R⟩ a=match aQ M a with | some v=>some v | none=>(dK L a).getD none:=(rfl)
theorem HZ (h:Sh)(a i):h.cells a i 0=some []:=(rfl)
theorem rx (h:Sh)(b o i n):h.cells ⟨b,o,none⟩ i (n+1)=o7 (h.cell ⟨b,o+i,none⟩) (h.cells ⟨b,o,none⟩ (i+1) n):=by simp [Sh.cells,Addr.add_lit]
theorem Ir (v l):o7 (some v) (some l)=some (v::l):=(rfl)
theorem Hm (b cs l k o):dK ((b,cs)::l) ⟨k,o,none⟩=if k=b then some cs[o]? else dK l ⟨k,o,none⟩:=(rfl)
def bh (M M':aS):Prop:=∀ b cs,M b=some cs ->M' b=some cs
theorem bh.rfl' {M:aS}:bh M M:=fun _ _ h=>h
theorem bh.trans {M M' M'':aS}(h:bh M M')(h':bh M' M''):bh M M'':=fun b cs hb=>h' b cs (h b cs hb)
theorem bh.add {M:aS}{b cs}(h:M b=none):bh M (M.add b cs):=by
 intro k x hk
 unfold aS.add
 rw [if_neg]
 ·exact hk
 ·rintro rfl;rw [h] at hk;cases hk
def keys (L:List (Nat×List Value)):List Nat:=L.map (·.1)
def aJ (M:aS):List (Nat×List Value) ->Prop
 | []=>True
 | (b,_)::l=>M b=none/\aJ M l
def jN:List (Nat×List Value) ->Prop
 | []=>True
 | (b,_)::l=>ce b l/\jN l
theorem i6 {M:aS}:∀ {L:List (Nat×List Value)},(∀ b∈keys L,M b=none) ->aJ M L
 | [],_=>trivial
 | (b,_)::l,h=>⟨h b (by simp [keys]),i6 fun k hk=>h k (by simp only [keys,List.map_cons,List.mem_cons];exact .inr hk)⟩
theorem A3:∀ {L:List (Nat×List Value)},(keys L).Nodup ->jN L
 | [],_=>trivial
 | (b,_)::l,h=>by
  simp only [keys,List.map_cons,List.nodup_cons] at h
  exact ⟨iA h.1,A3 h.2⟩
theorem BB {M:aS}:∀ {L:List (Nat×List Value)},aJ M L ->∀ b∈keys L,M b=none
 | [],_,b,hb=>by simp [keys] at hb
 | (k,_)::l,h,b,hb=>by
  simp only [keys,List.map_cons,List.mem_cons] at hb
  rcases hb with rfl | hb
  ·exact h.1
  ·exact BB h.2 b hb
abbrev LL:=List (Nat×List Value)
abbrev RR:=List (Value×TypeId×Nat×List Value)
def TZ (w:World)(U:List Nat)(T:Tm)(M:aS)(L:LL)(R:RR):Prop:=∃ bs,U=keys L++bs.filterMap id/\Hp ⟨w,M,U⟩ ⟨T,M,L,R⟩ w bs
def zB (w:World)(U:List Nat)(T:Tm)(M:aS)(ks:List Nat)(n:Nat)(M':aS)(L':LL)(R':RR)(w':World):Prop:=
 Is ⟨w,M,U⟩ ⟨T,M',L',R'⟩ w'/\keys L'=ks/\R'.length=n
abbrev ez:=Value ->aS ->LL ->RR ->Prop
abbrev lX:=List PanicEntry ->aS ->LL ->RR ->Prop
def aO:lX:=fun _ _ _ _=>False
def Ot (U:List Nat)(T:Tm)(M:aS)(ks:List Nat)(n:Nat)(post:ez)(pan:lX)(w:World):Ending ->World ->Prop
 | .returned v,w'=>∃ M' L' R',zB w U T M ks n M' L' R' w'/\post v M' L' R'
 | .panicked ch,w'=>∃ M' L' R',zB w U T M ks n M' L' R' w'/\pan ch M' L' R'
 | .outgrown,_=>False
def cw (P:Program)(f:FuncId)(args:List Value)(T:Tm)(M:aS)(L:LL)(R:RR)(post:ez)(pan:lX):Prop:=
 de P f=true/\∀ w U,TZ w U T M L R ->Calls P f args.toArray w (Ot U T M (keys L) R.length post pan w)
def Ct (P:Program)(f:FuncId)(args:List Value)(M:aS)(L:LL)(R:RR)(post:ez)(pan:lX):Prop:=∀ T,cw P f args T M L R post pan
def CtD (P:Program)(f:FuncId)(args:List Value)(T:Tm)(M:aS)(L:LL)(R:RR)(post:ez)(pan:lX):Prop:=
 de P f=true/\∀ u w U,TZ w U T M L R ->CallsD P f args.toArray u w fun e u' w'=>u'=u/\Ot U T M (keys L) R.length post pan w e w'
theorem zB.ext {w U T M ks n M' L' R' w'}(h:zB w U T M ks n M' L' R' w'):bh M M':=by
 obtain ⟨⟨_,hi⟩,_⟩:=h
 exact fun b cs hb=>hi.le b cs hb
theorem cw.mono {P f args T M L R post pan}{post':ez}{pan':lX}(h:cw P f args T M L R post pan)(hp:∀ v M' L' R',bh M M' ->keys L'=keys L ->R'.length=R.length ->post v M' L' R' ->post' v M' L' R')
 (hq:∀ ch M' L' R',bh M M' ->keys L'=keys L ->R'.length=R.length ->pan ch M' L' R' ->pan' ch M' L' R'):cw P f args T M L R post' pan':=by
 refine ⟨h.1,fun w U hw=>Calls.mono (h.2 w U hw) ?_⟩
 intro e w' hr
 cases e with
 | returned v=>obtain ⟨M',L',R',lV,TS⟩:=hr;exact ⟨M',L',R',lV,hp v M' L' R' lV.ext lV.2.1 lV.2.2 TS⟩
 | panicked ch=>obtain ⟨M',L',R',lV,TS⟩:=hr;exact ⟨M',L',R',lV,hq ch M' L' R' lV.ext lV.2.1 lV.2.2 TS⟩
 | outgrown=>exact hr.elim
theorem Pa {α β:Type}{A B C:List α}{bs:List β}(h:(A++B++C).length=bs.length):∃ b1 b2 b3,bs=b1++b2++b3/\b1.length=A.length/\b2.length=B.length/\b3.length=C.length:=by
 simp only [List.length_append] at h
 refine ⟨bs.take A.length,(bs.drop A.length).take B.length,(bs.drop A.length).drop B.length,?_,?_,?_,?_⟩
 ·rw [List.append_assoc,List.take_append_drop,List.take_append_drop]
 ·rw [List.length_take];omega
 ·rw [List.length_take,List.length_drop];omega
 ·rw [List.length_drop,List.length_drop];omega
theorem Hp.enter {c N M L1 Lp L2 R1 Rp R2 w b1 bp b2}(hi:Hp c ⟨N,M,L1++Lp++L2,R1++Rp++R2⟩ w (b1++bp++b2))(h1:b1.length=R1.length)(hp:bp.length=Rp.length):
 Hp ⟨w,M,keys Lp++bp.filterMap id⟩ ⟨N,M,Lp,Rp⟩ w bp:=by
 have yK:∀ b,b∈keys Lp++bp.filterMap id ->b∈(L1++Lp++L2).map (·.1)++(b1++bp++b2).filterMap id:=by
  intro b hb
  simp only [keys,List.map_append,List.filterMap_append,List.mem_append] at hb ⊢
  rcases hb with hb | hb
  ·exact .inl (.inl (.inr hb))
  ·exact .inr (.inl (.inr hb))
 exact
 {typ:=fun b t hu=>⟨(hi.typ b t hu).1,fun hb=>(hi.typ b t hu).2 (by simp only [List.map_append,List.mem_append];exact .inl (.inr hb))⟩
  holds:=hi.holds
  blk:=fun b cs hb=>hi.blk b cs (by simp only [List.mem_append];exact .inl (.inr hb))
  rows:=⟨hp.symm,fun i v e sz xs o h2 h3=>hi.rows.2 (R1.length+i) v e sz xs o
   (by
    have aN:=(List.getElem?_eq_some_iff.1 h2).1
    show (R1++Rp++R2)[R1.length+i]?=_
    rw [List.append_assoc,List.getElem?_append_right (by omega),List.getElem?_append_left (by show _<Rp.length;simp only at aN;omega)]
    rw [<- h2];congr 1;omega)
   (by
    have aN:=(List.getElem?_eq_some_iff.1 h3).1
    rw [List.append_assoc,List.getElem?_append_right (by omega),List.getElem?_append_left (by omega)]
    rw [<- h3];congr 1;omega)⟩
  nodup:=by
   have:=hi.nodup
   simp only [List.map_append,List.filterMap_append] at this
   rw [List.nodup_append] at this ⊢
   obtain ⟨n1,n2,n3⟩:=this
   refine ⟨(List.nodup_append.1 (List.nodup_append.1 n1).1).2.1,(List.nodup_append.1 (List.nodup_append.1 n2).1).2.1,?_⟩
   intro a ha b hb
   exact n3 a (by simp only [List.mem_append];exact .inl (.inr ha)) b (by simp only [List.mem_append];exact .inl (.inr hb))
  apart:=fun b hb=>⟨(hi.apart b (yK b hb)).1,.inl hb⟩
  os:=rfl
  tape:=rfl
  output:=rfl
  size:=Nat.le_refl _
  old:=fun _ _ _=>rfl
  mem:=fun _ _ _=>rfl
  le:=fun _ _ h=>h}
theorem Hp.frameN {c N M L1 Lp L2 R1 Rp R2 w b1 bp b2 M' Lp' Rp' bp' w'}(hi:Hp c ⟨N,M,L1++Lp++L2,R1++Rp++R2⟩ w (b1++bp++b2))(h1:b1.length=R1.length)(hp:bp.length=Rp.length)(_h2:b2.length=R2.length)
 (hc:Hp ⟨w,M,keys Lp++bp.filterMap id⟩ ⟨N,M',Lp',Rp'⟩ w' bp') (hk:keys Lp'=keys Lp):
 Hp c ⟨N,M',L1++Lp'++L2,R1++Rp'++R2⟩ w' (b1++bp'++b2):=by
 have acV:bp'.length=Rp'.length:=hc.rows.1.symm
 have Dp:Lp'.map (·.1)=Lp.map (·.1):=hk
 have lH:=hi.nodup
 simp only [List.map_append,List.filterMap_append] at lH
 have Ca:=List.nodup_append.1 lH
 have aee:=List.nodup_append.1 Ca.1
 have ag5:=List.nodup_append.1 aee.1
 have Vv:=List.nodup_append.1 Ca.2.1
 have aeu:=List.nodup_append.1 Vv.1
 have lt:∀ b,b∈(L1++Lp++L2).map (·.1)++(b1++bp++b2).filterMap id ->b<w.heap.size:=fun b hb=>hi.own_lt hb
 have oth:∀ b,b<w.heap.size ->b∉keys Lp++bp.filterMap id ->w'.heap[b]?=w.heap[b]?:=hc.old
 -- the four groups that are not lent
 have apL1:∀ b,b∈L1.map (·.1) ->b∉keys Lp++bp.filterMap id:=by
  intro b hb hn
  simp only [keys,List.mem_append] at hn
  rcases hn with hn | hn
  ·exact ag5.2.2 b hb b hn rfl
  ·exact Ca.2.2 b (by simp only [List.mem_append];exact .inl (.inl hb)) b (by simp only [List.mem_append];exact .inl (.inr hn)) rfl
 have apL2:∀ b,b∈L2.map (·.1) ->b∉keys Lp++bp.filterMap id:=by
  intro b hb hn
  simp only [keys,List.mem_append] at hn
  rcases hn with hn | hn
  ·exact aee.2.2 b (by simp only [List.mem_append];exact .inr hn) b hb rfl
  ·exact Ca.2.2 b (by simp only [List.mem_append];exact .inr hb) b (by simp only [List.mem_append];exact .inl (.inr hn)) rfl
 have apB1:∀ b,b∈b1.filterMap id ->b∉keys Lp++bp.filterMap id:=by
  intro b hb hn
  simp only [keys,List.mem_append] at hn
  rcases hn with hn | hn
  ·exact Ca.2.2 b (by simp only [List.mem_append];exact .inl (.inr hn)) b (by simp only [List.mem_append];exact .inl (.inl hb)) rfl
  ·exact aeu.2.2 b hb b hn rfl
 have apB2:∀ b,b∈b2.filterMap id ->b∉keys Lp++bp.filterMap id:=by
  intro b hb hn
  simp only [keys,List.mem_append] at hn
  rcases hn with hn | hn
  ·exact Ca.2.2 b (by simp only [List.mem_append];exact .inl (.inr hn)) b (by simp only [List.mem_append];exact .inr hb) rfl
  ·exact Vv.2.2 b (by simp only [List.mem_append];exact .inr hn) b hb rfl
 have inL1:∀ b,b∈L1.map (·.1) ->b∈(L1++Lp++L2).map (·.1)++(b1++bp++b2).filterMap id:=fun b hb=>by
  simp only [List.map_append,List.mem_append];exact .inl (.inl (.inl hb))
 have inL2:∀ b,b∈L2.map (·.1) ->b∈(L1++Lp++L2).map (·.1)++(b1++bp++b2).filterMap id:=fun b hb=>by
  simp only [List.map_append,List.mem_append];exact .inl (.inr hb)
 have inB1:∀ b,b∈b1.filterMap id ->b∈(L1++Lp++L2).map (·.1)++(b1++bp++b2).filterMap id:=fun b hb=>by
  simp only [List.filterMap_append,List.mem_append];exact .inr (.inl (.inl hb))
 have inB2:∀ b,b∈b2.filterMap id ->b∈(L1++Lp++L2).map (·.1)++(b1++bp++b2).filterMap id:=fun b hb=>by
  simp only [List.filterMap_append,List.mem_append];exact .inr (.inr hb)
 have inU:∀ b,b∈keys Lp++bp.filterMap id ->b∈(L1++Lp++L2).map (·.1)++(b1++bp++b2).filterMap id:=fun b hb=>by
  simp only [keys,List.mem_append] at hb
  simp only [List.map_append,List.filterMap_append,List.mem_append]
  rcases hb with hb | hb
  ·exact .inl (.inl (.inr hb))
  ·exact .inr (.inl (.inr hb))
 -- a block of the callee's is lent,or new
 have own':∀ b,b∈keys Lp'++bp'.filterMap id ->M' b=none/\(b∈keys Lp++bp.filterMap id\/w.heap.size<=b):=fun b hb=>hc.apart b hb
 have keepM:∀ b,b∈(L1++Lp++L2).map (·.1)++(b1++bp++b2).filterMap id ->b∉keys Lp++bp.filterMap id ->M' b=none:=fun b hb hn=>
  (hc.mem b (lt b hb) hn).trans (hi.apart b hb).1
 have far:∀ a,a∈(L1++Lp++L2).map (·.1)++(b1++bp++b2).filterMap id ->a∉keys Lp++bp.filterMap id ->∀ b,b∈keys Lp'++bp'.filterMap id ->a≠b:=by
  rintro a ha hn b hb rfl
  rcases (own' a hb).2 with h | h
  ·exact hn h
  ·have:=lt a ha;omega
 exact
 {typ:=fun b t hu=>by
   obtain ⟨aN,Av⟩:=hi.typ b t hu
   refine ⟨Nat.lt_of_lt_of_le aN hc.size,fun hb=> ?_⟩
   have hb:b∈(L1++Lp'++L2).map (·.1):=hb
   have keep:b∉keys Lp++bp.filterMap id ->(∃ cs f,w.heap[b]?=some (.cells cs t f)) ->∃ cs f,w'.heap[b]?=some (.cells cs t f):=by
    rintro hn ⟨cs,f,h⟩
    exact ⟨cs,f,by rw [oth b (fh h) hn];exact h⟩
   simp only [List.map_append,List.mem_append] at hb Av
   rcases hb with (hb | hb) | hb
   ·exact keep (apL1 b hb) (Av (.inl (.inl hb)))
   ·exact (hc.typ b t hu).2 hb
   ·exact keep (apL2 b hb) (Av (.inr hb))
  holds:=hc.holds
  blk:=fun b cs hb=>by
   have keep:b∉keys Lp++bp.filterMap id ->Ua w b cs ->Ua w' b cs:=by
    intro hn ey
    have hl:=ey.lt
    obtain ⟨t,ht⟩:=ey
    exact ⟨t,by rw [oth b hl hn];exact ht⟩
   rcases qM hb with hb | hb
   ·rcases qM hb with hb | hb
    ·exact keep (apL1 b (List.mem_map.2 ⟨_,hb,rfl⟩)) (hi.blk b cs (by simp [hb]))
    ·exact hc.blk b cs hb
   ·exact keep (apL2 b (List.mem_map.2 ⟨_,hb,rfl⟩)) (hi.blk b cs (by simp [hb]))
  rows:=by
   refine ⟨by simp only [List.length_append,h1,acV,_h2],?_⟩
   intro i v e sz xs o h3 h4
   have h3:(R1++Rp'++R2)[i]?=some (v,e,sz,xs):=h3
   have keep:∀ (j:Nat),(R1++Rp++R2)[j]?=some (v,e,sz,xs) ->(b1++bp++b2)[j]?=some o ->(∀ g,o=some g ->g∉keys Lp++bp.filterMap id) ->zg w' v e sz xs o:=by
    intro j Ok hj2 hn
    refine (hi.rows.2 j v e sz xs o Ok hj2).keep fun g hg=> ?_
    subst hg
    exact oth g (lt g (vZ (.inr (List.mem_filterMap.2 ⟨some g,List.mem_of_getElem? hj2,rfl⟩)))) (hn g rfl)
   rw [List.append_assoc] at h3 h4
   by_cases Oo:i<R1.length
   ·rw [List.getElem?_append_left Oo] at h3
    rw [List.getElem?_append_left (by omega)] at h4
    refine keep i (by rw [List.append_assoc,List.getElem?_append_left Oo];exact h3) (by rw [List.append_assoc,List.getElem?_append_left (by omega)];exact h4) ?_
    rintro g rfl
    exact apB1 g (List.mem_filterMap.2 ⟨some g,List.mem_of_getElem? h4,rfl⟩)
   ·rw [List.getElem?_append_right (by omega)] at h3 h4
    rw [h1] at h4
    by_cases jQ:i - R1.length<Rp'.length
    ·rw [List.getElem?_append_left jQ] at h3
     rw [List.getElem?_append_left (by omega)] at h4
     exact hc.rows.2 _ v e sz xs o h3 h4
    ·rw [List.getElem?_append_right (by omega)] at h3 h4
     rw [acV] at h4
     refine keep (R1.length+(Rp.length+(i - R1.length - Rp'.length))) ?_ ?_ ?_
     ·rw [List.append_assoc,List.getElem?_append_right (by omega),List.getElem?_append_right (by omega),<- h3]
      congr 1;omega
     ·rw [List.append_assoc,List.getElem?_append_right (by omega),List.getElem?_append_right (by omega),<- h4]
      congr 1;omega
     ·rintro g rfl
      exact apB2 g (List.mem_filterMap.2 ⟨some g,List.mem_of_getElem? h4,rfl⟩)
  nodup:=by
   show ((L1++Lp'++L2).map (·.1)++(b1++bp'++b2).filterMap id).Nodup
   simp only [List.map_append,List.filterMap_append,Dp]
   have Tx:=List.nodup_append.1 hc.nodup
   simp only [Dp] at Tx
   rw [List.nodup_append]
   refine ⟨Ca.1,?_,?_⟩
   ·rw [List.nodup_append,List.nodup_append]
    refine ⟨⟨aeu.1,Tx.2.1,?_⟩,Vv.2.1,?_⟩
    ·intro a ha b hb
     exact far a (inB1 a ha) (apB1 a ha) b (vZ (.inr hb))
    ·intro a ha b hb
     rcases qM ha with ha | ha
     ·exact Vv.2.2 a (by simp [ha]) b hb
     ·exact Ne.symm (far b (inB2 b hb) (apB2 b hb) a (vZ (.inr ha)))
   ·intro a ha b hb
    simp only [List.mem_append] at ha hb
    rcases hb with (hb | hb) | hb
    ·exact Ca.2.2 a (by simp only [List.mem_append];exact ha) b (by simp only [List.mem_append];exact .inl (.inl hb))
    ·rcases ha with (ha | ha) | ha
     ·exact far a (inL1 a ha) (apL1 a ha) b (vZ (.inr hb))
     ·exact Tx.2.2 a ha b hb
     ·exact far a (inL2 a ha) (apL2 a ha) b (vZ (.inr hb))
    ·exact Ca.2.2 a (by simp only [List.mem_append];exact ha) b (by simp only [List.mem_append];exact .inr hb)
  apart:=fun b hb=>by
   have hb:b∈(L1++Lp'++L2).map (·.1)++(b1++bp'++b2).filterMap id:=hb
   simp only [List.map_append,List.filterMap_append,List.mem_append] at hb
   have lent:b∈keys Lp'++bp'.filterMap id ->M' b=none/\(b∈c.U\/c.w0.heap.size<=b):=fun hb=>by
    refine ⟨(own' b hb).1,?_⟩
    rcases (own' b hb).2 with h | h
    ·exact (hi.apart b (inU b h)).2
    ·exact .inr (Nat.le_trans hi.size h)
   rcases hb with ((hb | hb) | hb) | ((hb | hb) | hb)
   ·exact ⟨keepM b (inL1 b hb) (apL1 b hb),(hi.apart b (inL1 b hb)).2⟩
   ·exact lent (vZ (.inl hb))
   ·exact ⟨keepM b (inL2 b hb) (apL2 b hb),(hi.apart b (inL2 b hb)).2⟩
   ·exact ⟨keepM b (inB1 b hb) (apB1 b hb),(hi.apart b (inB1 b hb)).2⟩
   ·exact lent (vZ (.inr hb))
   ·exact ⟨keepM b (inB2 b hb) (apB2 b hb),(hi.apart b (inB2 b hb)).2⟩
  os:=hc.os.trans hi.os
  tape:=hc.tape.trans hi.tape
  output:=hc.output.trans hi.output
  size:=Nat.le_trans hi.size hc.size
  old:=fun b hb hu=>by
   rw [oth b (Nat.lt_of_lt_of_le hb hi.size) ?_]
   ·exact hi.old b hb hu
   ·intro hn
    rcases (hi.apart b (inU b hn)).2 with h1 | h1
    ·exact hu h1
    ·omega
  mem:=fun b hb hu=>by
   refine (hc.mem b (Nat.lt_of_lt_of_le hb hi.size) ?_).trans (hi.mem b hb hu)
   intro hn
   rcases (hi.apart b (inU b hn)).2 with h1 | h1
   ·exact hu h1
   ·omega
  le:=fun b x hx=>hc.le b x (hi.le b x hx)}
theorem Hp.frame {c N M L1 Lp L2 R1 Rp R2 w b1 bp b2 M' Lp' Rp' bp' w'}(hi:Hp c ⟨N,M,L1++Lp++L2,R1++Rp++R2⟩ w (b1++bp++b2))(h1:b1.length=R1.length)(hp:bp.length=Rp.length)(h2:b2.length=R2.length)
 (hc:Hp ⟨w,M,keys Lp++bp.filterMap id⟩ ⟨N,M',Lp',Rp'⟩ w' bp') (hk:keys Lp'=keys Lp) (_hR:Rp'.length=Rp.length):
 Hp c ⟨N,M',L1++Lp'++L2,R1++Rp'++R2⟩ w' (b1++bp'++b2):=hi.frameN h1 hp h2 hc hk
def HV (P:Program)(f:FuncId)(args:List Value)(T:Tm)(M:aS)(L:LL)(R:RR)(n:Nat)(post:ez)(pan:lX):Prop:=
 de P f=true/\∀ w U,TZ w U T M L R ->Calls P f args.toArray w (Ot U T M (keys L) n post pan w)
section
variable {P:Program} {F:Fi} {s:List Item} {e:dj} {ds:List Deferred} {dd:Option Nat} {N:Tm} {M:aS}
theorem fH {f:FuncId}{args:List Value}(L1 Lp L2:LL)(R1 Rp R2:RR){post:ez}{pan:lX}(hc:cw P f args N M Lp Rp post pan)
 (hn:∀ v M' L' R',bh M M' ->keys L'=keys Lp ->R'.length=Rp.length ->aJ M' (L1++L'++L2) ->post v M' L' R' ->cj P F s (cB e dd v) ds ⟨N,M',L1++L'++L2,R1++R'++R2⟩ ⟨⟩)
 (hp:∀ ch M' L' R',bh M M' ->keys L'=keys Lp ->R'.length=Rp.length ->aJ M' (L1++L'++L2) ->pan ch M' L' R' ->F.pan ch e ds ⟨N,M',L1++L'++L2,R1++R'++R2⟩):
 dk P F f args dd s e ds ⟨N,M,L1++Lp++L2,R1++Rp++R2⟩ ⟨⟩:=by
 refine ⟨hc.1,fun c w hw=> ?_⟩
 obtain ⟨bs,hi⟩:=hw
 obtain ⟨b1,bp,b2,rfl,h1,oF,h2⟩:=Pa hi.rows.1
 refine Calls.mono (hc.2 w _ ⟨bp,rfl,hi.enter h1 oF⟩) ?_
 intro en w' hr
 have fr:∀ {M' L' R'},zB w (keys Lp++bp.filterMap id) N M (keys Lp) Rp.length M' L' R' w' ->∃ bs',Hp c ⟨N,M',L1++L'++L2,R1++R'++R2⟩ w' bs':=by
  intro M' L' R' hP
  obtain ⟨⟨bp',C9⟩,hk,hR⟩:=hP
  exact ⟨_,hi.frame h1 oF h2 C9 hk hR⟩
 cases en with
 | returned v=>
  obtain ⟨M',L',R',hP,hq⟩:=hr
  obtain ⟨bs',p4⟩:=fr hP
  refine ⟨_,⟨bs',p4⟩,hn v M' L' R' hP.ext hP.2.1 hP.2.2 (i6 fun b hb=>(p4.apart b (vZ (.inl hb))).1) hq⟩
 | panicked ch=>
  obtain ⟨M',L',R',hP,hq⟩:=hr
  obtain ⟨bs',p4⟩:=fr hP
  refine ⟨_,⟨bs',p4⟩,hp ch M' L' R' hP.ext hP.2.1 hP.2.2 (i6 fun b hb=>(p4.apart b (vZ (.inl hb))).1) hq⟩
 | outgrown=>exact hr.elim
theorem K6 {f:FuncId}{args:List Value}{n:Nat}(L1 Lp L2:LL)(R1 Rp R2:RR){post:ez}{pan:lX}(hc:HV P f args N M Lp Rp n post pan)
 (hn:∀ v M' L' R',bh M M' ->keys L'=keys Lp ->R'.length=n ->aJ M' (L1++L'++L2) ->post v M' L' R' ->cj P F s (cB e dd v) ds ⟨N,M',L1++L'++L2,R1++R'++R2⟩ ⟨⟩)
 (hp:∀ ch M' L' R',bh M M' ->keys L'=keys Lp ->R'.length=n ->aJ M' (L1++L'++L2) ->pan ch M' L' R' ->F.pan ch e ds ⟨N,M',L1++L'++L2,R1++R'++R2⟩):
 dk P F f args dd s e ds ⟨N,M,L1++Lp++L2,R1++Rp++R2⟩ ⟨⟩:=by
 refine ⟨hc.1,fun c w hw=> ?_⟩
 obtain ⟨bs,hi⟩:=hw
 obtain ⟨b1,bp,b2,rfl,h1,oF,h2⟩:=Pa hi.rows.1
 refine Calls.mono (hc.2 w _ ⟨bp,rfl,hi.enter h1 oF⟩) ?_
 intro en w' hr
 have fr:∀ {M' L' R'},zB w (keys Lp++bp.filterMap id) N M (keys Lp) n M' L' R' w' ->∃ bs',Hp c ⟨N,M',L1++L'++L2,R1++R'++R2⟩ w' bs':=by
  intro M' L' R' hP
  obtain ⟨⟨bp',C9⟩,hk,_⟩:=hP
  exact ⟨_,hi.frameN h1 oF h2 C9 hk⟩
 cases en with
 | returned v=>
  obtain ⟨M',L',R',hP,hq⟩:=hr
  obtain ⟨bs',p4⟩:=fr hP
  refine ⟨_,⟨bs',p4⟩,hn v M' L' R' hP.ext hP.2.1 hP.2.2 (i6 fun b hb=>(p4.apart b (vZ (.inl hb))).1) hq⟩
 | panicked ch=>
  obtain ⟨M',L',R',hP,hq⟩:=hr
  obtain ⟨bs',p4⟩:=fr hP
  refine ⟨_,⟨bs',p4⟩,hp ch M' L' R' hP.ext hP.2.1 hP.2.2 (i6 fun b hb=>(p4.apart b (vZ (.inl hb))).1) hq⟩
 | outgrown=>exact hr.elim
theorem Ik {f:FuncId}{args:List Value}{L:LL}{R:RR}{post:ez}{pan:lX}(hc:HV P f args N M [] [] 1 post pan)
 (hn:∀ v M' row,bh M M' ->aJ M' L ->(∀ g n k,row.1=.slice (some ⟨g,0,none⟩) n k ->N g=none) ->post v M' [] [row] ->cj P F s (cB e dd v) ds ⟨N,M',L,row::R⟩ ⟨⟩)
 (hp:∀ ch M' row,bh M M' ->pan ch M' [] [row] ->F.pan ch e ds ⟨N,M',L,row::R⟩):dk P F f args dd s e ds ⟨N,M,L,R⟩ ⟨⟩:=by
 have nil:∀ {L':LL},keys L'=keys [] ->L'=[]:=fun h=>by simpa [keys] using h
 have one:∀ {R':RR},R'.length=1 ->∃ r,R'=[r]:=fun {R'} h=>by
  match R',h with
  | [r],_=>exact ⟨r,rfl⟩
 refine ⟨hc.1,fun c w hw=> ?_⟩
 obtain ⟨bs,hi⟩:=hw
 refine Calls.mono (hc.2 w _ ⟨[],rfl,Hp.enter (L1:=[]) (L2:=L) (R1:=[]) (R2:=R) (Lp:=[]) (Rp:=[]) (b1:=[]) (bp:=[]) (b2:=bs) hi rfl rfl⟩) ?_
 intro en w' hr
 have fr:∀ {M' L' R'},zB w (keys []++([]:List (Option Nat)).filterMap id) N M (keys []) 1 M' L' R' w' ->∃ row bs',L'=[]/\R'=[row]/\Hp c ⟨N,M',L,row::R⟩ w' bs'/\∀ g n k,row.1=.slice (some ⟨g,0,none⟩) n k ->N g=none:=by
  intro M' L' R' hP
  obtain ⟨⟨bp',C9⟩,hk,hR⟩:=hP
  obtain rfl:=nil hk
  obtain ⟨row,rfl⟩:=one hR
  refine ⟨row,_,rfl,rfl,Hp.frameN (L1:=[]) (L2:=L) (R1:=[]) (R2:=R) (Lp:=[]) (Rp:=[]) (b1:=[]) (bp:=[]) (b2:=bs) hi rfl rfl hi.rows.1.symm C9 hk,?_⟩
  intro g n k hv
  obtain ⟨v,el,sz,xs⟩:=row
  simp only at hv
  subst hv
  obtain ⟨bw,bP⟩:=C9.rows
  cases bp' with
  | nil=>simp at bw
  | cons o bp'=>
   have hr:=bP 0 _ el sz xs o rfl rfl
   rcases hr with ⟨h,_⟩ | ⟨g',n',cap,junk,h,_,_,_,_,ho⟩ | ⟨_,_,_,_,h,_⟩ | ⟨_,_,_,_,h,_⟩
   ·cases h
   ·cases h
    subst ho
    have:=(C9.apart g (by simp)).2
    rcases this with h | h
    ·simp [keys] at h
    ·cases hN:N g with
     | none=>rfl
     | some u=>
      have:=(hi.typ g u hN).1
      exact absurd h (by show ¬ w.heap.size<=g;omega)
   ·cases h
   ·cases h
 cases en with
 | returned v=>
  obtain ⟨M',L',R',hP,hq⟩:=hr
  obtain ⟨row,bs',rfl,rfl,p4,hN⟩:=fr hP
  exact ⟨_,⟨bs',p4⟩,hn v M' row hP.ext (i6 fun b hb=>(p4.apart b (vZ (.inl hb))).1) hN hq⟩
 | panicked ch=>
  obtain ⟨M',L',R',hP,hq⟩:=hr
  obtain ⟨row,bs',rfl,rfl,p4,hN⟩:=fr hP
  exact ⟨_,⟨bs',p4⟩,hp ch M' row hP.ext hq⟩
 | outgrown=>exact hr.elim
theorem bS {f:FuncId}{args:List Value}{L:LL}{R:RR}{post:ez}{pan:lX}(hc:cw P f args N M [] [] post pan)
 (hn:∀ v M',bh M M' ->aJ M' L ->post v M' [] [] ->cj P F s (cB e dd v) ds ⟨N,M',L,R⟩ ⟨⟩)
 (hp:∀ ch M',bh M M' ->aJ M' L ->pan ch M' [] [] ->F.pan ch e ds ⟨N,M',L,R⟩):
 dk P F f args dd s e ds ⟨N,M,L,R⟩ ⟨⟩:=by
 have nil:∀ {L':LL},keys L'=keys [] ->L'=[]:=fun h=>by simpa [keys] using h
 have nilR:∀ {R':RR},R'.length=([]:RR).length ->R'=[]:=fun h=>by simpa using h
 have:=fH (P:=P) (F:=F) (s:=s) (e:=e) (ds:=ds) (dd:=dd) (N:=N) [] [] L [] [] R hc
  (fun v M' L' R' he hk hR bi hq=>by rw [nil hk] at bi hq ⊢;rw [nilR hR] at hq ⊢;exact hn v M' he bi hq)
  (fun ch M' L' R' he hk hR bi hq=>by rw [nil hk] at bi hq ⊢;rw [nilR hR] at hq ⊢;exact hp ch M' he bi hq)
 exact this
theorem aD {f:FuncId}{args:List Value}{L:LL}{R:RR}{post:ez}(hc:cw P f args N M [] [] post aO)
 (hn:∀ v M',bh M M' ->aJ M' L ->post v M' [] [] ->cj P F s (cB e dd v) ds ⟨N,M',L,R⟩ ⟨⟩):dk P F f args dd s e ds ⟨N,M,L,R⟩ ⟨⟩:=bS hc hn (fun _ _ _ _ h=>h.elim)
theorem cQ {f:FuncId}{args:List Value}{h:Sh}{k:Sh ->Prop}(hk:bK h k)(hr:∀ h',k h' ->dk P F f args dd s e ds h' ⟨⟩)(hb:de P f=true):dk P F f args dd s e ds h ⟨⟩:=by
 refine ⟨hb,fun c w hw=> ?_⟩
 obtain ⟨h',gP,Dp⟩:=hk c w hw
 exact (hr h' Dp).2 c w gP
end
def nS (P:Program)(e:dj)(h:Sh):List ResultVar ->Option (List Value)
 | []=>some []
 | .tmp t::r=>o7 (some (e t)) (nS P e h r)
 | .cell a t::r=>o7 (pz h (tk P t) (e a)) (nS P e h r)
def vy:List Value ->Value
 | [v]=>v
 | vs=> .tuple vs.toArray
def uq (a:Array Value):ResultVar ->Sem Value
 | .tmp t=>pure (a.getD t undef)
 | .cell x t=>do loadVar t (<- asAddr (a.getD x undef))
theorem IL (fn:Func)(a:Array Value):results fn a=(do
 let vs<- fn.results.mapM (uq a)
 pure (if h:vs.size=1 then vs[0] else .tuple vs)):=rfl
theorem DX {P:Program}{c:Ctx}{h:Sh}{w:World}{t:TypeId}{x v:Value}(hw:Is c h w)(hv:pz h (tk P t) x=some v):
 (do loadVar t (<- asAddr x):Sem Value).run P w=.ok v w:=by
 obtain ⟨bs,hi⟩:=hw
 unfold pz at hv
 split at hv
 ·rename_i n z a tu
  obtain ⟨i,d,Dd,hd,hz,hg,hn⟩:=lU tu
  simp only [asAddr,loadVar]
  simp [js hd,hg,hi.cell hv]
 ·rename_i n z a tu
  obtain ⟨i,d,Dd,hd,hz,hg,hn⟩:=lU tu
  obtain ⟨cs,iE,rfl⟩:=Option.map_eq_some_iff.1 hv
  obtain ⟨hl,hc⟩:=iC _ _ _ (hi.cells _ _ _ iE)
  have:=run_loadCells_list (P:=P) (w:=w) a cs (fun j v hj=>by simpa using hc j v hj)
  rw [hl] at this
  simp only [asAddr,loadVar]
  simp [js hd,hg,Go.sizeOf,typeInfo,Dd,hn,this]
 ·cases hv
theorem Du {P:Program}{c:Ctx}{h:Sh}{w:World}(hw:Is c h w){e:dj}{a:Array Value}(ha:∀ t,a.getD t undef=e t):
 ∀ (l:List ResultVar) (vs:List Value),nS P e h l=some vs ->(l.mapM (uq a)).run P w=.ok vs w:=by
 have cons:∀ {o:Option Value} {p:Option (List Value)} {vs:List Value},o7 o p=some vs ->∃ v l,o=some v/\p=some l/\vs=v::l:=by
  intro o p vs h
  unfold o7 at h
  split at h
  ·rename_i v l;injection h with h;exact ⟨v,l,rfl,rfl,h.symm⟩
  ·cases h
 intro l
 induction l with
 | nil=>intro vs h;simp [nS] at h;subst h;simp
 | cons x r ih=>
  intro vs hr
  rw [List.mapM_cons]
  cases x with
  | cell x t=>
   obtain ⟨v,l,h1,h2,rfl⟩:=cons hr
   have hl:=DX (P:=P) hw h1
   have:(uq a (.cell x t)).run P w=.ok v w:=by
    show (do loadVar t (<- asAddr (a.getD x undef)):Sem Value).run P w=_
    rw [ha];exact hl
   rw [Sem.run_bind,this]
   simp only [Result.andThen_ok,Sem.run_bind,ih l h2,Sem.run_pure]
  | tmp t=>
   obtain ⟨v,l,h1,h2,rfl⟩:=cons hr
   injection h1 with h1
   subst h1
   have:(uq a (.tmp t)).run P w=.ok (e t) w:=by simp only [uq,ha,Sem.run_pure]
   rw [Sem.run_bind,this]
   simp only [Result.andThen_ok,Sem.run_bind,ih l h2,Sem.run_pure]
theorem lM {P:Program}{fn:Func}{c:Ctx}{h:Sh}{w:World}(hw:Is c h w){e:dj}{vs:List Value}(hr:nS P e h fn.results.toList=some vs){a:Array Value}(ha:∀ t,a.getD t undef=e t):
 (results fn a).run P w=.ok (vy vs) w:=by
 have h1:=Du (P:=P) hw ha _ _ hr
 have h2:(fn.results.mapM (uq a)).run P w=.ok vs.toArray w:=by
  rw [<- Array.toArray_toList (xs:=fn.results),List.mapM_toArray,<- bind_pure_comp,Sem.run_bind,h1]
  simp
 rw [IL,Sem.run_bind,h2]
 rcases vs with _ | ⟨t,_ | ⟨u,ts⟩⟩<;>simp [vy]
def VO (P:Program)(T:Tm)(rs:List ResultVar)(ks:List Nat)(n:Nat)(post:ez)(e:dj)(ds:List Deferred)(h:Sh):Prop:=
 ds=[]/\ed (nS P e h rs) fun vs=>bK h fun h'=>aH T h'.N/\keys h'.L=ks/\h'.R.length=n/\post (vy vs) h'.M h'.L h'.R
def Pd (T:Tm)(ks:List Nat)(n:Nat)(pan:lX)(ch:List PanicEntry)(_:dj)(ds:List Deferred)(h:Sh):Prop:=
 ds=[]/\bK h fun h'=>aH T h'.N/\keys h'.L=ks/\h'.R.length=n/\pan ch h'.M h'.L h'.R
def fi (P:Program)(T:Tm)(dr:List (Nat×Sched))(ts:List ResultVar)(ks:List Nat)(n:Nat)(post:ez)(pan:lX):Fi:=⟨dr,VO P T ts ks n post,Pd T ks n pan⟩
theorem j9 {T:Tm}{h':Sh}{w0 w:World}{U:List Nat}{M:aS}{ks:List Nat}{n:Nat}(hT:aH T h'.N)(hw:Is ⟨w0,M,U⟩ h' w)(hk:keys h'.L=ks)(hR:h'.R.length=n):zB w0 U T M ks n h'.M h'.L h'.R w:=by
 refine ⟨?_,hk,hR⟩
 obtain ⟨bs,hi⟩:=hw
 exact ⟨bs,hi.untype hT⟩
theorem Bf {P:Program}{fn:Func}{T:Tm}{dr ts ks k U M post pan}(hr:fn.results.toList=ts){w0:World}{ex:Exit}{a:Act}{w:World}{n:Nat}
 (hq:KontL.toQ ⟨w0,M,U⟩ n (fi P T dr ts ks k post pan).k ex a w):bodyPost P fn (Ot U T M ks k post pan w0) ex a w:=by
 cases ex with
 | normal=>
  obtain ⟨e,ds,h,ha,hw,Dr,cO⟩:=hq
  obtain ⟨vs,Of,cO⟩:=cJ cO
  obtain ⟨h',gP,hT,hk,hR,hp⟩:=cO _ _ hw
  subst Dr hr
  exact ⟨ha.2.1,_,lM hw Of ha.2.2,h'.M,h'.L,h'.R,j9 hT gP hk hR,hp⟩
 | ret=>
  obtain ⟨e,ds,h,ha,hw,Dr,cO⟩:=hq
  obtain ⟨vs,Of,cO⟩:=cJ cO
  obtain ⟨h',gP,hT,hk,hR,hp⟩:=cO _ _ hw
  subst Dr hr
  exact ⟨ha.2.1,_,lM hw Of ha.2.2,h'.M,h'.L,h'.R,j9 hT gP hk hR,hp⟩
 | panic ch=>
  obtain ⟨e,ds,h,ha,hw,Dr,cO⟩:=hq
  obtain ⟨h',gP,hT,hk,hR,hp⟩:=cO _ _ hw
  subst Dr
  exact ⟨ha.2.1,h'.M,h'.L,h'.R,j9 hT gP hk hR,hp⟩
 | exit id=>obtain ⟨_,_,_,_,_,h⟩:=hq;exact h.elim
 | goto l=>exact hq.elim
 | outgrown=>exact hq.elim
theorem TZ.facts {w U T M L R}(h:TZ w U T M L R):aJ M L/\jN L/\Is ⟨w,M,U⟩ ⟨T,M,L,R⟩ w:=by
 obtain ⟨bs,_,hi⟩:=h
 exact ⟨i6 fun b hb=>(hi.apart b (vZ (.inl hb))).1,A3 (List.nodup_append.1 hi.nodup).1,bs,hi⟩
theorem Wu {P:Program}{f:FuncId}{fn:Func}{c:Code}{args:List Value}{dr ts}{T:Tm}{M L R}{k:Nat}{post pan}(hm:P.follows .mixedOrders=true)
 (hn:args.length<=fn.ntmps) (hc:eo P fn.ntmps dr c=true) (hr:fn.results.toList=ts)
 (h:aJ M L ->jN L ->cj P (fi P T dr ts (keys L) k post pan) [.code c] (mQ args) [] ⟨T,M,L,R⟩ ⟨⟩) (w:World) (U:List Nat) (hw:TZ w U T M L R):
 c.wp P (bodyPost P fn (Ot U T M (keys L) k post pan w)) {tmps:=args.toArray++Array.replicate (fn.ntmps - args.toArray.size) undef,defers:=[]} w:=by
 obtain ⟨h1,h2,h3⟩:=hw.facts
 have:=j6 (c₀:=⟨w,M,U⟩) hm c (fi P T dr ts (keys L) k post pan).k (mQ args) [] ⟨T,M,L,R⟩ w _ hc (fr0 args.toArray fn.ntmps (by simpa using hn)) h3 (h h1 h2)
 exact wp_mono this fun ex a w' hq=>Bf hr hq
theorem Tl {P:Program}{f:FuncId}{fn:Func}{c:Code}{args:List Value}{dr ts}{T:Tm}{M L R post pan}(hm:P.follows .mixedOrders=true)
 (hn:args.length<=fn.ntmps) (hc:eo P fn.ntmps dr c=true) (hr:fn.results.toList=ts)
 (h:aJ M L ->jN L ->cj P (fi P T dr ts (keys L) R.length post pan) [.code c] (mQ args) [] ⟨T,M,L,R⟩ ⟨⟩) (w:World) (U:List Nat) (hw:TZ w U T M L R):
 c.wp P (bodyPost P fn (Ot U T M (keys L) R.length post pan w)) {tmps:=args.toArray++Array.replicate (fn.ntmps - args.toArray.size) undef,defers:=[]} w:=by
 obtain ⟨h1,h2,h3⟩:=hw.facts
 have:=j6 (c₀:=⟨w,M,U⟩) hm c (fi P T dr ts (keys L) R.length post pan).k (mQ args) [] ⟨T,M,L,R⟩ w _ hc (fr0 args.toArray fn.ntmps (by simpa using hn)) h3 (h h1 h2)
 exact wp_mono this fun ex a w' hq=>Bf hr hq
theorem He {P:Program}{f:FuncId}{fn:Func}{c:Code}{args:List Value}{dr ts}{T:Tm}{M L R post pan}(hm:P.follows .mixedOrders=true)(A7:de P f=true)
 (hf:P.funcs[f]?=some fn) (hb:fn.body=some c) (hn:args.length<=fn.ntmps) (hc:eo P fn.ntmps dr c=true) (hr:fn.results.toList=ts)
 (h:aJ M L ->jN L ->cj P (fi P T dr ts (keys L) R.length post pan) [.code c] (mQ args) [] ⟨T,M,L,R⟩ ⟨⟩):cw P f args T M L R post pan:=
 ⟨A7,fun w U hw=>calls_of_wp hf hb (Tl (f:=f) hm hn hc hr h w U hw)⟩
theorem VJ {P:Program}{f:FuncId}{fn:Func}{c:Code}{args:List Value}{dr ts}{T:Tm}{M L R}{k:Nat}{post pan}(hm:P.follows .mixedOrders=true)(A7:de P f=true)
 (hf:P.funcs[f]?=some fn) (hb:fn.body=some c) (hn:args.length<=fn.ntmps) (hc:eo P fn.ntmps dr c=true) (hr:fn.results.toList=ts)
 (h:aJ M L ->jN L ->cj P (fi P T dr ts (keys L) k post pan) [.code c] (mQ args) [] ⟨T,M,L,R⟩ ⟨⟩):HV P f args T M L R k post pan:=
 ⟨A7,fun w U hw=>calls_of_wp hf hb (Wu (f:=f) hm hn hc hr h w U hw)⟩
theorem W1 {P:Program}{f:FuncId}{fn:Func}{c:Code}{args:List Value}{dr ts}{T:Tm}{M L R post pan}(hm:P.follows .mixedOrders=true)(A7:de P f=true)
 (hf:P.funcs[f]?=some fn) (hb:fn.body=some c) (hn:args.length<=fn.ntmps) (hc:eo P fn.ntmps dr c=true) (hr:fn.results.toList=ts)
 (h:aJ M L ->jN L ->cj P (fi P T dr ts (keys L) R.length post pan) [.code c] (mQ args) [] ⟨T,M,L,R⟩ ⟨⟩):CtD P f args T M L R post pan:=
 ⟨A7,fun _u w U hw=>callsD_of_wp hf hb (Tl (f:=f) hm hn hc hr h w U hw)⟩
theorem az {h:Sh}{k:Sh ->Prop}(hk:k h):bK h k:=fun _ _ hw=>⟨h,hw,hk⟩
theorem ak {N M b cs L R}{k:Sh ->Prop}(hk:bK ⟨N,M,L,R⟩ k):bK ⟨N,M,(b,cs)::L,R⟩ k:=fun c w hw=>by
 obtain ⟨bs,hi⟩:=hw
 exact hk c w ⟨bs,hi.drop rfl⟩
theorem aT {N M b cs L R}{k:Sh ->Prop}(hk:bh M (M.add b cs) ->(M.add b cs) b=some cs ->aJ (M.add b cs) L ->bK ⟨N,M.add b cs,L,R⟩ k):bK ⟨N,M,(b,cs)::L,R⟩ k:=fun c w hw=>by
 obtain ⟨bs,hi⟩:=hw
 have hf:=hi.freeze (b:=b) (cs:=cs) (L:=L) rfl
 have bi:=(hi.apart b (by simp)).1
 exact hk (bh.add bi) (by simp [aS.add]) (i6 fun k hk=>(hf.apart k (vZ (.inl hk))).1) c w ⟨bs,hf⟩
theorem pk {h:Sh}{k k':Sh ->Prop}(hk:bK h k)(h2:∀ h',k h' ->bK h' k'):bK h k':=fun c w hw=>by
 obtain ⟨h',gP,Dp⟩:=hk c w hw
 exact h2 h' Dp c w gP
theorem dm {N M L L' R}{k:Sh ->Prop}(hp:L.Perm L')(hk:bK ⟨N,M,L',R⟩ k):bK ⟨N,M,L,R⟩ k:=fun c w hw=>by
 obtain ⟨bs,hi⟩:=hw
 exact hk c w ⟨bs,hi.perm hp⟩
theorem Hp.dropR {c N M L v e sz xs R w bs}(hi:Hp c ⟨N,M,L,(v,e,sz,xs)::R⟩ w bs):∃ bs',Hp c ⟨N,M,L,R⟩ w bs':=by
 obtain ⟨bw,bP⟩:=hi.rows
 cases bs with
 | nil=>simp at bw
 | cons o bs=>
  refine ⟨bs,?_⟩
  have jT:(bs.filterMap id).Sublist ((o::bs).filterMap id):=(List.sublist_cons_self o bs).filterMap id
  have yK:∀ b,b∈L.map (·.1)++bs.filterMap id ->b∈L.map (·.1)++(o::bs).filterMap id:=by
   intro b hb
   simp only [List.mem_append] at hb ⊢
   rcases hb with hb | hb
   ·exact .inl hb
   ·exact .inr (jT.subset hb)
  exact
  {typ:=hi.typ
   holds:=hi.holds
   blk:=hi.blk
   rows:=⟨by simpa using bw,fun i v e sz xs o h1 h2=>bP (i+1) v e sz xs o (by simpa using h1) (by simpa using h2)⟩
   nodup:=hi.nodup.sublist ((List.Sublist.refl _).append jT)
   apart:=fun b hb=>hi.apart b (yK b hb)
   os:=hi.os
   tape:=hi.tape
   output:=hi.output
   size:=hi.size
   old:=hi.old
   mem:=hi.mem
   le:=hi.le}
theorem jt {N M L r R}{k:Sh ->Prop}(hk:bK ⟨N,M,L,R⟩ k):bK ⟨N,M,L,r::R⟩ k:=fun c w hw=>by
 obtain ⟨v,e,sz,xs⟩:=r
 obtain ⟨bs,hi⟩:=hw
 obtain ⟨bs',qL⟩:=hi.dropR
 exact hk c w ⟨bs',qL⟩
def At (M:aS)(b o:Nat):List Value ->Prop
 | []=>True
 | v::l=>aQ M ⟨b,o,none⟩=some v/\At M b (o+1) l
def Sl (M:aS)(v:Value)(sz:Nat)(xs:List Value):Prop:=
 (∃ a c,v=.slice a 0 c/\xs=[]/\(a=none ->c=0))\/∃ b o n c,v=.slice (some ⟨b,o,none⟩) n c/\n<=c/\xs.length=n*sz/\At M b o xs
theorem ay {M M':aS}(h:bh M M'){a v}(hc:aQ M a=some v):aQ M' a=some v:=by
 unfold aQ at hc ⊢
 split at hc
 ·cases hc
 ·obtain ⟨cs,hb,hv⟩:=Option.bind_eq_some_iff.1 hc
  simp [*,h _ _ hb]
theorem At.ext {M M':aS}(h:bh M M'){b}:∀ {l o},At M b o l ->At M' b o l
 | [],_,_=>trivial
 | _::_,_,hc=>⟨ay h hc.1,At.ext h hc.2⟩
theorem Sl.ext {M M':aS}(h:bh M M'){v sz xs}(hs:Sl M v sz xs):Sl M' v sz xs:=by
 rcases hs with hs | ⟨b,o,n,c,h1,h2,h3,h4⟩
 ·exact .inl hs
 ·exact .inr ⟨b,o,n,c,h1,h2,h3,h4.ext h⟩
theorem kJ {M:aS}{b:Nat}{cs:List Value}(hb:M b=some cs):∀ (l:List Value) (o:Nat),(∀ i v,l[i]?=some v ->cs[o+i]?=some v) ->At M b o l:=by
 intro l
 induction l with
 | nil=>intro o _;trivial
 | cons v l ih=>
  intro o h
  refine ⟨?_,ih (o+1) fun i u hu=> ?_⟩
  ·have h0:=h 0 v rfl
   rw [Nat.add_zero] at h0
   simp [aQ,hb,h0]
  ·have:=h (i+1) u (by simpa using hu)
   rw [<- this];congr 1;omega
theorem gb {M:aS}{b:Nat}:∀ {l l':List Value} {o:Nat},At M b o (l++l') ↔ At M b o l/\At M b (o+l.length) l'
 | [],l',o=>by simp [At]
 | v::l,l',o=>by
  simp only [List.cons_append,At,gb (l:=l),List.length_cons,and_assoc]
  rw [show o+1+l.length=o+(l.length+1) from by omega]
theorem Hp.freezeR {c N M L v e sz xs R w bs}(hi:Hp c ⟨N,M,L,(v,e,sz,xs)::R⟩ w bs)(ej:0<sz):
 ∃ M' bs',Hp c ⟨N,M',L,R⟩ w bs'/\bh M M'/\Sl M' v sz xs:=by
 obtain ⟨bw,bP⟩:=hi.rows
 cases bs with
 | nil=>simp at bw
 | cons o bs=>
  have hr:=bP 0 v e sz xs o rfl rfl
  rcases hr with ⟨rfl,rfl,rfl⟩ | ⟨g,n,cap,junk,rfl,hg,hn,hc,dJ,rfl⟩ | ⟨h0,_⟩ | ⟨h0,_⟩
  ·obtain ⟨bs',h'⟩:=hi.dropR
   exact ⟨M,bs',h',bh.rfl',.inl ⟨none,0,rfl,rfl,fun _=>rfl⟩⟩
  ·-- the row's block is told as one of L,then frozen
   have lH:=hi.nodup
   rw [List.filterMap_cons] at lH
   simp only [id] at lH
   have GH:=(hi.apart g (by simp)).1
   have EH:(L.map (·.1)++g::bs.filterMap id).Perm (g::(L.map (·.1)++bs.filterMap id)):=List.perm_middle
   have Vl:=EH.nodup_iff.1 lH
   have h2:Hp c ⟨fun _=>none,M,(g,xs++junk)::L,R⟩ w bs:=
   {typ:=fun b u hu=>by cases hu
    holds:=hi.holds
    blk:=fun b cs hb=>by
     rcases rP hb with hb | hb
     ·injection hb with h1 h2;subst h1 h2;exact ⟨e,hg⟩
     ·exact hi.blk b cs hb
    rows:=⟨by simpa using bw,fun i v e sz xs o h1 h2=>bP (i+1) v e sz xs o (by simpa using h1) (by simpa using h2)⟩
    nodup:=by simpa using Vl
    apart:=fun b hb=>hi.apart b (by
     simp only [List.map_cons,List.cons_append,List.mem_cons,List.mem_append] at hb
     simp only [List.filterMap_cons,id,List.mem_append,List.mem_cons]
     rcases hb with hb | hb | hb
     ·exact .inr (.inl hb)
     ·exact .inl hb
     ·exact .inr (.inr hb))
    os:=hi.os
    tape:=hi.tape
    output:=hi.output
    size:=hi.size
    old:=hi.old
    mem:=hi.mem
    le:=hi.le}
   have h3:=h2.freeze (b:=g) (cs:=xs++junk) (L:=L) rfl
   refine ⟨_,bs,h3.retyp hi.typ,bh.add GH,.inr ⟨g,0,n,cap,rfl,dJ,hn,?_⟩⟩
   refine kJ (cs:=xs++junk) (by simp [aS.add]) xs 0 ?_
   intro i u hu
   rw [Nat.zero_add,List.getElem?_append_left (List.getElem?_eq_some_iff.1 hu).1];exact hu
  ·omega
  ·omega
theorem bT {N M L v e sz xs R}{k:Sh ->Prop}(hk:∀ M',bh M M' ->aJ M' L ->Sl M' v sz xs ->bK ⟨N,M',L,R⟩ k)(ej:0<sz:=by decide):bK ⟨N,M,L,(v,e,sz,xs)::R⟩ k:=fun c w hw=>by
 obtain ⟨bs,hi⟩:=hw
 obtain ⟨M',bs',h',he,hs⟩:=hi.freezeR ej
 exact hk M' he (i6 fun b hb=>(h'.apart b (vZ (.inl hb))).1) hs c w ⟨bs',h'⟩
theorem GQ {N M L v e sz xs R}{k:Sh ->Prop}(ej:0<sz)(cD:0<xs.length)(p4:∀ g n k,v=.slice (some ⟨g,0,none⟩) n k ->N g=none)
 (hk:∀ g n cap junk,v=.slice (some ⟨g,0,none⟩) n cap ->M g=none ->ce g L ->n*sz=xs.length ->n<=cap ->(xs++junk).length=cap*sz ->bK ⟨N,M,(g,xs++junk)::L,R⟩ k):bK ⟨N,M,L,(v,e,sz,xs)::R⟩ k:=fun c w hw=>by
 obtain ⟨bs,hi⟩:=hw
 obtain ⟨g,n,cap,junk,bs',hv,GH,EY,hn,dJ,hc,_,hh⟩:=hi.unrow ej cD (fun g n k h=> .inl (p4 g n k h))
 exact hk g n cap junk hv GH EY hn dJ hc c w ⟨bs',hh⟩
abbrev Bs:=List UInt8
def bs (l:Bs):ByteArray:=⟨l.toArray⟩
def st (l:Bs):Value:=.string (bs l)
theorem ws (l:Bs):(bs l).size=l.length:=by simp [bs,ByteArray.size]
theorem uA (a b:Bs):bs a++bs b=bs (a++b):=by
 apply ByteArray.ext
 simp [bs,ByteArray.data_append]
theorem G5 {a b:Bs}:bs a=bs b ↔ a=b:=by
 constructor
 ·intro h
  have:=congrArg (fun x=>x.data.toList) h
  simpa [bs] using this
 ·rintro rfl;rfl
theorem XD (x:ByteArray):x=bs x.data.toList:=by
 apply ByteArray.ext;simp [bs]
def RL {α:Type}(r:α ->List Value ->Prop):List α ->List Value ->Prop
 | [],xs=>xs=[]
 | x::l,xs=>∃ cs rest,xs=cs++rest/\r x cs/\RL r l rest
def RS {α:Type}(M:aS)(r:α ->List Value ->Prop)(sz:Nat)(l:List α)(v:Value):Prop:=l.length*sz<=4398046511104/\∃ xs,Sl M v sz xs/\RL r l xs
section
variable {α:Type} {r:α ->List Value ->Prop} {sz:Nat}
theorem dO (ej:∀ x cs,r x cs ->cs.length=sz):∀ {l xs},RL r l xs ->xs.length=l.length*sz
 | [],xs,h=>by simp only [RL] at h;subst h;simp
 | x::l,xs,h=>by
  obtain ⟨cs,rest,rfl,h1,h2⟩:=h
  simp only [List.length_append,ej x cs h1,dO ej h2,List.length_cons,Nat.add_mul]
  omega
theorem Rz (ej:∀ x cs,r x cs ->cs.length=sz){M:aS}{b:Nat}:∀ {l xs o},RL r l xs ->At M b o xs ->∀ i x,l[i]?=some x ->∃ cs,At M b (o+i*sz) cs/\r x cs
 | [],xs,o,h,_,i,x,hx=>by simp at hx
 | y::l,xs,o,h,ha,i,x,hx=>by
  obtain ⟨cs,rest,rfl,h1,h2⟩:=h
  obtain ⟨ha1,Zc⟩:=gb.1 ha
  cases i with
  | zero=>
   simp at hx;subst hx
   exact ⟨cs,by simpa using ha1,h1⟩
  | succ i=>
   obtain ⟨cs',h3,h4⟩:=Rz ej h2 Zc i x (by simpa using hx)
   refine ⟨cs',?_,h4⟩
   have:o+(i+1)*sz=o+cs.length+i*sz:=by rw [ej y cs h1,Nat.add_mul];omega
   rw [this];exact h3
theorem cM:∀ {l l':List α} {xs xs'},RL r l xs ->RL r l' xs' ->RL r (l++l') (xs++xs')
 | [],l',xs,xs',h,h'=>by simp only [RL] at h;subst h;exact h'
 | x::l,l',xs,xs',h,h'=>by
  obtain ⟨cs,rest,rfl,h1,h2⟩:=h
  exact ⟨cs,rest++xs',by simp,h1,cM h2 h'⟩
theorem cA {x:α}{cs}(h:r x cs):RL r [x] cs:=⟨cs,[],by simp,h,rfl⟩
theorem cH {r':α ->List Value ->Prop}(h:∀ x cs,r x cs ->r' x cs):∀ {l xs},RL r l xs ->RL r' l xs
 | [],_,hh=>hh
 | _::_,_,⟨cs,rest,h1,h2,h3⟩=>⟨cs,rest,h1,h _ _ h2,cH h h3⟩
theorem aL {M M':aS}{r':α ->List Value ->Prop}(he:bh M M')(h:∀ x cs,r x cs ->r' x cs){l v}(hs:RS M r sz l v):RS M' r' sz l v:=by
 obtain ⟨hb,xs,h1,h2⟩:=hs
 exact ⟨hb,xs,h1.ext he,cH h h2⟩
theorem aF (dG:0<sz)(ej:∀ x cs,r x cs ->cs.length=sz){M:aS}{l v}(hs:RS M r sz l v):
 l.length*sz<=4398046511104/\∃ a c,v=.slice a l.length c/\l.length<=c/\(a=none ->c=0)/\∀ i x,l[i]?=some x ->∃ b o cs,a=some ⟨b,o,none⟩/\At M b (o+i*sz) cs/\r x cs:=by
 obtain ⟨hb,xs,hs,hl⟩:=hs
 refine ⟨hb,?_⟩
 have bw:=dO ej hl
 rcases hs with ⟨a,c,rfl,rfl,wr⟩ | ⟨b,o,n,c,rfl,dJ,hn,ha⟩
 ·have h0:l.length=0:=by
   simp only [List.length_nil] at bw
   rcases Nat.mul_eq_zero.1 bw.symm with h | h
   ·exact h
   ·omega
  refine ⟨a,c,by rw [h0],by omega,wr,?_⟩
  intro i x hx
  have:=(List.getElem?_eq_some_iff.1 hx).1
  omega
 ·have GW:n=l.length:=Nat.eq_of_mul_eq_mul_right dG (hn.symm.trans bw)
  subst GW
  refine ⟨some ⟨b,o,none⟩,c,rfl,dJ,(fun h=>by cases h),?_⟩
  intro i x hx
  obtain ⟨cs,h1,h2⟩:=Rz ej hl ha i x hx
  exact ⟨b,o,cs,rfl,h1,h2⟩
end
theorem BZ {α:Type}{r:α ->List Value ->Prop}{sz:Nat}(dG:0<sz)(ej:∀ x cs,r x cs ->cs.length=sz){M:aS}{l:List α}{a:Option Addr}{n c k:Nat}(h:RS M r sz l (.slice a n c))(hk:k<=l.length):
 RS M r sz (l.drop k) (.slice (kB a c k sz) (n - k) (c - k)):=by
 obtain ⟨hb,xs,hs,hl⟩:=h
 have bw:=dO ej hl
 refine ⟨Nat.le_trans (Nat.mul_le_mul_right _ (by rw [List.length_drop];omega)) hb,xs.drop (k*sz),?_,?_⟩
 ·rcases hs with ⟨a',c',hv,rfl,wr⟩ | ⟨b,o,n',c',hv,dJ,hn,ha⟩
  ·injection hv with h1 h2 h3
   subst h1 h2 h3
   left
   have kd:k=0:=by
    have:l.length=0:=by
     simp only [List.length_nil] at bw
     rcases Nat.mul_eq_zero.1 bw.symm with h | h
     ·exact h
     ·omega
    omega
   subst kd
   refine ⟨kB a c 0 sz,c - 0,by simp,by simp,fun h=> ?_⟩
   have:a=none:=by
    unfold kB at h
    split at h
    ·exact h
    ·simpa using h
   have:=wr this
   omega
  ·injection hv with h1 h2 h3
   subst h1 h2 h3
   right
   have GW:n=l.length:=Nat.eq_of_mul_eq_mul_right dG (hn.symm.trans bw)
   have bA:At M b (o+k*sz) (xs.drop (k*sz)):=by
    have h2:xs=xs.take (k*sz)++xs.drop (k*sz):=(List.take_append_drop _ _).symm
    rw [h2] at ha
    have:=(gb.1 ha).2
    rw [List.length_take,Nat.min_eq_left (by rw [hn];exact Nat.mul_le_mul_right _ (by omega))] at this
    exact this
   by_cases Zy:c=k
   ·refine ⟨b,o,n - k,c - k,by simp [kB,Zy],by omega,?_,?_⟩
    ·rw [List.length_drop,hn,Nat.sub_mul]
    ·have:xs.drop (k*sz)=[]:=by
      apply List.drop_eq_nil_of_le
      rw [hn];exact Nat.mul_le_mul_right _ (by omega)
     rw [this];trivial
   ·refine ⟨b,o+k*sz,n - k,c - k,by simp [kB,Zy,Addr.add_lit],by omega,?_,bA⟩
    rw [List.length_drop,hn,Nat.sub_mul]
 ·clear bw hs hb
  induction l generalizing xs k with
  | nil=>
   simp only [RL] at hl;subst hl
   simp [RL]
  | cons x l ih=>
   obtain ⟨cs,rest,rfl,h1,h2⟩:=hl
   cases k with
   | zero=>simpa using ⟨cs,rest,rfl,h1,h2⟩
   | succ k=>
    have iE:=ej x cs h1
    have:(cs++rest).drop ((k+1)*sz)=rest.drop (k*sz):=by
     rw [Nat.add_mul,Nat.one_mul,Nat.add_comm,<- iE,List.drop_append]
     simp
    rw [this]
    simpa using ih (by simpa using hk) _ h2
theorem aA {M:aS}{b o:Nat}(h:M b=none):aQ M ⟨b,o,none⟩=none:=by simp [aQ,h]
theorem aX {M:aS}{b o:Nat}{cs:List Value}(h:M b=some cs):aQ M ⟨b,o,none⟩=cs[o]?:=by simp [aQ,h]
theorem UB {P:Program}{t:TypeId}{x:Value}{lo hi:Option Value}:Y2 P t x lo hi=if cP P t=true then xT true x lo hi else zh (dy P t) x lo hi:=(rfl)
theorem SN (sz a n cap k l):zh (some sz) (.slice a n cap) (some (.int k l)) none=if 0<=l/\l<=n/\n<=cap then some (.slice (kB a cap l.toNat sz) (n - l.toNat) (cap - l.toNat)) else none:=(rfl)
theorem Sy (sz a n cap k h):zh (some sz) (.slice a n cap) none (some (.int k h))=if 0<=h/\h<=cap then some (.slice (kB a cap 0 sz) h.toNat cap) else none:=(rfl)
theorem GS (sz a n cap k l j h):zh (some sz) (.slice a n cap) (some (.int k l)) (some (.int j h))=if 0<=l/\l<=h/\h<=cap then some (.slice (kB a cap l.toNat sz) (h.toNat - l.toNat) (cap - l.toNat)) else none:=(rfl)
theorem TA (s k l):xT true (.string s) (some (.int k l)) none=if 0<=l/\l<=s.size then some (.string (s.extract l.toNat s.size)) else none:=(rfl)
theorem Qs (s k h):xT true (.string s) none (some (.int k h))=if 0<=h/\h<=s.size then some (.string (s.extract 0 h.toNat)) else none:=(rfl)
theorem IJ (s k l j h):xT true (.string s) (some (.int k l)) (some (.int j h))=if 0<=l/\l<=h/\h<=s.size then some (.string (s.extract l.toNat h.toNat)) else none:=(rfl)
theorem Hv (l:Bs)(a b:Nat):(bs l).extract a b=bs ((l.drop a).take (b - a)):=by
 apply ByteArray.ext
 simp [bs,ByteArray.data_extract,List.extract_eq_take_drop]
theorem aem:((0:Nat):Int)=0:=(rfl)
theorem aev:((1:Nat):Int)=1:=(rfl)
theorem aeM:((2:Nat):Int)=2:=(rfl)
theorem adg:((3:Nat):Int)=3:=(rfl)
theorem aea:((4:Nat):Int)=4:=(rfl)
theorem abV:((5:Nat):Int)=5:=(rfl)
theorem ab2:((6:Nat):Int)=6:=(rfl)
theorem aeC:((7:Nat):Int)=7:=(rfl)
theorem acO:((8:Nat):Int)=8:=(rfl)
theorem adu:((9:Nat):Int)=9:=(rfl)
theorem Vr (n:Nat):(((n+1:Nat):Int)=0)=False:=eq_false (by omega)
theorem S2 (n:Nat):((0:Int)<((n+1:Nat):Int))=True:=eq_true (by omega)
theorem Xc (n:Nat):((1:Int)<=((n+1:Nat):Int))=True:=eq_true (by omega)
theorem U0 (n:Nat):((0:Int)<=(n:Int))=True:=eq_true (by omega)
structure V where
 k:Int
 n:Int
 t:Bs
def V.cs (v:V):List Value:=[.int .i64 v.k,.int .i64 v.n,st v.t]
inductive X where
 | mk (k:Int) (v:V) (tab name:Bs) (kids:List X)
namespace X
def k:X ->Int | mk k _ _ _ _=>k
def v:X ->V | mk _ v _ _ _=>v
def tab:X ->Bs | mk _ _ t _ _=>t
def name:X ->Bs | mk _ _ _ n _=>n
def kids:X ->List X | mk _ _ _ _ l=>l
end X
mutual
def RX (M:aS):X ->List Value ->Prop
 | .mk k v tab name kids,cs=>∃ s xs,cs=[.int .i64 k,.int .i64 v.k,.int .i64 v.n,st v.t,st tab,st name,s]/\kids.length*7<=4398046511104/\Sl M s 7 xs/\RXs M kids xs
def RXs (M:aS):List X ->List Value ->Prop
 | [],xs=>xs=[]
 | x::l,xs=>∃ cs rest,xs=cs++rest/\RX M x cs/\RXs M l rest
end
theorem Pv {M:aS}:∀ {l xs},RXs M l xs ↔ RL (RX M) l xs
 | [],_=>by simp [RXs,RL]
 | x::l,xs=>by simp only [RXs,RL,Pv (l:=l)]
theorem rL {M:aS}{x:X}{cs}:RX M x cs ↔ ∃ s,cs=[.int .i64 x.k,.int .i64 x.v.k,.int .i64 x.v.n,st x.v.t,st x.tab,st x.name,s]/\RS M (RX M) 7 x.kids s:=by
 obtain ⟨k,v,tab,name,kids⟩:=x
 simp only [RX,RS,X.k,X.v,X.tab,X.name,X.kids,Pv]
 constructor
 ·rintro ⟨s,xs,h1,h0,h2,h3⟩;exact ⟨s,h1,h0,xs,h2,h3⟩
 ·rintro ⟨s,h1,h0,xs,h2,h3⟩;exact ⟨s,xs,h1,h0,h2,h3⟩
theorem dl {M:aS}{x:X}{cs}(h:RX M x cs):cs.length=7:=by
 obtain ⟨s,rfl,_⟩:=rL.1 h;rfl
mutual
theorem bB {M M':aS}(he:bh M M'):∀ (x:X) (cs:List Value),RX M x cs ->RX M' x cs
 | .mk _ _ _ _ kids,_,h=>by
  obtain ⟨s,xs,h1,h0,h2,h3⟩:=h
  exact ⟨s,xs,h1,h0,h2.ext he,KN he kids xs h3⟩
theorem KN {M M':aS}(he:bh M M'):∀ (l:List X) (xs:List Value),RXs M l xs ->RXs M' l xs
 | [],_,h=>h
 | x::l,_,h=>by
  obtain ⟨cs,rest,h1,h2,h3⟩:=h
  exact ⟨cs,rest,h1,bB he x cs h2,KN he l rest h3⟩
end
structure It where
 x:X
 as:Bs
def xh (M:aS)(i:It)(cs:List Value):Prop:=∃ c,RX M i.x c/\cs=c++[st i.as]
structure So where
 k:Int
 name:Bs
 as:Bs
 on:X
def Do (M:aS)(s:So)(cs:List Value):Prop:=∃ c,RX M s.on c/\cs=[.int .i64 s.k,st s.name,st s.as]++c
structure Se where
 distinct:Bool
 star:Bool
 items:List It
 src:List So
 hasW:Bool
 hasH:Bool
 wh:X
 hv:X
 group:List X
def Cv (M:aS)(s:Se)(cs:List Value):Prop:=∃ i f w h g,RS M (xh M) 8 s.items i/\RS M (Do M) 10 s.src f/\RX M s.wh w/\RX M s.hv h/\RS M (RX M) 7 s.group g/\
 cs=[.bool s.distinct,.bool s.star,i,f,.bool s.hasW,.bool s.hasH]++(w++(h++[g]))
structure Q where
 parts:List Se
 ops:List Int
 order:List X
 limit:Int
def RI (n:Int)(cs:List Value):Prop:=cs=[.int .i64 n]
def RQ (M:aS)(q:Q)(cs:List Value):Prop:=∃ p o r,RS M (Cv M) 21 q.parts p/\RS M RI 1 q.ops o/\RS M (RX M) 7 q.order r/\cs=[p,o,r,.int .i64 q.limit]
structure Co where
 name:Bs
 ty:Int
def sA (c:Co)(cs:List Value):Prop:=cs=[st c.name,.int .i64 c.ty]
def RV (v:V)(cs:List Value):Prop:=cs=v.cs
def YM (M:aS)(l:List V)(cs:List Value):Prop:=∃ s,RS M RV 3 l s/\cs=[s]
structure Stm where
 k:Int
 name:Bs
 cols:List Co
 q:Q
 rows:List (List V)
 hasW:Bool
 wh:X
def ss (M:aS)(s:Stm)(cs:List Value):Prop:=∃ c q r w,RS M sA 2 s.cols c/\RQ M s.q q/\RS M (YM M) 1 s.rows r/\RX M s.wh w/\
 cs=[.int .i64 s.k,st s.name,c]++(q++([r,.bool s.hasW]++w))
def flt (e at_:Int):Value:=.agg #[.int .i64 e,.int .i64 at_]
theorem jA {M M':aS}(he:bh M M')(i:It)(cs)(h:xh M i cs):xh M' i cs:=by
 obtain ⟨c,h1,h2⟩:=h;exact ⟨c,bB he _ _ h1,h2⟩
theorem pU {M M':aS}(he:bh M M')(i:So)(cs)(h:Do M i cs):Do M' i cs:=by
 obtain ⟨c,h1,h2⟩:=h;exact ⟨c,bB he _ _ h1,h2⟩
theorem jb {M M':aS}(he:bh M M')(i:Se)(cs)(h:Cv M i cs):Cv M' i cs:=by
 obtain ⟨a,f,w,hh,g,h1,h2,h3,h4,h5,h6⟩:=h
 exact ⟨a,f,w,hh,g,aL he (jA he) h1,aL he (pU he) h2,bB he _ _ h3,bB he _ _ h4,aL he (bB he) h5,h6⟩
theorem Pn {M M':aS}(he:bh M M')(i:Q)(cs)(h:RQ M i cs):RQ M' i cs:=by
 obtain ⟨a,f,w,h1,h2,h3,h4⟩:=h
 exact ⟨a,f,w,aL he (jb he) h1,aL he (fun _ _ h=>h) h2,aL he (bB he) h3,h4⟩
theorem Jx {M M':aS}(he:bh M M')(i:List V)(cs)(h:YM M i cs):YM M' i cs:=by
 obtain ⟨s,h1,h2⟩:=h;exact ⟨s,aL he (fun _ _ h=>h) h1,h2⟩
theorem pP {M M':aS}(he:bh M M')(i:Stm)(cs)(h:ss M i cs):ss M' i cs:=by
 obtain ⟨c,q,r,w,h1,h2,h3,h4,h5⟩:=h
 exact ⟨c,q,r,w,aL he (fun _ _ h=>h) h1,Pn he _ _ h2,aL he (Jx he) h3,bB he _ _ h4,h5⟩
theorem jE {M:aS}{i:It}{cs}(h:xh M i cs):cs.length=8:=by
 obtain ⟨c,h1,rfl⟩:=h;simp [dl h1]
theorem lj {M:aS}{i:So}{cs}(h:Do M i cs):cs.length=10:=by
 obtain ⟨c,h1,rfl⟩:=h;simp [dl h1]
theorem jd {M:aS}{i:Se}{cs}(h:Cv M i cs):cs.length=21:=by
 obtain ⟨a,f,w,hh,g,_,_,h3,h4,_,rfl⟩:=h;simp [dl h3,dl h4]
theorem PX {M:aS}{i:Q}{cs}(h:RQ M i cs):cs.length=4:=by
 obtain ⟨_,_,_,_,_,_,rfl⟩:=h;rfl
theorem pi {M:aS}{i:Stm}{cs}(h:ss M i cs):cs.length=16:=by
 obtain ⟨_,_,_,_,_,h2,_,h4,rfl⟩:=h;simp [PX h2,dl h4]
theorem Gm (z pl parts):uD (some (z,pl)) parts=(nz pl z parts).map fun cs=> .agg cs.toArray:=(rfl)
theorem Lm (pl z):nz pl z []=some z:=(rfl)
theorem GT (pl z i vs rest):nz pl z ((i,vs)::rest)=match pl[i]? with
 | some (off,size)=>if vs.length=size/\off+vs.length<=z.length then nz pl (mC z off vs) rest else none
 | none=>none:=(rfl)
theorem O3 (z i):mC z i []=z:=(rfl)
theorem N0 (z i v vs):mC z i (v::vs)=mC (z.set i v) (i+1) vs:=(rfl)
theorem acR (l:List Value):l.toArray=⟨l⟩:=(rfl)
theorem Gw (t v):Km (.iface t v)=true:=(rfl)
theorem EF (sz i):nN sz i []=true:=(rfl)
theorem Da (sz i j cs r):nN sz i ((j,cs)::r)=(j==i && cs.length==sz && nN sz (i+1) r):=(rfl)
theorem MH:u1 []=[]:=(rfl)
theorem Hd (j cs r):u1 ((j,cs)::r)=cs++u1 r:=(rfl)
theorem cS {k:IntKind}{a b:Int}(h:a=b):Value.int k a=.int k b:=by rw [h]
def ur (T:Tm)(ks:List Nat)(n:Nat)(post:ez)(v:Value)(h:Sh):Prop:=aH T h.N/\keys h.L=ks/\h.R.length=n/\post v h.M h.L h.R
theorem St {P e h}:nS P e h []=some []:=(rfl)
theorem Rh {P e h t r}:nS P e h (.tmp t::r)=o7 (some (e t)) (nS P e h r):=(rfl)
theorem NC {P e h a t r}:nS P e h (.cell a t::r)=o7 (pz h (tk P t) (e a)) (nS P e h r):=(rfl)
theorem Qk (v):vy [v]=v:=(rfl)
theorem Sp (v u):vy [v,u]=.tuple #[v,u]:=(rfl)
theorem Q3:vy []=.tuple #[]:=(rfl)
theorem aaZ {P T dr ts ks n post pan}:(fi P T dr ts ks n post pan).ret=VO P T ts ks n post:=(rfl)
theorem lT {P T dr ts ks n post pan}:(fi P T dr ts ks n post pan).pan=Pd T ks n pan:=(rfl)
theorem acr {P T dr ts ks n post pan}:(fi P T dr ts ks n post pan).dr=dr:=(rfl)
theorem W5 {P T ts ks n post e h}:VO P T ts ks n post e [] h=ed (nS P e h ts) fun vs=>bK h (ur T ks n post (vy vs)):=by simp [VO];rfl
theorem jG {T ks n pan ch e h}:Pd T ks n pan ch e [] h=bK h (ur T ks n (fun _=>pan ch) undef):=by simp [Pd];rfl
theorem Ry (id):Gn [] id=.no:=(rfl)
theorem LU (j s r id):Gn ((j,s)::r) id=if j=id then s else Gn r id:=(rfl)
theorem aM {T N M L R ks n post v}(hT:aH T N)(hk:keys L=ks)(hn:R.length=n)(hp:post v M L R):bK ⟨N,M,L,R⟩ (ur T ks n post v):=az ⟨hT,hk,hn,hp⟩
theorem cX {N M R}{k:Sh ->Prop}:∀ {L:LL},bK ⟨N,M,[],R⟩ k ->bK ⟨N,M,L,R⟩ k
 | [],h=>h
 | (_,_)::_,h=>ak (cX h)
theorem cz {N M L}{k:Sh ->Prop}:∀ {R:RR},bK ⟨N,M,L,[]⟩ k ->bK ⟨N,M,L,R⟩ k
 | [],h=>h
 | _::_,h=>jt (cz h)
theorem am {T N M L R post v}(hT:aH T N)(hp:post v M [] []):bK ⟨N,M,L,R⟩ (ur T (keys []) 0 post v):=cX (cz (aM hT rfl rfl hp))
theorem aH.rfl' {T:Tm}:aH T T:=fun _ _ h=>h
theorem aH.trans {T T' T'':Tm}(h:aH T T')(h':aH T' T''):aH T T'':=fun b t hb=>h' b t (h b t hb)
def aG (e:dj):List (Nat×Value) ->Prop
 | []=>True
 | (t,v)::l=>e t=v/\aG e l
def LI (ds0:List Deferred)(n ti:Nat)(lv:List (Nat×Value))(J:Nat ->dj ->Sh ->Prop):Nat ->dj ->List Deferred ->Sh ->Prop:=
 fun m e ds h=>ds=ds0/\∃ i,i<=n/\m=n - i/\aG e lv/\e ti=.int .i64 (i:Nat)/\J i e h
section
variable {P:Program} {F:Fi} {b:Code} {s:List Item} {e:dj} {ds:List Deferred} {h:Sh}
theorem fE (I:Nat ->dj ->List Deferred ->Sh ->Prop)(h0:∃ m,I m e ds h)(hs:∀ m e' ds' h',I m e' ds' h' ->cj P F (.code b:: .lp I m::s) e' ds' h' ⟨⟩):ES P F b s e ds h ⟨⟩:=
 ⟨I,az h0,hs⟩
theorem aY (n ti:Nat)(lv:List (Nat×Value))(J:Nat ->dj ->Sh ->Prop)(i0:Nat)(hi:i0<=n)(hl:aG e lv)(ht:e ti=.int .i64 (i0:Nat))(hJ:J i0 e h)
 (hs:∀ i e' h',i<=n ->aG e' lv ->e' ti=.int .i64 (i:Nat) ->J i e' h' ->cj P F (.code b:: .lp (LI ds n ti lv J) (n - i)::s) e' ds h' ⟨⟩):ES P F b s e ds h ⟨⟩:=by
 refine fE (LI ds n ti lv J) ⟨n - i0,rfl,i0,hi,rfl,hl,ht,hJ⟩ ?_
 rintro m e' ds' h' ⟨rfl,i,hi,rfl,hl,ht,hJ⟩
 exact hs i e' h' hi hl ht hJ
theorem cI {n ti:Nat}{lv:List (Nat×Value)}{J:Nat ->dj ->Sh ->Prop}{i:Nat}(hi:i<n)(hl:aG e lv)(ht:e ti=.int .i64 ((i+1:Nat):Int))(hJ:J (i+1) e h):
 cj P F (.lp (LI ds n ti lv J) (n - i)::s) e ds h ⟨⟩:=by
 rw [dB]
 exact az ⟨n - (i+1),by omega,rfl,i+1,by omega,rfl,hl,ht,hJ⟩
theorem aR {I:Nat ->dj ->List Deferred ->Sh ->Prop}{m:Nat}(hc:bK h fun h=>∃ m',m'<m/\I m' e ds h):cj P F (.lp I m::s) e ds h ⟨⟩:=by
 rw [dB];exact hc
end
theorem di {P:Program}{F:Fi}{f:FuncId}{args:List Value}{dd:Option Nat}{s:List Item}{e:dj}{ds:List Deferred}{N:Tm}{M:aS}{b:Nat}{cs:List Value}{L:LL}{R:RR}(hb:de P f=true)
 (h:∀ M',bh M M' ->M' b=some cs ->aJ M' L ->dk P F f args dd s e ds ⟨N,M',L,R⟩ ⟨⟩):dk P F f args dd s e ds ⟨N,M,(b,cs)::L,R⟩ ⟨⟩:=
 cQ (k:=fun h'=>∃ M',bh M M'/\M' b=some cs/\aJ M' L/\h'=⟨N,M',L,R⟩) (aT fun he h1 h2=>az ⟨_,he,h1,h2,rfl⟩)
  (by rintro h' ⟨M',he,h1,h2,rfl⟩;exact h M' he h1 h2) hb
theorem cK {α:Type}{r:α ->List Value ->Prop}{sz:Nat}(ej:∀ x cs,r x cs ->cs.length=sz){M:aS}{b n:Nat}{cs:List Value}{l:List α}(hM:M b=some cs)(hl:RL r l cs)(hn:l.length=n)(hb:n*sz<=4398046511104):
 RS M r sz l (.slice (some ⟨b,0,none⟩) n n):=by
 subst hn
 exact ⟨hb,cs,.inr ⟨b,0,l.length,l.length,rfl,Nat.le_refl _,dO ej hl,kJ hM cs 0 (by simp)⟩,hl⟩
def pX (s:Bs)(cs:List Value):Prop:=cs=[st s]
theorem ep {s:Bs}{cs}(h:pX s cs):cs.length=1:=by unfold pX at h;subst h;rfl
theorem kq:∀ (l:List Bs),RL pX l (l.map st)
 | []=>rfl
 | s::l=>⟨[st s],l.map st,rfl,rfl,kq l⟩
theorem RO (k n):(Value.int k n).oneCell'=true:=rfl
theorem OJ (s):(Value.string s).oneCell'=true:=rfl
theorem N7 (s):(Value.bool s).oneCell'=true:=rfl
theorem VS (a n c):(Value.slice a n c).oneCell'=true:=rfl
theorem S9 (a):(Value.pointer a).oneCell'=true:=rfl
theorem LR (f a c):(Value.func f a c).oneCell'=true:=rfl
theorem HM (f a c):(Value.func f a c).cells.toList=[.func f a c]:=rfl
theorem FH (t v):(Value.iface t v).cells.toList=[.iface t v]:=rfl
theorem Z8 {α β:Type}(f:α ->β)(l:List α):Array.map f ⟨l⟩=⟨l.map f⟩:=by simp
theorem ahl (l:List UInt8):ByteArray.mk ⟨l⟩=bs l:=rfl
theorem bJ {n:Int}(h0: -9223372036854775808<=n)(h1:n<=9223372036854775807):IntKind.i64.wrap n=n:=by
 have hb:IntKind.i64.bits=64:=rfl
 have hs:IntKind.i64.signed=true:=rfl
 simp only [IntKind.wrap,hb,hs,Bool.true_and]
 by_cases hc:n % (2 ^ 64:Int)>=(2 ^ (64 - 1):Int)
 ·rw [if_pos (by simpa using hc)]
  omega
 ·rw [if_neg (by simpa using hc)]
  omega
theorem aB (i:Nat)(h:i<140737488355328):IntKind.i64.wrap ((i:Int)+1)=((i+1:Nat):Int):=by
 rw [bJ (by omega) (by omega)];rfl
theorem S5 (n:Nat)(h:n<1000000000000000000):IntKind.i64.wrap (0 - (n:Int))= -(n:Int):=by
 rw [bJ (by omega) (by omega)];omega
def pL (pb:Nat)(lv:Value)(en op:Int):LL:=[(pb,[lv,.int .i64 en,.int .i64 op])]
theorem Ql (pb lv en op k o):dK (pL pb lv en op) ⟨k,o,none⟩=if k=pb then some ([lv,.int .i64 en,.int .i64 op][o]?) else none:=(rfl)
theorem O2 (pb lv en op v):od (pL pb lv en op) pb 0 [v]=some (pL pb v en op):=by simp [od,pL,mC]
theorem SR (pb lv en op n):od (pL pb lv en op) pb 2 [.int .i64 n]=some (pL pb lv en n):=by simp [od,pL,mC]
theorem aK (M pb lv en op):aJ M (pL pb lv en op)=(M pb=none):=by simp [aJ,pL]
theorem Mh (b pb lv en op):ce b (pL pb lv en op)=(b≠pb/\pb≠b):=by simp [ce,pL]
def pE (M:aS):LL ->Prop
 | []=>True
 | (b,cs)::l=>M b=some cs/\pE M l
theorem Bb {M M':aS}(h:bh M M'):∀ {L},pE M L ->pE M' L
 | [],_=>trivial
 | (_,_)::_,⟨h1,h2⟩=>⟨h _ _ h1,Bb h h2⟩
theorem lf {N R}{k:Sh ->Prop}:∀ {L:LL} {M:aS},(∀ M',bh M M' ->pE M' L ->bK ⟨N,M',[],R⟩ k) ->bK ⟨N,M,L,R⟩ k
 | [],M,h=>h M bh.rfl' trivial
 | (b,cs)::L,M,h=>aT fun he hb _=>lf fun M' mW hL=>h M' (he.trans mW) ⟨mW _ _ hb,hL⟩
theorem CQ {T0:Tm}{h:Sh}{b:Nat}{cs:List Value}(hc:∀ o v,cs[o]?=some v ->h.cell ⟨b,o,none⟩=some v):fZ ⟨T0,fun _=>none,[(b,cs)],[]⟩ h:=by
 intro a v hv
 obtain ⟨k,o,sp⟩:=a
 simp only [Sh.cell,aQ,dK] at hv
 by_cases hk:k=b
 ·subst hk
  cases sp with
  | some q=>simp at hv
  | none=>exact hc o v (by simpa using hv)
 ·cases sp<;>simp [hk] at hv
theorem Np (a:Addr):aQ (fun _=>none) a=none:=by simp [aQ]
theorem Pr {T ks n pan}(ops:List Oper):yf (Pd T ks n pan) ops=True:=eq_true (fun _ _ _ _ _ _ _ _ _ h=>h)
theorem gA {T0 T:Tm}{M:aS}{b:Nat}{cs:List Value}{L:LL}{R:RR}(hb:M b=none):fZ ⟨T0,fun _=>none,[(b,cs)],[]⟩ ⟨T,M,(b,cs)::L,R⟩:=
 CQ fun o v hv=>by simp [Sh.cell,aQ,dK,hb,hv]
theorem sD {T0 T:Tm}{M:aS}{b b':Nat}{cs cs':List Value}{L:LL}{R:RR}(hb:M b=none)(cD:¬ b=b'):fZ ⟨T0,fun _=>none,[(b,cs)],[]⟩ ⟨T,M,(b',cs')::(b,cs)::L,R⟩:=
 CQ fun o v hv=>by simp [Sh.cell,aQ,dK,hb,hv,cD]
section
variable {P:Program} {F:Fi} {s:List Vc.Item} {e:dj} {ds:List Deferred} {dd:Option Nat} {T:Tm} {M:aS} {L:LL} {R:RR} {t tx el:TypeId} {sz:Nat} {z news xs:List Value} {y:Value}
theorem ma (bP:eC P t=some (el,sz,z))(cq:kX P t=true)(hs:Srcs P tx sz ⟨T,M,L,R⟩ y news)(hb:news.length<=4398046511104)
 (k:∀ a m c,m*sz=news.length ->cj P F s (cB e dd (.slice a m c)) ds ⟨T,M,L,(.slice a m c,el,sz,news)::R⟩ ⟨⟩):pA P F t tx (.slice none 0 0) y dd s e ds ⟨T,M,L,R⟩ ⟨⟩:=
 .inr ⟨el,sz,z,news,bP,cq,hs,.inr (.inl ⟨rfl,hb,k⟩)⟩
theorem fK {x:Value}(bP:eC P t=some (el,sz,z))(cq:kX P t=true)(hs:Srcs P tx sz ⟨T,M,L,(x,el,sz,xs)::R⟩ y news)(hb:xs.length+news.length<=4398046511104)
 (k:∀ a m c,m*sz=xs.length+news.length ->cj P F s (cB e dd (.slice a m c)) ds ⟨T,M,L,(.slice a m c,el,sz,xs++news)::R⟩ ⟨⟩):pA P F t tx x y dd s e ds ⟨T,M,L,(x,el,sz,xs)::R⟩ ⟨⟩:=
 .inr ⟨el,sz,z,news,bP,cq,hs,.inl ⟨0,xs,rfl,hb,k⟩⟩
theorem jO {a:Addr}{n:Nat}(bP:eC P t=some (el,sz,z))(cq:kX P t=true)(hs:Srcs P tx sz ⟨T,M,L,R⟩ y news)(hc:Sh.cells ⟨T,M,L,R⟩ a 0 (n*sz)=some xs)(dG:0<news.length)(hb:xs.length+news.length<=4398046511104)
 (k:∀ a m c,m*sz=xs.length+news.length ->cj P F s (cB e dd (.slice a m c)) ds ⟨T,M,L,(.slice a m c,el,sz,xs++news)::R⟩ ⟨⟩):pA P F t tx (.slice (some a) n n) y dd s e ds ⟨T,M,L,R⟩ ⟨⟩:=
 .inr ⟨el,sz,z,news,bP,cq,hs,.inr (.inr (.inl ⟨a,n,xs,rfl,hc,dG,hb,k⟩))⟩
theorem pt {b o n c:Nat}(bP:eC P t=some (el,sz,z))(cq:kX P t=true)(hs:Srcs P tx sz ⟨T,M,L,R⟩ y [])(dJ:n<=c)
 (k:cj P F s (cB e dd (.slice (some ⟨b,o,none⟩) n c)) ds ⟨T,M,L,R⟩ ⟨⟩):pA P F t tx (.slice (some ⟨b,o,none⟩) n c) y dd s e ds ⟨T,M,L,R⟩ ⟨⟩:=
 .inr ⟨el,sz,z,[],bP,cq,hs,.inr (.inr (.inr (.inl ⟨b,o,n,c,rfl,dJ,rfl,k⟩)))⟩
theorem th {x:Value}{L':LL}(bP:eC P t=some (el,sz,z))(cq:kX P t=true)(I2:Pq x el sz xs ⟨T,M,L,R⟩ L')(hs:Srcs P tx sz ⟨T,M,L,R⟩ y news)(lZ:Srcs P tx sz ⟨T,M,L',R⟩ y news)(dG:0<news.length)(hb:xs.length+news.length<=4398046511104)
 (k:∀ N' g m c junk,aH T N' ->N' g=some el ->M g=none ->ce g L' ->m*sz=xs.length+news.length ->m<=c ->(xs++news++junk).length=c*sz ->cj P F s (cB e dd (.slice (some ⟨g,0,none⟩) m c)) ds ⟨N',M,(g,xs++news++junk)::L',R⟩ ⟨⟩):pA P F t tx x y dd s e ds ⟨T,M,L,R⟩ ⟨⟩:=
 .inr ⟨el,sz,z,news,bP,cq,hs,.inr (.inr (.inr (.inr (.inr ⟨xs,L',I2,lZ,dG,hb,k⟩))))⟩
theorem yT {n:Nat}{ik:IntKind}(bP:eC P t=some (el,sz,z))(cq:kX P t=true)(hk:P.underlying tx=some (.int ik))(h0:0<n)(hb:n<=4294967296)
 (k:∀ a c zs,zs.length=n*sz ->n<=c ->cj P F s (cB e dd (.slice a n c)) ds ⟨T,M,L,(.slice a n c,el,sz,zs)::R⟩ ⟨⟩):pA P F t tx (.slice none 0 0) (.int .i64 (n:Nat)) dd s e ds ⟨T,M,L,R⟩ ⟨⟩:=
 .inl ⟨el,sz,z,n,ik,bP,cq,hk,rfl,rfl,h0,hb,k⟩
end
theorem nJ {T:Tm}{M:aS}{L:LL}{R:RR}{a:Option Addr}{n c:Nat}{el:TypeId}{sz:Nat}{zs:List Value}{k:Sh ->Prop}(ej:0<sz)(hk:bK ⟨T,M,L,(.slice a 0 c,el,sz,[])::R⟩ k):
 bK ⟨T,M,L,(.slice a n c,el,sz,zs)::R⟩ k:=fun cx w hw=>by
 obtain ⟨bs,hi⟩:=hw
 refine hk cx w ⟨bs,{hi with rows:= ?_}⟩
 refine ⟨hi.rows.1,?_⟩
 intro i v e' sz' xs o h1 h2
 cases i with
 | succ i=>exact hi.rows.2 (i+1) v e' sz' xs o (by simpa using h1) h2
 | zero=>
  simp only [List.getElem?_cons_zero,Option.some.injEq,Prod.mk.injEq] at h1
  obtain ⟨rfl,rfl,rfl,rfl⟩:=h1
  have hr:=hi.rows.2 0 _ _ _ _ o rfl h2
  rcases hr with ⟨h0,hx,ho⟩ | ⟨g,m,cap,junk,hv,hg,hn,hc,dJ,ho⟩ | ⟨h0,_⟩ | ⟨h0,_⟩
  ·cases h0;exact .inl ⟨rfl,rfl,ho⟩
  ·cases hv
   exact .inr (.inl ⟨g,0,c,zs++junk,rfl,by simpa using hg,by simp,by simpa using hc,by omega,ho⟩)
  ·omega
  ·omega
theorem xU {h:Sh}{b:Nat}{cs:List Value}(hc:∀ o v,cs[o]?=some v ->h.cell ⟨b,o,none⟩=some v):∀ (n i:Nat),i+n=cs.length ->h.cells ⟨b,0,none⟩ i n=some (cs.drop i):=by
 intro n
 induction n with
 | zero=>intro i hi;rw [List.drop_eq_nil_of_le (by omega)];rfl
 | succ n ih=>
  intro i hi
  have aN:i<cs.length:=by omega
  rw [rx,ih (i+1) (by omega),Nat.zero_add,hc i cs[i] (gq aN),dq aN]
  rfl
theorem bL {T:Tm}{M:aS}(L1:LL){L2:LL}{R:RR}{b n:Nat}{cs:List Value}(hb:M b=none)(ha:ce b L1)(hn:n=cs.length):Sh.cells ⟨T,M,L1++(b,cs)::L2,R⟩ ⟨b,0,none⟩ 0 n=some cs:=by
 have key:∀ {L1:LL} (o:Nat),ce b L1 ->dK (L1++(b,cs)::L2) ⟨b,o,none⟩=some cs[o]?:=by
  intro L1 o
  induction L1 with
  | nil=>intro _;simp [dK]
  | cons p l ih=>
   obtain ⟨k,ds⟩:=p
   intro h
   simp only [List.cons_append,dK,if_neg h.1.1]
   exact ih h.2
 have:=xU (h:=⟨T,M,L1++(b,cs)::L2,R⟩) (b:=b) (cs:=cs) (fun o v hv=>by simp [Sh.cell,aQ,hb,key o ha,hv]) n 0 (by omega)
 simpa using this
theorem dw {T0 T:Tm}{M:aS}(L1:LL){L2:LL}{R:RR}{b:Nat}{cs:List Value}(hb:M b=none)(ha:ce b L1):fZ ⟨T0,fun _=>none,[(b,cs)],[]⟩ ⟨T,M,L1++(b,cs)::L2,R⟩:=by
 have key:∀ {L1:LL} (o:Nat),ce b L1 ->dK (L1++(b,cs)::L2) ⟨b,o,none⟩=some cs[o]?:=by
  intro L1 o
  induction L1 with
  | nil=>intro _;simp [dK]
  | cons p l ih=>
   obtain ⟨k,ds⟩:=p
   intro h
   simp only [List.cons_append,dK,if_neg h.1.1]
   exact ih h.2
 exact CQ fun o v hv=>by simp [Sh.cell,aQ,hb,key o ha,hv]
section
variable {P:Program} {F:Fi} {b:Code} {s:List Item} {e:dj} {ds:List Deferred} {h:Sh}
theorem br (n ti:Nat)(lv:List (Nat×Value))(J:Nat ->dj ->Sh ->Prop)(i0:Nat)(hi:i0<=n)(hl:aG e lv)(ht:e ti=.int .i64 (i0:Nat))(hJ:bK h fun h=>J i0 e h)
 (hs:∀ i e' h',i<=n ->aG e' lv ->e' ti=.int .i64 (i:Nat) ->J i e' h' ->cj P F (.code b:: .lp (LI ds n ti lv J) (n - i)::s) e' ds h' ⟨⟩):ES P F b s e ds h ⟨⟩:=by
 refine ⟨LI ds n ti lv J,pk hJ fun h' hJ'=>az ⟨n - i0,rfl,i0,hi,rfl,hl,ht,hJ'⟩,?_⟩
 rintro m e' ds' h' ⟨rfl,i,hi,rfl,hl,ht,hJ⟩
 exact hs i e' h' hi hl ht hJ
end
theorem du {T0 T:Tm}{M M':aS}(L1:LL){L2:LL}{R:RR}{b:Nat}{cs:List Value}(hM:bh M M')(hb:M' b=none)(ha:ce b L1):fZ ⟨T0,M,[(b,cs)],[]⟩ ⟨T,M',L1++(b,cs)::L2,R⟩:=by
 have key:∀ {L1:LL} (o:Nat),ce b L1 ->dK (L1++(b,cs)::L2) ⟨b,o,none⟩=some cs[o]?:=by
  intro L1 o
  induction L1 with
  | nil=>intro _;simp [dK]
  | cons p l ih=>
   obtain ⟨k,ds⟩:=p
   intro h
   simp only [List.cons_append,dK,if_neg h.1.1]
   exact ih h.2
 intro a v hv
 simp only [Sh.cell] at hv ⊢
 cases hm:aQ M a with
 | some u=>
  rw [hm] at hv
  injection hv with hv;subst hv
  rw [ay hM hm]
 | none=>
  rw [hm] at hv
  obtain ⟨k,o,sp⟩:=a
  simp only [dK] at hv
  by_cases hk:k=b
  ·subst hk
   cases sp with
   | some q=>simp at hv
   | none=>
    simp only [if_true,Option.isSome_none,Bool.false_eq_true,if_false,Option.getD_some] at hv
    rw [aA hb,key o ha]
    simpa using hv
  ·simp [hk] at hv
def jW (w w':World):Prop:=w'.os=w.os/\w'.tape=w.tape/\w'.output=w.output/\w.heap.size<=w'.heap.size/\∀ b,b<w.heap.size ->w'.heap[b]?=w.heap[b]?
theorem jW.rfl' {w:World}:jW w w:=⟨rfl,rfl,rfl,Nat.le_refl _,fun _ _=>rfl⟩
theorem tD {w:World}{a:Addr}{n b:Nat}(h:b≠a.block):(w.freeze a n).heap[b]?=w.heap[b]?:=by
 unfold World.freeze
 split
 ·rfl
 ·show (w.heap.modify a.block _)[b]?=_
  rw [Array.getElem?_modify,if_neg (Ne.symm h)]
theorem jW.bytes {w:World}{e s}:jW w (Lib.bytesWorld w e s):=by
 have ej:(Lib.bytesWorld w e s).heap.size=w.heap.size+1:=by
  simp [Lib.bytesWorld,World.freeze]
 refine ⟨rfl,rfl,rfl,by omega,?_⟩
 intro b hb
 have h1:(w.drew.alloc (.cells (Lib.bytesCells w e s) e)).heap[b]?=w.heap[b]?:=ci (w:=w.drew) hb
 rw [<- h1]
 exact tD (by simp;omega)
theorem Hp.keeps {c N M L R w w' bs}(hi:Hp c ⟨N,M,L,R⟩ w bs)(hk:jW w w'):Hp c ⟨N,M,L,R⟩ w' bs:=by
 obtain ⟨k1,k2,k3,k4,k5⟩:=hk
 exact
 {typ:=fun b u hu=>by
   obtain ⟨aN,hc⟩:=hi.typ b u hu
   refine ⟨by omega,fun hb=> ?_⟩
   obtain ⟨cs',f,hc⟩:=hc hb
   exact ⟨cs',f,by rw [k5 b (fh hc)];exact hc⟩
  holds:=fun b x hb=>by
   have:=hi.holds.lt hb
   obtain ⟨t,f,ht⟩:=hi.holds _ _ hb
   exact ⟨t,f,by rw [k5 b this];exact ht⟩
  blk:=fun b x hb=>by
   have h2:=hi.blk _ _ hb
   have hl:=h2.lt
   obtain ⟨t,ht⟩:=h2
   exact ⟨t,by rw [k5 b hl];exact ht⟩
  rows:=⟨hi.rows.1,fun i v e sz xs o h1 h2=>(hi.rows.2 i v e sz xs o h1 h2).keep fun g hg=>by
   subst hg
   exact k5 g (hi.rows.2 i v e sz xs _ h1 h2).lt⟩
  nodup:=hi.nodup
  apart:=hi.apart
  os:=k1.trans hi.os
  tape:=k2.trans hi.tape
  output:=k3.trans hi.output
  size:=Nat.le_trans hi.size k4
  old:=fun b hb hu=>by rw [k5 b (Nat.lt_of_lt_of_le hb hi.size)];exact hi.old b hb hu
  mem:=hi.mem
  le:=hi.le}
theorem wi {P:Program}{f:FuncId}{args:List Value}{M:aS}{v:Value}(hb:de P f=true)
 (h:∀ w,pg M w ->Calls P f args.toArray w fun e w'=>e=.returned v/\jW w w'):Ct P f args M [] [] (fun r M' _ _=>r=v/\M'=M) aO:=by
 intro T
 refine ⟨hb,fun w U hw=> ?_⟩
 obtain ⟨bs,rfl,hi⟩:=hw
 refine Calls.mono (h w hi.holds) ?_
 rintro e w' ⟨rfl,gP⟩
 exact ⟨M,[],[],⟨⟨bs,hi.keeps gP⟩,rfl,rfl⟩,rfl,rfl⟩
theorem Sg {P:Program}{f:FuncId}{args:List Value}{M:aS}{cs:List Value}{t:TypeId}(F:Nat ->Value)(hb:de P f=true)
 (h:∀ w,pg M w ->Calls P f args.toArray w fun e w'=>e=.returned (F w.heap.size)/\w'=w.alloc (.cells cs.toArray t)):Ct P f args M [] [] (fun r M' _ _=>∃ b,r=F b/\M' b=some cs) aO:=by
 intro T
 refine ⟨hb,fun w U hw=> ?_⟩
 obtain ⟨bs,rfl,hi⟩:=hw
 refine Calls.mono (h w hi.holds) ?_
 rintro e w' ⟨rfl,rfl⟩
 have h2:=(hi.alloc (t:=t) cs).untype (N':=T) hi.extT
 have h3:=h2.freeze (b:=w.heap.size) (cs:=cs) (L:=[]) rfl
 exact ⟨_,[],[],⟨⟨bs,h3⟩,rfl,rfl⟩,w.heap.size,rfl,by simp [aS.add]⟩
theorem dz {P:Program}{F:Fi}{s:List Vc.Item}{e:dj}{ds:List Deferred}{dd:Option Nat}{N:Tm}{M:aS}{f:FuncId}{args:List Value}{R:RR}(L1:LL){Lp:LL}{post:ez}{pan:lX}(hc:cw P f args N M Lp [] post pan)
 (hn:∀ v M' L',bh M M' ->keys L'=keys Lp ->aJ M' (L1++L') ->post v M' L' [] ->cj P F s (cB e dd v) ds ⟨N,M',L1++L',R⟩ ⟨⟩)
 (hp:∀ ch M' L',bh M M' ->keys L'=keys Lp ->aJ M' (L1++L') ->pan ch M' L' [] ->F.pan ch e ds ⟨N,M',L1++L',R⟩):
 dk P F f args dd s e ds ⟨N,M,L1++Lp,R⟩ ⟨⟩:=by
 have nilR:∀ {R':RR},R'.length=([]:RR).length ->R'=[]:=fun h=>by simpa using h
 have:=fH (P:=P) (F:=F) (s:=s) (e:=e) (ds:=ds) (dd:=dd) (N:=N) L1 Lp [] [] [] R hc
  (fun v M' L' R' he hk hR bi hq=>by
   rw [nilR hR] at hq ⊢
   rw [List.append_nil] at bi ⊢
   exact hn v M' L' he hk bi hq)
  (fun ch M' L' R' he hk hR bi hq=>by
   rw [nilR hR] at hq ⊢
   rw [List.append_nil] at bi ⊢
   exact hp ch M' L' he hk bi hq)
 rw [List.append_nil] at this
 exact this
def Xy (P:Program)(f:FuncId)(args:List Value)(h:Sh)(k:Sh ->Prop):Prop:=
 de P f=true/\∀ c w u,Is c h w ->CallsD P f args.toArray u w fun e u' w'=>u'=u/\∃ v,e=.returned v/\∃ h',Is c h' w'/\k h'
def dFn (d:Deferred):Option (FuncId×List Value):=match d.target with
 | .fn (.func f) cap=>some (f,d.args.toList++cap.toList)
 | _=>none
def Bm (P:Program):List Deferred ->Sh ->(Sh ->Prop) ->Prop
 | [],h,k=>k h
 | d::ds,h,k=>ed (dFn d) fun (f,args)=>Xy P f args h fun h'=>Bm P ds h' k
def UW (ch:List PanicEntry):Bool:=match ch with | {recovered:=true,..}::_=>false | _=>true
def WT (P:Program)(T:Tm)(rs:List ResultVar)(ks:List Nat)(n:Nat)(post:ez)(e:dj)(ds:List Deferred)(h:Sh):Prop:=
 Bm P ds h fun h=>ed (nS P e h rs) fun vs=>bK h (ur T ks n post (vy vs))
def YT (P:Program)(T:Tm)(ks:List Nat)(n:Nat)(pan:lX)(ch:List PanicEntry)(_:dj)(ds:List Deferred)(h:Sh):Prop:=
 UW ch=true/\Bm P ds h fun h=>bK h (ur T ks n (fun _=>pan ch) undef)
def Oh (P:Program)(T:Tm)(dr:List (Nat×Sched))(ts:List ResultVar)(ks:List Nat)(n:Nat)(post:ez)(pan:lX):Fi:=⟨dr,WT P T ts ks n post,YT P T ks n pan⟩
theorem IF {ch:List PanicEntry}(h:UW ch=true):settle (.panicking ch)=.panicking ch:=by
 unfold UW at h
 unfold settle
 split
 ·rename_i hh
  injection hh with hh
  subst hh
  simp at h
 ·rfl
theorem Ri {P:Program}{f:FuncId}{args:List Value}{N:Tm}{M:aS}{R:RR}(L1:LL){Lp:LL}{post:ez}(hc:CtD P f args N M Lp [] post aO){k:Sh ->Prop}
 (hn:∀ v M' L',bh M M' ->keys L'=keys Lp ->aJ M' (L1++L') ->post v M' L' [] ->k ⟨N,M',L1++L',R⟩):Xy P f args ⟨N,M,L1++Lp,R⟩ k:=by
 refine ⟨hc.1,fun c w u hw=> ?_⟩
 obtain ⟨bs,hi⟩:=hw
 have jQ:Hp c ⟨N,M,L1++Lp++[],[]++[]++R⟩ w ([]++[]++bs):=by simpa using hi
 have xj:=jQ.enter (R1:=[]) (Rp:=[]) (b1:=[]) (bp:=[]) rfl rfl
 intro cf cs hu
 obtain ⟨e,u',w',fr,⟨rfl,hr⟩,rest⟩:=hc.2 u w _ ⟨[],rfl,xj⟩ cf cs hu
 refine ⟨e,u',w',fr,⟨rfl,?_⟩,rest⟩
 cases e with
 | returned v=>
  obtain ⟨M',L',R',⟨⟨bp',C9⟩,hk,hR⟩,hq⟩:=hr
  have MI:R'=[]:=by simpa using hR
  subst MI
  have Xv:bp'=[]:=by simpa using C9.rows.1.symm
  subst Xv
  have p4:=jQ.frame (R1:=[]) (Rp:=[]) (b1:=[]) (bp:=[]) (bp':=[]) (Rp':=[]) rfl rfl (by simpa using hi.rows.1.symm) C9 hk rfl
  have uC:Hp c ⟨N,M',L1++L',R⟩ w' bs:=by simpa using p4
  exact ⟨v,rfl,_,⟨bs,uC⟩,hn v M' L' (fun b cs hb=>C9.le b cs hb) hk (i6 fun b hb=>(uC.apart b (vZ (.inl hb))).1) hq⟩
 | panicked ch=>obtain ⟨_,_,_,_,hq⟩:=hr;exact hq.elim
 | outgrown=>exact hr.elim
theorem AN {P:Program}{fn:Func}{a:Array Value}{R:Ending ->World ->Prop}{c:Ctx}{ends:FrameMode ->World ->Prop}{u:FrameMode}(hu:u≠ .run)(QB:settle u=u)
 (agQ:∀ w,ends u w ->Leaves P fn a R [] u w):∀ (ds:List Deferred) (h:Sh) (w:World) (k:Sh ->Prop),Is c h w ->(∀ h w,Is c h w ->k h ->ends u w) ->Bm P ds h k ->Leaves P fn a R ds u w:=by
 intro ds
 induction ds with
 | nil=>intro h w k hw hk hd;exact agQ w (hk h w hw hd)
 | cons d ds ih=>
  intro h w k hw hk hd
  obtain ⟨⟨f,args⟩,ZM,hb,hd⟩:=cJ hd
  obtain ⟨t,da⟩:=d
  unfold dFn at ZM
  simp only at ZM
  split at ZM
  ·rename_i t2 g cap
   injection ZM with ZM
   injection ZM with h1 h2
   subst h1 h2
   have A7:=hb
   unfold de at A7
   refine ⟨hu,_,cap,g,(da.toList++cap.toList).toArray,rfl,?_,?_⟩
   ·show (invoke (.fn (.func g) cap) da).run P w=_
    have mM:(da.toList++cap.toList).toArray=da++cap:=by apply Array.toList_inj.1;simp
    rw [mM]
    cases Ta:P.funcs[g]? with
    | none=>rw [Ta] at A7;cases A7
    | some fn=>
     rw [Ta] at A7
     simp only [Bool.and_eq_true,Bool.not_eq_true'] at A7
     obtain ⟨fD,ey⟩:=A7
     simp only [invoke,callFunc,Sem.run_bind,Result.andThen_ok,run_program,Ta]
     obtain ⟨body,Rf⟩:=Option.isSome_iff_exists.1 fD
     simp [ey,Rf]
   ·intro cf cs rR
    obtain ⟨e,u',w',fr,⟨rfl,v,rfl,h',gP,Dp⟩,rest⟩:=hd c w u hw cf cs rR
    refine ⟨_,u',w',fr,?_,rest⟩
    simp only
    rw [QB]
    exact ih h' w' k gP hk Dp
  ·cases ZM
theorem HE {P:Program}{fn:Func}{T:Tm}{dr ts ks k U M post pan}(hr:fn.results.toList=ts){w0:World}{ex:Exit}{a:Act}{w:World}{n:Nat}
 (hq:KontL.toQ ⟨w0,M,U⟩ n (Oh P T dr ts ks k post pan).k ex a w):bodyPostD P fn (Ot U T M ks k post pan w0) ex a w:=by
 have FT:∀ {e ds h},Fr n a e ds ->Is ⟨w0,M,U⟩ h w ->WT P T ts ks k post e ds h ->Leaves P fn a.tmps (Ot U T M ks k post pan w0) a.defers .returning w:=by
  intro e ds h ha hw hd
  rw [ha.2.1]
  refine AN (c:=⟨w0,M,U⟩) (ends:=fun u w=>u=.returning/\∃ h vs,Is ⟨w0,M,U⟩ h w/\nS P e h ts=some vs/\bK h (ur T ks k post (vy vs))) (by simp) rfl ?_ ds h w _ hw ?_ hd
  ·rintro w ⟨_,h,vs,hw,Of,cO⟩
   obtain ⟨h',gP,hT,hk,hR,hp⟩:=cO _ _ hw
   subst hr
   exact ⟨_,lM hw Of ha.2.2,h'.M,h'.L,h'.R,j9 hT gP hk hR,hp⟩
  ·intro h w hw hk
   obtain ⟨vs,Of,cO⟩:=cJ hk
   exact ⟨rfl,h,vs,hw,Of,cO⟩
 cases ex with
 | normal=>obtain ⟨e,ds,h,ha,hw,hd⟩:=hq;exact FT ha hw hd
 | ret=>obtain ⟨e,ds,h,ha,hw,hd⟩:=hq;exact FT ha hw hd
 | panic ch=>
  obtain ⟨e,ds,h,ha,hw,ac1,hd⟩:=hq
  show Leaves P fn a.tmps _ a.defers (.panicking ch) w
  rw [ha.2.1]
  refine AN (c:=⟨w0,M,U⟩) (ends:=fun u w=>u=.panicking ch/\∃ h,Is ⟨w0,M,U⟩ h w/\bK h (ur T ks k (fun _=>pan ch) undef)) (by simp) (IF ac1) ?_ ds h w _ hw ?_ hd
  ·rintro w ⟨_,h,hw,cO⟩
   obtain ⟨h',gP,hT,hk,hR,hp⟩:=cO _ _ hw
   exact ⟨h'.M,h'.L,h'.R,j9 hT gP hk hR,hp⟩
  ·intro h w hw hk
   exact ⟨rfl,h,hw,hk⟩
 | exit id=>obtain ⟨_,_,_,_,_,h⟩:=hq;exact h.elim
 | goto l=>exact hq.elim
 | outgrown=>exact hq.elim
theorem W2 {P:Program}{f:FuncId}{fn:Func}{c:Code}{args:List Value}{dr ts}{T:Tm}{M L R post pan}(hm:P.follows .mixedOrders=true)(A7:de P f=true)
 (hf:P.funcs[f]?=some fn) (hb:fn.body=some c) (hn:args.length<=fn.ntmps) (hc:eo P fn.ntmps dr c=true) (hr:fn.results.toList=ts)
 (h:aJ M L ->jN L ->cj P (Oh P T dr ts (keys L) R.length post pan) [.code c] (mQ args) [] ⟨T,M,L,R⟩ ⟨⟩):cw P f args T M L R post pan:=by
 refine ⟨A7,fun w U hw=>calls_of_wp_defers hf hb ?_⟩
 obtain ⟨h1,h2,h3⟩:=hw.facts
 have:=j6 (c₀:=⟨w,M,U⟩) hm c (Oh P T dr ts (keys L) R.length post pan).k (mQ args) [] ⟨T,M,L,R⟩ w _ hc (fr0 args.toArray fn.ntmps (by simpa using hn)) h3 (h h1 h2)
 exact wp_mono this fun ex a w' hq=>HE hr hq
theorem Vn {P T dr ts ks n post pan}:(Oh P T dr ts ks n post pan).ret=WT P T ts ks n post:=(rfl)
theorem vV {P T dr ts ks n post pan}:(Oh P T dr ts ks n post pan).pan=YT P T ks n pan:=(rfl)
theorem Z5 {P T dr ts ks n post pan}:(Oh P T dr ts ks n post pan).dr=dr:=(rfl)
theorem Sc {P T ts ks n post e h}:WT P T ts ks n post e [] h=ed (nS P e h ts) fun vs=>bK h (ur T ks n post (vy vs)):=(rfl)
theorem LE (P:Program)(t a n c):gZ P .eql t (.slice a n c) (.slice none 0 0)=if ea P t=true then some (.bool a.isNone) else none:=(rfl)
theorem N6 (P:Program)(t a n c):gZ P .neq t (.slice a n c) (.slice none 0 0)=if ea P t=true then some (.bool (!a.isNone)) else none:=(rfl)
theorem LH {P T ks n pan}(ops:List Oper):yf (YT P T ks n pan) ops=True:=eq_true (fun _ _ _ _ _ _ _ _ _ h=>h)
theorem dQ {P:Program}{F:Fi}{v:Value}{a b:Code}{S:List Item}{e:dj}{ds:List Deferred}{h:Sh}(Q:dj ->List Deferred ->Sh ->Prop)
 (k:∀ S',(∀ e ds h,Q e ds h ->cj P F S' e ds h ⟨⟩) ->sj P F v a b S' e ds h ⟨⟩) (hS:∀ e ds h,Q e ds h ->cj P F S e ds h ⟨⟩):sj P F v a b S e ds h ⟨⟩:=k S hS
theorem je {P:Program}{F:Fi}{c:Code}{S:List Item}{e:dj}{ds:List Deferred}{h:Sh}(Q:dj ->List Deferred ->Sh ->Prop)
 (k:∀ S',(∀ e ds h,Q e ds h ->cj P F S' e ds h ⟨⟩) ->cj P F (.code c::S') e ds h ⟨⟩) (hS:∀ e ds h,Q e ds h ->cj P F S e ds h ⟨⟩):cj P F (.code c::S) e ds h ⟨⟩:=k S hS
theorem dC {N M L R e sz}{k:Sh ->Prop}(hk:bK ⟨N,M,L,(.slice none 0 0,e,sz,[])::R⟩ k):bK ⟨N,M,L,R⟩ k:=fun c w hw=>by
 obtain ⟨bs,hi⟩:=hw
 exact hk c w ⟨_,hi.addNil⟩
theorem Hp.typed {c N M L R w bs b cs t}(hi:Hp c ⟨N,M,L,R⟩ w bs)(hT:N b=some t)(hb:(b,cs)∈L):w.heap[b]?=some (.cells cs.toArray t (0,0)):=by
 obtain ⟨u,hu⟩:=hi.blk b cs hb
 obtain ⟨_,h⟩:=hi.typ b t hT
 obtain ⟨cs',f,h⟩:=h (List.mem_map.2 ⟨_,hb,rfl⟩)
 rw [hu] at h
 injection h with h
 injection h with h1 h2 h3
 subst h2
 exact hu
theorem lS {P:Program}{F:Fi}{ops:List Oper}{sc:Sched}{S:List Item}{e:dj}{ds:List Deferred}{h:Sh}(Q:dj ->List Deferred ->Sh ->Prop)
 (k:∀ S',(∀ e ds h,Q e ds h ->cj P F S' e ds h ⟨⟩) ->Em P F ops sc S' e ds h ⟨⟩) (hS:∀ e ds h,Q e ds h ->cj P F S e ds h ⟨⟩):Em P F ops sc S e ds h ⟨⟩:=k S hS
section
variable {P:Program} {F:Fi} {s:List Item} {e:dj} {ds:List Deferred} {h:Sh}
theorem Rbk (id b):cj P F (.code (.block id b)::s) e ds h ⟨⟩=cj P F (.code b:: .blk id::s) e ds h ⟨⟩:=(rfl)
theorem Rcb (t a b):sj P F (.bool t) a b s e ds h ⟨⟩=if t=true then cj P F (.code a::s) e ds h ⟨⟩ else cj P F (.code b::s) e ds h ⟨⟩:=(rfl)
theorem aE:(∀ t a b,sj P F (.bool t) a b s e ds h ⟨⟩=if t=true then cj P F (.code a::s) e ds h ⟨⟩ else cj P F (.code b::s) e ds h ⟨⟩)/\∀ id b,cj P F (.code (.block id b)::s) e ds h ⟨⟩=cj P F (.code b:: .blk id::s) e ds h ⟨⟩:=⟨fun _ _ _=>rfl,fun _ _=>rfl⟩
end
structure FnF (P:Program) (f:FuncId) (fn:Func) (nt:Nat) (dr:List (Nat×Sched)) (ts:List ResultVar):Prop where
 mx:P.follows .mixedOrders=true
 bd:de P f=true
 fe:P.funcs[f]?=some fn
 nt:fn.ntmps=nt
 ok:∀ c,fn.body=some c ->eo P fn.ntmps dr c=true
 rs:fn.results.toList=ts
theorem bW {P f fn nt dr ts}(hm:P.follows .mixedOrders=true)(hf:P.funcs[f]?=some fn)(h:((de P f && fn.ntmps==nt) && match fn.body with | some c=>eo P fn.ntmps dr c | none=>true)=true)(hr:fn.results.toList=ts):FnF P f fn nt dr ts:=by
 simp only [Bool.and_eq_true,beq_iff_eq] at h
 exact ⟨hm,h.1.1,hf,h.1.2,fun c hc=>by have:=h.2;rw [hc] at this;exact this,hr⟩
theorem FnF.le {P f fn nt dr ts}(F:FnF P f fn nt dr ts){n:Nat}(h:Nat.ble n nt=true):n<=fn.ntmps:=by rw [F.nt];exact Nat.le_of_ble_eq_true h
section
variable {P:Program} {f:FuncId} {fn:Func} {c:Code} {args:List Value} {nt:Nat} {dr:List (Nat×Sched)} {ts:List ResultVar} {T:Tm} {M:aS} {L:List (Nat×List Value)} {R:List (Value×TypeId×Nat×List Value)} {k:Nat} {post:ez} {pan:lX}
theorem aC (F:FnF P f fn nt dr ts)(hb:fn.body=some c)(hn:Nat.ble args.length nt=true)(h:aJ M L ->jN L ->cj P (fi P T dr ts (keys L) R.length post pan) [.code c] (mQ args) [] ⟨T,M,L,R⟩ ⟨⟩):cw P f args T M L R post pan:=
 He F.mx F.bd F.fe hb (F.le hn) (F.ok c hb) F.rs h
theorem iP (F:FnF P f fn nt dr ts)(hb:fn.body=some c)(hn:Nat.ble args.length nt=true)(h:aJ M L ->jN L ->cj P (fi P T dr ts (keys L) k post pan) [.code c] (mQ args) [] ⟨T,M,L,R⟩ ⟨⟩):HV P f args T M L R k post pan:=
 VJ F.mx F.bd F.fe hb (F.le hn) (F.ok c hb) F.rs h
theorem D4 (F:FnF P f fn nt dr ts)(hb:fn.body=some c)(hn:Nat.ble args.length nt=true)(h:aJ M L ->jN L ->cj P (Oh P T dr ts (keys L) R.length post pan) [.code c] (mQ args) [] ⟨T,M,L,R⟩ ⟨⟩):cw P f args T M L R post pan:=
 W2 F.mx F.bd F.fe hb (F.le hn) (F.ok c hb) F.rs h
theorem QV (F:FnF P f fn nt dr ts)(hb:fn.body=some c)(hn:Nat.ble args.length nt=true)(h:aJ M L ->jN L ->cj P (fi P T dr ts (keys L) R.length post pan) [.code c] (mQ args) [] ⟨T,M,L,R⟩ ⟨⟩):CtD P f args T M L R post pan:=
 W1 F.mx F.bd F.fe hb (F.le hn) (F.ok c hb) F.rs h
end
attribute [go_sem] SZ VN aad Uz VM U9 Vd Nm Ih SE Rn HY ML Ji LT WN VV EZ UE kG nI WU VA PF OK Vh UH Vw YC Um HT FD QM Vn vV Z5 Sc LU Ry Ov aaU O4 NL PB G7 W7 K9 CY zI Jd IR Lj DF NN zG I6 RK HR Qy UY CA HF Ce ID Nd HS LK QD DE Ld P9 GN Q4 Ia HA GZ PJ SC mK Rb Hu O9 Cc MF WD Md Vp UL FO Lq D8 NW O6 Lv OT U5 WO Ml Xe Gc QH abd S6 Zu Yz YY Ic PD H5 ST U4 OF Wq abc Wn NU V0 OC U1 Mw Ga Vu LS MZ L7 El K8 Sz PG GX Mv U6 PQ QR In Sv LX Nl SJ Sa Fe GV LD Ij Hq EK C5 Ha Cm ER DO DD MX Vx PZ OV YN Sq Uj TF LN SV H9 P1 G9 Mf Pk OW Pf V9 NT Im NZ Fy Nx LB Pj W0 NK Tb QT OY Qq QI PU Re Pc TB Q9 Po Sn VK QK LJ MM LA MW Mq Nf Nb Nz HK Q5 ME ZZ PR VF MT Fc C7 Mu MY NX PC Mi Wy Bool.if_true_left Bool.if_true_right Bool.if_false_left Bool.if_false_right Bool.decide_eq_true Bool.decide_eq_false Bool.or_eq_true Bool.and_eq_true Bool.eq_false_iff decide_not Bool.false_or Bool.or_false Bool.and_false Bool.false_and or_false false_or and_false false_and or_true true_or not_true_eq_false UR HZ rx Ir aA aX ahl LE N6 LH Option.isNone_none Option.isNone_some Np Pr true_implies Z8 Ql O2 SR aK Mh RO OJ N7 VS S9 LR HM FH List.all_cons List.all_nil Q3 Int.ofNat_lt Int.ofNat_le Int.toNat_natCast Nat.mul_one UB aem aev aeM adg aea abV ab2 aeC acO adu Vr S2 Xc U0 gt_iff_lt ge_iff_le Int.le_refl Nat.add_sub_cancel Nat.sub_zero and_self SN Sy GS TA Qs IJ Hv Option.map_none Nat.zero_mul Nat.one_mul Hm mQ st ws G5 St Rh NC Qk Sp aaZ W5 Bi List.getD_cons_zero List.getD_cons_succ if_true if_false beq_self_eq_true NS Gm Lm GT O3 N0 List.set_cons_zero List.set_cons_succ List.length_set acR Gw lT jG acr EF Da MH Hd Nat.add_zero Nat.zero_add Nat.zero_lt_succ List.getElem?_cons_zero List.getElem?_cons_succ List.getElem?_nil Option.bind_some Option.bind_none Option.map_some Option.getD_some decide_eq_true_eq decide_true decide_false Classical.not_not ite_not Bool.and_true Bool.true_and Bool.or_true beq_true beq_false Bool.not_eq_eq_eq_not decide_eq_false_iff_not Bool.not_true Bool.not_false Bool.not_not List.map_cons List.map_nil List.append_assoc List.nil_append List.append_nil List.cons_append Array.toList_map List.length_cons List.length_nil aJ jN ce and_true true_and implies_true ne_eq not_false_eq_true
end Vc

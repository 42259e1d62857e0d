import Derived.Test.YtmccpbcbofhmlaaGreatDoorA
import Derived.Defers
import Derived.Lib.LaidTab
import Derived.Lib.ConvBytes
import Derived.Attr
set_option linter.all false
namespace Vc
open Go
inductive Item where
 | code (c:Code)
 | ops (all r:List Oper)
 | sch (all:List Oper) (s:Sched) (h0:Sh)
 | chk (t:Bool) (h0:Sh)
 | anew (t:Bool) (all:List Oper) (sc:Sched) (h0:Sh)
 | blk (id:Nat)
 | lp (I:Nat ->dN ->List Deferred ->Sh ->Prop) (m:Nat)
structure Fi where
 dr:List (Nat×Sched)
 ret:dN ->List Deferred ->Sh ->Prop
 pan:List PanicEntry ->dN ->List Deferred ->Sh ->Prop
def Fi.k (F:Fi):KontL where
 nrm:=F.ret
 exi:=fun _ _ _ _=>False
 ret:=F.ret
 pan:=F.pan
def jg (P:Program)(F:Fi):List Item ->KontL
 | []=>F.k
 | .code c::s=>{jg P F s with nrm:=Uj P F.dr c (jg P F s)}
 | .ops all r::s=>{jg P F s with nrm:=kx P all (jg P F s) r}
 | .sch all sc h0::s=>{jg P F s with nrm:=vS P all (jg P F s) h0 sc}
 | .chk t h0::s=>{jg P F s with nrm:=fun e ds h=>(t=false ->lr h0 h)/\(jg P F s).nrm e ds h}
 | .anew t all sc h0::s=>{jg P F s with nrm:=fun e ds h=>∃ h1,lr h0 h1/\(t=false ->lr h1 h)/\vS P all (jg P F s) h1 sc e ds h}
 | .blk id::s=>{jg P F s with exi:=fun i=>if i=id then (jg P F s).nrm else (jg P F s).exi i}
 | .lp I m::s=>{jg P F s with nrm:=fun e ds h=>cK h fun h=>∃ m',m'<m/\I m' e ds h}
structure Tok {α:Type} (a:α):Type
def cB (P:Program)(F:Fi)(s:List Item)(e:dN)(ds:List Deferred)(h:Sh)(_k:Tok (F,s,e,ds,h)):Prop:=(jg P F s).nrm e ds h
def G5 (P:Program)(F:Fi)(id:Nat)(s:List Item)(e:dN)(ds:List Deferred)(h:Sh)(_k:Tok (F,s,e,ds,h)):Prop:=(jg P F s).exi id e ds h
theorem lE {P F}:∀ s,(jg P F s).ret=F.ret
 | []=>rfl
 | .code _::s=>lE s
 | .ops _ _::s=>lE s
 | .sch _ _ _::s=>lE s
 | .chk _ _::s=>lE s
 | .anew _ _ _ _::s=>lE s
 | .blk _::s=>lE s
 | .lp _ _::s=>lE s
theorem jz {P F}:∀ s,(jg P F s).pan=F.pan
 | []=>rfl
 | .code _::s=>jz s
 | .ops _ _::s=>jz s
 | .sch _ _ _::s=>jz s
 | .chk _ _::s=>jz s
 | .anew _ _ _ _::s=>jz s
 | .blk _::s=>jz s
 | .lp _ _::s=>jz s
section
variable {P:Program} {F:Fi} {s:List Item} {e:dN} {ds:List Deferred} {h h0:Sh} {all r:List Oper} {dd:Option Nat} {ty:TypeId} {pos:String} {af:Array Edge}
theorem UN:cB P F [] e ds h ⟨⟩=F.ret e ds h:=(rfl)
theorem EJ:cB P F (.code .skip::s) e ds h ⟨⟩=cB P F s e ds h ⟨⟩:=(rfl)
theorem un (a b):cB P F (.code (.seq a b)::s) e ds h ⟨⟩=cB P F (.code a:: .code b::s) e ds h ⟨⟩:=(rfl)
theorem ri (id b):cB P F (.code (.block id b)::s) e ds h ⟨⟩=cB P F (.code b:: .blk id::s) e ds h ⟨⟩:=(rfl)
theorem UY (id):cB P F (.blk id::s) e ds h ⟨⟩=cB P F s e ds h ⟨⟩:=(rfl)
theorem Wr:cB P F (.code .ret::s) e ds h ⟨⟩=F.ret e ds h:=by
 show (jg P F s).ret e ds h=_;rw [lE]
theorem TE (id):cB P F (.code (.exit id)::s) e ds h ⟨⟩=G5 P F id s e ds h ⟨⟩:=(rfl)
theorem PC (id c):G5 P F id (.code c::s) e ds h ⟨⟩=G5 P F id s e ds h ⟨⟩:=(rfl)
theorem Ws (id a r):G5 P F id (.ops a r::s) e ds h ⟨⟩=G5 P F id s e ds h ⟨⟩:=(rfl)
theorem UO (id a r):G5 P F id (.sch a r h0::s) e ds h ⟨⟩=G5 P F id s e ds h ⟨⟩:=(rfl)
theorem Wy (id t):G5 P F id (.chk t h0::s) e ds h ⟨⟩=G5 P F id s e ds h ⟨⟩:=(rfl)
theorem SQ (id t a sc):G5 P F id (.anew t a sc h0::s) e ds h ⟨⟩=G5 P F id s e ds h ⟨⟩:=(rfl)
theorem adX (id I m):G5 P F id (.lp I m::s) e ds h ⟨⟩=G5 P F id s e ds h ⟨⟩:=(rfl)
theorem XX (i id):G5 P F i (.blk id::s) e ds h ⟨⟩=if i=id then cB P F s e ds h ⟨⟩ else G5 P F i s e ds h ⟨⟩:=by
 simp only [G5,jg,cB];split<;>rfl
theorem Hi (id ops):cB P F (.code (.region id ⟨ops⟩ false)::s) e ds h ⟨⟩=cB P F (.ops ops ops::s) e ds h ⟨⟩:=(rfl)
theorem Fq:cB P F (.ops all []::s) e ds h ⟨⟩=cB P F s e ds h ⟨⟩:=(rfl)
def F6 (P:Program)(F:Fi)(ops:List Oper)(sc:Sched)(s:List Item)(e:dN)(ds:List Deferred)(h:Sh)(_k:Tok (F,ops,s,e,ds,h)):Prop:=
 ∃ h0,lr h0 h/\cB P F (.sch ops sc h0::s) e ds h ⟨⟩
theorem SJ (id ops):cB P F (.code (.region id ⟨ops⟩ true)::s) e ds h ⟨⟩=(ze F.pan ops/\F6 P F ops (GE F.dr id) s e ds h ⟨⟩):=by
 show uU P F.dr id ops true (jg P F s) e ds h=_
 unfold uU
 rw [if_pos rfl,jz]
 rfl
theorem eR {ops:List Oper}{sc:Sched}(h0:Sh)(hs:lr h0 h)(hr:cB P F (.sch ops sc h0::s) e ds h ⟨⟩):F6 P F ops sc s e ds h ⟨⟩:=⟨h0,hs,hr⟩
theorem bq {ops:List Oper}{sc:Sched}(hr:cB P F (.sch ops sc h::s) e ds h ⟨⟩):F6 P F ops sc s e ds h ⟨⟩:=⟨h,lr.refl h,hr⟩
theorem SW:cB P F (.sch all .done h0::s) e ds h ⟨⟩=cB P F s e ds h ⟨⟩:=(rfl)
theorem aaI:cB P F (.sch all .no h0::s) e ds h ⟨⟩=True:=(rfl)
def yZ (P:Program)(F:Fi)(v:Value)(a b:Code)(s:List Item)(e:dN)(ds:List Deferred)(h:Sh)(_k:Tok (F,a,b,s,e,ds,h)):Prop:=
 match v with
 | .bool t=>if t=true then cB P F (.code a::s) e ds h ⟨⟩ else cB P F (.code b::s) e ds h ⟨⟩
 | _=>False
theorem QM (c a b):cB P F (.code (.cond c a b)::s) e ds h ⟨⟩=yZ P F (ev e c) a b s e ds h ⟨⟩:=(rfl)
theorem bV (t a b):yZ P F (.bool t) a b s e ds h ⟨⟩=if t=true then cB P F (.code a::s) e ds h ⟨⟩ else cB P F (.code b::s) e ds h ⟨⟩:=(rfl)
def jQ (P:Program)(F:Fi)(o:Option Value)(dd:Option Nat)(s:List Item)(e:dN)(ds:List Deferred)(h:Sh)(_k:Tok (F,s,e,ds,h)):Prop:=
 match o with
 | some v=>cB P F s (cV e dd v) ds h ⟨⟩
 | none=>False
theorem ME (v):jQ P F (some v) dd s e ds h ⟨⟩=cB P F s (cV e dd v) ds h ⟨⟩:=(rfl)
def RE (P:Program)(F:Fi)(o:Option Oper)(all:List Oper)(sc:Sched)(h0:Sh)(s:List Item)(e:dN)(ds:List Deferred)(h:Sh)(_k:Tok (F,all,sc,h0,s,e,ds,h)):Prop:=
 match o with
 | some o=>if jj all e o.guard=true then jQ P F (pv P e h0 o.op) o.dst (.sch all sc h0::s) e ds h ⟨⟩ else cB P F (.sch all sc h0::s) (cV e o.dst undef) ds h ⟨⟩
 | none=>False
theorem QI (i sc):cB P F (.sch all (.take i sc) h0::s) e ds h ⟨⟩=RE P F all[i]? all sc h0 s e ds h ⟨⟩:=by
 show eU all[i]? _=_
 unfold RE eU
 cases all[i]? with
 | none=>rfl
 | some o=>
  simp only []
  split
  ·unfold jQ
   cases pv P e h0 o.op<;>rfl
  ·rfl
theorem In (d op ty pos af g sc):RE P F (some ⟨d,op,ty,pos,af,g⟩) all sc h0 s e ds h ⟨⟩=
 if jj all e g=true then jQ P F (pv P e h0 op) d (.sch all sc h0::s) e ds h ⟨⟩ else cB P F (.sch all sc h0::s) (cV e d undef) ds h ⟨⟩:=(rfl)
theorem pe {d op ty pos af}:oL ⟨d,op,ty,pos,af,none⟩=false:=(rfl)
def aeF (P:Program)(F:Fi)(o:Option Oper)(all:List Oper)(t:Bool)(sc alt:Sched)(h0:Sh)(s:List Item)(e:dN)(ds:List Deferred)(h:Sh)(_k:Tok (F,all,sc,alt,h0,s,e,ds,h)):Prop:=
 match o with
 | some o=>if oL o=true then (X5 P (jg P F s) all o e ds h fun v ds h'=>(t=false ->lr h0 h')/\vS P all (jg P F s) h0 sc (cV e o.dst v) ds h')/\vS P all (jg P F s) h0 alt e ds h
  else cB P F (.ops all [o]:: .chk t h0:: .sch all sc h0::s) e ds h ⟨⟩/\cB P F (.sch all alt h0::s) e ds h ⟨⟩
 | none=>False
theorem UK (i t sc alt):cB P F (.sch all (.eff i t sc alt) h0::s) e ds h ⟨⟩=aeF P F all[i]? all t sc alt h0 s e ds h ⟨⟩:=by
 show (eU all[i]? _/\_)=_
 unfold aeF eU
 cases all[i]? with
 | none=>simp
 | some o=>
  by_cases hp:oL o=true
  ·simp only [hp,if_true]
  ·simp only [hp,if_false]
   show _=(kx P all _ [o] e ds h/\_)
   unfold kx
   rw [if_neg hp]
   rfl
theorem NH (d op ty pos af g t sc alt)(hp:iD op=false):aeF P F (some ⟨d,op,ty,pos,af,g⟩) all t sc alt h0 s e ds h ⟨⟩=(cB P F (.ops all [⟨d,op,ty,pos,af,g⟩]:: .chk t h0:: .sch all sc h0::s) e ds h ⟨⟩/\cB P F (.sch all alt h0::s) e ds h ⟨⟩):=by
 show (if oL _=true then _ else _)=_
 rw [if_neg (by simp [oL,hp])]
def Te (P:Program)(F:Fi)(o:Option Oper)(all:List Oper)(t:Bool)(sc alt:Sched)(h0:Sh)(s:List Item)(e:dN)(ds:List Deferred)(h:Sh)(_k:Tok (F,all,sc,alt,h0,s,e,ds,h)):Prop:=
 match o with
 | some o=>if oL o=true then (X5 P (jg P F s) all o e ds h fun v ds h'=>∃ h1,lr h0 h1/\(t=false ->lr h1 h')/\vS P all (jg P F s) h1 sc (cV e o.dst v) ds h')/\vS P all (jg P F s) h0 alt e ds h
  else cB P F (.ops all [o]:: .anew t all sc h0::s) e ds h ⟨⟩/\cB P F (.sch all alt h0::s) e ds h ⟨⟩
 | none=>False
theorem Ss (i t sc alt):cB P F (.sch all (.effN i t sc alt) h0::s) e ds h ⟨⟩=Te P F all[i]? all t sc alt h0 s e ds h ⟨⟩:=by
 show (eU all[i]? _/\_)=_
 unfold Te eU
 cases all[i]? with
 | none=>simp
 | some o=>
  by_cases hp:oL o=true
  ·simp only [hp,if_true]
  ·simp only [hp,if_false]
   show _=(kx P all _ [o] e ds h/\_)
   unfold kx
   rw [if_neg hp]
   rfl
theorem IB (d op ty pos af g t sc alt)(hp:iD op=false):Te P F (some ⟨d,op,ty,pos,af,g⟩) all t sc alt h0 s e ds h ⟨⟩=(cB P F (.ops all [⟨d,op,ty,pos,af,g⟩]:: .anew t all sc h0::s) e ds h ⟨⟩/\cB P F (.sch all alt h0::s) e ds h ⟨⟩):=by
 show (if oL _=true then _ else _)=_
 rw [if_neg (by simp [oL,hp])]
def aiM (P:Program)(F:Fi)(t:Bool)(all:List Oper)(sc:Sched)(h0:Sh)(s:List Item)(e:dN)(ds:List Deferred)(h:Sh)(_k:Tok (F,all,sc,h0,s,e,ds,h)):Prop:=
 ∃ h1,lr h0 h1/\(t=false ->lr h1 h)/\cB P F (.sch all sc h1::s) e ds h ⟨⟩
theorem SY (t sc):cB P F (.anew t all sc h0::s) e ds h ⟨⟩=aiM P F t all sc h0 s e ds h ⟨⟩:=(rfl)
theorem DR:cB P F (.chk true h0::s) e ds h ⟨⟩=cB P F s e ds h ⟨⟩:=by
 simp [cB,jg]
theorem AF:cB P F (.chk false h0::s) e ds h ⟨⟩=(lr h0 h/\cB P F s e ds h ⟨⟩):=by
 simp [cB,jg]
theorem IJ (op:Op)(g:Nat×Bool)(hp:iD op=true):cB P F (.ops all (⟨dd,op,ty,pos,af,some g⟩::r)::s) e ds h ⟨⟩=
 jQ P F (if jj all e (some g)=true then pv P e h op else some undef) dd (.ops all r::s) e ds h ⟨⟩:=by
 show kx P all (jg P F s) (⟨dd,op,ty,pos,af,some g⟩::r) e ds h=_
 unfold kx
 rw [if_pos (by simp [oL,hp])]
 show eU (if jj all e (some g)=true then pv P e h op else some undef) _=_
 unfold eU jQ
 cases (if jj all e (some g)=true then pv P e h op else some undef)<;>rfl
theorem H2 (op:Op)(g:Nat×Bool)(hp:iD op=false):cB P F (.ops all (⟨dd,op,ty,pos,af,some g⟩::r)::s) e ds h ⟨⟩=
 if jj all e (some g)=true then cB P F (.ops all (⟨dd,op,ty,pos,af,none⟩::r)::s) e ds h ⟨⟩ else cB P F (.ops all r::s) (cV e dd undef) ds h ⟨⟩:=by
 show kx P all (jg P F s) (⟨dd,op,ty,pos,af,some g⟩::r) e ds h=_
 unfold kx
 rw [if_neg (by simp [oL,hp])]
 rfl
theorem Nb (x):iD (.move x)=true:=(rfl)
theorem Fm (x):iD (.assign x)=true:=(rfl)
theorem Ni (c a b):iD (.pick c a b)=true:=(rfl)
theorem Ay (x):iD (.nilCheck x)=true:=(rfl)
theorem IS (t x i):iD (.fieldAddr t x i)=true:=(rfl)
theorem Sq (t x i):iD (.indexAddr t x i)=true:=(rfl)
theorem Hh (t x i):iD (.index t x i)=true:=(rfl)
theorem Ro (op t x y u):iD (.binOp op t x y u)=true:=(rfl)
theorem Xk (op t x):iD (.unOp op t x)=true:=(rfl)
theorem CW (x i):iD (.extract x i)=true:=(rfl)
theorem I7 (t ps):iD (.build t ps)=true:=(rfl)
theorem DU (a b x):iD (.convert a b x)=true:=(rfl)
theorem He (t x):iD (.makeInterface t x)=true:=(rfl)
theorem Mr (fn a b):iD (.makeFunc fn a b)=true:=(rfl)
theorem JE (t x lo hi c):iD (.slice t x lo hi c)=true:=(rfl)
theorem FB (t x i):iD (.field t x i)=true:=(rfl)
theorem N7 (t x):iD (.load t x)=true:=(rfl)
theorem Ph (a t):iD (.call ⟨.builtin .len,a,t⟩)=true:=(rfl)
theorem O7 (a t):iD (.call ⟨.builtin .cap,a,t⟩)=true:=(rfl)
theorem FH (a t):iD (.call ⟨.builtin .append,a,t⟩)=false:=(rfl)
theorem LY (f a t):iD (.call ⟨.value f,a,t⟩)=false:=(rfl)
theorem Tu (t x):iD (.box t x)=false:=(rfl)
theorem IG (t):iD (.alloc t)=false:=(rfl)
theorem P8 (t n ps):iD (.buildSlice t n ps)=false:=(rfl)
theorem Iq (t x y):iD (.store t x y)=false:=(rfl)
theorem Jq (x):iD (.panic x)=false:=(rfl)
theorem HN (c):iD (.defer c)=false:=(rfl)
theorem Sf {α:Type}(c:Prop)[Decidable c](a b:α):(if c then some a else some b)=some (if c then a else b):=by split<;>rfl
theorem RD (c:Prop)[Decidable c](a b:Bool):(if c then Value.bool a else Value.bool b)=Value.bool (if c then a else b):=by split<;>rfl
theorem nS (d v t):cV e (some d) v t=if t=d then v else e t:=(rfl)
theorem ek (o:Option Value):(eU o fun v=>cB P F (.ops all r::s) (cV e dd v) ds h ⟨⟩)=jQ P F o dd (.ops all r::s) e ds h ⟨⟩:=by
 unfold eU jQ;cases o<;>rfl
theorem PO (x):cB P F (.ops all (⟨dd,.move x,ty,pos,af,none⟩::r)::s) e ds h ⟨⟩=jQ P F (some (ev e x)) dd (.ops all r::s) e ds h ⟨⟩:=(rfl)
theorem HY (x):cB P F (.ops all (⟨dd,.assign x,ty,pos,af,none⟩::r)::s) e ds h ⟨⟩=jQ P F (some (ev e x)) dd (.ops all r::s) e ds h ⟨⟩:=(rfl)
theorem Sb (c a b):cB P F (.ops all (⟨dd,.pick c a b,ty,pos,af,none⟩::r)::s) e ds h ⟨⟩=jQ P F (Ez (ev e c) (ev e a) (ev e b)) dd (.ops all r::s) e ds h ⟨⟩:=ek _
theorem CR (x):cB P F (.ops all (⟨dd,.nilCheck x,ty,pos,af,none⟩::r)::s) e ds h ⟨⟩=jQ P F (SR (ev e x)) dd (.ops all r::s) e ds h ⟨⟩:=ek _
theorem LF (t x i):cB P F (.ops all (⟨dd,.fieldAddr t x i,ty,pos,af,none⟩::r)::s) e ds h ⟨⟩=jQ P F (u7 (cw P t i) (ev e x)) dd (.ops all r::s) e ds h ⟨⟩:=ek _
theorem VP (t x i):cB P F (.ops all (⟨dd,.indexAddr t x i,ty,pos,af,none⟩::r)::s) e ds h ⟨⟩=jQ P F (NF (dA P t) (ev e x) (ev e i)) dd (.ops all r::s) e ds h ⟨⟩:=ek _
theorem NG (t x i):cB P F (.ops all (⟨dd,.index t x i,ty,pos,af,none⟩::r)::s) e ds h ⟨⟩=jQ P F (vAt (cX P t) (ev e x) (ev e i)) dd (.ops all r::s) e ds h ⟨⟩:=ek _
theorem Vk (t x):cB P F (.ops all (⟨dd,.unOp .not t x,ty,pos,af,none⟩::r)::s) e ds h ⟨⟩=jQ P F (QV (ev e x)) dd (.ops all r::s) e ds h ⟨⟩:=ek _
theorem V6 (t x):cB P F (.ops all (⟨dd,.unOp .neg t x,ty,pos,af,none⟩::r)::s) e ds h ⟨⟩=jQ P F (PF (ev e x)) dd (.ops all r::s) e ds h ⟨⟩:=ek _
theorem Gf (x i):cB P F (.ops all (⟨dd,.extract x i,ty,pos,af,none⟩::r)::s) e ds h ⟨⟩=jQ P F (Nd (ev e x) i) dd (.ops all r::s) e ds h ⟨⟩:=ek _
def mn (e:dN):List (Nat×Operand) ->List (Nat×List Value)
 | []=>[]
 | (i,x)::r=>(i,(ev e x).cells.toList)::mn e r
theorem sy (e:dN)(l:List (Nat×Operand)):(l.map fun x=>(x.1,(ev e x.2).cells.toList))=mn e l:=by
 induction l with
 | nil=>rfl
 | cons p l ih=>obtain ⟨i,x⟩:=p;simp [mn,ih]
theorem NB (t ps):cB P F (.ops all (⟨dd,.build t ⟨ps⟩,ty,pos,af,none⟩::r)::s) e ds h ⟨⟩=jQ P F (vb (bt P t) (mn e ps)) dd (.ops all r::s) e ds h ⟨⟩:=by
 rw [<- sy];exact ek _
def B3 (P:Program)(F:Fi)(k:Nat)(o:Option Value)(x:Value)(dd:Option Nat)(s:List Item)(e:dN)(ds:List Deferred)(h:Sh)(_k:Tok (F,s,e,ds,h)):Prop:=match k with
 | 1=>(match x with
  | .string t=>∀ b c junk,h.M b=none ->dz b h.L ->cB P F s (cV e dd (.slice (some ⟨b,0,none⟩) t.size c)) ds {h with M:=h.M.add b (t.data.toList.map (fun b=>Value.int .u8 b.toNat)++junk)} ⟨⟩
  | _=>False)
 | 2=>(match x,h.L with
  | .slice (some ⟨b,0,none⟩) _ _,(b',cs)::L=>b=b'/\(dz b L ->cB P F s (cV e dd x) ds {h with M:=h.M.add b cs,L:=L} ⟨⟩)
  | _,_=>False)
 | _=>jQ P F o dd s e ds h ⟨⟩
theorem Eo (a b x):cB P F (.ops all (⟨dd,.convert a b x,ty,pos,af,none⟩::r)::s) e ds h ⟨⟩=B3 P F (SA P a b) (qU P h a b (ev e x)) (ev e x) dd (.ops all r::s) e ds h ⟨⟩:=by
 show K8 P a b (ev e x) h (fun v h'=>cB P F (.ops all r::s) (cV e dd v) ds h' ⟨⟩)=_
 unfold K8 B3
 generalize SA P a b=k
 rcases k with _ | _ | _ | k
 ·exact ek _
 ·rfl
 ·rfl
 ·exact ek _
theorem WX (o x):B3 P F 0 o x dd s e ds h ⟨⟩=jQ P F o dd s e ds h ⟨⟩:=(rfl)
theorem WJ (o t N M L R):B3 P F 1 o (.string t) dd s e ds ⟨N,M,L,R⟩ ⟨⟩=∀ b c junk,M b=none ->dz b L ->cB P F s (cV e dd (.slice (some ⟨b,0,none⟩) t.size c)) ds ⟨N,M.add b (t.data.toList.map (fun b=>Value.int .u8 b.toNat)++junk),L,R⟩ ⟨⟩:=(rfl)
theorem Vo (o b n c cs N M L R):B3 P F 2 o (.slice (some ⟨b,0,none⟩) n c) dd s e ds ⟨N,M,(b,cs)::L,R⟩ ⟨⟩=(dz b L ->cB P F s (cV e dd (.slice (some ⟨b,0,none⟩) n c)) ds ⟨N,M.add b cs,L,R⟩ ⟨⟩):=by
 simp [B3]
def IV (P:Program)(F:Fi)(k:Bool)(t:TypeId)(x:Value)(dd:Option Nat)(s:List Item)(e:dN)(ds:List Deferred)(h:Sh)(_k:Tok (F,s,e,ds,h)):Prop:=k=true/\(match x with
 | .string u=>∀ g,cB P F s (cV e dd (.pointer (some ⟨g,0,none⟩))) ds {h with R:=(.pointer (some ⟨g,0,none⟩),t,0,[.string u,.int .i64 ((0:Nat):Int)])::h.R} ⟨⟩
 | _=>False)
theorem NN (t x):cB P F (.ops all (⟨dd,.range t x,ty,pos,af,none⟩::r)::s) e ds h ⟨⟩=IV P F (cX P t) t (ev e x) dd (.ops all r::s) e ds h ⟨⟩:=(rfl)
theorem I2 (t u N M L R):IV P F true t (.string u) dd s e ds ⟨N,M,L,R⟩ ⟨⟩=∀ g,cB P F s (cV e dd (.pointer (some ⟨g,0,none⟩))) ds ⟨N,M,L,(.pointer (some ⟨g,0,none⟩),t,0,[.string u,.int .i64 ((0:Nat):Int)])::R⟩ ⟨⟩:=by
 simp [IV]
def PZ (P:Program)(F:Fi)(it:Value)(dd:Option Nat)(s:List Item)(e:dN)(ds:List Deferred)(h:Sh)(_k:Tok (F,s,e,ds,h)):Prop:=JS it h fun v h'=>cB P F s (cV e dd v) ds h' ⟨⟩
theorem Pz (it):cB P F (.ops all (⟨dd,.next it true,ty,pos,af,none⟩::r)::s) e ds h ⟨⟩=PZ P F (ev e it) dd (.ops all r::s) e ds h ⟨⟩:=(rfl)
theorem QX (g t u N M L R)(pos:Nat):PZ P F (.pointer (some ⟨g,0,none⟩)) dd s e ds ⟨N,M,L,(.pointer (some ⟨g,0,none⟩),t,0,[.string u,.int .i64 (pos:Int)])::R⟩ ⟨⟩=
 if pos<u.size then cB P F s (cV e dd (.tuple #[.bool true,.int .i64 (pos:Int),.int .i32 ((Utf8.decode u pos).1:Nat)])) ds ⟨N,M,L,(.pointer (some ⟨g,0,none⟩),t,0,[.string u,.int .i64 ((pos+(Utf8.decode u pos).2:Nat):Int)])::R⟩ ⟨⟩
 else cB P F s (cV e dd (.tuple #[.bool false])) ds ⟨N,M,L,(.pointer (some ⟨g,0,none⟩),t,0,[.string u,.int .i64 (pos:Int)])::R⟩ ⟨⟩:=by
 simp only [PZ,JS,Int.toNat_natCast,true_and,and_self]
theorem Hq (t x):iD (.range t x)=false:=(rfl)
theorem NX (x b):iD (.next x b)=false:=(rfl)
theorem NU (t x):cB P F (.ops all (⟨dd,.makeInterface t x,ty,pos,af,none⟩::r)::s) e ds h ⟨⟩=jQ P F (zh (P.concrete t) t (ev e x)) dd (.ops all r::s) e ds h ⟨⟩:=ek _
theorem QZ (fn a b):cB P F (.ops all (⟨dd,.makeFunc fn a b,ty,pos,af,none⟩::r)::s) e ds h ⟨⟩=jQ P F (some (.func fn (a.map (ev e)) (b.map (ev e)))) dd (.ops all r::s) e ds h ⟨⟩:=(rfl)
def adt (P:Program)(t:TypeId)(x:Value)(lo hi:Option Value):Option Value:=if cX P t=true then zq true x lo hi else yz (dA P t) x lo hi
theorem Nl (t x lo hi):cB P F (.ops all (⟨dd,.slice t x lo hi none,ty,pos,af,none⟩::r)::s) e ds h ⟨⟩=jQ P F (adt P t (ev e x) (lo.map (ev e)) (hi.map (ev e))) dd (.ops all r::s) e ds h ⟨⟩:=ek _
theorem JD (t x i):cB P F (.ops all (⟨dd,.field t x i,ty,pos,af,none⟩::r)::s) e ds h ⟨⟩=jQ P F (U5 (fdP P t i) (ev e x)) dd (.ops all r::s) e ds h ⟨⟩:=ek _
theorem QB (t x):cB P F (.ops all (⟨dd,.load t x,ty,pos,af,none⟩::r)::s) e ds h ⟨⟩=jQ P F (qF h (tk P t) (ev e x)) dd (.ops all r::s) e ds h ⟨⟩:=ek _
theorem XC (x t):cB P F (.ops all (⟨dd,.call ⟨.builtin .len,⟨[x]⟩,⟨[t]⟩⟩,ty,pos,af,none⟩::r)::s) e ds h ⟨⟩=jQ P F (NS (cX P t) (ej P t) (ev e x)) dd (.ops all r::s) e ds h ⟨⟩:=ek _
theorem Xc (x t):cB P F (.ops all (⟨dd,.call ⟨.builtin .cap,⟨[x]⟩,⟨[t]⟩⟩,ty,pos,af,none⟩::r)::s) e ds h ⟨⟩=jQ P F (Sk (ej P t) (ev e x)) dd (.ops all r::s) e ds h ⟨⟩:=ek _
theorem W6 (x):pv P e h (.move x)=some (ev e x):=(rfl)
theorem Mz (x):pv P e h (.assign x)=some (ev e x):=(rfl)
theorem Xl (c a b):pv P e h (.pick c a b)=Ez (ev e c) (ev e a) (ev e b):=(rfl)
theorem D8 (x):pv P e h (.nilCheck x)=SR (ev e x):=(rfl)
theorem SF (t x i):pv P e h (.fieldAddr t x i)=u7 (cw P t i) (ev e x):=(rfl)
theorem aeL (t x i):pv P e h (.indexAddr t x i)=NF (dA P t) (ev e x) (ev e i):=(rfl)
theorem Po (t x i):pv P e h (.index t x i)=vAt (cX P t) (ev e x) (ev e i):=(rfl)
theorem aew (op t x y u):pv P e h (.binOp op t x y u)=iV P op t (ev e x) (ev e y):=(rfl)
theorem abr (t x):pv P e h (.unOp .not t x)=QV (ev e x):=(rfl)
theorem aaQ (t x):pv P e h (.unOp .neg t x)=PF (ev e x):=(rfl)
theorem HM (x i):pv P e h (.extract x i)=Nd (ev e x) i:=(rfl)
theorem Tg (t ps):pv P e h (.build t ⟨ps⟩)=vb (bt P t) (mn e ps):=by rw [<- sy];rfl
theorem Jg (a b x):pv P e h (.convert a b x)=qU P h a b (ev e x):=(rfl)
theorem Qb (t x):pv P e h (.makeInterface t x)=zh (P.concrete t) t (ev e x):=(rfl)
theorem WL (fn a b):pv P e h (.makeFunc fn a b)=some (.func fn (a.map (ev e)) (b.map (ev e))):=(rfl)
theorem St (t x lo hi):pv P e h (.slice t x lo hi none)=adt P t (ev e x) (lo.map (ev e)) (hi.map (ev e)):=(rfl)
theorem MH (t x i):pv P e h (.field t x i)=U5 (fdP P t i) (ev e x):=(rfl)
theorem U4 (o n cs):U5 (some (false,o,n)) (.agg ⟨cs⟩)=cs[o]?:=by simp [U5]
theorem UM (o n cs):U5 (some (true,o,n)) (.agg ⟨cs⟩)=some (.agg ⟨(cs.drop o).take n⟩):=by
 simp only [U5,Option.some.injEq,Value.agg.injEq]
 apply Array.toList_inj.1
 simp [List.extract_eq_drop_take]
theorem Xf (t x):pv P e h (.load t x)=qF h (tk P t) (ev e x):=(rfl)
theorem aa3 (x t):pv P e h (.call ⟨.builtin .len,⟨[x]⟩,⟨[t]⟩⟩)=NS (cX P t) (ej P t) (ev e x):=(rfl)
theorem ael (x t):pv P e h (.call ⟨.builtin .cap,⟨[x]⟩,⟨[t]⟩⟩)=Sk (ej P t) (ev e x):=(rfl)
theorem V3 (a n c):Sk true (.slice a n c)=some (.int .i64 (c:Nat)):=(rfl)
def ab2 (P:Program)(F:Fi)(o:Option Value)(op:BinOp)(t:TypeId)(x y:Operand)(dd:Option Nat)(s:List Item)(e:dN)(ds:List Deferred)(h:Sh)(_k:Tok (F,op,t,x,y,s,e,ds,h)):Prop:=
 match o with
 | some v=>cB P F s (cV e dd v) ds h ⟨⟩
 | none=>ak0 P (do eqGuard op t x y (ev e x) (ev e y);binOp op t (ev e x) (ev e y)) h fun v=>cB P F s (cV e dd v) ds h ⟨⟩
theorem VM (op t x y u):cB P F (.ops all (⟨dd,.binOp op t x y u,ty,pos,af,none⟩::r)::s) e ds h ⟨⟩=ab2 P F (iV P op t (ev e x) (ev e y)) op t x y dd (.ops all r::s) e ds h ⟨⟩:=by
 simp only [cB,jg,kx,pe,Bool.false_eq_true,if_false,jj,if_true,FT]
 unfold ab2
 cases iV P op t (ev e x) (ev e y)<;>rfl
theorem Ms (v op t x y):ab2 P F (some v) op t x y dd s e ds h ⟨⟩=cB P F s (cV e dd v) ds h ⟨⟩:=(rfl)
def UT (P:Program)(F:Fi)(t:TypeId)(cs:List Value)(dd:Option Nat)(s:List Item)(e:dN)(ds:List Deferred)(h:Sh)(_k:Tok (F,s,e,ds,h)):Prop:=
 O9 t cs h fun b h'=>cB P F s (cV e dd (.pointer (some ⟨b,0,none⟩))) ds h' ⟨⟩
def Lj (P:Program)(F:Fi)(o:Option (List Value))(n:Nat)(dd:Option Nat)(s:List Item)(e:dN)(ds:List Deferred)(h:Sh)(_k:Tok (F,s,e,ds,h)):Prop:=
 match o with
 | some cs=>YQ cs h fun b h'=>cB P F s (cV e dd (.slice (some ⟨b,0,none⟩) n n)) ds h' ⟨⟩
 | none=>False
theorem Xe (t)(cs:List Value)(N M L R):UT P F t cs dd s e ds ⟨N,M,L,R⟩ ⟨⟩=∀ b T,M b=none ->dz b L ->aH N T ->T b=some t ->cB P F s (cV e dd (.pointer (some ⟨b,0,none⟩))) ds ⟨T,M,(b,cs)::L,R⟩ ⟨⟩:=(rfl)
theorem Tr (cs:List Value)(n N M L R):Lj P F (some cs) n dd s e ds ⟨N,M,L,R⟩ ⟨⟩=∀ b,M b=none ->dz b L ->cB P F s (cV e dd (.slice (some ⟨b,0,none⟩) n n)) ds ⟨N,M,(b,cs)::L,R⟩ ⟨⟩:=(rfl)
theorem VJ (t x):cB P F (.ops all (⟨dd,.box t x,ty,pos,af,none⟩::r)::s) e ds h ⟨⟩=UT P F t (ev e x).cells.toList dd (.ops all r::s) e ds h ⟨⟩:=(rfl)
def HI (P:Program)(F:Fi)(t:TypeId)(o:Option (Bool×Nat×Value))(dd:Option Nat)(s:List Item)(e:dN)(ds:List Deferred)(h:Sh)(_k:Tok (F,s,e,ds,h)):Prop:=
 match o with
 | some (_,_,z)=>UT P F t z.cells.toList dd s e ds h ⟨⟩
 | none=>False
theorem MO (t):cB P F (.ops all (⟨dd,.alloc t,ty,pos,af,none⟩::r)::s) e ds h ⟨⟩=HI P F t (tk P t) dd (.ops all r::s) e ds h ⟨⟩:=by
 show eU (tk P t) _=_
 unfold eU HI
 cases tk P t<;>rfl
theorem GP (t g n z):HI P F t (some (g,n,z)) dd s e ds h ⟨⟩=UT P F t z.cells.toList dd s e ds h ⟨⟩:=(rfl)
def acp (P:Program)(F:Fi)(o:Option (TypeId×Nat×List Value))(n:Nat)(ps:List (Nat×List Value))(dd:Option Nat)(s:List Item)(e:dN)(ds:List Deferred)(h:Sh)(_k:Tok (F,s,e,ds,h)):Prop:=
 match o with
 | some (_,sz,z)=>n*sz<=16777216/\Lj P F (EG sz z n ps) n dd s e ds h ⟨⟩
 | none=>False
theorem VV (t n ps):cB P F (.ops all (⟨dd,.buildSlice t n ⟨ps⟩,ty,pos,af,none⟩::r)::s) e ds h ⟨⟩=acp P F (fB P t) n (mn e ps) dd (.ops all r::s) e ds h ⟨⟩:=by
 rw [<- sy]
 show eU (fB P t) _=_
 unfold eU acp
 cases fB P t with
 | none=>rfl
 | some p=>
  obtain ⟨el,sz,z⟩:=p
  simp only [Lj]
  show (_/\eU _ _)=_
  unfold eU
  cases EG sz z n (ps.map fun x=>(x.1,(ev e x.2).cells.toList))<;>rfl
theorem Ot (el sz z n ps):acp P F (some (el,sz,z)) n ps dd s e ds h ⟨⟩=(n*sz<=16777216/\Lj P F (EG sz z n ps) n dd s e ds h ⟨⟩):=(rfl)
def oO (sz:Nat):Nat ->List (Nat×List Value) ->Bool
 | _,[]=>true
 | i,(j,cs)::r=>j==i && cs.length==sz && oO sz (i+1) r
def wg:List (Nat×List Value) ->List Value
 | []=>[]
 | (_,cs)::r=>cs++wg r
theorem EC (vs:List Value):∀ (pre z post:List Value),z.length=vs.length ->nC (pre++z++post) pre.length vs=pre++vs++post:=by
 induction vs with
 | nil=>intro pre z post hz;cases z<;>simp_all [nC]
 | cons v vs ih=>
  intro pre z post hz
  cases z with
  | nil=>simp at hz
  | cons y z=>
   simp only [nC]
   have h1:(pre++(y::z)++post).set pre.length v=(pre++[v])++z++post:=by simp
   rw [h1]
   have:=ih (pre++[v]) z post (by simpa using hz)
   rw [show (pre++[v]).length=pre.length+1 from by simp] at this
   rw [this];simp
theorem AD {sz n:Nat}{z:List Value}(hz:z.length=sz):∀ (ps:List (Nat×List Value)) (i:Nat) (pre:List Value),oO sz i ps=true ->i+ps.length=n ->pre.length=i*sz ->
 om ((List.range n).map fun i=>(i*sz,sz)) (pre++(List.range (n - i)).flatMap fun _=>z) ps=some (pre++wg ps):=by
 intro ps
 induction ps with
 | nil=>intro i pre dG hn hp;simp at hn;subst hn;simp [om,wg]
 | cons p ps ih=>
  obtain ⟨j,cs⟩:=p
  intro i pre dG hn hp
  simp only [oO,Bool.and_eq_true,beq_iff_eq] at dG
  obtain ⟨⟨rfl,gU⟩,dG⟩:=dG
  simp only [List.length_cons] at hn
  have aF:j<n:=by omega
  simp only [om,List.getElem?_map,List.getElem?_range aF,Option.map_some]
  have aau:(List.range (n - j)).flatMap (fun _=>z)=z++(List.range (n - (j+1))).flatMap (fun _=>z):=by
   rw [show n - j=(n - (j+1))+1 from by omega,List.range_succ_eq_map,List.flatMap_cons,List.flatMap_map]
  rw [aau,if_pos]
  ·rw [<- hp]
   have:=EC cs pre z ((List.range (n - (j+1))).flatMap fun _=>z) (by rw [hz,gU])
   rw [<- List.append_assoc,this]
   have:=ih (j+1) (pre++cs) dG (by omega) (by rw [List.length_append,hp,gU,Nat.add_mul];omega)
   rw [this];simp [wg]
  ·refine ⟨gU,?_⟩
   simp only [List.length_append]
   omega
theorem LW {sz n:Nat}{z:List Value}{ps:List (Nat×List Value)}(h1:oO sz 0 ps=true)(h2:ps.length=n)(hz:z.length=sz):EG sz z n ps=some (wg ps):=by
 have:=AD (n:=n) hz ps 0 [] h1 (by omega) (by simp)
 simpa [EG] using this
def UH (P:Program)(F:Fi)(o:Option (List (Nat×List Value)))(dd:Option Nat)(s:List Item)(e:dN)(ds:List Deferred)(h:Sh)(_k:Tok (F,s,e,ds,h)):Prop:=
 match o with
 | some L=>cB P F s (cV e dd undef) ds ⟨h.N,h.M,L,h.R⟩ ⟨⟩
 | none=>False
theorem Np (L N M L0 R):UH P F (some L) dd s e ds ⟨N,M,L0,R⟩ ⟨⟩=cB P F s (cV e dd undef) ds ⟨N,M,L,R⟩ ⟨⟩:=(rfl)
def Jz (P:Program)(F:Fi)(o:Option (Bool×Nat×Value))(x:Value)(vs:List Value)(dd:Option Nat)(s:List Item)(e:dN)(ds:List Deferred)(h:Sh)(_k:Tok (F,s,e,ds,h)):Prop:=
 match o,x with
 | some (_,n,_),.pointer (some ⟨b,i,none⟩)=>(vs.length=n/\vs.all (·.oneCell')=true)/\UH P F (o6 h.L b i vs) dd s e ds h ⟨⟩
 | _,_=>False
theorem Lx (t x y):cB P F (.ops all (⟨dd,.store t x y,ty,pos,af,none⟩::r)::s) e ds h ⟨⟩=Jz P F (tk P t) (ev e x) (ev e y).cells.toList dd (.ops all r::s) e ds h ⟨⟩:=by
 show eU (tk P t) _=_
 unfold eU Aq Jz
 cases tk P t with
 | none=>rfl
 | some p=>
  obtain ⟨g,n,z⟩:=p
  simp only []
  generalize ev e x=v
  cases v<;>try rfl
  rename_i a
  cases a with
  | none=>rfl
  | some a=>
   obtain ⟨b,i,sp⟩:=a
   cases sp with
   | some q=>simp
   | none=>
    simp only [true_and]
    unfold UH
    cases o6 h.L b i (ev e y).cells.toList<;>rfl
theorem Fw (g n z b i vs)(N M L R):Jz P F (some (g,n,z)) (.pointer (some ⟨b,i,none⟩)) vs dd s e ds ⟨N,M,L,R⟩ ⟨⟩=((vs.length=n/\vs.all (·.oneCell')=true)/\UH P F (o6 L b i vs) dd s e ds ⟨N,M,L,R⟩ ⟨⟩):=(rfl)
theorem Ok (b cs l k i vs):o6 ((b,cs)::l) k i vs=if k=b then (if i+vs.length<=cs.length then some ((b,nC cs i vs)::l) else none) else (o6 l k i vs).map ((b,cs):: ·):=(rfl)
def dT (P:Program)(F:Fi)(f:FuncId)(args:List Value)(dd:Option Nat)(s:List Item)(e:dN)(ds:List Deferred)(h:Sh)(_k:Tok (F,s,e,ds,h)):Prop:=
 PS P f args h (fun v h'=>cB P F s (cV e dd v) ds h' ⟨⟩) (fun ch h'=>F.pan ch e ds h')
def rFn (P:Program)(F:Fi)(v:Value)(args:List Value)(dd:Option Nat)(s:List Item)(e:dN)(ds:List Deferred)(h:Sh)(_k:Tok (F,s,e,ds,h)):Prop:=
 match v with
 | .func (.func f) first cap=>dT P F f (first.toList++args++cap.toList) dd s e ds h ⟨⟩
 | _=>False
theorem Qo (f args tys):cB P F (.ops all (⟨dd,.call ⟨.value f,⟨args⟩,tys⟩,ty,pos,af,none⟩::r)::s) e ds h ⟨⟩=rFn P F (ev e f) (args.map (ev e)) dd (.ops all r::s) e ds h ⟨⟩:=by
 simp only [cB,jg,kx,pe,Bool.false_eq_true,if_false,jj,if_true,FT,xFn,rFn,dT,jz]
 generalize ev e f=v
 cases v<;>try rfl
theorem To (f a c args):rFn P F (.func (.func f) ⟨a⟩ ⟨c⟩) args dd s e ds h ⟨⟩=dT P F f (a++args++c) dd s e ds h ⟨⟩:=(rfl)
def zM (P:Program)(F:Fi)(t tx:TypeId)(x y:Value)(dd:Option Nat)(s:List Item)(e:dN)(ds:List Deferred)(h:Sh)(_k:Tok (F,s,e,ds,h)):Prop:=
 Ks P t tx x y h fun v h'=>cB P F s (cV e dd v) ds h' ⟨⟩
theorem H4 (x y t tx):cB P F (.ops all (⟨dd,.call ⟨.builtin .append,⟨[x,y]⟩,⟨[t,tx]⟩⟩,ty,pos,af,none⟩::r)::s) e ds h ⟨⟩=zM P F t tx (ev e x) (ev e y) dd (.ops all r::s) e ds h ⟨⟩:=(rfl)
theorem GN (t){N M L R}:cB P F (.ops all (⟨dd,.makeMap t none,ty,pos,af,none⟩::r)::s) e ds ⟨N,M,L,R⟩ ⟨⟩=∀ g,cB P F (.ops all r::s) (cV e dd (.map (some g))) ds ⟨N,M,L,(.map (some g),t,0,[])::R⟩ ⟨⟩:=(rfl)
def acK (P:Program)(F:Fi)(K:Option IntKind)(m k x:Value)(dd:Option Nat)(s:List Item)(e:dN)(ds:List Deferred)(h:Sh)(_k:Tok (F,s,e,ds,h)):Prop:=
 Xh K m k x h fun h'=>cB P F s (cV e dd undef) ds h' ⟨⟩
theorem Id (t m k x):cB P F (.ops all (⟨dd,.insert t m k x,ty,pos,af,none⟩::r)::s) e ds h ⟨⟩=acK P F (Gm P t) (ev e m) (ev e k) (ev e x) dd (.ops all r::s) e ds h ⟨⟩:=(rfl)
theorem Md (K g n x t' xs){N M L R}:acK P F (some K) (.map (some g)) (.int K n) x dd s e ds ⟨N,M,L,(.map (some g),t',0,xs)::R⟩ ⟨⟩=(mu K n xs=true/\cB P F s (cV e dd undef) ds ⟨N,M,L,(.map (some g),t',0,xs++[.int K n,x])::R⟩ ⟨⟩):=by
 simp only [acK,Xh,true_and]
def Ty (P:Program)(F:Fi)(K:Option IntKind)(m k:Value)(dd:Option Nat)(s:List Item)(e:dN)(ds:List Deferred)(h:Sh)(_k:Tok (F,s,e,ds,h)):Prop:=
 KF K m k h fun v=>cB P F s (cV e dd v) ds h ⟨⟩
theorem HR (t m k):cB P F (.ops all (⟨dd,.lookup t m k false,ty,pos,af,none⟩::r)::s) e ds h ⟨⟩=Ty P F (Gm P t) (ev e m) (ev e k) dd (.ops all r::s) e ds h ⟨⟩:=(rfl)
theorem IL (K g n t' xs){N M L R}:Ty P F (some K) (.map (some g)) (.int K n) dd s e ds ⟨N,M,L,(.map (some g),t',0,xs)::R⟩ ⟨⟩=jQ P F (uM K n xs) dd s e ds ⟨N,M,L,(.map (some g),t',0,xs)::R⟩ ⟨⟩:=by
 simp only [Ty,KF,true_and,and_self]
 cases uM K n xs<;>rfl
theorem Wu (x y tys):cB P F (.ops all (⟨dd,.call ⟨.builtin .min,⟨[x,y]⟩,tys⟩,ty,pos,af,none⟩::r)::s) e ds h ⟨⟩=jQ P F (GV (ev e x) (ev e y)) dd (.ops all r::s) e ds h ⟨⟩:=by
 show eU (GV (ev e x) (ev e y)) _=_
 unfold jQ
 cases GV (ev e x) (ev e y)<;>rfl
theorem QH (k a b):GV (.int k a) (.int k b)=some (.int k (if b<a then b else a)):=by simp [GV]
theorem SG (a t):iD (.call ⟨.builtin .min,a,t⟩)=false:=(rfl)
theorem E9 (K n):mu K n []=true:=(rfl)
theorem CQ (K n a v r):mu K n (.int K a::v::r)=(!decide (a=n) && mu K n r):=by simp [mu]
theorem HD (K n a v r):uM K n (.int K a::v::r)=if a=n then some v else uM K n r:=by simp [uM]
theorem Dg (t r):iD (.makeMap t r)=false:=(rfl)
theorem Fb (t m k x):iD (.insert t m k x)=false:=(rfl)
theorem F4 (t m k c):iD (.lookup t m k c)=false:=(rfl)
def H0 (P:Program)(F:Fi)(v:Value)(args:Array Value)(dd:Option Nat)(s:List Item)(e:dN)(ds:List Deferred)(h:Sh)(_k:Tok (F,s,e,ds,h)):Prop:=
 match v with
 | .func fn first captured=>cB P F s (cV e dd undef) ({target:=.fn fn captured,args:=first++args}::ds) h ⟨⟩
 | _=>False
theorem MV (f args tys):cB P F (.ops all (⟨dd,.defer ⟨.value f,args,tys⟩,ty,pos,af,none⟩::r)::s) e ds h ⟨⟩=H0 P F (ev e f) (args.map (ev e)) dd (.ops all r::s) e ds h ⟨⟩:=by
 simp only [cB,jg,kx,pe,Bool.false_eq_true,if_false,jj,if_true,FT,H0]
 generalize ev e f=v
 cases v<;>rfl
theorem Fu (fn a c args):H0 P F (.func fn a c) args dd s e ds h ⟨⟩=cB P F s (cV e dd undef) ({target:=.fn fn c,args:=a++args}::ds) h ⟨⟩:=(rfl)
theorem Nk (x):cB P F (.ops all (⟨dd,.panic x,ty,pos,af,none⟩::r)::s) e ds h ⟨⟩=(JV (ev e x)=true/\F.pan [{v:=ev e x,recovered:=false}] e ds h):=by
 simp only [cB,jg,kx,pe,Bool.false_eq_true,if_false,jj,if_true,FT,jz]
def Le (P:Program)(F:Fi)(b:Code)(s:List Item)(e:dN)(ds:List Deferred)(h:Sh)(_k:Tok (F,b,s,e,ds,h)):Prop:=
 ∃ (I:Nat ->dN ->List Deferred ->Sh ->Prop),(cK h fun h=>∃ m,I m e ds h)/\∀ m e ds h,I m e ds h ->cB P F (.code b:: .lp I m::s) e ds h ⟨⟩
theorem Rg (b):cB P F (.code (.loop b)::s) e ds h ⟨⟩=Le P F b s e ds h ⟨⟩:=(rfl)
theorem fq (I m):cB P F (.lp I m::s) e ds h ⟨⟩=cK h fun h=>∃ m',m'<m/\I m' e ds h:=(rfl)
theorem HX (t a b):Ez (.bool t) a b=some (if t=true then a else b):=(rfl)
theorem Qf (a):SR (.pointer (some a))=some (.pointer (some a)):=(rfl)
theorem HT (k b i):u7 (some k) (.pointer (some ⟨b,i,none⟩))=some (.pointer (some ⟨b,i+k,none⟩)):=by simp [u7,Addr.add_lit]
theorem Nf (t):QV (.bool t)=some (.bool !t):=(rfl)
theorem Pp (k n):PF (.int k n)=some (.int k (k.wrap (0 - n))):=(rfl)
theorem Q3 (l i):Nd (.tuple ⟨l⟩) i=l[i]?:=by simp [Nd]
theorem SH (sl x):NS true sl (.string x)=some (.int .i64 x.size):=(rfl)
theorem W9 (a n c):NS false true (.slice a n c)=some (.int .i64 n):=(rfl)
theorem I8 (P:Program)(h:Sh)(a b k n):qU P h a b (.int k n)=Gg (cvT P a b) (.int k n):=(rfl)
theorem Nr (P:Program)(h:Sh)(a b x n c):qU P h a b (.slice x n c)=if GW P a b=true then V7 h (.slice x n c) else none:=(rfl)
theorem Og (k j n):Gg (some k) (.int j n)=some (.int k (k.wrap n)):=(rfl)
theorem Gv (t v):zh true t v=some (.iface t v):=(rfl)
theorem NR (n z a):qF h (some (false,n,z)) (.pointer (some a))=h.cell a:=(rfl)
theorem LH (n z a):qF h (some (true,n,z)) (.pointer (some a))=(h.cells a 0 n).map fun cs=> .agg cs.toArray:=(rfl)
theorem Rj (sz b i n c k x):NF (some sz) (.slice (some ⟨b,i,none⟩) n c) (.int k x)=if 0<=x/\x<n then some (.pointer (some ⟨b,i+x.toNat*sz,none⟩)) else none:=by simp [NF,Addr.add_lit]
theorem Wq (x k n):vAt true (.string x) (.int k n)=if 0<=n/\n<x.size then some (.int .u8 (sQ x n.toNat).toNat) else none:=(rfl)
theorem NM (op t k a b):iV P op t (.int k a) (.int k b)=match pg op k a b with | some v=>some v | none=>Uf op k a b:=by
 simp only [iV,Ff,Cn,if_true]
 cases pg op k a b<;>rfl
theorem MB (t k j a b)(hk:¬ k=j)(hb:0<=b):iV P .shl t (.int k a) (.int j b)=some (.int k (k.wrap (a*2 ^ (min b.toNat k.bits)))):=by
 simp [iV,Ff,Cn,hk,C6,hb]
theorem NC (t k j a b)(hk:¬ k=j)(hb:0<=b):iV P .shr t (.int k a) (.int j b)=some (.int k (a.fdiv (2 ^ (min b.toNat k.bits)))):=by
 simp [iV,Ff,Cn,hk,C6,hb]
theorem PE (k a b):pg .add k a b=some (.int k (k.wrap (a+b))):=(rfl)
theorem Ti (k a b):pg .sub k a b=some (.int k (k.wrap (a - b))):=(rfl)
theorem Tp (k a b):pg .mul k a b=some (.int k (k.wrap (a*b))):=(rfl)
theorem Pr (k a b):pg .eql k a b=some (.bool (decide (a=b))):=(rfl)
theorem RU (k a b):pg .neq k a b=some (.bool (!decide (a=b))):=(rfl)
theorem SC (k a b):pg .lss k a b=some (.bool (decide (a<b))):=(rfl)
theorem Qd (k a b):pg .leq k a b=some (.bool (decide (a<=b))):=(rfl)
theorem SB (k a b):pg .gtr k a b=some (.bool (decide (a>b))):=(rfl)
theorem PB (k a b):pg .geq k a b=some (.bool (decide (a>=b))):=(rfl)
theorem Qz (k a b):pg .quo k a b=none:=(rfl)
theorem OL (k a b):pg .rem k a b=none:=(rfl)
theorem TV (k a b):pg .and k a b=none:=(rfl)
theorem WA (k a b):pg .or k a b=none:=(rfl)
theorem PK (k a b):pg .xor k a b=none:=(rfl)
theorem On (t a b):iV P .eql t (.string a) (.string b)=some (.bool (decide (a=b))):=(rfl)
theorem LC (t a b):iV P .neq t (.string a) (.string b)=some (.bool (!decide (a=b))):=(rfl)
theorem Od (t a b):iV P .add t (.string a) (.string b)=if a.size+b.size<=9223372036854775807 then some (.string (a++b)) else none:=(rfl)
theorem Nw (t a b):iV P .eql t (.bool a) (.bool b)=if rt P t=true then some (.bool (a==b)) else none:=(rfl)
theorem LK (t a b):iV P .neq t (.bool a) (.bool b)=if rt P t=true then some (.bool (!(a==b))) else none:=(rfl)
theorem LQ (l):(Value.agg ⟨l⟩).cells.toList=l:=(rfl)
theorem Nt (k n):(Value.int k n).cells.toList=[.int k n]:=(rfl)
theorem Mm (x):(Value.string x).cells.toList=[.string x]:=(rfl)
theorem Jy (x):(Value.bool x).cells.toList=[.bool x]:=(rfl)
theorem Qk (a l c):(Value.slice a l c).cells.toList=[.slice a l c]:=(rfl)
theorem Mf (a):(Value.pointer a).cells.toList=[.pointer a]:=(rfl)
theorem abm (t):ev e (.tmp t)=e t:=(rfl)
theorem TX (v):ev e (.const v)=v:=(rfl)
theorem Xy (f):ev e (.func f)=.func (.func f) #[] #[]:=(rfl)
theorem Nu (g):ev e (.global g)=.pointer (some ⟨g,0,none⟩):=(rfl)
theorem EK:mn e []=[]:=(rfl)
theorem Dd (i x r):mn e ((i,x)::r)=(i,(ev e x).cells.toList)::mn e r:=(rfl)
theorem NK (v):cV e none v=e:=(rfl)
theorem Nx (ops:List Oper):jj ops e none=true:=(rfl)
def isB (v:Value)(b:Bool):Bool:=match v with | .bool c=>c==b | _=>false
theorem O5 (c b):isB (.bool c) b=(c==b):=(rfl)
theorem Mx (b):isB undef b=false:=(rfl)
theorem XP (c:Prop)[Decidable c](x y:Value)(b):isB (if c then x else y) b=if c then isB x b else isB y b:=by split<;>rfl
theorem MR (ops:List Oper)(j b):jj ops e (some (j,b))=match (ops[j]?).bind (·.dst) with
 | some t=>isB (e t) b
 | none=>false:=(rfl)
end
theorem WS (N M L R a):Sh.cell ⟨N,M,L,R⟩ a=match aL M a with | some v=>some v | none=>(eb L a).getD none:=(rfl)
theorem H7 (h:Sh)(a i):h.cells a i 0=some []:=(rfl)
theorem tL (h:Sh)(b o i n):h.cells ⟨b,o,none⟩ i (n+1)=qC (h.cell ⟨b,o+i,none⟩) (h.cells ⟨b,o,none⟩ (i+1) n):=by simp [Sh.cells,Addr.add_lit]
theorem I6 (v l):qC (some v) (some l)=some (v::l):=(rfl)
theorem Ie (b cs l k o):eb ((b,cs)::l) ⟨k,o,none⟩=if k=b then some cs[o]? else eb l ⟨k,o,none⟩:=(rfl)
def bG (M M':aV):Prop:=∀ b cs,M b=some cs ->M' b=some cs
theorem bG.rfl' {M:aV}:bG M M:=fun _ _ h=>h
theorem bG.trans {M M' M'':aV}(h:bG M M')(h':bG M' M''):bG M M'':=fun b cs hb=>h' b cs (h b cs hb)
theorem bG.add {M:aV}{b cs}(h:M b=none):bG M (M.add b cs):=by
 intro k x hk
 unfold aV.add
 rw [if_neg]
 ·exact hk
 ·rintro rfl;rw [h] at hk;cases hk
def bd (L:List (Nat×List Value)):List Nat:=L.map (·.1)
def aB (M:aV):List (Nat×List Value) ->Prop
 | []=>True
 | (b,_)::l=>M b=none/\aB M l
def nz:List (Nat×List Value) ->Prop
 | []=>True
 | (b,_)::l=>dz b l/\nz l
theorem jx {M:aV}:∀ {L:List (Nat×List Value)},(∀ b∈bd L,M b=none) ->aB M L
 | [],_=>trivial
 | (b,_)::l,h=>⟨h b (by simp [bd]),jx fun k hk=>h k (by simp only [bd,List.map_cons,List.mem_cons];exact .inr hk)⟩
theorem Bq:∀ {L:List (Nat×List Value)},(bd L).Nodup ->nz L
 | [],_=>trivial
 | (b,_)::l,h=>by
  simp only [bd,List.map_cons,List.nodup_cons] at h
  exact ⟨j3 h.1,Bq h.2⟩
theorem BZ {M:aV}:∀ {L:List (Nat×List Value)},aB M L ->∀ b∈bd L,M b=none
 | [],_,b,hb=>by simp [bd] at hb
 | (k,_)::l,h,b,hb=>by
  simp only [bd,List.map_cons,List.mem_cons] at hb
  rcases hb with rfl | hb
  ·exact h.1
  ·exact BZ h.2 b hb
abbrev LL:=List (Nat×List Value)
abbrev RR:=List (Value×TypeId×Nat×List Value)
def Pre (w:World)(U:List Nat)(T:Tm)(M:aV)(L:LL)(R:RR):Prop:=∃ bs,U=bd L++bs.filterMap id/\Hp ⟨w,M,U⟩ ⟨T,M,L,R⟩ w bs
def Dv (w:World)(U:List Nat)(T:Tm)(M:aV)(ks:List Nat)(n:Nat)(M':aV)(L':LL)(R':RR)(w':World):Prop:=
 Is ⟨w,M,U⟩ ⟨T,M',L',R'⟩ w'/\bd L'=ks/\R'.length=n
abbrev eP:=Value ->aV ->LL ->RR ->Prop
abbrev n8:=List PanicEntry ->aV ->LL ->RR ->Prop
def bj:n8:=fun _ _ _ _=>False
def OA (U:List Nat)(T:Tm)(M:aV)(ks:List Nat)(n:Nat)(post:eP)(pan:n8)(w:World):Ending ->World ->Prop
 | .returned v,w'=>∃ M' L' R',Dv w U T M ks n M' L' R' w'/\post v M' L' R'
 | .panicked ch,w'=>∃ M' L' R',Dv w U T M ks n M' L' R' w'/\pan ch M' L' R'
 | .outgrown,_=>False
def ep (P:Program)(f:FuncId)(args:List Value)(T:Tm)(M:aV)(L:LL)(R:RR)(post:eP)(pan:n8):Prop:=
 aK P f=true/\∀ w U,Pre w U T M L R ->Calls P f args.toArray w (OA U T M (bd L) R.length post pan w)
def Ct (P:Program)(f:FuncId)(args:List Value)(M:aV)(L:LL)(R:RR)(post:eP)(pan:n8):Prop:=∀ T,ep P f args T M L R post pan
def CtD (P:Program)(f:FuncId)(args:List Value)(T:Tm)(M:aV)(L:LL)(R:RR)(post:eP)(pan:n8):Prop:=
 aK P f=true/\∀ u w U,Pre w U T M L R ->CallsD P f args.toArray u w fun e u' w'=>u'=u/\OA U T M (bd L) R.length post pan w e w'
theorem Dv.ext {w U T M ks n M' L' R' w'}(h:Dv w U T M ks n M' L' R' w'):bG M M':=by
 obtain ⟨⟨_,hi⟩,_⟩:=h
 exact fun b cs hb=>hi.le b cs hb
theorem ep.mono {P f args T M L R post pan}{post':eP}{pan':n8}(h:ep P f args T M L R post pan)(hp:∀ v M' L' R',bG M M' ->bd L'=bd L ->R'.length=R.length ->post v M' L' R' ->post' v M' L' R')
 (hq:∀ ch M' L' R',bG M M' ->bd L'=bd L ->R'.length=R.length ->pan ch M' L' R' ->pan' ch M' L' R'):ep P f args T M L R post' pan':=by
 refine ⟨h.1,fun w U hw=>Calls.mono (h.2 w U hw) ?_⟩
 intro e w' hr
 cases e with
 | returned v=>obtain ⟨M',L',R',iT,gV⟩:=hr;exact ⟨M',L',R',iT,hp v M' L' R' iT.ext iT.2.1 iT.2.2 gV⟩
 | panicked ch=>obtain ⟨M',L',R',iT,gV⟩:=hr;exact ⟨M',L',R',iT,hq ch M' L' R' iT.ext iT.2.1 iT.2.2 gV⟩
 | outgrown=>exact hr.elim
theorem Rc {α β:Type}{A B C:List α}{bs:List β}(h:(A++B++C).length=bs.length):∃ b1 b2 b3,bs=b1++b2++b3/\b1.length=A.length/\b2.length=B.length/\b3.length=C.length:=by
 simp only [List.length_append] at h
 refine ⟨bs.take A.length,(bs.drop A.length).take B.length,(bs.drop A.length).drop B.length,?_,?_,?_,?_⟩
 ·rw [List.append_assoc,List.take_append_drop,List.take_append_drop]
 ·rw [List.length_take];omega
 ·rw [List.length_take,List.length_drop];omega
 ·rw [List.length_drop,List.length_drop];omega
theorem Hp.enter {c N M L1 Lp L2 R1 Rp R2 w b1 bp b2}(hi:Hp c ⟨N,M,L1++Lp++L2,R1++Rp++R2⟩ w (b1++bp++b2))(h1:b1.length=R1.length)(hp:bp.length=Rp.length):
 Hp ⟨w,M,bd Lp++bp.filterMap id⟩ ⟨N,M,Lp,Rp⟩ w bp:=by
 have Ny:∀ b,b∈bd Lp++bp.filterMap id ->b∈(L1++Lp++L2).map (·.1)++(b1++bp++b2).filterMap id:=by
  intro b hb
  simp only [bd,List.map_append,List.filterMap_append,List.mem_append] at hb ⊢
  rcases hb with hb | hb
  ·exact .inl (.inl (.inr hb))
  ·exact .inr (.inl (.inr hb))
 exact
 {typ:=fun b t hu=>⟨(hi.typ b t hu).1,fun hb=>(hi.typ b t hu).2 (by simp only [List.map_append,List.mem_append];exact .inl (.inr hb))⟩
  holds:=hi.holds
  blk:=fun b cs hb=>hi.blk b cs (by simp only [List.mem_append];exact .inl (.inr hb))
  rows:=⟨hp.symm,fun i v e sz xs o h2 h3=>hi.rows.2 (R1.length+i) v e sz xs o
   (by
    have aF:=(List.getElem?_eq_some_iff.1 h2).1
    show (R1++Rp++R2)[R1.length+i]?=_
    rw [List.append_assoc,List.getElem?_append_right (by omega),List.getElem?_append_left (by show _<Rp.length;simp only at aF;omega)]
    rw [<- h2];congr 1;omega)
   (by
    have aF:=(List.getElem?_eq_some_iff.1 h3).1
    rw [List.append_assoc,List.getElem?_append_right (by omega),List.getElem?_append_left (by omega)]
    rw [<- h3];congr 1;omega)⟩
  nodup:=by
   have:=hi.nodup
   simp only [List.map_append,List.filterMap_append] at this
   rw [List.nodup_append] at this ⊢
   obtain ⟨n1,n2,n3⟩:=this
   refine ⟨(List.nodup_append.1 (List.nodup_append.1 n1).1).2.1,(List.nodup_append.1 (List.nodup_append.1 n2).1).2.1,?_⟩
   intro a ha b hb
   exact n3 a (by simp only [List.mem_append];exact .inl (.inr ha)) b (by simp only [List.mem_append];exact .inl (.inr hb))
  apart:=fun b hb=>⟨(hi.apart b (Ny b hb)).1,.inl hb⟩
  os:=rfl
  tape:=rfl
  output:=rfl
  size:=Nat.le_refl _
  old:=fun _ _ _=>rfl
  mem:=fun _ _ _=>rfl
  le:=fun _ _ h=>h}
theorem Hp.frameN {c N M L1 Lp L2 R1 Rp R2 w b1 bp b2 M' Lp' Rp' bp' w'}(hi:Hp c ⟨N,M,L1++Lp++L2,R1++Rp++R2⟩ w (b1++bp++b2))(h1:b1.length=R1.length)(hp:bp.length=Rp.length)(_h2:b2.length=R2.length)
 (hc:Hp ⟨w,M,bd Lp++bp.filterMap id⟩ ⟨N,M',Lp',Rp'⟩ w' bp') (hk:bd Lp'=bd Lp):
 Hp c ⟨N,M',L1++Lp'++L2,R1++Rp'++R2⟩ w' (b1++bp'++b2):=by
 have al7:bp'.length=Rp'.length:=hc.rows.1.symm
 have vA:Lp'.map (·.1)=Lp.map (·.1):=hk
 have mS:=hi.nodup
 simp only [List.map_append,List.filterMap_append] at mS
 have CO:=List.nodup_append.1 mS
 have aim:=List.nodup_append.1 CO.1
 have ast:=List.nodup_append.1 aim.1
 have Xu:=List.nodup_append.1 CO.2.1
 have al0:=List.nodup_append.1 Xu.1
 have lt:∀ b,b∈(L1++Lp++L2).map (·.1)++(b1++bp++b2).filterMap id ->b<w.heap.size:=fun b hb=>hi.own_lt hb
 have oth:∀ b,b<w.heap.size ->b∉bd Lp++bp.filterMap id ->w'.heap[b]?=w.heap[b]?:=hc.old
 -- the four groups that are not lent
 have apL1:∀ b,b∈L1.map (·.1) ->b∉bd Lp++bp.filterMap id:=by
  intro b hb hn
  simp only [bd,List.mem_append] at hn
  rcases hn with hn | hn
  ·exact ast.2.2 b hb b hn rfl
  ·exact CO.2.2 b (by simp only [List.mem_append];exact .inl (.inl hb)) b (by simp only [List.mem_append];exact .inl (.inr hn)) rfl
 have apL2:∀ b,b∈L2.map (·.1) ->b∉bd Lp++bp.filterMap id:=by
  intro b hb hn
  simp only [bd,List.mem_append] at hn
  rcases hn with hn | hn
  ·exact aim.2.2 b (by simp only [List.mem_append];exact .inr hn) b hb rfl
  ·exact CO.2.2 b (by simp only [List.mem_append];exact .inr hb) b (by simp only [List.mem_append];exact .inl (.inr hn)) rfl
 have apB1:∀ b,b∈b1.filterMap id ->b∉bd Lp++bp.filterMap id:=by
  intro b hb hn
  simp only [bd,List.mem_append] at hn
  rcases hn with hn | hn
  ·exact CO.2.2 b (by simp only [List.mem_append];exact .inl (.inr hn)) b (by simp only [List.mem_append];exact .inl (.inl hb)) rfl
  ·exact al0.2.2 b hb b hn rfl
 have apB2:∀ b,b∈b2.filterMap id ->b∉bd Lp++bp.filterMap id:=by
  intro b hb hn
  simp only [bd,List.mem_append] at hn
  rcases hn with hn | hn
  ·exact CO.2.2 b (by simp only [List.mem_append];exact .inl (.inr hn)) b (by simp only [List.mem_append];exact .inr hb) rfl
  ·exact Xu.2.2 b (by simp only [List.mem_append];exact .inr hn) b hb rfl
 have inL1:∀ b,b∈L1.map (·.1) ->b∈(L1++Lp++L2).map (·.1)++(b1++bp++b2).filterMap id:=fun b hb=>by
  simp only [List.map_append,List.mem_append];exact .inl (.inl (.inl hb))
 have inL2:∀ b,b∈L2.map (·.1) ->b∈(L1++Lp++L2).map (·.1)++(b1++bp++b2).filterMap id:=fun b hb=>by
  simp only [List.map_append,List.mem_append];exact .inl (.inr hb)
 have inB1:∀ b,b∈b1.filterMap id ->b∈(L1++Lp++L2).map (·.1)++(b1++bp++b2).filterMap id:=fun b hb=>by
  simp only [List.filterMap_append,List.mem_append];exact .inr (.inl (.inl hb))
 have inB2:∀ b,b∈b2.filterMap id ->b∈(L1++Lp++L2).map (·.1)++(b1++bp++b2).filterMap id:=fun b hb=>by
  simp only [List.filterMap_append,List.mem_append];exact .inr (.inr hb)
 have inU:∀ b,b∈bd Lp++bp.filterMap id ->b∈(L1++Lp++L2).map (·.1)++(b1++bp++b2).filterMap id:=fun b hb=>by
  simp only [bd,List.mem_append] at hb
  simp only [List.map_append,List.filterMap_append,List.mem_append]
  rcases hb with hb | hb
  ·exact .inl (.inl (.inr hb))
  ·exact .inr (.inl (.inr hb))
 -- a block of the callee's is lent,or new
 have own':∀ b,b∈bd Lp'++bp'.filterMap id ->M' b=none/\(b∈bd Lp++bp.filterMap id\/w.heap.size<=b):=fun b hb=>hc.apart b hb
 have keepM:∀ b,b∈(L1++Lp++L2).map (·.1)++(b1++bp++b2).filterMap id ->b∉bd Lp++bp.filterMap id ->M' b=none:=fun b hb hn=>
  (hc.mem b (lt b hb) hn).trans (hi.apart b hb).1
 have far:∀ a,a∈(L1++Lp++L2).map (·.1)++(b1++bp++b2).filterMap id ->a∉bd Lp++bp.filterMap id ->∀ b,b∈bd Lp'++bp'.filterMap id ->a≠b:=by
  rintro a ha hn b hb rfl
  rcases (own' a hb).2 with h | h
  ·exact hn h
  ·have:=lt a ha;omega
 exact
 {typ:=fun b t hu=>by
   obtain ⟨aF,hc0⟩:=hi.typ b t hu
   refine ⟨Nat.lt_of_lt_of_le aF hc.size,fun hb=> ?_⟩
   have hb:b∈(L1++Lp'++L2).map (·.1):=hb
   have keep:b∉bd Lp++bp.filterMap id ->(∃ cs f,w.heap[b]?=some (.cells cs t f)) ->∃ cs f,w'.heap[b]?=some (.cells cs t f):=by
    rintro hn ⟨cs,f,h⟩
    exact ⟨cs,f,by rw [oth b (fL h) hn];exact h⟩
   simp only [List.map_append,List.mem_append] at hb hc0
   rcases hb with (hb | hb) | hb
   ·exact keep (apL1 b hb) (hc0 (.inl (.inl hb)))
   ·exact (hc.typ b t hu).2 hb
   ·exact keep (apL2 b hb) (hc0 (.inr hb))
  holds:=hc.holds
  blk:=fun b cs hb=>by
   have keep:b∉bd Lp++bp.filterMap id ->Ui w b cs ->Ui w' b cs:=by
    intro hn eG
    have hl:=eG.lt
    obtain ⟨t,ht⟩:=eG
    exact ⟨t,by rw [oth b hl hn];exact ht⟩
   rcases List.mem_append.1 hb with hb | hb
   ·rcases List.mem_append.1 hb with hb | hb
    ·exact keep (apL1 b (List.mem_map.2 ⟨_,hb,rfl⟩)) (hi.blk b cs (by simp [hb]))
    ·exact hc.blk b cs hb
   ·exact keep (apL2 b (List.mem_map.2 ⟨_,hb,rfl⟩)) (hi.blk b cs (by simp [hb]))
  rows:=by
   refine ⟨by simp only [List.length_append,h1,al7,_h2],?_⟩
   intro i v e sz xs o h3 h4
   have h3:(R1++Rp'++R2)[i]?=some (v,e,sz,xs):=h3
   have keep:∀ (j:Nat),(R1++Rp++R2)[j]?=some (v,e,sz,xs) ->(b1++bp++b2)[j]?=some o ->(∀ g,o=some g ->g∉bd Lp++bp.filterMap id) ->xK w' v e sz xs o:=by
    intro j hj1 OB hn
    refine (hi.rows.2 j v e sz xs o hj1 OB).keep fun g hg=> ?_
    subst hg
    exact oth g (lt g (List.mem_append.2 (.inr (List.mem_filterMap.2 ⟨some g,List.mem_of_getElem? OB,rfl⟩)))) (hn g rfl)
   rw [List.append_assoc] at h3 h4
   by_cases Uh:i<R1.length
   ·rw [List.getElem?_append_left Uh] at h3
    rw [List.getElem?_append_left (by omega)] at h4
    refine keep i (by rw [List.append_assoc,List.getElem?_append_left Uh];exact h3) (by rw [List.append_assoc,List.getElem?_append_left (by omega)];exact h4) ?_
    rintro g rfl
    exact apB1 g (List.mem_filterMap.2 ⟨some g,List.mem_of_getElem? h4,rfl⟩)
   ·rw [List.getElem?_append_right (by omega)] at h3 h4
    rw [h1] at h4
    by_cases nu:i - R1.length<Rp'.length
    ·rw [List.getElem?_append_left nu] at h3
     rw [List.getElem?_append_left (by omega)] at h4
     exact hc.rows.2 _ v e sz xs o h3 h4
    ·rw [List.getElem?_append_right (by omega)] at h3 h4
     rw [al7] at h4
     refine keep (R1.length+(Rp.length+(i - R1.length - Rp'.length))) ?_ ?_ ?_
     ·rw [List.append_assoc,List.getElem?_append_right (by omega),List.getElem?_append_right (by omega),<- h3]
      congr 1;omega
     ·rw [List.append_assoc,List.getElem?_append_right (by omega),List.getElem?_append_right (by omega),<- h4]
      congr 1;omega
     ·rintro g rfl
      exact apB2 g (List.mem_filterMap.2 ⟨some g,List.mem_of_getElem? h4,rfl⟩)
  nodup:=by
   show ((L1++Lp'++L2).map (·.1)++(b1++bp'++b2).filterMap id).Nodup
   simp only [List.map_append,List.filterMap_append,vA]
   have WV:=List.nodup_append.1 hc.nodup
   simp only [vA] at WV
   rw [List.nodup_append]
   refine ⟨CO.1,?_,?_⟩
   ·rw [List.nodup_append,List.nodup_append]
    refine ⟨⟨al0.1,WV.2.1,?_⟩,Xu.2.1,?_⟩
    ·intro a ha b hb
     exact far a (inB1 a ha) (apB1 a ha) b (List.mem_append.2 (.inr hb))
    ·intro a ha b hb
     rcases List.mem_append.1 ha with ha | ha
     ·exact Xu.2.2 a (by simp [ha]) b hb
     ·exact Ne.symm (far b (inB2 b hb) (apB2 b hb) a (List.mem_append.2 (.inr ha)))
   ·intro a ha b hb
    simp only [List.mem_append] at ha hb
    rcases hb with (hb | hb) | hb
    ·exact CO.2.2 a (by simp only [List.mem_append];exact ha) b (by simp only [List.mem_append];exact .inl (.inl hb))
    ·rcases ha with (ha | ha) | ha
     ·exact far a (inL1 a ha) (apL1 a ha) b (List.mem_append.2 (.inr hb))
     ·exact WV.2.2 a ha b hb
     ·exact far a (inL2 a ha) (apL2 a ha) b (List.mem_append.2 (.inr hb))
    ·exact CO.2.2 a (by simp only [List.mem_append];exact ha) b (by simp only [List.mem_append];exact .inr hb)
  apart:=fun b hb=>by
   have hb:b∈(L1++Lp'++L2).map (·.1)++(b1++bp'++b2).filterMap id:=hb
   simp only [List.map_append,List.filterMap_append,List.mem_append] at hb
   have lent:b∈bd Lp'++bp'.filterMap id ->M' b=none/\(b∈c.U\/c.w0.heap.size<=b):=fun hb=>by
    refine ⟨(own' b hb).1,?_⟩
    rcases (own' b hb).2 with h | h
    ·exact (hi.apart b (inU b h)).2
    ·exact .inr (Nat.le_trans hi.size h)
   rcases hb with ((hb | hb) | hb) | ((hb | hb) | hb)
   ·exact ⟨keepM b (inL1 b hb) (apL1 b hb),(hi.apart b (inL1 b hb)).2⟩
   ·exact lent (List.mem_append.2 (.inl hb))
   ·exact ⟨keepM b (inL2 b hb) (apL2 b hb),(hi.apart b (inL2 b hb)).2⟩
   ·exact ⟨keepM b (inB1 b hb) (apB1 b hb),(hi.apart b (inB1 b hb)).2⟩
   ·exact lent (List.mem_append.2 (.inr hb))
   ·exact ⟨keepM b (inB2 b hb) (apB2 b hb),(hi.apart b (inB2 b hb)).2⟩
  os:=hc.os.trans hi.os
  tape:=hc.tape.trans hi.tape
  output:=hc.output.trans hi.output
  size:=Nat.le_trans hi.size hc.size
  old:=fun b hb hu=>by
   rw [oth b (Nat.lt_of_lt_of_le hb hi.size) ?_]
   ·exact hi.old b hb hu
   ·intro hn
    rcases (hi.apart b (inU b hn)).2 with h1 | h1
    ·exact hu h1
    ·omega
  mem:=fun b hb hu=>by
   refine (hc.mem b (Nat.lt_of_lt_of_le hb hi.size) ?_).trans (hi.mem b hb hu)
   intro hn
   rcases (hi.apart b (inU b hn)).2 with h1 | h1
   ·exact hu h1
   ·omega
  le:=fun b x hx=>hc.le b x (hi.le b x hx)}
theorem Hp.frame {c N M L1 Lp L2 R1 Rp R2 w b1 bp b2 M' Lp' Rp' bp' w'}(hi:Hp c ⟨N,M,L1++Lp++L2,R1++Rp++R2⟩ w (b1++bp++b2))(h1:b1.length=R1.length)(hp:bp.length=Rp.length)(h2:b2.length=R2.length)
 (hc:Hp ⟨w,M,bd Lp++bp.filterMap id⟩ ⟨N,M',Lp',Rp'⟩ w' bp') (hk:bd Lp'=bd Lp) (_hR:Rp'.length=Rp.length):
 Hp c ⟨N,M',L1++Lp'++L2,R1++Rp'++R2⟩ w' (b1++bp'++b2):=hi.frameN h1 hp h2 hc hk
def CtN (P:Program)(f:FuncId)(args:List Value)(T:Tm)(M:aV)(L:LL)(R:RR)(n:Nat)(post:eP)(pan:n8):Prop:=
 aK P f=true/\∀ w U,Pre w U T M L R ->Calls P f args.toArray w (OA U T M (bd L) n post pan w)
section
variable {P:Program} {F:Fi} {s:List Item} {e:dN} {ds:List Deferred} {dd:Option Nat} {N:Tm} {M:aV}
theorem cM {f:FuncId}{args:List Value}(L1 Lp L2:LL)(R1 Rp R2:RR){post:eP}{pan:n8}(hc:ep P f args N M Lp Rp post pan)
 (hn:∀ v M' L' R',bG M M' ->bd L'=bd Lp ->R'.length=Rp.length ->aB M' (L1++L'++L2) ->post v M' L' R' ->cB P F s (cV e dd v) ds ⟨N,M',L1++L'++L2,R1++R'++R2⟩ ⟨⟩)
 (hp:∀ ch M' L' R',bG M M' ->bd L'=bd Lp ->R'.length=Rp.length ->aB M' (L1++L'++L2) ->pan ch M' L' R' ->F.pan ch e ds ⟨N,M',L1++L'++L2,R1++R'++R2⟩):
 dT P F f args dd s e ds ⟨N,M,L1++Lp++L2,R1++Rp++R2⟩ ⟨⟩:=by
 refine ⟨hc.1,fun c w hw=> ?_⟩
 obtain ⟨bs,hi⟩:=hw
 obtain ⟨b1,bp,b2,rfl,h1,py,h2⟩:=Rc hi.rows.1
 refine Calls.mono (hc.2 w _ ⟨bp,rfl,hi.enter h1 py⟩) ?_
 intro en w' hr
 have fr:∀ {M' L' R'},Dv w (bd Lp++bp.filterMap id) N M (bd Lp) Rp.length M' L' R' w' ->∃ bs',Hp c ⟨N,M',L1++L'++L2,R1++R'++R2⟩ w' bs':=by
  intro M' L' R' hP
  obtain ⟨⟨bp',Di⟩,hk,hR⟩:=hP
  exact ⟨_,hi.frame h1 py h2 Di hk hR⟩
 cases en with
 | returned v=>
  obtain ⟨M',L',R',hP,hq⟩:=hr
  obtain ⟨bs',zH⟩:=fr hP
  refine ⟨_,⟨bs',zH⟩,hn v M' L' R' hP.ext hP.2.1 hP.2.2 (jx fun b hb=>(zH.apart b (List.mem_append.2 (.inl hb))).1) hq⟩
 | panicked ch=>
  obtain ⟨M',L',R',hP,hq⟩:=hr
  obtain ⟨bs',zH⟩:=fr hP
  refine ⟨_,⟨bs',zH⟩,hp ch M' L' R' hP.ext hP.2.1 hP.2.2 (jx fun b hb=>(zH.apart b (List.mem_append.2 (.inl hb))).1) hq⟩
 | outgrown=>exact hr.elim
theorem MI {f:FuncId}{args:List Value}{n:Nat}(L1 Lp L2:LL)(R1 Rp R2:RR){post:eP}{pan:n8}(hc:CtN P f args N M Lp Rp n post pan)
 (hn:∀ v M' L' R',bG M M' ->bd L'=bd Lp ->R'.length=n ->aB M' (L1++L'++L2) ->post v M' L' R' ->cB P F s (cV e dd v) ds ⟨N,M',L1++L'++L2,R1++R'++R2⟩ ⟨⟩)
 (hp:∀ ch M' L' R',bG M M' ->bd L'=bd Lp ->R'.length=n ->aB M' (L1++L'++L2) ->pan ch M' L' R' ->F.pan ch e ds ⟨N,M',L1++L'++L2,R1++R'++R2⟩):
 dT P F f args dd s e ds ⟨N,M,L1++Lp++L2,R1++Rp++R2⟩ ⟨⟩:=by
 refine ⟨hc.1,fun c w hw=> ?_⟩
 obtain ⟨bs,hi⟩:=hw
 obtain ⟨b1,bp,b2,rfl,h1,py,h2⟩:=Rc hi.rows.1
 refine Calls.mono (hc.2 w _ ⟨bp,rfl,hi.enter h1 py⟩) ?_
 intro en w' hr
 have fr:∀ {M' L' R'},Dv w (bd Lp++bp.filterMap id) N M (bd Lp) n M' L' R' w' ->∃ bs',Hp c ⟨N,M',L1++L'++L2,R1++R'++R2⟩ w' bs':=by
  intro M' L' R' hP
  obtain ⟨⟨bp',Di⟩,hk,_⟩:=hP
  exact ⟨_,hi.frameN h1 py h2 Di hk⟩
 cases en with
 | returned v=>
  obtain ⟨M',L',R',hP,hq⟩:=hr
  obtain ⟨bs',zH⟩:=fr hP
  refine ⟨_,⟨bs',zH⟩,hn v M' L' R' hP.ext hP.2.1 hP.2.2 (jx fun b hb=>(zH.apart b (List.mem_append.2 (.inl hb))).1) hq⟩
 | panicked ch=>
  obtain ⟨M',L',R',hP,hq⟩:=hr
  obtain ⟨bs',zH⟩:=fr hP
  refine ⟨_,⟨bs',zH⟩,hp ch M' L' R' hP.ext hP.2.1 hP.2.2 (jx fun b hb=>(zH.apart b (List.mem_append.2 (.inl hb))).1) hq⟩
 | outgrown=>exact hr.elim
theorem am {f:FuncId}{args:List Value}{L:LL}{R:RR}{post:eP}{pan:n8}(hc:ep P f args N M [] [] post pan)
 (hn:∀ v M',bG M M' ->aB M' L ->post v M' [] [] ->cB P F s (cV e dd v) ds ⟨N,M',L,R⟩ ⟨⟩)
 (hp:∀ ch M',bG M M' ->aB M' L ->pan ch M' [] [] ->F.pan ch e ds ⟨N,M',L,R⟩):
 dT P F f args dd s e ds ⟨N,M,L,R⟩ ⟨⟩:=by
 have nil:∀ {L':LL},bd L'=bd [] ->L'=[]:=fun h=>by simpa [bd] using h
 have nilR:∀ {R':RR},R'.length=([]:RR).length ->R'=[]:=fun h=>by simpa using h
 have:=cM (P:=P) (F:=F) (s:=s) (e:=e) (ds:=ds) (dd:=dd) (N:=N) [] [] L [] [] R hc
  (fun v M' L' R' he hk hR bN hq=>by rw [nil hk] at bN hq ⊢;rw [nilR hR] at hq ⊢;exact hn v M' he bN hq)
  (fun ch M' L' R' he hk hR bN hq=>by rw [nil hk] at bN hq ⊢;rw [nilR hR] at hq ⊢;exact hp ch M' he bN hq)
 exact this
theorem eh {f:FuncId}{args:List Value}{h:Sh}{k:Sh ->Prop}(hk:cK h k)(hr:∀ h',k h' ->dT P F f args dd s e ds h' ⟨⟩)(hb:aK P f=true):dT P F f args dd s e ds h ⟨⟩:=by
 refine ⟨hb,fun c w hw=> ?_⟩
 obtain ⟨h',ix,vA⟩:=hk c w hw
 exact (hr h' vA).2 c w ix
end
def oX (P:Program)(e:dN)(h:Sh):List ResultVar ->Option (List Value)
 | []=>some []
 | .tmp t::r=>qC (some (e t)) (oX P e h r)
 | .cell a t::r=>qC (qF h (tk P t) (e a)) (oX P e h r)
def wS:List Value ->Value
 | [v]=>v
 | vs=> .tuple vs.toArray
def vH (a:Array Value):ResultVar ->Sem Value
 | .tmp t=>pure (a.getD t undef)
 | .cell x t=>do loadVar t (<- asAddr (a.getD x undef))
theorem Ii (fn:Func)(a:Array Value):results fn a=(do
 let vs<- fn.results.mapM (vH a)
 pure (if h:vs.size=1 then vs[0] else .tuple vs)):=rfl
theorem Gu {P:Program}{c:Ctx}{h:Sh}{w:World}{t:TypeId}{x v:Value}(hw:Is c h w)(hv:qF h (tk P t) x=some v):
 (do loadVar t (<- asAddr x):Sem Value).run P w=.ok v w:=by
 obtain ⟨bs,hi⟩:=hw
 unfold qF at hv
 split at hv
 ·rename_i n z a AH
  obtain ⟨i,d,hti,hd,hz,hg,hn⟩:=mH AH
  simp only [asAddr,loadVar]
  simp [j0 hd,hg,hi.cell hv]
 ·rename_i n z a AH
  obtain ⟨i,d,hti,hd,hz,hg,hn⟩:=mH AH
  obtain ⟨cs,gU,rfl⟩:=Option.map_eq_some_iff.1 hv
  obtain ⟨hl,hc⟩:=js _ _ _ (hi.cells _ _ _ gU)
  have:=run_loadCells_list (P:=P) (w:=w) a cs (fun j v hj=>by simpa using hc j v hj)
  rw [hl] at this
  simp only [asAddr,loadVar]
  simp [j0 hd,hg,Go.sizeOf,typeInfo,hti,hn,this]
 ·cases hv
theorem GO {P:Program}{c:Ctx}{h:Sh}{w:World}(hw:Is c h w){e:dN}{a:Array Value}(ha:∀ t,a.getD t undef=e t):
 ∀ (l:List ResultVar) (vs:List Value),oX P e h l=some vs ->(l.mapM (vH a)).run P w=.ok vs w:=by
 have cons:∀ {o:Option Value} {p:Option (List Value)} {vs:List Value},qC o p=some vs ->∃ v l,o=some v/\p=some l/\vs=v::l:=by
  intro o p vs h
  unfold qC at h
  split at h
  ·rename_i v l;injection h with h;exact ⟨v,l,rfl,rfl,h.symm⟩
  ·cases h
 intro l
 induction l with
 | nil=>intro vs h;simp [oX] at h;subst h;simp
 | cons x r ih=>
  intro vs hr
  rw [List.mapM_cons]
  cases x with
  | cell x t=>
   obtain ⟨v,l,h1,h2,rfl⟩:=cons hr
   have hl:=Gu (P:=P) hw h1
   have:(vH a (.cell x t)).run P w=.ok v w:=by
    show (do loadVar t (<- asAddr (a.getD x undef)):Sem Value).run P w=_
    rw [ha];exact hl
   rw [Sem.run_bind,this]
   simp only [Result.andThen_ok,Sem.run_bind,ih l h2,Sem.run_pure]
  | tmp t=>
   obtain ⟨v,l,h1,h2,rfl⟩:=cons hr
   injection h1 with h1
   subst h1
   have:(vH a (.tmp t)).run P w=.ok (e t) w:=by simp only [vH,ha,Sem.run_pure]
   rw [Sem.run_bind,this]
   simp only [Result.andThen_ok,Sem.run_bind,ih l h2,Sem.run_pure]
theorem mN {P:Program}{fn:Func}{c:Ctx}{h:Sh}{w:World}(hw:Is c h w){e:dN}{vs:List Value}(hr:oX P e h fn.results.toList=some vs){a:Array Value}(ha:∀ t,a.getD t undef=e t):
 (results fn a).run P w=.ok (wS vs) w:=by
 have h1:=GO (P:=P) hw ha _ _ hr
 have h2:(fn.results.mapM (vH a)).run P w=.ok vs.toArray w:=by
  rw [<- Array.toArray_toList (xs:=fn.results),List.mapM_toArray,<- bind_pure_comp,Sem.run_bind,h1]
  simp
 rw [Ii,Sem.run_bind,h2]
 rcases vs with _ | ⟨t,_ | ⟨u,ts⟩⟩<;>simp [wS]
def Xn (P:Program)(T:Tm)(rs:List ResultVar)(ks:List Nat)(n:Nat)(post:eP)(e:dN)(ds:List Deferred)(h:Sh):Prop:=
 ds=[]/\eU (oX P e h rs) fun vs=>cK h fun h'=>aH T h'.N/\bd h'.L=ks/\h'.R.length=n/\post (wS vs) h'.M h'.L h'.R
def QT (T:Tm)(ks:List Nat)(n:Nat)(pan:n8)(ch:List PanicEntry)(_:dN)(ds:List Deferred)(h:Sh):Prop:=
 ds=[]/\cK h fun h'=>aH T h'.N/\bd h'.L=ks/\h'.R.length=n/\pan ch h'.M h'.L h'.R
def fi (P:Program)(T:Tm)(dr:List (Nat×Sched))(ts:List ResultVar)(ks:List Nat)(n:Nat)(post:eP)(pan:n8):Fi:=⟨dr,Xn P T ts ks n post,QT T ks n pan⟩
theorem kV {T:Tm}{h':Sh}{w0 w:World}{U:List Nat}{M:aV}{ks:List Nat}{n:Nat}(hT:aH T h'.N)(hw:Is ⟨w0,M,U⟩ h' w)(hk:bd h'.L=ks)(hR:h'.R.length=n):Dv w0 U T M ks n h'.M h'.L h'.R w:=by
 refine ⟨?_,hk,hR⟩
 obtain ⟨bs,hi⟩:=hw
 exact ⟨bs,hi.untype hT⟩
theorem Cv {P:Program}{fn:Func}{T:Tm}{dr ts ks k U M post pan}(hr:fn.results.toList=ts){w0:World}{ex:Exit}{a:Act}{w:World}{n:Nat}
 (hq:KontL.toQ ⟨w0,M,U⟩ n (fi P T dr ts ks k post pan).k ex a w):bodyPost P fn (OA U T M ks k post pan w0) ex a w:=by
 cases ex with
 | normal=>
  obtain ⟨e,ds,h,ha,hw,D4,dw⟩:=hq
  obtain ⟨vs,Ox,dw⟩:=dk dw
  obtain ⟨h',ix,hT,hk,hR,hp⟩:=dw _ _ hw
  subst D4 hr
  exact ⟨ha.2.1,_,mN hw Ox ha.2.2,h'.M,h'.L,h'.R,kV hT ix hk hR,hp⟩
 | ret=>
  obtain ⟨e,ds,h,ha,hw,D4,dw⟩:=hq
  obtain ⟨vs,Ox,dw⟩:=dk dw
  obtain ⟨h',ix,hT,hk,hR,hp⟩:=dw _ _ hw
  subst D4 hr
  exact ⟨ha.2.1,_,mN hw Ox ha.2.2,h'.M,h'.L,h'.R,kV hT ix hk hR,hp⟩
 | panic ch=>
  obtain ⟨e,ds,h,ha,hw,D4,dw⟩:=hq
  obtain ⟨h',ix,hT,hk,hR,hp⟩:=dw _ _ hw
  subst D4
  exact ⟨ha.2.1,h'.M,h'.L,h'.R,kV hT ix hk hR,hp⟩
 | exit id=>obtain ⟨_,_,_,_,_,h⟩:=hq;exact h.elim
 | goto l=>exact hq.elim
 | outgrown=>exact hq.elim
theorem Pre.facts {w U T M L R}(h:Pre w U T M L R):aB M L/\nz L/\Is ⟨w,M,U⟩ ⟨T,M,L,R⟩ w:=by
 obtain ⟨bs,_,hi⟩:=h
 exact ⟨jx fun b hb=>(hi.apart b (List.mem_append.2 (.inl hb))).1,Bq (List.nodup_append.1 hi.nodup).1,bs,hi⟩
theorem VE {P:Program}{f:FuncId}{fn:Func}{c:Code}{args:List Value}{dr ts}{T:Tm}{M L R}{k:Nat}{post pan}(hm:P.follows .mixedOrders=true)
 (hn:args.length<=fn.ntmps) (hc:fm P fn.ntmps dr c=true) (hr:fn.results.toList=ts)
 (h:aB M L ->nz L ->cB P (fi P T dr ts (bd L) k post pan) [.code c] (rL args) [] ⟨T,M,L,R⟩ ⟨⟩) (w:World) (U:List Nat) (hw:Pre w U T M L R):
 c.wp P (bodyPost P fn (OA U T M (bd L) k post pan w)) {tmps:=args.toArray++Array.replicate (fn.ntmps - args.toArray.size) undef,defers:=[]} w:=by
 obtain ⟨h1,h2,h3⟩:=hw.facts
 have:=kY (c₀:=⟨w,M,U⟩) hm c (fi P T dr ts (bd L) k post pan).k (rL args) [] ⟨T,M,L,R⟩ w _ hc (fr0 args.toArray fn.ntmps (by simpa using hn)) h3 (h h1 h2)
 exact wp_mono this fun ex a w' hq=>Cv hr hq
theorem RY {P:Program}{f:FuncId}{fn:Func}{c:Code}{args:List Value}{dr ts}{T:Tm}{M L R post pan}(hm:P.follows .mixedOrders=true)
 (hn:args.length<=fn.ntmps) (hc:fm P fn.ntmps dr c=true) (hr:fn.results.toList=ts)
 (h:aB M L ->nz L ->cB P (fi P T dr ts (bd L) R.length post pan) [.code c] (rL args) [] ⟨T,M,L,R⟩ ⟨⟩) (w:World) (U:List Nat) (hw:Pre w U T M L R):
 c.wp P (bodyPost P fn (OA U T M (bd L) R.length post pan w)) {tmps:=args.toArray++Array.replicate (fn.ntmps - args.toArray.size) undef,defers:=[]} w:=by
 obtain ⟨h1,h2,h3⟩:=hw.facts
 have:=kY (c₀:=⟨w,M,U⟩) hm c (fi P T dr ts (bd L) R.length post pan).k (rL args) [] ⟨T,M,L,R⟩ w _ hc (fr0 args.toArray fn.ntmps (by simpa using hn)) h3 (h h1 h2)
 exact wp_mono this fun ex a w' hq=>Cv hr hq
theorem aT {P:Program}{f:FuncId}{fn:Func}{c:Code}{args:List Value}{dr ts}{T:Tm}{M L R post pan}(hm:P.follows .mixedOrders=true)(BO:aK P f=true)
 (hf:P.funcs[f]?=some fn) (hb:fn.body=some c) (hn:args.length<=fn.ntmps) (hc:fm P fn.ntmps dr c=true) (hr:fn.results.toList=ts)
 (h:aB M L ->nz L ->cB P (fi P T dr ts (bd L) R.length post pan) [.code c] (rL args) [] ⟨T,M,L,R⟩ ⟨⟩):ep P f args T M L R post pan:=
 ⟨BO,fun w U hw=>calls_of_wp hf hb (RY (f:=f) hm hn hc hr h w U hw)⟩
theorem KA {P:Program}{f:FuncId}{fn:Func}{c:Code}{args:List Value}{dr ts}{T:Tm}{M L R}{k:Nat}{post pan}(hm:P.follows .mixedOrders=true)(BO:aK P f=true)
 (hf:P.funcs[f]?=some fn) (hb:fn.body=some c) (hn:args.length<=fn.ntmps) (hc:fm P fn.ntmps dr c=true) (hr:fn.results.toList=ts)
 (h:aB M L ->nz L ->cB P (fi P T dr ts (bd L) k post pan) [.code c] (rL args) [] ⟨T,M,L,R⟩ ⟨⟩):CtN P f args T M L R k post pan:=
 ⟨BO,fun w U hw=>calls_of_wp hf hb (VE (f:=f) hm hn hc hr h w U hw)⟩
theorem Kh {P:Program}{f:FuncId}{fn:Func}{c:Code}{args:List Value}{dr ts}{T:Tm}{M L R post pan}(hm:P.follows .mixedOrders=true)(BO:aK P f=true)
 (hf:P.funcs[f]?=some fn) (hb:fn.body=some c) (hn:args.length<=fn.ntmps) (hc:fm P fn.ntmps dr c=true) (hr:fn.results.toList=ts)
 (h:aB M L ->nz L ->cB P (fi P T dr ts (bd L) R.length post pan) [.code c] (rL args) [] ⟨T,M,L,R⟩ ⟨⟩):CtD P f args T M L R post pan:=
 ⟨BO,fun _u w U hw=>callsD_of_wp hf hb (RY (f:=f) hm hn hc hr h w U hw)⟩
theorem aA {h:Sh}{k:Sh ->Prop}(hk:k h):cK h k:=fun _ _ hw=>⟨h,hw,hk⟩
theorem al {N M b cs L R}{k:Sh ->Prop}(hk:cK ⟨N,M,L,R⟩ k):cK ⟨N,M,(b,cs)::L,R⟩ k:=fun c w hw=>by
 obtain ⟨bs,hi⟩:=hw
 exact hk c w ⟨bs,hi.drop rfl⟩
theorem aJ {N M b cs L R}{k:Sh ->Prop}(hk:bG M (M.add b cs) ->(M.add b cs) b=some cs ->aB (M.add b cs) L ->cK ⟨N,M.add b cs,L,R⟩ k):cK ⟨N,M,(b,cs)::L,R⟩ k:=fun c w hw=>by
 obtain ⟨bs,hi⟩:=hw
 have hf:=hi.freeze (b:=b) (cs:=cs) (L:=L) rfl
 have bN:=(hi.apart b (by simp)).1
 exact hk (bG.add bN) (by simp [aV.add]) (jx fun k hk=>(hf.apart k (List.mem_append.2 (.inl hk))).1) c w ⟨bs,hf⟩
theorem qA {h:Sh}{k k':Sh ->Prop}(hk:cK h k)(h2:∀ h',k h' ->cK h' k'):cK h k':=fun c w hw=>by
 obtain ⟨h',ix,vA⟩:=hk c w hw
 exact h2 h' vA c w ix
theorem Hp.perm {c N M L L' R w bs}(hi:Hp c ⟨N,M,L,R⟩ w bs)(hp:L.Perm L'):Hp c ⟨N,M,L',R⟩ w bs:=
 {typ:=fun b u hu=>⟨(hi.typ b u hu).1,fun hb=>(hi.typ b u hu).2 ((hp.map _).mem_iff.2 hb)⟩
  holds:=hi.holds
  blk:=fun b cs hb=>hi.blk b cs (hp.mem_iff.2 hb)
  rows:=hi.rows
  nodup:=by
   have h1:(L.map (·.1)++bs.filterMap id).Perm (L'.map (·.1)++bs.filterMap id):=(hp.map _).append_right _
   exact h1.nodup_iff.1 hi.nodup
  apart:=fun b hb=>hi.apart b (by
   simp only [List.mem_append] at hb ⊢
   rcases hb with hb | hb
   ·exact .inl ((hp.map _).mem_iff.2 hb)
   ·exact .inr hb)
  os:=hi.os
  tape:=hi.tape
  output:=hi.output
  size:=hi.size
  old:=hi.old
  mem:=hi.mem
  le:=hi.le}
theorem ef {N M L L' R}{k:Sh ->Prop}(hp:L.Perm L')(hk:cK ⟨N,M,L',R⟩ k):cK ⟨N,M,L,R⟩ k:=fun c w hw=>by
 obtain ⟨bs,hi⟩:=hw
 exact hk c w ⟨bs,hi.perm hp⟩
theorem Hp.dropR {c N M L v e sz xs R w bs}(hi:Hp c ⟨N,M,L,(v,e,sz,xs)::R⟩ w bs):∃ bs',Hp c ⟨N,M,L,R⟩ w bs':=by
 obtain ⟨bQ,fg⟩:=hi.rows
 cases bs with
 | nil=>simp at bQ
 | cons o bs=>
  refine ⟨bs,?_⟩
  have lG:(bs.filterMap id).Sublist ((o::bs).filterMap id):=(List.sublist_cons_self o bs).filterMap id
  have Ny:∀ b,b∈L.map (·.1)++bs.filterMap id ->b∈L.map (·.1)++(o::bs).filterMap id:=by
   intro b hb
   simp only [List.mem_append] at hb ⊢
   rcases hb with hb | hb
   ·exact .inl hb
   ·exact .inr (lG.subset hb)
  exact
  {typ:=hi.typ
   holds:=hi.holds
   blk:=hi.blk
   rows:=⟨by simpa using bQ,fun i v e sz xs o h1 h2=>fg (i+1) v e sz xs o (by simpa using h1) (by simpa using h2)⟩
   nodup:=hi.nodup.sublist ((List.Sublist.refl _).append lG)
   apart:=fun b hb=>hi.apart b (Ny b hb)
   os:=hi.os
   tape:=hi.tape
   output:=hi.output
   size:=hi.size
   old:=hi.old
   mem:=hi.mem
   le:=hi.le}
theorem lV {N M L r R}{k:Sh ->Prop}(hk:cK ⟨N,M,L,R⟩ k):cK ⟨N,M,L,r::R⟩ k:=fun c w hw=>by
 obtain ⟨v,e,sz,xs⟩:=r
 obtain ⟨bs,hi⟩:=hw
 obtain ⟨bs',AE⟩:=hi.dropR
 exact hk c w ⟨bs',AE⟩
def At (M:aV)(b o:Nat):List Value ->Prop
 | []=>True
 | v::l=>aL M ⟨b,o,none⟩=some v/\At M b (o+1) l
def Sl (M:aV)(v:Value)(sz:Nat)(xs:List Value):Prop:=
 (∃ a c,v=.slice a 0 c/\xs=[]/\(a=none ->c=0))\/∃ b o n c,v=.slice (some ⟨b,o,none⟩) n c/\n<=c/\xs.length=n*sz/\At M b o xs
theorem ax {M M':aV}(h:bG M M'){a v}(hc:aL M a=some v):aL M' a=some v:=by
 unfold aL at hc ⊢
 split at hc
 ·cases hc
 ·obtain ⟨cs,hb,hv⟩:=Option.bind_eq_some_iff.1 hc
  simp [*,h _ _ hb]
theorem At.ext {M M':aV}(h:bG M M'){b}:∀ {l o},At M b o l ->At M' b o l
 | [],_,_=>trivial
 | _::_,_,hc=>⟨ax h hc.1,At.ext h hc.2⟩
theorem Sl.ext {M M':aV}(h:bG M M'){v sz xs}(hs:Sl M v sz xs):Sl M' v sz xs:=by
 rcases hs with hs | ⟨b,o,n,c,h1,h2,h3,h4⟩
 ·exact .inl hs
 ·exact .inr ⟨b,o,n,c,h1,h2,h3,h4.ext h⟩
theorem wu {M:aV}{b:Nat}{cs:List Value}(hb:M b=some cs):∀ (l:List Value) (o:Nat),(∀ i v,l[i]?=some v ->cs[o+i]?=some v) ->At M b o l:=by
 intro l
 induction l with
 | nil=>intro o _;trivial
 | cons v l ih=>
  intro o h
  refine ⟨?_,ih (o+1) fun i u hu=> ?_⟩
  ·have h0:=h 0 v rfl
   rw [Nat.add_zero] at h0
   simp [aL,hb,h0]
  ·have:=h (i+1) u (by simpa using hu)
   rw [<- this];congr 1;omega
theorem eJ {M:aV}{b:Nat}:∀ {l l':List Value} {o:Nat},At M b o (l++l') ↔ At M b o l/\At M b (o+l.length) l'
 | [],l',o=>by simp [At]
 | v::l,l',o=>by
  simp only [List.cons_append,At,eJ (l:=l),List.length_cons,and_assoc]
  rw [show o+1+l.length=o+(l.length+1) from by omega]
theorem Hp.freezeR {c N M L v e sz xs R w bs}(hi:Hp c ⟨N,M,L,(v,e,sz,xs)::R⟩ w bs)(eF:0<sz):
 ∃ M' bs',Hp c ⟨N,M',L,R⟩ w bs'/\bG M M'/\Sl M' v sz xs:=by
 obtain ⟨bQ,fg⟩:=hi.rows
 cases bs with
 | nil=>simp at bQ
 | cons o bs=>
  have hr:=fg 0 v e sz xs o rfl rfl
  rcases hr with ⟨rfl,rfl,rfl⟩ | ⟨g,n,cap,junk,rfl,hg,hn,hc,jo,rfl⟩ | ⟨h0,_⟩ | ⟨h0,_⟩
  ·obtain ⟨bs',h'⟩:=hi.dropR
   exact ⟨M,bs',h',bG.rfl',.inl ⟨none,0,rfl,rfl,fun _=>rfl⟩⟩
  ·-- the row's block is told as one of L,then frozen
   have mS:=hi.nodup
   rw [List.filterMap_cons] at mS
   simp only [id] at mS
   have Ux:=(hi.apart g (by simp [List.filterMap_cons])).1
   have Pt:(L.map (·.1)++g::bs.filterMap id).Perm (g::(L.map (·.1)++bs.filterMap id)):=List.perm_middle
   have XB:=Pt.nodup_iff.1 mS
   have h2:Hp c ⟨fun _=>none,M,(g,xs++junk)::L,R⟩ w bs:=
   {typ:=fun b u hu=>by cases hu
    holds:=hi.holds
    blk:=fun b cs hb=>by
     rcases List.mem_cons.1 hb with hb | hb
     ·injection hb with h1 h2;subst h1 h2;exact ⟨e,hg⟩
     ·exact hi.blk b cs hb
    rows:=⟨by simpa using bQ,fun i v e sz xs o h1 h2=>fg (i+1) v e sz xs o (by simpa using h1) (by simpa using h2)⟩
    nodup:=by simpa using XB
    apart:=fun b hb=>hi.apart b (by
     simp only [List.map_cons,List.cons_append,List.mem_cons,List.mem_append] at hb
     simp only [List.filterMap_cons,id,List.mem_append,List.mem_cons]
     rcases hb with hb | hb | hb
     ·exact .inr (.inl hb)
     ·exact .inl hb
     ·exact .inr (.inr hb))
    os:=hi.os
    tape:=hi.tape
    output:=hi.output
    size:=hi.size
    old:=hi.old
    mem:=hi.mem
    le:=hi.le}
   have h3:=h2.freeze (b:=g) (cs:=xs++junk) (L:=L) rfl
   refine ⟨_,bs,h3.retyp hi.typ,bG.add Ux,.inr ⟨g,0,n,cap,rfl,jo,hn,?_⟩⟩
   refine wu (cs:=xs++junk) (by simp [aV.add]) xs 0 ?_
   intro i u hu
   rw [Nat.zero_add,List.getElem?_append_left (List.getElem?_eq_some_iff.1 hu).1];exact hu
  ·omega
  ·omega
theorem dn {N M L v e sz xs R}{k:Sh ->Prop}(hk:∀ M',bG M M' ->aB M' L ->Sl M' v sz xs ->cK ⟨N,M',L,R⟩ k)(eF:0<sz:=by decide):cK ⟨N,M,L,(v,e,sz,xs)::R⟩ k:=fun c w hw=>by
 obtain ⟨bs,hi⟩:=hw
 obtain ⟨M',bs',h',he,hs⟩:=hi.freezeR eF
 exact hk M' he (jx fun b hb=>(h'.apart b (List.mem_append.2 (.inl hb))).1) hs c w ⟨bs',h'⟩
abbrev Bs:=List UInt8
def bs (l:Bs):ByteArray:=⟨l.toArray⟩
def st (l:Bs):Value:=.string (bs l)
theorem q8 (l:Bs):(bs l).size=l.length:=by simp [bs,ByteArray.size]
theorem vg (a b:Bs):bs a++bs b=bs (a++b):=by
 apply ByteArray.ext
 simp [bs,ByteArray.data_append]
theorem Ju {a b:Bs}:bs a=bs b ↔ a=b:=by
 constructor
 ·intro h
  have:=congrArg (fun x=>x.data.toList) h
  simpa [bs] using this
 ·rintro rfl;rfl
theorem akW (x:ByteArray):x=bs x.data.toList:=by
 apply ByteArray.ext;simp [bs]
def RL {α:Type}(r:α ->List Value ->Prop):List α ->List Value ->Prop
 | [],xs=>xs=[]
 | x::l,xs=>∃ cs rest,xs=cs++rest/\r x cs/\RL r l rest
def RS {α:Type}(M:aV)(r:α ->List Value ->Prop)(sz:Nat)(l:List α)(v:Value):Prop:=l.length*sz<=4398046511104/\∃ xs,Sl M v sz xs/\RL r l xs
section
variable {α:Type} {r:α ->List Value ->Prop} {sz:Nat}
theorem fI (eF:∀ x cs,r x cs ->cs.length=sz):∀ {l xs},RL r l xs ->xs.length=l.length*sz
 | [],xs,h=>by simp only [RL] at h;subst h;simp
 | x::l,xs,h=>by
  obtain ⟨cs,rest,rfl,h1,h2⟩:=h
  simp only [List.length_append,eF x cs h1,fI eF h2,List.length_cons,Nat.add_mul]
  omega
theorem Q9 (eF:∀ x cs,r x cs ->cs.length=sz){M:aV}{b:Nat}:∀ {l xs o},RL r l xs ->At M b o xs ->∀ i x,l[i]?=some x ->∃ cs,At M b (o+i*sz) cs/\r x cs
 | [],xs,o,h,_,i,x,hx=>by simp at hx
 | y::l,xs,o,h,ha,i,x,hx=>by
  obtain ⟨cs,rest,rfl,h1,h2⟩:=h
  obtain ⟨ha1,OE⟩:=eJ.1 ha
  cases i with
  | zero=>
   simp at hx;subst hx
   exact ⟨cs,by simpa using ha1,h1⟩
  | succ i=>
   obtain ⟨cs',h3,h4⟩:=Q9 eF h2 OE i x (by simpa using hx)
   refine ⟨cs',?_,h4⟩
   have:o+(i+1)*sz=o+cs.length+i*sz:=by rw [eF y cs h1,Nat.add_mul];omega
   rw [this];exact h3
theorem dx:∀ {l l':List α} {xs xs'},RL r l xs ->RL r l' xs' ->RL r (l++l') (xs++xs')
 | [],l',xs,xs',h,h'=>by simp only [RL] at h;subst h;exact h'
 | x::l,l',xs,xs',h,h'=>by
  obtain ⟨cs,rest,rfl,h1,h2⟩:=h
  exact ⟨cs,rest++xs',by simp,h1,dx h2 h'⟩
theorem cP {x:α}{cs}(h:r x cs):RL r [x] cs:=⟨cs,[],by simp,h,rfl⟩
theorem dZ {r':α ->List Value ->Prop}(h:∀ x cs,r x cs ->r' x cs):∀ {l xs},RL r l xs ->RL r' l xs
 | [],_,hh=>hh
 | _::_,_,⟨cs,rest,h1,h2,h3⟩=>⟨cs,rest,h1,h _ _ h2,dZ h h3⟩
theorem aN {M M':aV}{r':α ->List Value ->Prop}(he:bG M M')(h:∀ x cs,r x cs ->r' x cs){l v}(hs:RS M r sz l v):RS M' r' sz l v:=by
 obtain ⟨hb,xs,h1,h2⟩:=hs
 exact ⟨hb,xs,h1.ext he,dZ h h2⟩
theorem aI (gG:0<sz)(eF:∀ x cs,r x cs ->cs.length=sz){M:aV}{l v}(hs:RS M r sz l v):
 l.length*sz<=4398046511104/\∃ a c,v=.slice a l.length c/\l.length<=c/\(a=none ->c=0)/\∀ i x,l[i]?=some x ->∃ b o cs,a=some ⟨b,o,none⟩/\At M b (o+i*sz) cs/\r x cs:=by
 obtain ⟨hb,xs,hs,hl⟩:=hs
 refine ⟨hb,?_⟩
 have bQ:=fI eF hl
 rcases hs with ⟨a,c,rfl,rfl,Ai⟩ | ⟨b,o,n,c,rfl,jo,hn,ha⟩
 ·have h0:l.length=0:=by
   simp only [List.length_nil] at bQ
   rcases Nat.mul_eq_zero.1 bQ.symm with h | h
   ·exact h
   ·omega
  refine ⟨a,c,by rw [h0],by omega,Ai,?_⟩
  intro i x hx
  have:=(List.getElem?_eq_some_iff.1 hx).1
  omega
 ·have Hm:n=l.length:=Nat.eq_of_mul_eq_mul_right gG (hn.symm.trans bQ)
  subst Hm
  refine ⟨some ⟨b,o,none⟩,c,rfl,jo,(fun h=>by cases h),?_⟩
  intro i x hx
  obtain ⟨cs,h1,h2⟩:=Q9 eF hl ha i x hx
  exact ⟨b,o,cs,rfl,h1,h2⟩
end
theorem CM {α:Type}{r:α ->List Value ->Prop}{sz:Nat}(gG:0<sz)(eF:∀ x cs,r x cs ->cs.length=sz){M:aV}{l:List α}{a:Option Addr}{n c k:Nat}(h:RS M r sz l (.slice a n c))(hk:k<=l.length):
 RS M r sz (l.drop k) (.slice (nP a c k sz) (n - k) (c - k)):=by
 obtain ⟨hb,xs,hs,hl⟩:=h
 have bQ:=fI eF hl
 refine ⟨Nat.le_trans (Nat.mul_le_mul_right _ (by rw [List.length_drop];omega)) hb,xs.drop (k*sz),?_,?_⟩
 ·rcases hs with ⟨a',c',hv,rfl,Ai⟩ | ⟨b,o,n',c',hv,jo,hn,ha⟩
  ·injection hv with h1 h2 h3
   subst h1 h2 h3
   left
   have oI:k=0:=by
    have:l.length=0:=by
     simp only [List.length_nil] at bQ
     rcases Nat.mul_eq_zero.1 bQ.symm with h | h
     ·exact h
     ·omega
    omega
   subst oI
   refine ⟨nP a c 0 sz,c - 0,by simp,by simp,fun h=> ?_⟩
   have:a=none:=by
    unfold nP at h
    split at h
    ·exact h
    ·simpa using h
   have:=Ai this
   omega
  ·injection hv with h1 h2 h3
   subst h1 h2 h3
   right
   have Hm:n=l.length:=Nat.eq_of_mul_eq_mul_right gG (hn.symm.trans bQ)
   have bX:At M b (o+k*sz) (xs.drop (k*sz)):=by
    have h2:xs=xs.take (k*sz)++xs.drop (k*sz):=(List.take_append_drop _ _).symm
    rw [h2] at ha
    have:=(eJ.1 ha).2
    rw [List.length_take,Nat.min_eq_left (by rw [hn];exact Nat.mul_le_mul_right _ (by omega))] at this
    exact this
   by_cases hck:c=k
   ·refine ⟨b,o,n - k,c - k,by simp [nP,hck],by omega,?_,?_⟩
    ·rw [List.length_drop,hn,Nat.sub_mul]
    ·have:xs.drop (k*sz)=[]:=by
      apply List.drop_eq_nil_of_le
      rw [hn];exact Nat.mul_le_mul_right _ (by omega)
     rw [this];trivial
   ·refine ⟨b,o+k*sz,n - k,c - k,by simp [nP,hck,Addr.add_lit],by omega,?_,bX⟩
    rw [List.length_drop,hn,Nat.sub_mul]
 ·clear bQ hs hb
  induction l generalizing xs k with
  | nil=>
   simp only [RL] at hl;subst hl
   simp [RL]
  | cons x l ih=>
   obtain ⟨cs,rest,rfl,h1,h2⟩:=hl
   cases k with
   | zero=>simpa using ⟨cs,rest,rfl,h1,h2⟩
   | succ k=>
    have gU:=eF x cs h1
    have:(cs++rest).drop ((k+1)*sz)=rest.drop (k*sz):=by
     rw [Nat.add_mul,Nat.one_mul,Nat.add_comm,<- gU,List.drop_append]
     simp
    rw [this]
    simpa using ih (by simpa using hk) _ h2
theorem bC {M:aV}{b o:Nat}(h:M b=none):aL M ⟨b,o,none⟩=none:=by simp [aL,h]
theorem aY {M:aV}{b o:Nat}{cs:List Value}(h:M b=some cs):aL M ⟨b,o,none⟩=cs[o]?:=by simp [aL,h]
theorem Vu {P:Program}{t:TypeId}{x:Value}{lo hi:Option Value}:adt P t x lo hi=if cX P t=true then zq true x lo hi else yz (dA P t) x lo hi:=(rfl)
theorem Qs (sz a n cap k l):yz (some sz) (.slice a n cap) (some (.int k l)) none=if 0<=l/\l<=n/\n<=cap then some (.slice (nP a cap l.toNat sz) (n - l.toNat) (cap - l.toNat)) else none:=(rfl)
theorem SZ (sz a n cap k h):yz (some sz) (.slice a n cap) none (some (.int k h))=if 0<=h/\h<=cap then some (.slice (nP a cap 0 sz) h.toNat cap) else none:=(rfl)
theorem Iy (sz a n cap k l j h):yz (some sz) (.slice a n cap) (some (.int k l)) (some (.int j h))=if 0<=l/\l<=h/\h<=cap then some (.slice (nP a cap l.toNat sz) (h.toNat - l.toNat) (cap - l.toNat)) else none:=(rfl)
theorem Qc (s k l):zq true (.string s) (some (.int k l)) none=if 0<=l/\l<=s.size then some (.string (s.extract l.toNat s.size)) else none:=(rfl)
theorem TR (s k h):zq true (.string s) none (some (.int k h))=if 0<=h/\h<=s.size then some (.string (s.extract 0 h.toNat)) else none:=(rfl)
theorem Jl (s k l j h):zq true (.string s) (some (.int k l)) (some (.int j h))=if 0<=l/\l<=h/\h<=s.size then some (.string (s.extract l.toNat h.toNat)) else none:=(rfl)
theorem HH (l:Bs)(a b:Nat):(bs l).extract a b=bs ((l.drop a).take (b - a)):=by
 apply ByteArray.ext
 simp [bs,ByteArray.data_extract,List.extract_eq_take_drop]
theorem amE:((0:Nat):Int)=0:=(rfl)
theorem ahx:((1:Nat):Int)=1:=(rfl)
theorem aov:((2:Nat):Int)=2:=(rfl)
theorem ajo:((3:Nat):Int)=3:=(rfl)
theorem anG:((4:Nat):Int)=4:=(rfl)
theorem aoQ:((5:Nat):Int)=5:=(rfl)
theorem amp:((6:Nat):Int)=6:=(rfl)
theorem ahg:((7:Nat):Int)=7:=(rfl)
theorem ah5:((8:Nat):Int)=8:=(rfl)
theorem aoV:((9:Nat):Int)=9:=(rfl)
theorem Vh (n:Nat):(((n+1:Nat):Int)=0)=False:=eq_false (by omega)
theorem PH (n:Nat):((0:Int)<((n+1:Nat):Int))=True:=eq_true (by omega)
theorem XS (n:Nat):((1:Int)<=((n+1:Nat):Int))=True:=eq_true (by omega)
theorem Wt (n:Nat):((0:Int)<=(n:Int))=True:=eq_true (by omega)
structure V where
 k:Int
 n:Int
 t:Bs
def V.cs (v:V):List Value:=[.int .i64 v.k,.int .i64 v.n,st v.t]
inductive X where
 | mk (k:Int) (v:V) (tab name:Bs) (kids:List X)
namespace X
def k:X ->Int | mk k _ _ _ _=>k
def v:X ->V | mk _ v _ _ _=>v
def tab:X ->Bs | mk _ _ t _ _=>t
def name:X ->Bs | mk _ _ _ n _=>n
def kids:X ->List X | mk _ _ _ _ l=>l
end X
mutual
def RX (M:aV):X ->List Value ->Prop
 | .mk k v tab name kids,cs=>∃ s xs,cs=[.int .i64 k,.int .i64 v.k,.int .i64 v.n,st v.t,st tab,st name,s]/\kids.length*7<=4398046511104/\Sl M s 7 xs/\RXs M kids xs
def RXs (M:aV):List X ->List Value ->Prop
 | [],xs=>xs=[]
 | x::l,xs=>∃ cs rest,xs=cs++rest/\RX M x cs/\RXs M l rest
end
theorem QW {M:aV}:∀ {l xs},RXs M l xs ↔ RL (RX M) l xs
 | [],_=>by simp [RXs,RL]
 | x::l,xs=>by simp only [RXs,RL,QW (l:=l)]
theorem tI {M:aV}{x:X}{cs}:RX M x cs ↔ ∃ s,cs=[.int .i64 x.k,.int .i64 x.v.k,.int .i64 x.v.n,st x.v.t,st x.tab,st x.name,s]/\RS M (RX M) 7 x.kids s:=by
 obtain ⟨k,v,tab,name,kids⟩:=x
 simp only [RX,RS,X.k,X.v,X.tab,X.name,X.kids,QW]
 constructor
 ·rintro ⟨s,xs,h1,h0,h2,h3⟩;exact ⟨s,h1,h0,xs,h2,h3⟩
 ·rintro ⟨s,h1,h0,xs,h2,h3⟩;exact ⟨s,xs,h1,h0,h2,h3⟩
theorem dY {M:aV}{x:X}{cs}(h:RX M x cs):cs.length=7:=by
 obtain ⟨s,rfl,_⟩:=tI.1 h;rfl
mutual
theorem br {M M':aV}(he:bG M M'):∀ (x:X) (cs:List Value),RX M x cs ->RX M' x cs
 | .mk _ _ _ _ kids,_,h=>by
  obtain ⟨s,xs,h1,h0,h2,h3⟩:=h
  exact ⟨s,xs,h1,h0,h2.ext he,JT he kids xs h3⟩
theorem JT {M M':aV}(he:bG M M'):∀ (l:List X) (xs:List Value),RXs M l xs ->RXs M' l xs
 | [],_,h=>h
 | x::l,_,h=>by
  obtain ⟨cs,rest,h1,h2,h3⟩:=h
  exact ⟨cs,rest,h1,br he x cs h2,JT he l rest h3⟩
end
structure It where
 x:X
 as:Bs
def xQ (M:aV)(i:It)(cs:List Value):Prop:=∃ c,RX M i.x c/\cs=c++[st i.as]
structure So where
 k:Int
 name:Bs
 as:Bs
 on:X
def D1 (M:aV)(s:So)(cs:List Value):Prop:=∃ c,RX M s.on c/\cs=[.int .i64 s.k,st s.name,st s.as]++c
structure Se where
 distinct:Bool
 star:Bool
 items:List It
 src:List So
 hasW:Bool
 hasH:Bool
 wh:X
 hv:X
 group:List X
def CX (M:aV)(s:Se)(cs:List Value):Prop:=∃ i f w h g,RS M (xQ M) 8 s.items i/\RS M (D1 M) 10 s.src f/\RX M s.wh w/\RX M s.hv h/\RS M (RX M) 7 s.group g/\
 cs=[.bool s.distinct,.bool s.star,i,f,.bool s.hasW,.bool s.hasH]++(w++(h++[g]))
structure Q where
 parts:List Se
 ops:List Int
 order:List X
 limit:Int
def RI (n:Int)(cs:List Value):Prop:=cs=[.int .i64 n]
def RQ (M:aV)(q:Q)(cs:List Value):Prop:=∃ p o r,RS M (CX M) 21 q.parts p/\RS M RI 1 q.ops o/\RS M (RX M) 7 q.order r/\cs=[p,o,r,.int .i64 q.limit]
structure Co where
 name:Bs
 ty:Int
def uE (c:Co)(cs:List Value):Prop:=cs=[st c.name,.int .i64 c.ty]
def RV (v:V)(cs:List Value):Prop:=cs=v.cs
def RVs (M:aV)(l:List V)(cs:List Value):Prop:=∃ s,RS M RV 3 l s/\cs=[s]
structure Stm where
 k:Int
 name:Bs
 cols:List Co
 q:Q
 rows:List (List V)
 hasW:Bool
 wh:X
def o9 (M:aV)(s:Stm)(cs:List Value):Prop:=∃ c q r w,RS M uE 2 s.cols c/\RQ M s.q q/\RS M (RVs M) 1 s.rows r/\RX M s.wh w/\
 cs=[.int .i64 s.k,st s.name,c]++(q++([r,.bool s.hasW]++w))
def OJ (e at_:Int):Value:=.agg #[.int .i64 e,.int .i64 at_]
theorem ko {M M':aV}(he:bG M M')(i:It)(cs)(h:xQ M i cs):xQ M' i cs:=by
 obtain ⟨c,h1,h2⟩:=h;exact ⟨c,br he _ _ h1,h2⟩
theorem rk {M M':aV}(he:bG M M')(i:So)(cs)(h:D1 M i cs):D1 M' i cs:=by
 obtain ⟨c,h1,h2⟩:=h;exact ⟨c,br he _ _ h1,h2⟩
theorem kn {M M':aV}(he:bG M M')(i:Se)(cs)(h:CX M i cs):CX M' i cs:=by
 obtain ⟨a,f,w,hh,g,h1,h2,h3,h4,h5,h6⟩:=h
 exact ⟨a,f,w,hh,g,aN he (ko he) h1,aN he (rk he) h2,br he _ _ h3,br he _ _ h4,aN he (br he) h5,h6⟩
theorem DB {M M':aV}(he:bG M M')(i:Q)(cs)(h:RQ M i cs):RQ M' i cs:=by
 obtain ⟨a,f,w,h1,h2,h3,h4⟩:=h
 exact ⟨a,f,w,aN he (kn he) h1,aN he (fun _ _ h=>h) h2,aN he (br he) h3,h4⟩
theorem J7 {M M':aV}(he:bG M M')(i:List V)(cs)(h:RVs M i cs):RVs M' i cs:=by
 obtain ⟨s,h1,h2⟩:=h;exact ⟨s,aN he (fun _ _ h=>h) h1,h2⟩
theorem nQ {M M':aV}(he:bG M M')(i:Stm)(cs)(h:o9 M i cs):o9 M' i cs:=by
 obtain ⟨c,q,r,w,h1,h2,h3,h4,h5⟩:=h
 exact ⟨c,q,r,w,aN he (fun _ _ h=>h) h1,DB he _ _ h2,aN he (J7 he) h3,br he _ _ h4,h5⟩
theorem j8 {M:aV}{i:It}{cs}(h:xQ M i cs):cs.length=8:=by
 obtain ⟨c,h1,rfl⟩:=h;simp [dY h1]
theorem mY {M:aV}{i:So}{cs}(h:D1 M i cs):cs.length=10:=by
 obtain ⟨c,h1,rfl⟩:=h;simp [dY h1]
theorem lx {M:aV}{i:Se}{cs}(h:CX M i cs):cs.length=21:=by
 obtain ⟨a,f,w,hh,g,_,_,h3,h4,_,rfl⟩:=h;simp [dY h3,dY h4]
theorem Ig {M:aV}{i:Q}{cs}(h:RQ M i cs):cs.length=4:=by
 obtain ⟨_,_,_,_,_,_,rfl⟩:=h;rfl
theorem kg {M:aV}{i:Stm}{cs}(h:o9 M i cs):cs.length=16:=by
 obtain ⟨_,_,_,_,_,h2,_,h4,rfl⟩:=h;simp [Ig h2,dY h4]
theorem F9 (z pl parts):vb (some (z,pl)) parts=(om pl z parts).map fun cs=> .agg cs.toArray:=(rfl)
theorem Mj (pl z):om pl z []=some z:=(rfl)
theorem HW (pl z i vs rest):om pl z ((i,vs)::rest)=match pl[i]? with
 | some (off,size)=>if vs.length=size/\off+vs.length<=z.length then om pl (nC z off vs) rest else none
 | none=>none:=(rfl)
theorem TS (z i):nC z i []=z:=(rfl)
theorem Ma (z i v vs):nC z i (v::vs)=nC (z.set i v) (i+1) vs:=(rfl)
theorem ame (l:List Value):l.toArray=⟨l⟩:=(rfl)
theorem Em (t v):JV (.iface t v)=true:=(rfl)
theorem FX (sz i):oO sz i []=true:=(rfl)
theorem DA (sz i j cs r):oO sz i ((j,cs)::r)=(j==i && cs.length==sz && oO sz (i+1) r):=(rfl)
theorem Ow:wg []=[]:=(rfl)
theorem Ja (j cs r):wg ((j,cs)::r)=cs++wg r:=(rfl)
theorem Ds {k:IntKind}{a b:Int}(h:a=b):Value.int k a=.int k b:=by rw [h]
def vC (T:Tm)(ks:List Nat)(n:Nat)(post:eP)(v:Value)(h:Sh):Prop:=aH T h.N/\bd h.L=ks/\h.R.length=n/\post v h.M h.L h.R
theorem O2 {P e h}:oX P e h []=some []:=(rfl)
theorem OW {P e h t r}:oX P e h (.tmp t::r)=qC (some (e t)) (oX P e h r):=(rfl)
theorem MQ {P e h a t r}:oX P e h (.cell a t::r)=qC (qF h (tk P t) (e a)) (oX P e h r):=(rfl)
theorem Ts (v):wS [v]=v:=(rfl)
theorem Rz (v u):wS [v,u]=.tuple #[v,u]:=(rfl)
theorem Pq:wS []=.tuple #[]:=(rfl)
theorem aby {P T dr ts ks n post pan}:(fi P T dr ts ks n post pan).ret=Xn P T ts ks n post:=(rfl)
theorem mK {P T dr ts ks n post pan}:(fi P T dr ts ks n post pan).pan=QT T ks n pan:=(rfl)
theorem ajN {P T dr ts ks n post pan}:(fi P T dr ts ks n post pan).dr=dr:=(rfl)
theorem WC {P T ts ks n post e h}:Xn P T ts ks n post e [] h=eU (oX P e h ts) fun vs=>cK h (vC T ks n post (wS vs)):=by simp [Xn];rfl
theorem kj {T ks n pan ch e h}:QT T ks n pan ch e [] h=cK h (vC T ks n (fun _=>pan ch) undef):=by simp [QT];rfl
theorem TN (id):GE [] id=.no:=(rfl)
theorem LD (j s r id):GE ((j,s)::r) id=if j=id then s else GE r id:=(rfl)
theorem aM {T N M L R ks n post v}(hT:aH T N)(hk:bd L=ks)(hn:R.length=n)(hp:post v M L R):cK ⟨N,M,L,R⟩ (vC T ks n post v):=aA ⟨hT,hk,hn,hp⟩
theorem iJ {N M R}{k:Sh ->Prop}:∀ {L:LL},cK ⟨N,M,[],R⟩ k ->cK ⟨N,M,L,R⟩ k
 | [],h=>h
 | (_,_)::_,h=>al (iJ h)
theorem cG {N M L}{k:Sh ->Prop}:∀ {R:RR},cK ⟨N,M,L,[]⟩ k ->cK ⟨N,M,L,R⟩ k
 | [],h=>h
 | _::_,h=>lV (cG h)
theorem az {T N M L R post v}(hT:aH T N)(hp:post v M [] []):cK ⟨N,M,L,R⟩ (vC T (bd []) 0 post v):=iJ (cG (aM hT rfl rfl hp))
theorem aH.rfl' {T:Tm}:aH T T:=fun _ _ h=>h
theorem aH.trans {T T' T'':Tm}(h:aH T T')(h':aH T' T''):aH T T'':=fun b t hb=>h' b t (h b t hb)
def aG (e:dN):List (Nat×Value) ->Prop
 | []=>True
 | (t,v)::l=>e t=v/\aG e l
def LI (ds0:List Deferred)(n ti:Nat)(lv:List (Nat×Value))(J:Nat ->dN ->Sh ->Prop):Nat ->dN ->List Deferred ->Sh ->Prop:=
 fun m e ds h=>ds=ds0/\∃ i,i<=n/\m=n - i/\aG e lv/\e ti=.int .i64 (i:Nat)/\J i e h
section
variable {P:Program} {F:Fi} {b:Code} {s:List Item} {e:dN} {ds:List Deferred} {h:Sh}
theorem iL (I:Nat ->dN ->List Deferred ->Sh ->Prop)(h0:∃ m,I m e ds h)(hs:∀ m e' ds' h',I m e' ds' h' ->cB P F (.code b:: .lp I m::s) e' ds' h' ⟨⟩):Le P F b s e ds h ⟨⟩:=
 ⟨I,aA h0,hs⟩
theorem bh (n ti:Nat)(lv:List (Nat×Value))(J:Nat ->dN ->Sh ->Prop)(i0:Nat)(hi:i0<=n)(hl:aG e lv)(ht:e ti=.int .i64 (i0:Nat))(hJ:J i0 e h)
 (hs:∀ i e' h',i<=n ->aG e' lv ->e' ti=.int .i64 (i:Nat) ->J i e' h' ->cB P F (.code b:: .lp (LI ds n ti lv J) (n - i)::s) e' ds h' ⟨⟩):Le P F b s e ds h ⟨⟩:=by
 refine iL (LI ds n ti lv J) ⟨n - i0,rfl,i0,hi,rfl,hl,ht,hJ⟩ ?_
 rintro m e' ds' h' ⟨rfl,i,hi,rfl,hl,ht,hJ⟩
 exact hs i e' h' hi hl ht hJ
theorem bW {n ti:Nat}{lv:List (Nat×Value)}{J:Nat ->dN ->Sh ->Prop}{i:Nat}(hi:i<n)(hl:aG e lv)(ht:e ti=.int .i64 ((i+1:Nat):Int))(hJ:J (i+1) e h):
 cB P F (.lp (LI ds n ti lv J) (n - i)::s) e ds h ⟨⟩:=by
 rw [fq]
 exact aA ⟨n - (i+1),by omega,rfl,i+1,by omega,rfl,hl,ht,hJ⟩
theorem bf {I:Nat ->dN ->List Deferred ->Sh ->Prop}{m:Nat}(hc:cK h fun h=>∃ m',m'<m/\I m' e ds h):cB P F (.lp I m::s) e ds h ⟨⟩:=by
 rw [fq];exact hc
end
theorem aW {P:Program}{F:Fi}{f:FuncId}{args:List Value}{dd:Option Nat}{s:List Item}{e:dN}{ds:List Deferred}{N:Tm}{M:aV}{b:Nat}{cs:List Value}{L:LL}{R:RR}(hb:aK P f=true)
 (h:∀ M',bG M M' ->M' b=some cs ->aB M' L ->dT P F f args dd s e ds ⟨N,M',L,R⟩ ⟨⟩):dT P F f args dd s e ds ⟨N,M,(b,cs)::L,R⟩ ⟨⟩:=
 eh (k:=fun h'=>∃ M',bG M M'/\M' b=some cs/\aB M' L/\h'=⟨N,M',L,R⟩) (aJ fun he h1 h2=>aA ⟨_,he,h1,h2,rfl⟩)
  (by rintro h' ⟨M',he,h1,h2,rfl⟩;exact h M' he h1 h2) hb
theorem df {α:Type}{r:α ->List Value ->Prop}{sz:Nat}(eF:∀ x cs,r x cs ->cs.length=sz){M:aV}{b n:Nat}{cs:List Value}{l:List α}(hM:M b=some cs)(hl:RL r l cs)(hn:l.length=n)(hb:n*sz<=4398046511104):
 RS M r sz l (.slice (some ⟨b,0,none⟩) n n):=by
 subst hn
 exact ⟨hb,cs,.inr ⟨b,0,l.length,l.length,rfl,Nat.le_refl _,fI eF hl,wu hM cs 0 (by simp)⟩,hl⟩
def pD (s:Bs)(cs:List Value):Prop:=cs=[st s]
theorem cO {s:Bs}{cs}(h:pD s cs):cs.length=1:=by unfold pD at h;subst h;rfl
theorem eQ:∀ (l:List Bs),RL pD l (l.map st)
 | []=>rfl
 | s::l=>⟨[st s],l.map st,rfl,rfl,eQ l⟩
theorem S1 (k n):(Value.int k n).oneCell'=true:=rfl
theorem TQ (s):(Value.string s).oneCell'=true:=rfl
theorem LM (s):(Value.bool s).oneCell'=true:=rfl
theorem XO (a n c):(Value.slice a n c).oneCell'=true:=rfl
theorem QK (a):(Value.pointer a).oneCell'=true:=rfl
theorem LB (f a c):(Value.func f a c).oneCell'=true:=rfl
theorem JI (f a c):(Value.func f a c).cells.toList=[.func f a c]:=rfl
theorem Gi (t v):(Value.iface t v).cells.toList=[.iface t v]:=rfl
theorem aav {α β:Type}(f:α ->β)(l:List α):Array.map f ⟨l⟩=⟨l.map f⟩:=by simp
theorem aub (l:List UInt8):ByteArray.mk ⟨l⟩=bs l:=rfl
theorem eZ {n:Int}(h0: -9223372036854775808<=n)(h1:n<=9223372036854775807):IntKind.i64.wrap n=n:=by
 have hb:IntKind.i64.bits=64:=rfl
 have hs:IntKind.i64.signed=true:=rfl
 simp only [IntKind.wrap,hb,hs,Bool.true_and]
 by_cases hc:n % (2 ^ 64:Int)>=(2 ^ (64 - 1):Int)
 ·rw [if_pos (by simpa using hc)]
  omega
 ·rw [if_neg (by simpa using hc)]
  omega
theorem aC (i:Nat)(h:i<140737488355328):IntKind.i64.wrap ((i:Int)+1)=((i+1:Nat):Int):=by
 rw [eZ (by omega) (by omega)];rfl
theorem Pv (n:Nat)(h:n<1000000000000000000):IntKind.i64.wrap (0 - (n:Int))= -(n:Int):=by
 rw [eZ (by omega) (by omega)];omega
def pL (pb:Nat)(lv:Value)(en op:Int):LL:=[(pb,[lv,.int .i64 en,.int .i64 op])]
theorem Rd (pb lv en op k o):eb (pL pb lv en op) ⟨k,o,none⟩=if k=pb then some ([lv,.int .i64 en,.int .i64 op][o]?) else none:=(rfl)
theorem Rq (pb lv en op v):o6 (pL pb lv en op) pb 0 [v]=some (pL pb v en op):=by simp [o6,pL,nC]
theorem RT (pb lv en op n):o6 (pL pb lv en op) pb 2 [.int .i64 n]=some (pL pb lv en n):=by simp [o6,pL,nC]
theorem aE (M pb lv en op):aB M (pL pb lv en op)=(M pb=none):=by simp [aB,pL]
theorem MM (b pb lv en op):dz b (pL pb lv en op)=(b≠pb/\pb≠b):=by simp [dz,pL]
def yb (M:aV):LL ->Prop
 | []=>True
 | (b,cs)::l=>M b=some cs/\yb M l
theorem oS {N R}{k:Sh ->Prop}:∀ {L:LL} {M:aV},(∀ M',bG M M' ->yb M' L ->cK ⟨N,M',[],R⟩ k) ->cK ⟨N,M,L,R⟩ k
 | [],M,h=>h M bG.rfl' trivial
 | (b,cs)::L,M,h=>aJ fun he hb _=>oS fun M' lC hL=>h M' (he.trans lC) ⟨lC _ _ hb,hL⟩
theorem DM {T0:Tm}{h:Sh}{b:Nat}{cs:List Value}(hc:∀ o v,cs[o]?=some v ->h.cell ⟨b,o,none⟩=some v):lr ⟨T0,fun _=>none,[(b,cs)],[]⟩ h:=by
 intro a v hv
 obtain ⟨k,o,sp⟩:=a
 simp only [Sh.cell,aL,eb] at hv
 by_cases hk:k=b
 ·subst hk
  cases sp with
  | some q=>simp at hv
  | none=>exact hc o v (by simpa using hv)
 ·cases sp<;>simp [hk] at hv
theorem N8 (a:Addr):aL (fun _=>none) a=none:=by simp [aL]
theorem P2 {T ks n pan}(ops:List Oper):ze (QT T ks n pan) ops=True:=eq_true (fun _ _ _ _ _ _ _ _ _ h=>h)
theorem gn {T0 T:Tm}{M:aV}{b:Nat}{cs:List Value}{L:LL}{R:RR}(hb:M b=none):lr ⟨T0,fun _=>none,[(b,cs)],[]⟩ ⟨T,M,(b,cs)::L,R⟩:=
 DM fun o v hv=>by simp [Sh.cell,aL,eb,hb,hv]
theorem rA {T0 T:Tm}{M:aV}{b b':Nat}{cs cs':List Value}{L:LL}{R:RR}(hb:M b=none)(dh:¬ b=b'):lr ⟨T0,fun _=>none,[(b,cs)],[]⟩ ⟨T,M,(b',cs')::(b,cs)::L,R⟩:=
 DM fun o v hv=>by simp [Sh.cell,aL,eb,hb,hv,dh]
section
variable {P:Program} {F:Fi} {s:List Vc.Item} {e:dN} {ds:List Deferred} {dd:Option Nat} {T:Tm} {M:aV} {L:LL} {R:RR} {t tx el:TypeId} {sz:Nat} {z news xs:List Value} {y:Value}
theorem nb (fg:fB P t=some (el,sz,z))(dG:nM P t=true)(hs:Srcs P tx sz ⟨T,M,L,R⟩ y news)(hb:news.length<=4398046511104)
 (k:∀ a m c,m*sz=news.length ->cB P F s (cV e dd (.slice a m c)) ds ⟨T,M,L,(.slice a m c,el,sz,news)::R⟩ ⟨⟩):zM P F t tx (.slice none 0 0) y dd s e ds ⟨T,M,L,R⟩ ⟨⟩:=
 .inr ⟨el,sz,z,news,fg,dG,hs,.inr (.inl ⟨rfl,hb,k⟩)⟩
theorem gi {x:Value}(fg:fB P t=some (el,sz,z))(dG:nM P t=true)(hs:Srcs P tx sz ⟨T,M,L,(x,el,sz,xs)::R⟩ y news)(hb:xs.length+news.length<=4398046511104)
 (k:∀ a m c,m*sz=xs.length+news.length ->cB P F s (cV e dd (.slice a m c)) ds ⟨T,M,L,(.slice a m c,el,sz,xs++news)::R⟩ ⟨⟩):zM P F t tx x y dd s e ds ⟨T,M,L,(x,el,sz,xs)::R⟩ ⟨⟩:=
 .inr ⟨el,sz,z,news,fg,dG,hs,.inl ⟨0,xs,rfl,hb,k⟩⟩
theorem qE {a:Addr}{n:Nat}(fg:fB P t=some (el,sz,z))(dG:nM P t=true)(hs:Srcs P tx sz ⟨T,M,L,R⟩ y news)(hc:Sh.cells ⟨T,M,L,R⟩ a 0 (n*sz)=some xs)(gG:0<news.length)(hb:xs.length+news.length<=4398046511104)
 (k:∀ a m c,m*sz=xs.length+news.length ->cB P F s (cV e dd (.slice a m c)) ds ⟨T,M,L,(.slice a m c,el,sz,xs++news)::R⟩ ⟨⟩):zM P F t tx (.slice (some a) n n) y dd s e ds ⟨T,M,L,R⟩ ⟨⟩:=
 .inr ⟨el,sz,z,news,fg,dG,hs,.inr (.inr (.inl ⟨a,n,xs,rfl,hc,gG,hb,k⟩))⟩
theorem EY {b o n c:Nat}(fg:fB P t=some (el,sz,z))(dG:nM P t=true)(hs:Srcs P tx sz ⟨T,M,L,R⟩ y [])(jo:n<=c)
 (k:cB P F s (cV e dd (.slice (some ⟨b,o,none⟩) n c)) ds ⟨T,M,L,R⟩ ⟨⟩):zM P F t tx (.slice (some ⟨b,o,none⟩) n c) y dd s e ds ⟨T,M,L,R⟩ ⟨⟩:=
 .inr ⟨el,sz,z,[],fg,dG,hs,.inr (.inr (.inr (.inl ⟨b,o,n,c,rfl,jo,rfl,k⟩)))⟩
theorem RC {n:Nat}{ik:IntKind}(fg:fB P t=some (el,sz,z))(dG:nM P t=true)(hk:P.underlying tx=some (.int ik))(h0:0<n)(hb:n<=4294967296)
 (k:∀ a c zs,zs.length=n*sz ->n<=c ->cB P F s (cV e dd (.slice a n c)) ds ⟨T,M,L,(.slice a n c,el,sz,zs)::R⟩ ⟨⟩):zM P F t tx (.slice none 0 0) (.int .i64 (n:Nat)) dd s e ds ⟨T,M,L,R⟩ ⟨⟩:=
 .inl ⟨el,sz,z,n,ik,fg,dG,hk,rfl,rfl,h0,hb,k⟩
end
theorem CH {T:Tm}{M:aV}{L:LL}{R:RR}{a:Option Addr}{n c:Nat}{el:TypeId}{sz:Nat}{zs:List Value}{k:Sh ->Prop}(eF:0<sz)(hk:cK ⟨T,M,L,(.slice a 0 c,el,sz,[])::R⟩ k):
 cK ⟨T,M,L,(.slice a n c,el,sz,zs)::R⟩ k:=fun cx w hw=>by
 obtain ⟨bs,hi⟩:=hw
 refine hk cx w ⟨bs,{hi with rows:= ?_}⟩
 refine ⟨hi.rows.1,?_⟩
 intro i v e' sz' xs o h1 h2
 cases i with
 | succ i=>exact hi.rows.2 (i+1) v e' sz' xs o (by simpa using h1) h2
 | zero=>
  simp only [List.getElem?_cons_zero,Option.some.injEq,Prod.mk.injEq] at h1
  obtain ⟨rfl,rfl,rfl,rfl⟩:=h1
  have hr:=hi.rows.2 0 _ _ _ _ o rfl h2
  rcases hr with ⟨h0,hx,ho⟩ | ⟨g,m,cap,junk,hv,hg,hn,hc,jo,ho⟩ | ⟨h0,_⟩ | ⟨h0,_⟩
  ·cases h0;exact .inl ⟨rfl,rfl,ho⟩
  ·cases hv
   exact .inr (.inl ⟨g,0,c,zs++junk,rfl,by simpa using hg,by simp,by simpa using hc,by omega,ho⟩)
  ·omega
  ·omega
theorem zU {h:Sh}{b:Nat}{cs:List Value}(hc:∀ o v,cs[o]?=some v ->h.cell ⟨b,o,none⟩=some v):∀ (n i:Nat),i+n=cs.length ->h.cells ⟨b,0,none⟩ i n=some (cs.drop i):=by
 intro n
 induction n with
 | zero=>intro i hi;rw [List.drop_eq_nil_of_le (by omega)];rfl
 | succ n ih=>
  intro i hi
  have aF:i<cs.length:=by omega
  rw [tL,ih (i+1) (by omega),Nat.zero_add,hc i cs[i] (List.getElem?_eq_getElem aF),List.drop_eq_getElem_cons aF]
  rfl
theorem cT {T:Tm}{M:aV}(L1:LL){L2:LL}{R:RR}{b n:Nat}{cs:List Value}(hb:M b=none)(ha:dz b L1)(hn:n=cs.length):Sh.cells ⟨T,M,L1++(b,cs)::L2,R⟩ ⟨b,0,none⟩ 0 n=some cs:=by
 have key:∀ {L1:LL} (o:Nat),dz b L1 ->eb (L1++(b,cs)::L2) ⟨b,o,none⟩=some cs[o]?:=by
  intro L1 o
  induction L1 with
  | nil=>intro _;simp [eb]
  | cons p l ih=>
   obtain ⟨k,ds⟩:=p
   intro h
   simp only [List.cons_append,eb,if_neg h.1.1]
   exact ih h.2
 have:=zU (h:=⟨T,M,L1++(b,cs)::L2,R⟩) (b:=b) (cs:=cs) (fun o v hv=>by simp [Sh.cell,aL,hb,key o ha,hv]) n 0 (by omega)
 simpa using this
theorem dJ {T0 T:Tm}{M:aV}(L1:LL){L2:LL}{R:RR}{b:Nat}{cs:List Value}(hb:M b=none)(ha:dz b L1):lr ⟨T0,fun _=>none,[(b,cs)],[]⟩ ⟨T,M,L1++(b,cs)::L2,R⟩:=by
 have key:∀ {L1:LL} (o:Nat),dz b L1 ->eb (L1++(b,cs)::L2) ⟨b,o,none⟩=some cs[o]?:=by
  intro L1 o
  induction L1 with
  | nil=>intro _;simp [eb]
  | cons p l ih=>
   obtain ⟨k,ds⟩:=p
   intro h
   simp only [List.cons_append,eb,if_neg h.1.1]
   exact ih h.2
 exact DM fun o v hv=>by simp [Sh.cell,aL,hb,key o ha,hv]
section
variable {P:Program} {F:Fi} {b:Code} {s:List Item} {e:dN} {ds:List Deferred} {h:Sh}
theorem bA (n ti:Nat)(lv:List (Nat×Value))(J:Nat ->dN ->Sh ->Prop)(i0:Nat)(hi:i0<=n)(hl:aG e lv)(ht:e ti=.int .i64 (i0:Nat))(hJ:cK h fun h=>J i0 e h)
 (hs:∀ i e' h',i<=n ->aG e' lv ->e' ti=.int .i64 (i:Nat) ->J i e' h' ->cB P F (.code b:: .lp (LI ds n ti lv J) (n - i)::s) e' ds h' ⟨⟩):Le P F b s e ds h ⟨⟩:=by
 refine ⟨LI ds n ti lv J,qA hJ fun h' hJ'=>aA ⟨n - i0,rfl,i0,hi,rfl,hl,ht,hJ'⟩,?_⟩
 rintro m e' ds' h' ⟨rfl,i,hi,rfl,hl,ht,hJ⟩
 exact hs i e' h' hi hl ht hJ
end
theorem fE {T0 T:Tm}{M M':aV}(L1:LL){L2:LL}{R:RR}{b:Nat}{cs:List Value}(hM:bG M M')(hb:M' b=none)(ha:dz b L1):lr ⟨T0,M,[(b,cs)],[]⟩ ⟨T,M',L1++(b,cs)::L2,R⟩:=by
 have key:∀ {L1:LL} (o:Nat),dz b L1 ->eb (L1++(b,cs)::L2) ⟨b,o,none⟩=some cs[o]?:=by
  intro L1 o
  induction L1 with
  | nil=>intro _;simp [eb]
  | cons p l ih=>
   obtain ⟨k,ds⟩:=p
   intro h
   simp only [List.cons_append,eb,if_neg h.1.1]
   exact ih h.2
 intro a v hv
 simp only [Sh.cell] at hv ⊢
 cases hm:aL M a with
 | some u=>
  rw [hm] at hv
  injection hv with hv;subst hv
  rw [ax hM hm]
 | none=>
  rw [hm] at hv
  obtain ⟨k,o,sp⟩:=a
  simp only [eb] at hv
  by_cases hk:k=b
  ·subst hk
   cases sp with
   | some q=>simp at hv
   | none=>
    simp only [if_true,Option.isSome_none,Bool.false_eq_true,if_false,Option.getD_some] at hv
    rw [bC hb,key o ha]
    simpa using hv
  ·simp [hk] at hv
def lU (w w':World):Prop:=w'.os=w.os/\w'.tape=w.tape/\w'.output=w.output/\w.heap.size<=w'.heap.size/\∀ b,b<w.heap.size ->w'.heap[b]?=w.heap[b]?
theorem lU.rfl' {w:World}:lU w w:=⟨rfl,rfl,rfl,Nat.le_refl _,fun _ _=>rfl⟩
theorem uD {w:World}{a:Addr}{n b:Nat}(h:b≠a.block):(w.freeze a n).heap[b]?=w.heap[b]?:=by
 unfold World.freeze
 split
 ·rfl
 ·show (w.heap.modify a.block _)[b]?=_
  rw [Array.getElem?_modify,if_neg (Ne.symm h)]
theorem lU.bytes {w:World}{e s}:lU w (Lib.bytesWorld w e s):=by
 have eF:(Lib.bytesWorld w e s).heap.size=w.heap.size+1:=by
  simp [Lib.bytesWorld,World.freeze]
 refine ⟨rfl,rfl,rfl,by omega,?_⟩
 intro b hb
 have h1:(w.drew.alloc (.cells (Lib.bytesCells w e s) e)).heap[b]?=w.heap[b]?:=cm (w:=w.drew) hb
 rw [<- h1]
 exact uD (by simp;omega)
theorem Hp.keeps {c N M L R w w' bs}(hi:Hp c ⟨N,M,L,R⟩ w bs)(hk:lU w w'):Hp c ⟨N,M,L,R⟩ w' bs:=by
 obtain ⟨k1,k2,k3,k4,k5⟩:=hk
 exact
 {typ:=fun b u hu=>by
   obtain ⟨aF,hc⟩:=hi.typ b u hu
   refine ⟨by omega,fun hb=> ?_⟩
   obtain ⟨cs',f,hc⟩:=hc hb
   exact ⟨cs',f,by rw [k5 b (fL hc)];exact hc⟩
  holds:=fun b x hb=>by
   have:=hi.holds.lt hb
   obtain ⟨t,f,ht⟩:=hi.holds _ _ hb
   exact ⟨t,f,by rw [k5 b this];exact ht⟩
  blk:=fun b x hb=>by
   have h2:=hi.blk _ _ hb
   have hl:=h2.lt
   obtain ⟨t,ht⟩:=h2
   exact ⟨t,by rw [k5 b hl];exact ht⟩
  rows:=⟨hi.rows.1,fun i v e sz xs o h1 h2=>(hi.rows.2 i v e sz xs o h1 h2).keep fun g hg=>by
   subst hg
   exact k5 g (hi.rows.2 i v e sz xs _ h1 h2).lt⟩
  nodup:=hi.nodup
  apart:=hi.apart
  os:=k1.trans hi.os
  tape:=k2.trans hi.tape
  output:=k3.trans hi.output
  size:=Nat.le_trans hi.size k4
  old:=fun b hb hu=>by rw [k5 b (Nat.lt_of_lt_of_le hb hi.size)];exact hi.old b hb hu
  mem:=hi.mem
  le:=hi.le}
theorem pf {P:Program}{f:FuncId}{args:List Value}{M:aV}{v:Value}(hb:aK P f=true)
 (h:∀ w,qt M w ->Calls P f args.toArray w fun e w'=>e=.returned v/\lU w w'):Ct P f args M [] [] (fun r M' _ _=>r=v/\M'=M) bj:=by
 intro T
 refine ⟨hb,fun w U hw=> ?_⟩
 obtain ⟨bs,rfl,hi⟩:=hw
 refine Calls.mono (h w hi.holds) ?_
 rintro e w' ⟨rfl,ix⟩
 exact ⟨M,[],[],⟨⟨bs,hi.keeps ix⟩,rfl,rfl⟩,rfl,rfl⟩
theorem PP {P:Program}{f:FuncId}{args:List Value}{M:aV}{cs:List Value}{t:TypeId}(F:Nat ->Value)(hb:aK P f=true)
 (h:∀ w,qt M w ->Calls P f args.toArray w fun e w'=>e=.returned (F w.heap.size)/\w'=w.alloc (.cells cs.toArray t)):Ct P f args M [] [] (fun r M' _ _=>∃ b,r=F b/\M' b=some cs) bj:=by
 intro T
 refine ⟨hb,fun w U hw=> ?_⟩
 obtain ⟨bs,rfl,hi⟩:=hw
 refine Calls.mono (h w hi.holds) ?_
 rintro e w' ⟨rfl,rfl⟩
 have h2:=(hi.alloc (t:=t) cs).untype (N':=T) hi.extT
 have h3:=h2.freeze (b:=w.heap.size) (cs:=cs) (L:=[]) rfl
 exact ⟨_,[],[],⟨⟨bs,h3⟩,rfl,rfl⟩,w.heap.size,rfl,by simp [aV.add]⟩
theorem dU {P:Program}{F:Fi}{s:List Vc.Item}{e:dN}{ds:List Deferred}{dd:Option Nat}{N:Tm}{M:aV}{f:FuncId}{args:List Value}{R:RR}(L1:LL){Lp:LL}{post:eP}{pan:n8}(hc:ep P f args N M Lp [] post pan)
 (hn:∀ v M' L',bG M M' ->bd L'=bd Lp ->aB M' (L1++L') ->post v M' L' [] ->cB P F s (cV e dd v) ds ⟨N,M',L1++L',R⟩ ⟨⟩)
 (hp:∀ ch M' L',bG M M' ->bd L'=bd Lp ->aB M' (L1++L') ->pan ch M' L' [] ->F.pan ch e ds ⟨N,M',L1++L',R⟩):
 dT P F f args dd s e ds ⟨N,M,L1++Lp,R⟩ ⟨⟩:=by
 have nilR:∀ {R':RR},R'.length=([]:RR).length ->R'=[]:=fun h=>by simpa using h
 have:=cM (P:=P) (F:=F) (s:=s) (e:=e) (ds:=ds) (dd:=dd) (N:=N) L1 Lp [] [] [] R hc
  (fun v M' L' R' he hk hR bN hq=>by
   rw [nilR hR] at hq ⊢
   rw [List.append_nil] at bN ⊢
   exact hn v M' L' he hk bN hq)
  (fun ch M' L' R' he hk hR bN hq=>by
   rw [nilR hR] at hq ⊢
   rw [List.append_nil] at bN ⊢
   exact hp ch M' L' he hk bN hq)
 rw [List.append_nil] at this
 exact this
def Gy (P:Program)(f:FuncId)(args:List Value)(h:Sh)(k:Sh ->Prop):Prop:=
 aK P f=true/\∀ c w u,Is c h w ->CallsD P f args.toArray u w fun e u' w'=>u'=u/\∃ v,e=.returned v/\∃ h',Is c h' w'/\k h'
def dFn (d:Deferred):Option (FuncId×List Value):=match d.target with
 | .fn (.func f) cap=>some (f,d.args.toList++cap.toList)
 | _=>none
def yo (P:Program):List Deferred ->Sh ->(Sh ->Prop) ->Prop
 | [],h,k=>k h
 | d::ds,h,k=>eU (dFn d) fun (f,args)=>Gy P f args h fun h'=>yo P ds h' k
def Xp (ch:List PanicEntry):Bool:=match ch with | {recovered:=true,..}::_=>false | _=>true
def Hk (P:Program)(T:Tm)(rs:List ResultVar)(ks:List Nat)(n:Nat)(post:eP)(e:dN)(ds:List Deferred)(h:Sh):Prop:=
 yo P ds h fun h=>eU (oX P e h rs) fun vs=>cK h (vC T ks n post (wS vs))
def abD (P:Program)(T:Tm)(ks:List Nat)(n:Nat)(pan:n8)(ch:List PanicEntry)(_:dN)(ds:List Deferred)(h:Sh):Prop:=
 Xp ch=true/\yo P ds h fun h=>cK h (vC T ks n (fun _=>pan ch) undef)
def O8 (P:Program)(T:Tm)(dr:List (Nat×Sched))(ts:List ResultVar)(ks:List Nat)(n:Nat)(post:eP)(pan:n8):Fi:=⟨dr,Hk P T ts ks n post,abD P T ks n pan⟩
theorem Hv {ch:List PanicEntry}(h:Xp ch=true):settle (.panicking ch)=.panicking ch:=by
 unfold Xp at h
 unfold settle
 split
 ·rename_i hh
  injection hh with hh
  subst hh
  simp at h
 ·rfl
theorem P3 {P:Program}{f:FuncId}{args:List Value}{N:Tm}{M:aV}{R:RR}(L1:LL){Lp:LL}{post:eP}(hc:CtD P f args N M Lp [] post bj){k:Sh ->Prop}
 (hn:∀ v M' L',bG M M' ->bd L'=bd Lp ->aB M' (L1++L') ->post v M' L' [] ->k ⟨N,M',L1++L',R⟩):Gy P f args ⟨N,M,L1++Lp,R⟩ k:=by
 refine ⟨hc.1,fun c w u hw=> ?_⟩
 obtain ⟨bs,hi⟩:=hw
 have nu:Hp c ⟨N,M,L1++Lp++[],[]++[]++R⟩ w ([]++[]++bs):=by simpa using hi
 have tE:=nu.enter (R1:=[]) (Rp:=[]) (b1:=[]) (bp:=[]) rfl rfl
 intro cf cs hu
 obtain ⟨e,u',w',fr,⟨rfl,hr⟩,rest⟩:=hc.2 u w _ ⟨[],rfl,tE⟩ cf cs hu
 refine ⟨e,u',w',fr,⟨rfl,?_⟩,rest⟩
 cases e with
 | returned v=>
  obtain ⟨M',L',R',⟨⟨bp',Di⟩,hk,hR⟩,hq⟩:=hr
  have N0:R'=[]:=by simpa using hR
  subst N0
  have D5:bp'=[]:=by simpa using Di.rows.1.symm
  subst D5
  have zH:=nu.frame (R1:=[]) (Rp:=[]) (b1:=[]) (bp:=[]) (bp':=[]) (Rp':=[]) rfl rfl (by simpa using hi.rows.1.symm) Di hk rfl
  have rN:Hp c ⟨N,M',L1++L',R⟩ w' bs:=by simpa using zH
  exact ⟨v,rfl,_,⟨bs,rN⟩,hn v M' L' (fun b cs hb=>Di.le b cs hb) hk (jx fun b hb=>(rN.apart b (List.mem_append.2 (.inl hb))).1) hq⟩
 | panicked ch=>obtain ⟨_,_,_,_,hq⟩:=hr;exact hq.elim
 | outgrown=>exact hr.elim
theorem Mb {P:Program}{f:FuncId}{args:List Value}{N:Tm}{M:aV}(L1:LL){Lp:LL}{Rp:RR}{post:eP}(hc:CtD P f args N M Lp Rp post bj){k:Sh ->Prop}
 (hn:∀ v M' L' R',bG M M' ->bd L'=bd Lp ->R'.length=Rp.length ->aB M' (L1++L') ->post v M' L' R' ->k ⟨N,M',L1++L',R'⟩):Gy P f args ⟨N,M,L1++Lp,Rp⟩ k:=by
 refine ⟨hc.1,fun c w u hw=> ?_⟩
 obtain ⟨bs,hi⟩:=hw
 have bQ:bs.length=Rp.length:=hi.rows.1.symm
 have nu:Hp c ⟨N,M,L1++Lp++[],[]++Rp++[]⟩ w ([]++bs++[]):=by simpa using hi
 have tE:=nu.enter (R1:=[]) (Rp:=Rp) (b1:=[]) (bp:=bs) rfl bQ
 intro cf cs hu
 obtain ⟨e,u',w',fr,⟨rfl,hr⟩,rest⟩:=hc.2 u w _ ⟨bs,rfl,tE⟩ cf cs hu
 refine ⟨e,u',w',fr,⟨rfl,?_⟩,rest⟩
 cases e with
 | returned v=>
  obtain ⟨M',L',R',⟨⟨bp',Di⟩,hk,hR⟩,hq⟩:=hr
  have D5:bp'.length=R'.length:=Di.rows.1.symm
  have zH:=nu.frame (R1:=[]) (Rp:=Rp) (b1:=[]) (bp:=bs) (bp':=bp') (Rp':=R') rfl bQ rfl Di hk hR
  have rN:Hp c ⟨N,M',L1++L',R'⟩ w' bp':=by simpa using zH
  exact ⟨v,rfl,_,⟨bp',rN⟩,hn v M' L' R' (fun b cs hb=>Di.le b cs hb) hk hR (jx fun b hb=>(rN.apart b (List.mem_append.2 (.inl hb))).1) hq⟩
 | panicked ch=>obtain ⟨_,_,_,_,hq⟩:=hr;exact hq.elim
 | outgrown=>exact hr.elim
theorem BM {P:Program}{fn:Func}{a:Array Value}{R:Ending ->World ->Prop}{c:Ctx}{ends:FrameMode ->World ->Prop}{u:FrameMode}(hu:u≠ .run)(OK:settle u=u)
 (arW:∀ w,ends u w ->Leaves P fn a R [] u w):∀ (ds:List Deferred) (h:Sh) (w:World) (k:Sh ->Prop),Is c h w ->(∀ h w,Is c h w ->k h ->ends u w) ->yo P ds h k ->Leaves P fn a R ds u w:=by
 intro ds
 induction ds with
 | nil=>intro h w k hw hk hd;exact arW w (hk h w hw hd)
 | cons d ds ih=>
  intro h w k hw hk hd
  obtain ⟨⟨f,args⟩,hdf,hb,hd⟩:=dk hd
  obtain ⟨t,da⟩:=d
  unfold dFn at hdf
  simp only at hdf
  split at hdf
  ·rename_i t2 g cap
   injection hdf with hdf
   injection hdf with h1 h2
   subst h1 h2
   have BO:=hb
   unfold aK at BO
   refine ⟨hu,_,cap,g,(da.toList++cap.toList).toArray,rfl,?_,?_⟩
   ·show (invoke (.fn (.func g) cap) da).run P w=_
    have pY:(da.toList++cap.toList).toArray=da++cap:=by apply Array.toList_inj.1;simp
    rw [pY]
    cases PJ:P.funcs[g]? with
    | none=>rw [PJ] at BO;cases BO
    | some fn=>
     rw [PJ] at BO
     simp only [Bool.and_eq_true,Bool.not_eq_true'] at BO
     obtain ⟨jK,eG⟩:=BO
     simp only [invoke,callFunc,Sem.run_bind,Sem.run_pure,Result.andThen_ok,run_program,PJ]
     obtain ⟨body,r6⟩:=Option.isSome_iff_exists.1 jK
     simp [eG,r6]
   ·intro cf cs hcf
    obtain ⟨e,u',w',fr,⟨rfl,v,rfl,h',ix,vA⟩,rest⟩:=hd c w u hw cf cs hcf
    refine ⟨_,u',w',fr,?_,rest⟩
    simp only
    rw [OK]
    exact ih h' w' k ix hk vA
  ·cases hdf
theorem JP {P:Program}{fn:Func}{T:Tm}{dr ts ks k U M post pan}(hr:fn.results.toList=ts){w0:World}{ex:Exit}{a:Act}{w:World}{n:Nat}
 (hq:KontL.toQ ⟨w0,M,U⟩ n (O8 P T dr ts ks k post pan).k ex a w):bodyPostD P fn (OA U T M ks k post pan w0) ex a w:=by
 have GG:∀ {e ds h},Fr n a e ds ->Is ⟨w0,M,U⟩ h w ->Hk P T ts ks k post e ds h ->Leaves P fn a.tmps (OA U T M ks k post pan w0) a.defers .returning w:=by
  intro e ds h ha hw hd
  rw [ha.2.1]
  refine BM (c:=⟨w0,M,U⟩) (ends:=fun u w=>u=.returning/\∃ h vs,Is ⟨w0,M,U⟩ h w/\oX P e h ts=some vs/\cK h (vC T ks k post (wS vs))) (by simp) rfl ?_ ds h w _ hw ?_ hd
  ·rintro w ⟨_,h,vs,hw,Ox,dw⟩
   obtain ⟨h',ix,hT,hk,hR,hp⟩:=dw _ _ hw
   subst hr
   exact ⟨_,mN hw Ox ha.2.2,h'.M,h'.L,h'.R,kV hT ix hk hR,hp⟩
  ·intro h w hw hk
   obtain ⟨vs,Ox,dw⟩:=dk hk
   exact ⟨rfl,h,vs,hw,Ox,dw⟩
 cases ex with
 | normal=>obtain ⟨e,ds,h,ha,hw,hd⟩:=hq;exact GG ha hw hd
 | ret=>obtain ⟨e,ds,h,ha,hw,hd⟩:=hq;exact GG ha hw hd
 | panic ch=>
  obtain ⟨e,ds,h,ha,hw,ajn,hd⟩:=hq
  show Leaves P fn a.tmps _ a.defers (.panicking ch) w
  rw [ha.2.1]
  refine BM (c:=⟨w0,M,U⟩) (ends:=fun u w=>u=.panicking ch/\∃ h,Is ⟨w0,M,U⟩ h w/\cK h (vC T ks k (fun _=>pan ch) undef)) (by simp) (Hv ajn) ?_ ds h w _ hw ?_ hd
  ·rintro w ⟨_,h,hw,dw⟩
   obtain ⟨h',ix,hT,hk,hR,hp⟩:=dw _ _ hw
   exact ⟨h'.M,h'.L,h'.R,kV hT ix hk hR,hp⟩
  ·intro h w hw hk
   exact ⟨rfl,h,hw,hk⟩
 | exit id=>obtain ⟨_,_,_,_,_,h⟩:=hq;exact h.elim
 | goto l=>exact hq.elim
 | outgrown=>exact hq.elim
theorem DP {P:Program}{f:FuncId}{fn:Func}{c:Code}{args:List Value}{dr ts}{T:Tm}{M L R post pan}(hm:P.follows .mixedOrders=true)(BO:aK P f=true)
 (hf:P.funcs[f]?=some fn) (hb:fn.body=some c) (hn:args.length<=fn.ntmps) (hc:fm P fn.ntmps dr c=true) (hr:fn.results.toList=ts)
 (h:aB M L ->nz L ->cB P (O8 P T dr ts (bd L) R.length post pan) [.code c] (rL args) [] ⟨T,M,L,R⟩ ⟨⟩):ep P f args T M L R post pan:=by
 refine ⟨BO,fun w U hw=>calls_of_wp_defers hf hb ?_⟩
 obtain ⟨h1,h2,h3⟩:=hw.facts
 have:=kY (c₀:=⟨w,M,U⟩) hm c (O8 P T dr ts (bd L) R.length post pan).k (rL args) [] ⟨T,M,L,R⟩ w _ hc (fr0 args.toArray fn.ntmps (by simpa using hn)) h3 (h h1 h2)
 exact wp_mono this fun ex a w' hq=>JP hr hq
theorem ip {P T dr ts ks n post pan}:(O8 P T dr ts ks n post pan).ret=Hk P T ts ks n post:=(rfl)
theorem xj {P T dr ts ks n post pan}:(O8 P T dr ts ks n post pan).pan=abD P T ks n pan:=(rfl)
theorem aeG {P T dr ts ks n post pan}:(O8 P T dr ts ks n post pan).dr=dr:=(rfl)
theorem GR {P T ts ks n post e h}:Hk P T ts ks n post e [] h=eU (oX P e h ts) fun vs=>cK h (vC T ks n post (wS vs)):=(rfl)
theorem Mo (P:Program)(t a n c):iV P .eql t (.slice a n c) (.slice none 0 0)=if ej P t=true then some (.bool a.isNone) else none:=(rfl)
theorem Oe (P:Program)(t a n c):iV P .neq t (.slice a n c) (.slice none 0 0)=if ej P t=true then some (.bool (!a.isNone)) else none:=(rfl)
theorem Oa {P T ks n pan}(ops:List Oper):ze (abD P T ks n pan) ops=True:=eq_true (fun _ _ _ _ _ _ _ _ _ h=>h)
theorem dI {P:Program}{F:Fi}{v:Value}{a b:Code}{S:List Item}{e:dN}{ds:List Deferred}{h:Sh}(Q:dN ->List Deferred ->Sh ->Prop)
 (k:∀ S',(∀ e ds h,Q e ds h ->cB P F S' e ds h ⟨⟩) ->yZ P F v a b S' e ds h ⟨⟩) (hS:∀ e ds h,Q e ds h ->cB P F S e ds h ⟨⟩):yZ P F v a b S e ds h ⟨⟩:=k S hS
theorem gE {P:Program}{F:Fi}{c:Code}{S:List Item}{e:dN}{ds:List Deferred}{h:Sh}(Q:dN ->List Deferred ->Sh ->Prop)
 (k:∀ S',(∀ e ds h,Q e ds h ->cB P F S' e ds h ⟨⟩) ->cB P F (.code c::S') e ds h ⟨⟩) (hS:∀ e ds h,Q e ds h ->cB P F S e ds h ⟨⟩):cB P F (.code c::S) e ds h ⟨⟩:=k S hS
theorem iu {N M L R e sz}{k:Sh ->Prop}(hk:cK ⟨N,M,L,(.slice none 0 0,e,sz,[])::R⟩ k):cK ⟨N,M,L,R⟩ k:=fun c w hw=>by
 obtain ⟨bs,hi⟩:=hw
 exact hk c w ⟨_,hi.addNil⟩
theorem Hp.typed {c N M L R w bs b cs t}(hi:Hp c ⟨N,M,L,R⟩ w bs)(hT:N b=some t)(hb:(b,cs)∈L):w.heap[b]?=some (.cells cs.toArray t (0,0)):=by
 obtain ⟨u,hu⟩:=hi.blk b cs hb
 obtain ⟨_,h⟩:=hi.typ b t hT
 obtain ⟨cs',f,h⟩:=h (List.mem_map.2 ⟨_,hb,rfl⟩)
 rw [hu] at h
 injection h with h
 injection h with h1 h2 h3
 subst h2
 exact hu
theorem yn {P:Program}{F:Fi}{ops:List Oper}{sc:Sched}{S:List Item}{e:dN}{ds:List Deferred}{h:Sh}(Q:dN ->List Deferred ->Sh ->Prop)
 (k:∀ S',(∀ e ds h,Q e ds h ->cB P F S' e ds h ⟨⟩) ->F6 P F ops sc S' e ds h ⟨⟩) (hS:∀ e ds h,Q e ds h ->cB P F S e ds h ⟨⟩):F6 P F ops sc S e ds h ⟨⟩:=k S hS
section
variable {P:Program} {F:Fi} {s:List Item} {e:dN} {ds:List Deferred} {h:Sh}
theorem Rbk (id b):cB P F (.code (.block id b)::s) e ds h ⟨⟩=cB P F (.code b:: .blk id::s) e ds h ⟨⟩:=(rfl)
theorem Rcb (t a b):yZ P F (.bool t) a b s e ds h ⟨⟩=if t=true then cB P F (.code a::s) e ds h ⟨⟩ else cB P F (.code b::s) e ds h ⟨⟩:=(rfl)
theorem ak:(∀ t a b,yZ P F (.bool t) a b s e ds h ⟨⟩=if t=true then cB P F (.code a::s) e ds h ⟨⟩ else cB P F (.code b::s) e ds h ⟨⟩)/\∀ id b,cB P F (.code (.block id b)::s) e ds h ⟨⟩=cB P F (.code b:: .blk id::s) e ds h ⟨⟩:=⟨fun _ _ _=>rfl,fun _ _=>rfl⟩
end
attribute [go_sem] O7 Xc ael V3 WX WJ Vo NN I2 Pz QX Hq NX JD MH U4 UM FB UN EJ un UY Wr TE PC Ws UO Wy adX XX Hi Fq SJ ip xj aeG GR LD TN SW aaI QM ME QI In UK NH DR AF IJ H2 Nb Fm Ni Ay IS Sq Hh Ro Xk CW I7 DU He Mr JE N7 Ph FH LY Tu IG P8 Iq Jq HN Sf RD nS PO HY Sb CR LF VP NG Vk V6 Gf NB Eo NU QZ Nl QB XC W6 Mz Xl D8 SF aeL Po aew abr aaQ HM Tg Jg Qb WL St Xf aa3 VM Ms Xe Tr VJ MO GP VV Ot Np Lx Fw Ok Qo To H4 MV Wu SQ Ss IB SY MB NC QH SG GN Id Md HR IL E9 CQ HD Dg Fb F4 Fu Nk Rg HX Qf HT Nf Pp Q3 SH W9 Og I8 Nr Gv NR LH Rj Wq NM PE Ti Tp Pr RU SC Qd SB PB Qz OL TV WA PK On LC Od Nw LK LQ Nt Mm Jy Qk Mf abm TX Xy Nu EK Dd NK Nx MR O5 Mx XP Bool.if_true_left Bool.if_true_right Bool.if_false_left Bool.if_false_right Bool.decide_eq_true Bool.decide_eq_false Bool.or_eq_true Bool.and_eq_true Bool.eq_false_iff decide_not Bool.false_or Bool.or_false Bool.and_false Bool.false_and or_false false_or and_false false_and or_true true_or not_true_eq_false WS H7 tL I6 bC aY aub Mo Oe Oa Option.isNone_none Option.isNone_some N8 P2 true_implies aav Rd Rq RT aE MM S1 TQ LM XO QK LB JI Gi List.all_cons List.all_nil Pq Int.ofNat_lt Int.ofNat_le Int.toNat_natCast Nat.mul_one Vu amE ahx aov ajo anG aoQ amp ahg ah5 aoV Vh PH XS Wt gt_iff_lt ge_iff_le Int.le_refl Nat.add_sub_cancel Nat.sub_zero and_self Qs SZ Iy Qc TR Jl HH Option.map_none Nat.zero_mul Nat.one_mul Ie rL st q8 Ju O2 OW MQ Ts Rz aby WC AX List.getD_cons_zero List.getD_cons_succ if_true if_false beq_self_eq_true LW F9 Mj HW TS Ma List.set_cons_zero List.set_cons_succ List.length_set ame Em mK kj ajN FX DA Ow Ja Nat.add_zero Nat.zero_add Nat.zero_lt_succ List.getElem?_cons_zero List.getElem?_cons_succ List.getElem?_nil Option.bind_some Option.bind_none Option.map_some Option.getD_some decide_eq_true_eq decide_true decide_false Classical.not_not ite_not Bool.and_true Bool.true_and Bool.or_true beq_true beq_false Bool.not_eq_eq_eq_not decide_eq_false_iff_not Bool.not_true Bool.not_false Bool.not_not List.map_cons List.map_nil List.append_assoc List.nil_append List.append_nil List.cons_append Array.toList_map List.length_cons List.length_nil aB nz dz and_true true_and implies_true ne_eq not_false_eq_true
end Vc

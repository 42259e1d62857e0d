import Derived.Calls
import Derived.Defers
import Derived.Tactics
import Derived.WalkKit
import Derived.Laws.IdiomCopy
import Derived.Deep.AppendSrc
import Derived.Laws.AppendOwn
import Derived.Great.BuildSlice
import Derived.Laws.Small
import Derived.Laws.Cover3
import Derived.Laws.Pointers
import Derived.Laws.StructEq
import Derived.Laws.BytesArg
import Derived.MapKept
import Derived.Lib.ConvBytes
import Derived.Laws.RangeString
import Derived.Laws.MakeOwn
import Derived.OrdersHeld
set_option linter.all false
namespace Vc
open Go
theorem nn:(∀ {α:Type} (a:α) (l m:List α),a::l++m=a::(l++m))/\∀ {α:Type} (l:List α),[]++l=l:=⟨fun _ _ _=>rfl,fun _=>rfl⟩
theorem ln:(∀ {α:Type} (a:α) (l:List α),(a::l).length=l.length+1)/\∀ {α:Type},([]:List α).length=0:=⟨fun _ _=>rfl,rfl⟩
theorem lap {α:Type}{l m:List α}:(l++m).length=l.length+m.length:=List.length_append
theorem mn:(∀ {α:Type} (a b:α) (l:List α),(a∈b::l)=(a=b\/a∈l))/\(∀ {α:Type} (a:α),(a∈([]:List α))=False)/\∀ p:Prop,(p\/False)=p:=by simp
theorem gq {α:Type}{l:List α}{i:Nat}(h:i<l.length):l[i]?=some l[i]:=List.getElem?_eq_getElem h
theorem dq {α:Type}{l:List α}{i:Nat}(h:i<l.length):l.drop i=l[i]::l.drop (i+1):=List.drop_eq_getElem_cons h
theorem p5 {α:Type}{a b:α}{l:List α}(h:a∈l):a∈b::l:=List.mem_cons_of_mem _ h
theorem gm {α:Type}{l:List α}{n:Nat}(h:n<l.length):l[n]∈l:=List.getElem_mem h
theorem rP {α:Type}{a b:α}{l:List α}(h:a∈b::l):a=b\/a∈l:=List.mem_cons.1 h
theorem qM {α:Type}{a:α}{l m:List α}(h:a∈l++m):a∈l\/a∈m:=List.mem_append.1 h
theorem vZ {α:Type}{a:α}{l m:List α}(h:a∈l\/a∈m):a∈l++m:=List.mem_append.2 h
abbrev dj:=Nat ->Value
def upd (e:dj)(d:Nat)(v:Value):dj:=fun t=>if t=d then v else e t
def cB (e:dj)(d:Option Nat)(v:Value):dj:=match d with | some d=>upd e d v | none=>e
def ev (e:dj):Operand ->Value
 | .tmp t=>e t
 | .const v=>v
 | .global g=> .pointer (some ⟨g,0,none⟩)
 | .func f=> .func (.func f) #[] #[]
def Fr (n:Nat)(a:Act)(e:dj)(ds:List Deferred):Prop:=
 a.tmps.size=n/\a.defers=ds/\∀ t,a.tmps.getD t undef=e t
theorem Fr.eval {n a e ds}(h:Fr n a e ds)(x:Operand):a.eval x=ev e x:=by
 cases x<;>simp [Act.eval,ev,h.2.2]
theorem Fr.put {n a e ds}(h:Fr n a e ds){d:Option Nat}(hd:∀ k,d=some k ->k<n)(v:Value):
 Fr n (a.put d v) (cB e d v) ds:=by
 cases d with
 | none=>exact h
 | some d=>
  have hd:=hd d rfl
  refine ⟨by simp [Act.put,h.1],h.2.1,fun t=> ?_⟩
  simp only [Act.put,cB,upd]
  by_cases ht:t=d
  ·subst ht;simp [Array.getD_eq_getD_getElem?,h.1,hd]
  ·have:=h.2.2 t
   rw [if_neg ht,<- this]
   simp [Array.getD_eq_getD_getElem?,Ne.symm ht]
structure Kont where
 nrm:dj ->List Deferred ->World ->Prop
 exi:Nat ->dj ->List Deferred ->World ->Prop
 ret:dj ->List Deferred ->World ->Prop
 pan:List PanicEntry ->dj ->List Deferred ->World ->Prop
def Kont.toQ (n:Nat)(K:Kont):Exit ->Act ->World ->Prop
 | .normal,a,w=>∃ e ds,Fr n a e ds/\K.nrm e ds w
 | .exit id,a,w=>∃ e ds,Fr n a e ds/\K.exi id e ds w
 | .ret,a,w=>∃ e ds,Fr n a e ds/\K.ret e ds w
 | .panic ch,a,w=>∃ e ds,Fr n a e ds/\K.pan ch e ds w
 | .goto _,_,_=>False
 | .outgrown,_,_=>True
theorem Fr.uniq {n a e ds e' ds'}(h:Fr n a e ds)(h':Fr n a e' ds'):e=e'/\ds=ds':=
 ⟨funext fun t=>(h.2.2 t).symm.trans (h'.2.2 t),h.2.1.symm.trans h'.2.1⟩
def zK (v:Value)(k:Addr ->Prop):Prop:=match v with | .pointer (some a)=>k a | _=>False
def BO (v:Value)(k:Bool ->Prop):Prop:=match v with | .bool b=>k b | _=>False
def UX (v:Value)(k:IntKind ->Int ->Prop):Prop:=match v with | .int t n=>k t n | _=>False
def WW (v:Value)(k:ByteArray ->Prop):Prop:=match v with | .string s=>k s | _=>False
def xSl (v:Value)(k:Option Addr ->Nat ->Nat ->Prop):Prop:=match v with | .slice a l c=>k a l c | _=>False
def Zg (v:Value)(i:Nat)(k:Value ->Prop):Prop:=match v with | .tuple vs=>(match vs[i]? with | some x=>k x | none=>False) | _=>False
def ed {α:Type}(o:Option α)(k:α ->Prop):Prop:=match o with | some a=>k a | none=>False
def YV (v:Value)(k:FuncId ->List Value ->List Value ->Prop):Prop:=match v with | .func (.func f) first cap=>k f first.toList cap.toList | _=>False
theorem LY (a k):zK (.pointer (some a)) k=k a:=rfl
attribute [simp] LY
theorem I0 (b k):BO (.bool b) k=k b:=rfl
attribute [simp] I0
theorem QZ (t n k):UX (.int t n) k=k t n:=rfl
attribute [simp] QZ
theorem EW (s k):WW (.string s) k=k s:=rfl
attribute [simp] EW
theorem LP (a l c k):xSl (.slice a l c) k=k a l c:=rfl
attribute [simp] LP
theorem Bi {α:Type}(a:α)(k):ed (some a) k=k a:=rfl
attribute [simp] Bi
theorem To (f a c k):YV (.func (.func f) a c) k=k f a.toList c.toList:=rfl
attribute [simp] To
def B6:TypeDesc ->Bool | .struct _ | .array _ _=>true | _=>false
def tk (P:Program)(t:TypeId):Option (Bool×Nat×Value):=
 match P.info? t,P.underlying t with
 | some i,some d=>match i.zero with | some z=>some (B6 d,i.size,z) | none=>none
 | _,_=>none
def cN (P:Program)(t:TypeId)(i:Nat):Option Nat:=
 match P.underlying t with
 | some (.struct fs)=>match fs[i]? with
  | some f=>match P.info? f.type with | some inf=>if inf.size=0 then none else some f.offset | none=>none
  | none=>none
 | _=>none
def dy (P:Program)(t:TypeId):Option Nat:=
 match P.underlying t with | some (.slice e)=>(P.info? e).map (·.size) | _=>none
def cP (P:Program)(t:TypeId):Bool:=match P.underlying t with | some .string=>true | _=>false
def ea (P:Program)(t:TypeId):Bool:=match P.underlying t with | some (.slice _)=>true | _=>false
def qN (P:Program)(t:TypeId):Option IntKind:=match P.underlying t with | some (.int k)=>some k | _=>none
def de (P:Program)(f:FuncId):Bool:=match P.funcs[f]? with | some fn=>fn.body.isSome && !(fn.name== "runtime.NumGoroutine") | none=>false
def oA (w:World)(a:Addr):Nat ->Nat ->Option (List Value)
 | _,0=>some []
 | i,n+1=>match w.cell? (a.add i) with
  | some v=>(oA w a (i+1) n).map (v:: ·)
  | none=>none
def acX (t:TypeId)(cs:Array Value)(w:World)(k:Value ->World ->Prop):Prop:=
 k (.pointer (some ⟨w.heap.size,0,none⟩)) (w.alloc (.cells cs t))
def P2 (a:Addr)(vs:List Value)(w:World)(k:World ->Prop):Prop:=
 a.spot=none/\(∀ v∈vs,v.oneCell'=true)/\(∀ j,j<vs.length ->(w.cell? ⟨a.block,a.off+j,none⟩).isSome=true/\w.frozen? ⟨a.block,a.off+j,none⟩=false)/\
  k (w.setCells a.block a.off vs)
def Yv (P:Program)(f:FuncId)(args:List Value)(w:World)(k:Value ->World ->Prop)(pan:List PanicEntry ->World ->Prop):Prop:=
 de P f=true/\Calls P f args.toArray w fun
  | .returned v,w'=>k v w'
  | .panicked ch,w'=>pan ch w'
  | .outgrown,_=>False
def jl (op:BinOp)(k:IntKind)(x y:Int):Option Value:=
 match op with
 | .add=>some (.int k (k.wrap (x+y)))
 | .sub=>some (.int k (k.wrap (x - y)))
 | .mul=>some (.int k (k.wrap (x*y)))
 | .eql=>some (.bool (decide (x=y)))
 | .neq=>some (.bool (!decide (x=y)))
 | .lss=>some (.bool (x<y))
 | .leq=>some (.bool (x<=y))
 | .gtr=>some (.bool (x>y))
 | .geq=>some (.bool (x>=y))
 | _=>none
def upon (P:Program)(K:Kont)(e:dj)(ds:List Deferred)(next:Value ->List Deferred ->World ->Prop):Result Next ->Prop
 | .ok (.value v) w=>next v ds w
 | .ok .skip w=>next undef ds w
 | .ok (.defer d) w=>next undef (d::ds) w
 | .ok (.enter f args) w=>Calls P f args w fun
  | .returned v,w'=>next v ds w'
  | .panicked ch,w'=>K.pan ch e ds w'
  | .outgrown,_=>False
 | .halt (.panic v) w=>K.pan [{v,recovered:=false}] e ds w
 | _=>False
def X6 (P:Program)(op:BinOp)(t:TypeId)(x y:Operand)(e:dj)(w:World)(k:Value ->World ->Prop):Prop:=
 ∃ v,(do eqGuard op t x y (ev e x) (ev e y);binOp op t (ev e x) (ev e y):Sem Value).run P w=.ok v w/\k v w
def Ef (op:BinOp)(x y:Value):Option Value:=
 match x,y with
 | .int i a,.int j b=>if i=j then jl op i a b else none
 | .string a,.string b=>match op with
  | .eql=>some (.bool (decide (a=b)))
  | .neq=>some (.bool (!decide (a=b)))
  | .lss=>some (.bool (Op.bytesLess a.toList b.toList))
  | _=>none
 | _,_=>none
def acY (P:Program)(op:BinOp)(t:TypeId)(x y:Operand)(e:dj)(w:World)(k:Value ->World ->Prop):Prop:=
 match Ef op (ev e x) (ev e y) with
 | some v=>k v w
 | none=>X6 P op t x y e w k
def vOp (P:Program)(K:Kont)(o:Oper)(e:dj)(ds:List Deferred)(w:World)(next:Value ->List Deferred ->World ->Prop):Prop:=
 match o.op with
 | .move x | .assign x=>next (ev e x) ds w
 | .pick c a b=>BO (ev e c) fun t=>next (if t=true then ev e a else ev e b) ds w
 | .box t x=>acX t (ev e x).cells w fun v w'=>next v ds w'
 | .load t x=>ed (tk P t) fun (g,n,_)=>zK (ev e x) fun a=>
  if g=true then ed (oA w a 0 n) fun cs=>next (.agg cs.toArray) ds w else ed (w.cell? a) fun v=>next v ds w
 | .store t x y=>ed (tk P t) fun (_,n,_)=>zK (ev e x) fun a=>(ev e y).cells.toList.length=n/\P2 a (ev e y).cells.toList w fun w'=>next undef ds w'
 | .nilCheck x=>zK (ev e x) fun a=>next (.pointer (some a)) ds w
 | .fieldAddr t x i=>ed (cN P t i) fun k=>zK (ev e x) fun a=>next (.pointer (some (a.add k))) ds w
 | .indexAddr t x i=>ed (dy P t) fun sz=>xSl (ev e x) fun a len _=>UX (ev e i) fun _ n=>
  (0<=n/\n<len)/\ed a fun a=>next (.pointer (some (a.add (n.toNat*sz)))) ds w
 | .binOp op t x y _=>acY P op t x y e w fun v w'=>next v ds w'
 | .unOp .not _ x=>BO (ev e x) fun b=>next (.bool !b) ds w
 | .extract x i=>Zg (ev e x) i fun v=>next v ds w
 | .build t parts=>ed (P.built t (parts.toList.map fun (i,x)=>(i,ev e x))) fun cells=>next (.agg cells) ds w
 | .call {callee:=.value f,args,..}=>YV (ev e f) fun g first cap=>
  Yv P g (first++args.toList.map (ev e)++cap) w (fun v w'=>next v ds w') (fun ch w'=>K.pan ch e ds w')
 | .call {callee:=.builtin .len,args,argTypes}=>match args.toList,argTypes.toList with
  | [x],[t]=>if cP P t=true then WW (ev e x) fun s=>next (.int .i64 s.size) ds w
   else ea P t=true/\xSl (ev e x) fun _ n _=>next (.int .i64 n) ds w
  | _,_=>False
 | _=>upon P K e ds next ((execOp (ev e) o).run P w)
def want (ops:List Oper)(e:dj)(g:Option (Nat×Bool)):Bool:=
 match g with
 | none=>true
 | some (j,b)=>match (ops[j]?).bind (·.dst) with
  | some t=>match e t with | .bool c=>c==b | _=>false
  | none=>false
def vk (n:Nat)(l:List Oper):Bool:=l.all fun o=>match o.dst with | some d=>d<n | none=>true
theorem lU {P:Program}{t:TypeId}{g n z}(h:tk P t=some (g,n,z)):∃ i d,P.info? t=some i/\P.underlying t=some d/\i.zero=some z/\B6 d=g/\i.size=n:=by
 unfold tk at h
 split at h
 ·rename_i i d hi hd
  split at h
  ·rename_i z' hz
   simp only [Option.some.injEq,Prod.mk.injEq] at h
   exact ⟨i,d,hi,hd,by rw [hz,h.2.2],h.1,h.2.1⟩
  ·cases h
 ·cases h
theorem cJ {α:Type}{o:Option α}{k:α ->Prop}:ed o k ->∃ a,o=some a/\k a:=by
 cases o with
 | none=>exact fun h=>h.elim
 | some a=>exact fun h=>⟨a,rfl,h⟩
theorem pq {v:Value}{k:Addr ->Prop}:zK v k ->∃ a,v=.pointer (some a)/\k a:=by
 unfold zK;split
 ·exact fun h=>⟨_,rfl,h⟩
 ·exact fun h=>h.elim
theorem tI {v:Value}{k:Bool ->Prop}:BO v k ->∃ a,v=.bool a/\k a:=by
 unfold BO;split
 ·exact fun h=>⟨_,rfl,h⟩
 ·exact fun h=>h.elim
theorem TJ {v:Value}{k:IntKind ->Int ->Prop}:UX v k ->∃ t n,v=.int t n/\k t n:=by
 unfold UX;split
 ·exact fun h=>⟨_,_,rfl,h⟩
 ·exact fun h=>h.elim
theorem RU {v:Value}{k:ByteArray ->Prop}:WW v k ->∃ a,v=.string a/\k a:=by
 unfold WW;split
 ·exact fun h=>⟨_,rfl,h⟩
 ·exact fun h=>h.elim
theorem Kr {v:Value}{k:Option Addr ->Nat ->Nat ->Prop}:xSl v k ->∃ a l c,v=.slice a l c/\k a l c:=by
 unfold xSl;split
 ·exact fun h=>⟨_,_,_,rfl,h⟩
 ·exact fun h=>h.elim
theorem Jw {v:Value}{k:FuncId ->List Value ->List Value ->Prop}:YV v k ->∃ f a c,v=.func (.func f) a c/\k f a.toList c.toList:=by
 unfold YV;split
 ·exact fun h=>⟨_,_,_,rfl,h⟩
 ·exact fun h=>h.elim
theorem Q2 {v:Value}{i:Nat}{k:Value ->Prop}:Zg v i k ->∃ vs x,v=.tuple vs/\vs[i]?=some x/\k x:=by
 unfold Zg;split
 ·rename_i vs
  split
  ·rename_i x hx;exact fun h=>⟨_,x,rfl,hx,h⟩
  ·exact fun h=>h.elim
 ·exact fun h=>h.elim
theorem iC {w:World}{a:Addr}:∀ (n i:Nat) (cs:List Value),oA w a i n=some cs ->cs.length=n/\∀ j v,cs[j]?=some v ->w.cell? (a.add (i+j))=some v:=by
 intro n
 induction n with
 | zero=>intro i cs h;simp [oA] at h;subst h;simp
 | succ n ih=>
  intro i cs h
  unfold oA at h
  split at h
  ·rename_i v hv
   simp only [Option.map_eq_some_iff] at h
   obtain ⟨cs',h',rfl⟩:=h
   obtain ⟨hl,hc⟩:=ih _ _ h'
   refine ⟨by simp [hl],?_⟩
   intro j u hj
   cases j with
   | zero=>simp at hj;subst hj;exact hv
   | succ j=>
    have:=hc j u (by simpa using hj)
    rw [show i+(j+1)=i+1+j from by omega]
    exact this
  ·cases h
theorem js {P:Program}{t:TypeId}{d:TypeDesc}(h:P.underlying t=some d)(w:World):(isAgg t).run P w=.ok (B6 d) w:=by
 unfold isAgg
 simp only [Sem.run_bind,run_underlying h,Result.andThen_ok]
 cases d<;>rfl
theorem qS {P:Program}{op:BinOp}{k:IntKind}{a b:Int}{v:Value}(h:jl op k a b=some v)(t:TypeId)(w:World):
 (binOp op t (.int k a) (.int k b)).run P w=.ok v w:=by
 cases op<;>simp [jl] at h<;>subst h<;>simp [binOp,Op.intArith,Op.intCmp,bne]<;>rfl
theorem cY {P:Program}{op:BinOp}{t:TypeId}{x y:Operand}{a b:Value}(h1:∀ c,a≠ .agg c)(h2:a≠ .nilIface)(w:World):(eqGuard op t x y a b).run P w=.ok () w:=by
 unfold eqGuard
 cases op<;>simp<;>(cases a<;>first | (exact absurd rfl h2) | (exact absurd rfl (h1 _)) | simp)
theorem rF (a b:ByteArray):(a.toList==b.toList)=decide (a=b):=by
 rw [Bool.eq_iff_iff,beq_iff_eq,decide_eq_true_iff,ByteArray.toList_eq,ByteArray.toList_eq]
 constructor
 ·intro h
  cases a;cases b
  simp only [ByteArray.mk.injEq]
  exact Array.toList_inj.1 h
 ·rintro rfl;rfl
theorem A6 {P:Program}{K:Kont}{o:Oper}{e:dj}{ds:List Deferred}{w:World}{next:Value ->List Deferred ->World ->Prop}
 (h:vOp P K o e ds w next):upon P K e ds next ((execOp (ev e) o).run P w):=by
 unfold vOp at h
 split at h
 ·rename_i x ef;simp only [execOp,ef];exact h
 ·rename_i x ef;simp only [execOp,ef];exact h
 ·rename_i c a b ef
  obtain ⟨t,ht,h⟩:=tI h
  simp only [execOp,ef,ht]
  simpa [asBool,upon] using h
 ·rename_i t x ef
  simp only [execOp,ef,Instr.box,newVar,newRow]
  simpa [upon,acX] using h
 ·rename_i t x ef
  obtain ⟨⟨g,n,z⟩,tu,h⟩:=cJ h
  obtain ⟨i,d,hi,hd,hz,hg,hn⟩:=lU tu
  obtain ⟨a,ha,h⟩:=pq h
  simp only [execOp,ef,Instr.loadAt,ha,Instr.sureAddr,loadVar]
  cases g with
  | true=>
   simp only [if_true] at h
   obtain ⟨cs,iE,h⟩:=cJ h
   obtain ⟨hl,hc⟩:=iC _ _ _ iE
   have:=run_loadCells_list (P:=P) (w:=w) a cs (fun j v hj=>by simpa using hc j v hj)
   rw [hl] at this
   simp [js hd,hg,Go.sizeOf,typeInfo,hi,hn,this,upon]
   exact h
  | false=>
   simp only [Bool.false_eq_true,if_false] at h
   obtain ⟨v,hv,h⟩:=cJ h
   simp [js hd,hg,hv,upon]
   exact h
 ·rename_i t x y ef
  obtain ⟨⟨g,n,z⟩,tu,h⟩:=cJ h
  obtain ⟨i,d,hi,hd,hz,hg,hn⟩:=lU tu
  obtain ⟨a,ha,zn,Dh,h1,rR,h⟩:=pq h
  obtain ⟨b,off,sp⟩:=a
  simp only at Dh
  subst Dh
  simp only [execOp,ef,Instr.storeAt,ha,Instr.sureAddr,storeVar]
  have kE:=run_storeCells_cells (P:=P) b off (ev e y).cells.toList 0 w (fun j hj=>by simpa using (rR j hj).1) (fun j hj=>by simpa using (rR j hj).2) h1
  have rW:(ev e y).cells.size=n:=by simpa using zn
  simp [Go.sizeOf,typeInfo,hi,hn,rW,kE,upon]
  exact h
 ·rename_i x ef
  obtain ⟨a,ha,h⟩:=pq h
  simp only [execOp,ef,ha]
  exact h
 ·rename_i t x i ef
  obtain ⟨k,hk,h⟩:=cJ h
  obtain ⟨a,ha,h⟩:=pq h
  unfold cN at hk
  split at hk
  ·rename_i fs OQ
   split at hk
   ·rename_i f hf
    split at hk
    ·rename_i inf vJ
     split at hk
     ·cases hk
     ·rename_i ej
      simp only [Option.some.injEq] at hk
      subst hk
      simp only [execOp,ef,ha,Instr.fieldAt]
      simp [run_underlying OQ,hf,Instr.sureAddr,fieldPlace,Go.sizeOf,typeInfo,vJ,ej,upon]
      exact h
    ·cases hk
   ·cases hk
  ·cases hk
 ·rename_i t x i ef
  obtain ⟨sz,hk,h⟩:=cJ h
  obtain ⟨a,len,cap,ha,h⟩:=Kr h
  obtain ⟨k,n,hn,hb,h⟩:=TJ h
  obtain ⟨a,rfl,h⟩:=cJ h
  unfold dy at hk
  split at hk
  ·rename_i el RT
   simp only [Option.map_eq_some_iff] at hk
   obtain ⟨inf,vJ,rfl⟩:=hk
   simp only [execOp,ef,ha,hn,Instr.indexAt]
   simp [asIntOf,run_underlying RT,hb,Go.sizeOf,typeInfo,vJ,upon]
   exact h
  ·cases hk
 ·rename_i op t x y _ ef
  simp only [execOp,ef]
  unfold acY at h
  have gen:X6 P op t x y e w (fun v w'=>next v ds w') ->upon P K e ds next (((do
   let a<- (do eqGuard op t x y (ev e x) (ev e y);binOp op t (ev e x) (ev e y):Sem Value)
   pure (.value a)):Sem Next).run P w):=by
   rintro ⟨v,hv,hk⟩
   rw [Sem.run_bind,hv]
   exact hk
  split at h
  ·rename_i v hv
   refine gen ⟨v,?_,h⟩
   unfold Ef at hv
   split at hv
   ·rename_i i a j b hx hy
    split at hv
    ·rename_i G4
     subst G4
     rw [hx,hy]
     simp [cY,qS hv]
    ·cases hv
   ·rename_i a b hx hy
    rw [hx,hy]
    split at hv<;>first | (cases hv;done) | (injection hv with hv;subst hv;simp [cY,binOp,Op.stringOp,rF])
   ·cases hv
  ·exact gen h
 ·rename_i t x ef
  obtain ⟨b,hb,h⟩:=tI h
  simp only [execOp,ef,hb,Op.unary]
  exact h
 ·rename_i x i ef
  obtain ⟨vs,v,hv,hi,h⟩:=Q2 h
  simp only [execOp,ef,hv,Instr.extract,hi]
  exact h
 ·rename_i t parts ef
  obtain ⟨cells,hc,h⟩:=cJ h
  simp only [execOp,ef]
  have:=run_build (P:=P) w t (parts.map fun (i,x)=>(i,ev e x)) cells (by simpa using hc)
  rw [Sem.run_bind,this]
  exact h
 ·rename_i f args _ ef
  obtain ⟨g,first,cap,hf,hb,h⟩:=Jw h
  simp only [execOp,ef,resolve,Deferred.ofValue,hf]
  simp only [de] at hb
  split at hb
  ·rename_i fn Ta
   simp only [Bool.and_eq_true,Bool.not_eq_true',Option.isSome_iff_exists] at hb
   obtain ⟨⟨c,Rf⟩,KK⟩:=hb
   have e1:(first.toList++args.toList.map (ev e)++cap.toList).toArray=first++args.map (ev e)++cap:=by
    apply Array.toList_inj.1
    simp
   rw [e1] at h
   have agu:¬ fn.name= "runtime.NumGoroutine":=by simpa using KK
   simp only [invoke,callFunc,Sem.run_bind,Sem.run_pure,Result.andThen_ok,run_program,Ta]
   rw [if_neg (by simp [KK])]
   simp only [Rf,Option.isNone_some,Bool.false_eq_true,if_false]
   exact h
  ·cases hb
 ·rename_i args argTypes ef
  split at h
  ·rename_i x t hx ht
   have mM:args= #[x]:=by apply Array.toList_inj.1;simpa using hx
   have Je:argTypes= #[t]:=by apply Array.toList_inj.1;simpa using ht
   subst mM Je
   simp only [execOp,ef,resolve,invoke,builtin]
   split at h
   ·rename_i hs
    unfold cP at hs
    split at hs
    ·rename_i hu
     obtain ⟨s,hs,h⟩:=RU h
     simp [Builtin.len_,run_underlying hu,hs,goInt,upon]
     exact h
    ·cases hs
   ·obtain ⟨hs,h⟩:=h
    unfold ea at hs
    split at hs
    ·rename_i el hu
     obtain ⟨a,l,c,hs,h⟩:=Kr h
     simp [Builtin.len_,run_underlying hu,hs,goInt,upon]
     exact h
    ·cases hs
  ·exact h.elim
 ·exact h
theorem pF {n a e ds}(h:Fr n a e ds)(ops:List Oper)(qG:vk n ops=true)(o:Oper):
 Region.wanted o (yielded ops.toArray a.tmps)=want ops e o.guard:=by
 unfold Region.wanted want
 cases hg:o.guard with
 | none=>rfl
 | some p=>
  obtain ⟨j,b⟩:=p
  simp only [yielded,List.getElem?_toArray]
  cases hj:(ops[j]?).bind (·.dst) with
  | none=>simp
  | some t=>
   have aN:t<a.tmps.size:=by
    cases MO:ops[j]? with
    | none=>simp [MO] at hj
    | some oj=>
     simp [MO] at hj
     have:=List.all_eq_true.1 qG oj (List.mem_of_getElem? MO)
     simp [hj] at this
     rw [h.1];exact this
   have hv:=h.2.2 t
   simp only [Option.bind_some]
   rw [Array.getD_eq_getD_getElem?] at hv
   rw [Array.getElem?_eq_getElem aN] at hv ⊢
   simp at hv
   rw [hv]
   cases e t<;>simp
def mQ (args:List Value):dj:=fun t=>args.getD t undef
theorem fr0 (args:Array Value)(n:Nat)(h:args.size<=n):
 Fr n {tmps:=args++Array.replicate (n - args.size) undef,defers:=[]} (mQ args.toList) []:=by
 refine ⟨by simp;omega,rfl,fun t=> ?_⟩
 simp only [mQ,Array.getD_eq_getD_getElem?,List.getD_eq_getElem?_getD]
 by_cases ht:t<args.size
 ·rw [Array.getElem?_append_left ht];simp
 ·rw [Array.getElem?_append_right (by omega)]
  have h2:args.toList[t]?=none:=by simp;omega
  rw [h2]
  by_cases h3:t - args.size<n - args.size
  ·simp [h3]
  ·simp [h3]
abbrev aS:=Nat ->Option (List Value)
abbrev Tm:=Nat ->Option TypeId
def aH (T T':Tm):Prop:=∀ b t,T b=some t ->T' b=some t
def Tm.add (T:Tm)(b:Nat)(t:TypeId):Tm:=fun k=>if k=b then some t else T k
structure Sh where
 N:Tm
 M:aS
 L:List (Nat×List Value)
 R:List (Value×TypeId×Nat×List Value)
def aQ (M:aS)(a:Addr):Option Value:=if a.spot.isSome then none else (M a.block).bind (·[a.off]?)
def dK:List (Nat×List Value) ->Addr ->Option (Option Value)
 | [],_=>none
 | (b,cs)::l,a=>if a.block=b then some (if a.spot.isSome then none else cs[a.off]?) else dK l a
def Sh.cell (h:Sh)(a:Addr):Option Value:=match aQ h.M a with | some v=>some v | none=>(dK h.L a).getD none
def o7:Option Value ->Option (List Value) ->Option (List Value) | some v,some l=>some (v::l) | _,_=>none
def Sh.cells (h:Sh)(a:Addr):Nat ->Nat ->Option (List Value)
 | _,0=>some []
 | i,n+1=>o7 (h.cell (a.add i)) (h.cells a (i+1) n)
def Ua (w:World)(b:Nat)(cs:List Value):Prop:=∃ t,w.heap[b]?=some (.cells cs.toArray t (0,0))
def pg (M:aS)(w:World):Prop:=∀ b c,M b=some c ->∃ t f,w.heap[b]?=some (.cells c.toArray t f)
def zg (w:World)(v:Value)(e:TypeId)(sz:Nat)(xs:List Value)(o:Option Nat):Prop:=
 (v=.slice none 0 0/\xs=[]/\o=none)\/
 (∃ g n cap junk,v=.slice (some ⟨g,0,none⟩) n cap/\w.heap[g]?=some (.cells (xs++junk).toArray e (0,0))/\xs.length=n*sz/\(xs++junk).length=cap*sz/\n<=cap/\o=some g)\/
 (sz=0/\∃ g es clock,v=.map (some g)/\w.heap[g]?=some (.map es clock)/\es.toList.flatMap (fun x=>[x.key,x.val])=xs/\o=some g)\/
 (sz=0/\∃ g s pos,v=.pointer (some ⟨g,0,none⟩)/\w.heap[g]?=some (.stringIter s pos)/\xs=[.string s,.int .i64 (pos:Nat)]/\o=some g)
structure Ctx where
 w0:World
 M0:aS
 U:List Nat
structure Hp (c:Ctx) (h:Sh) (w:World) (bs:List (Option Nat)):Prop where
 typ:∀ b t,h.N b=some t ->b<w.heap.size/\(b∈h.L.map (·.1) ->∃ cs f,w.heap[b]?=some (.cells cs t f))
 holds:pg h.M w
 blk:∀ b cs,(b,cs)∈h.L ->Ua w b cs
 rows:h.R.length=bs.length/\∀ (i:Nat) (v:Value) (e:TypeId) (sz:Nat) (xs:List Value) (o:Option Nat),h.R[i]?=some (v,e,sz,xs) ->bs[i]?=some o ->zg w v e sz xs o
 nodup:(h.L.map (·.1)++bs.filterMap id).Nodup
 apart:∀ b,b∈h.L.map (·.1)++bs.filterMap id ->h.M b=none/\(b∈c.U\/c.w0.heap.size<=b)
 os:w.os=c.w0.os
 tape:w.tape=c.w0.tape
 output:w.output=c.w0.output
 size:c.w0.heap.size<=w.heap.size
 old:∀ b,b<c.w0.heap.size ->b∉c.U ->w.heap[b]?=c.w0.heap[b]?
 mem:∀ b,b<c.w0.heap.size ->b∉c.U ->h.M b=c.M0 b
 le:∀ b x,c.M0 b=some x ->h.M b=some x
def Is (c:Ctx)(h:Sh)(w:World):Prop:=∃ bs,Hp c h w bs
theorem pg.cell {M w a v}(h:pg M w)(hc:aQ M a=some v):w.cell? a=some v:=by
 unfold aQ at hc
 split at hc
 ·cases hc
 ·rename_i hs
  obtain ⟨cs,hb,hv⟩:=Option.bind_eq_some_iff.1 hc
  obtain ⟨t,f,hw⟩:=h _ _ hb
  unfold World.cell?
  rw [hw]
  simp only [hs]
  simpa using hv
theorem Lr {L:List (Nat×List Value)}{a:Addr}{o}(h:dK L a=some o):∃ cs,(a.block,cs)∈L/\o=(if a.spot.isSome then none else cs[a.off]?):=by
 induction L with
 | nil=>cases h
 | cons p l ih=>
  obtain ⟨b,cs⟩:=p
  unfold dK at h
  split at h
  ·rename_i hb
   injection h with h
   exact ⟨cs,by simp [hb],h.symm⟩
  ·obtain ⟨cs',hm,ho⟩:=ih h
   exact ⟨cs',p5 hm,ho⟩
theorem Hp.cell {c h w bs a v}(hi:Hp c h w bs)(hc:h.cell a=some v):w.cell? a=some v:=by
 unfold Sh.cell at hc
 split at hc
 ·rename_i u hu
  injection hc with hc;subst hc
  exact hi.holds.cell hu
 ·cases hl:dK h.L a with
  | none=>rw [hl] at hc;cases hc
  | some o=>
   rw [hl] at hc
   simp only [Option.getD_some] at hc
   subst hc
   obtain ⟨cs,hm,hv⟩:=Lr hl
   split at hv
   ·cases hv
   ·rename_i hs
    obtain ⟨t,hw⟩:=hi.blk _ _ hm
    unfold World.cell?
    rw [hw]
    simp only [hs]
    simpa using hv.symm
theorem Hp.cells {c h w bs a}(hi:Hp c h w bs):∀ n i cs,h.cells a i n=some cs ->oA w a i n=some cs:=by
 intro n
 induction n with
 | zero=>intro i cs hc;exact hc
 | succ n ih=>
  intro i cs hc
  unfold Sh.cells o7 at hc
  unfold oA
  split at hc
  ·rename_i v l hv hl
   injection hc with hc;subst hc
   rw [hi.cell hv,ih _ _ hl];rfl
  ·cases hc
theorem ci {w:World}{o:Obj}{k:Nat}(h:k<w.heap.size):(w.alloc o).heap[k]?=w.heap[k]?:=by
 show (w.heap.push o)[k]?=_
 rw [Array.getElem?_push,if_neg (by omega)]
theorem eZ {w:World}{o:Obj}:(w.alloc o).heap[w.heap.size]?=some o:=by
 show (w.heap.push o)[w.heap.size]?=_
 simp
theorem Ua.lt {w b cs}(h:Ua w b cs):b<w.heap.size:=by
 obtain ⟨t,ht⟩:=h
 exact (Array.getElem?_eq_some_iff.1 ht).1
theorem Ua.alloc {w b cs o}(h:Ua w b cs):Ua (w.alloc o) b cs:=by
 have:=h.lt
 obtain ⟨t,ht⟩:=h
 exact ⟨t,by rw [ci this];exact ht⟩
theorem pg.lt {M w b c}(h:pg M w)(hb:M b=some c):b<w.heap.size:=by
 obtain ⟨t,f,ht⟩:=h _ _ hb
 exact (Array.getElem?_eq_some_iff.1 ht).1
theorem fh {w:World}{g:Nat}{o:Obj}(h:w.heap[g]?=some o):g<w.heap.size:=(Array.getElem?_eq_some_iff.1 h).1
theorem zg.alloc {w v e sz xs o ob}(h:zg w v e sz xs o):zg (w.alloc ob) v e sz xs o:=by
 rcases h with h | ⟨g,n,cap,junk,h1,h2,h3⟩ | ⟨h0,g,es,clock,h1,h2,h3⟩ | ⟨h0,g,s,pos,h1,h2,h3⟩
 ·exact .inl h
 ·exact .inr (.inl ⟨g,n,cap,junk,h1,by rw [ci (fh h2)];exact h2,h3⟩)
 ·exact .inr (.inr (.inl ⟨h0,g,es,clock,h1,by rw [ci (fh h2)];exact h2,h3⟩))
 ·exact .inr (.inr (.inr ⟨h0,g,s,pos,h1,by rw [ci (fh h2)];exact h2,h3⟩))
theorem zg.lt {w v e sz xs g}(h:zg w v e sz xs (some g)):g<w.heap.size:=by
 rcases h with ⟨_,_,h⟩ | ⟨g',n,cap,junk,_,h2,_,_,_,h3⟩ | ⟨_,g',es,clock,_,h2,_,h3⟩ | ⟨_,g',s,pos,_,h2,_,h3⟩
 ·cases h
 ·injection h3 with h3;subst h3;exact fh h2
 ·injection h3 with h3;subst h3;exact fh h2
 ·injection h3 with h3;subst h3;exact fh h2
theorem Hp.own_lt {c h w bs b}(hi:Hp c h w bs)(hb:b∈h.L.map (·.1)++bs.filterMap id):b<w.heap.size:=by
 rcases qM hb with hb | hb
 ·obtain ⟨⟨b',cs⟩,hm,rfl⟩:=List.mem_map.1 hb
  exact (hi.blk _ _ hm).lt
 ·obtain ⟨o,ho,hs⟩:=List.mem_filterMap.1 hb
  simp only [id] at hs
  subst hs
  obtain ⟨i,qL⟩:=List.getElem?_of_mem ho
  have aN:i<h.R.length:=by rw [hi.rows.1];exact (List.getElem?_eq_some_iff.1 qL).1
  obtain ⟨⟨v,e,sz,xs⟩,hr⟩:∃ p,h.R[i]?=some p:=⟨_,gq aN⟩
  exact (hi.rows.2 i v e sz xs _ hr qL).lt
theorem Hp.alloc {c h w bs t}(hi:Hp c h w bs)(cs:List Value):
 Hp c {h with N:=h.N.add w.heap.size t,L:=(w.heap.size,cs)::h.L} (w.alloc (.cells cs.toArray t)) bs where
 typ:=fun b u hu=>by
  have WK:Tm.add h.N w.heap.size t b=some u:=hu
  clear hu
  unfold Tm.add at WK
  have hu:=WK
  clear WK
  simp only [List.map_cons,List.mem_cons]
  split at hu
  ·rename_i XP
   subst XP
   injection hu with hu;subst hu
   exact ⟨by simp,fun _=>⟨_,_,eZ⟩⟩
  ·rename_i cD
   obtain ⟨aN,hc⟩:=hi.typ b u hu
   refine ⟨by simp;omega,fun hb=> ?_⟩
   rcases hb with hb | hb
   ·exact (cD hb).elim
   ·obtain ⟨cs',f,hc⟩:=hc hb
    exact ⟨cs',f,by rw [ci (fh hc)];exact hc⟩
 holds:=fun b x hb=>by
  have:=hi.holds.lt hb
  obtain ⟨t,f,ht⟩:=hi.holds _ _ hb
  exact ⟨t,f,by rw [ci this];exact ht⟩
 blk:=fun b x hb=>by
  rcases rP hb with hb | hb
  ·injection hb with h1 h2;subst h1 h2;exact ⟨t,eZ⟩
  ·exact (hi.blk _ _ hb).alloc
 rows:=⟨hi.rows.1,fun i v e sz xs o h1 h2=>(hi.rows.2 i v e sz xs o h1 h2).alloc⟩
 nodup:=by
  simp only [List.map_cons,List.cons_append,List.nodup_cons]
  exact ⟨fun hm=>by have:=hi.own_lt hm;omega,hi.nodup⟩
 apart:=fun b hb=>by
  simp only [List.map_cons,List.cons_append,List.mem_cons] at hb
  rcases hb with hb | hb
  ·subst hb
   refine ⟨?_,.inr hi.size⟩
   cases hM:h.M w.heap.size with
   | none=>rfl
   | some x=>have:=hi.holds.lt hM;omega
  ·exact hi.apart b hb
 os:=hi.os
 tape:=hi.tape
 output:=hi.output
 size:=Nat.le_trans hi.size (by simp)
 old:=fun b hb hu=>by rw [ci (Nat.lt_of_lt_of_le hb hi.size)];exact hi.old b hb hu
 mem:=hi.mem
 le:=hi.le
def rt:List (Nat×List Value) ->Nat ->Nat ->Value ->List (Nat×List Value)
 | [],_,_,_=>[]
 | (b,cs)::l,k,i,v=>if k=b then (b,cs.set i v)::l else (b,cs)::rt l k i v
theorem qp (L:List (Nat×List Value))(k i v):(rt L k i v).map (·.1)=L.map (·.1):=by
 induction L with
 | nil=>rfl
 | cons p l ih=>
  obtain ⟨b,cs⟩:=p
  unfold rt
  split
  ·rfl
  ·simp [ih]
theorem P3 {L:List (Nat×List Value)}{k i v b cs}(h:(b,cs)∈rt L k i v)(hn:(L.map (·.1)).Nodup):
 (b≠k/\(b,cs)∈L)\/(b=k/\∃ cs0,(b,cs0)∈L/\cs=cs0.set i v):=by
 induction L with
 | nil=>cases h
 | cons p l ih=>
  obtain ⟨b',cs'⟩:=p
  simp only [List.map_cons,List.nodup_cons] at hn
  unfold rt at h
  split at h
  ·rename_i hk
   subst hk
   rcases rP h with h' | h'
   ·injection h' with h1 h2
    subst h1 h2
    exact .inr ⟨rfl,cs',by simp,rfl⟩
   ·refine .inl ⟨?_,by simp [h']⟩
    rintro rfl
    exact hn.1 (List.mem_map.2 ⟨(b,cs),h',rfl⟩)
  ·rename_i hk
   rcases rP h with h | h
   ·injection h with h1 h2
    subst h1 h2
    exact .inl ⟨fun h=>hk h.symm,by simp⟩
   ·rcases ih h hn.2 with ⟨h1,h2⟩ | ⟨h1,cs0,h2,h3⟩
    ·exact .inl ⟨h1,by simp [h2]⟩
    ·exact .inr ⟨h1,cs0,by simp [h2],h3⟩
theorem F1 {w:World}{b i:Nat}{cs:List Value}{v:Value}(h:Ua w b cs):Ua (w.setCell ⟨b,i,none⟩ v) b (cs.set i v):=by
 obtain ⟨t,ht⟩:=h
 refine ⟨t,?_⟩
 simp only [World.setCell,Array.getElem?_modify,ht]
 simp
theorem fP {w:World}{b k i:Nat}{v:Value}(h:b≠k):(w.setCell ⟨k,i,none⟩ v).heap[b]?=w.heap[b]?:=by
 simp only [World.setCell,Array.getElem?_modify]
 rw [if_neg (Ne.symm h)]
theorem zg.keep {w w' v e sz xs o}(h:zg w v e sz xs o)(hk:∀ g,o=some g ->w'.heap[g]?=w.heap[g]?):zg w' v e sz xs o:=by
 rcases h with h | ⟨g,n,cap,junk,h1,ht,h3,h4,h5,h6⟩ | ⟨h0,g,es,clock,h1,ht,h3,h6⟩ | ⟨h0,g,s,pos,h1,ht,h3,h6⟩
 ·exact .inl h
 ·exact .inr (.inl ⟨g,n,cap,junk,h1,by rw [hk g h6];exact ht,h3,h4,h5,h6⟩)
 ·exact .inr (.inr (.inl ⟨h0,g,es,clock,h1,by rw [hk g h6];exact ht,h3,h6⟩))
 ·exact .inr (.inr (.inr ⟨h0,g,s,pos,h1,by rw [hk g h6];exact ht,h3,h6⟩))
theorem zg.other {w v e sz xs o k i u}(h:zg w v e sz xs o)(hk:o≠some k):zg (w.setCell ⟨k,i,none⟩ u) v e sz xs o:=by
 rcases h with h | ⟨g,n,cap,junk,h1,ht,h3,h4,h5,h6⟩ | ⟨h0,g,es,clock,h1,ht,h3,h6⟩ | ⟨h0,g,s,pos,h1,ht,h3,h6⟩
 ·exact .inl h
 ·refine .inr (.inl ⟨g,n,cap,junk,h1,?_,h3,h4,h5,h6⟩)
  rw [fP (by rintro rfl;exact hk h6)];exact ht
 ·refine .inr (.inr (.inl ⟨h0,g,es,clock,h1,?_,h3,h6⟩))
  rw [fP (by rintro rfl;exact hk h6)];exact ht
 ·refine .inr (.inr (.inr ⟨h0,g,s,pos,h1,?_,h3,h6⟩))
  rw [fP (by rintro rfl;exact hk h6)];exact ht
theorem Hp.allocMap {c h w bs t}(hi:Hp c h w bs):
 Hp c {h with R:=(.map (some w.heap.size),t,0,[])::h.R} (w.alloc (.map #[] 0)) (some w.heap.size::bs) where
 typ:=fun b u hu=>by
  obtain ⟨aN,hc⟩:=hi.typ b u hu
  refine ⟨by simp;omega,fun hb=> ?_⟩
  obtain ⟨cs',f,hc⟩:=hc hb
  exact ⟨cs',f,by rw [ci (fh hc)];exact hc⟩
 holds:=fun b x hb=>by
  have:=hi.holds.lt hb
  obtain ⟨t,f,ht⟩:=hi.holds _ _ hb
  exact ⟨t,f,by rw [ci this];exact ht⟩
 blk:=fun b x hb=>(hi.blk _ _ hb).alloc
 rows:=⟨by simp [hi.rows.1],fun i v e sz xs o h1 h2=>by
  cases i with
  | zero=>
   simp at h1 h2
   obtain ⟨rfl,rfl,rfl,rfl⟩:=h1
   subst h2
   exact .inr (.inr (.inl ⟨rfl,_,#[],0,rfl,eZ,rfl,rfl⟩))
  | succ i=>exact (hi.rows.2 i v e sz xs o (by simpa using h1) (by simpa using h2)).alloc⟩
 nodup:=by
  have hp:(h.L.map (·.1)++w.heap.size::bs.filterMap id).Perm (w.heap.size::(h.L.map (·.1)++bs.filterMap id)):=List.perm_middle
  rw [List.filterMap_cons]
  simp only [id]
  exact hp.nodup_iff.2 (List.nodup_cons.2 ⟨fun hm=>by have:=hi.own_lt hm;omega,hi.nodup⟩)
 apart:=fun b hb=>by
  rw [List.filterMap_cons] at hb
  simp only [id,List.mem_append,List.mem_cons] at hb
  rcases hb with hb | hb | hb
  ·exact hi.apart b (vZ (.inl hb))
  ·subst hb
   refine ⟨?_,.inr hi.size⟩
   cases hm:h.M w.heap.size with
   | none=>rfl
   | some x=>have:=hi.holds.lt hm;omega
  ·exact hi.apart b (vZ (.inr hb))
 os:=hi.os
 tape:=hi.tape
 output:=hi.output
 size:=by simp;have:=hi.size;omega
 old:=fun b hb hu=>by rw [ci (by have:=hi.size;omega)];exact hi.old b hb hu
 mem:=hi.mem
 le:=hi.le
theorem Hp.allocIter {c h w bs t}(hi:Hp c h w bs)(s:ByteArray):
 Hp c {h with R:=(.pointer (some ⟨w.heap.size,0,none⟩),t,0,[.string s,.int .i64 ((0:Nat):Int)])::h.R} (w.alloc (.stringIter s 0)) (some w.heap.size::bs) where
 typ:=fun b u hu=>by
  obtain ⟨aN,hc⟩:=hi.typ b u hu
  refine ⟨by simp;omega,fun hb=> ?_⟩
  obtain ⟨cs',f,hc⟩:=hc hb
  exact ⟨cs',f,by rw [ci (fh hc)];exact hc⟩
 holds:=fun b x hb=>by
  have:=hi.holds.lt hb
  obtain ⟨t,f,ht⟩:=hi.holds _ _ hb
  exact ⟨t,f,by rw [ci this];exact ht⟩
 blk:=fun b x hb=>(hi.blk _ _ hb).alloc
 rows:=⟨by simp [hi.rows.1],fun i v e sz xs o h1 h2=>by
  cases i with
  | zero=>
   simp at h1 h2
   obtain ⟨rfl,rfl,rfl,rfl⟩:=h1
   subst h2
   exact .inr (.inr (.inr ⟨rfl,_,s,0,rfl,eZ,rfl,rfl⟩))
  | succ i=>exact (hi.rows.2 i v e sz xs o (by simpa using h1) (by simpa using h2)).alloc⟩
 nodup:=by
  have hp:(h.L.map (·.1)++w.heap.size::bs.filterMap id).Perm (w.heap.size::(h.L.map (·.1)++bs.filterMap id)):=List.perm_middle
  rw [List.filterMap_cons]
  simp only [id]
  exact hp.nodup_iff.2 (List.nodup_cons.2 ⟨fun hm=>by have:=hi.own_lt hm;omega,hi.nodup⟩)
 apart:=fun b hb=>by
  rw [List.filterMap_cons] at hb
  simp only [id,List.mem_append,List.mem_cons] at hb
  rcases hb with hb | hb | hb
  ·exact hi.apart b (vZ (.inl hb))
  ·subst hb
   refine ⟨?_,.inr hi.size⟩
   cases hm:h.M w.heap.size with
   | none=>rfl
   | some x=>have:=hi.holds.lt hm;omega
  ·exact hi.apart b (vZ (.inr hb))
 os:=hi.os
 tape:=hi.tape
 output:=hi.output
 size:=by simp;have:=hi.size;omega
 old:=fun b hb hu=>by rw [ci (by have:=hi.size;omega)];exact hi.old b hb hu
 mem:=hi.mem
 le:=hi.le
theorem Hp.store {c h w bs k i v}(hi:Hp c h w bs)(hk:k∈h.L.map (·.1)):
 Hp c {h with L:=rt h.L k i v} (w.setCell ⟨k,i,none⟩ v) bs:=by
 have lH:=List.nodup_append.1 hi.nodup
 have fX:=hi.apart k (by simp only [List.mem_append];exact .inl hk)
 exact
 {typ:=fun b u hu=>by
   obtain ⟨aN,hc⟩:=hi.typ b u hu
   refine ⟨by simpa [World.setCell] using aN,fun hb=> ?_⟩
   have hb:b∈(rt h.L k i v).map (·.1):=hb
   rw [qp] at hb
   obtain ⟨cs',f,hc⟩:=hc hb
   by_cases fS:b=k
   ·subst fS
    exact ⟨_,f,by simp only [World.setCell,Array.getElem?_modify,hc];rfl⟩
   ·exact ⟨cs',f,by rw [fP fS];exact hc⟩
  holds:=fun b x hb=>by
   obtain ⟨t,f,ht⟩:=hi.holds _ _ hb
   refine ⟨t,f,?_⟩
   rw [fP (by rintro rfl;rw [fX.1] at hb;cases hb)];exact ht
  blk:=fun b x hb=>by
   rcases P3 hb lH.1 with ⟨h1,h2⟩ | ⟨h1,cs0,h2,h3⟩
   ·obtain ⟨t,ht⟩:=hi.blk _ _ h2
    exact ⟨t,by rw [fP h1];exact ht⟩
   ·subst h1 h3
    exact F1 (hi.blk _ _ h2)
  rows:=⟨hi.rows.1,fun j v e sz xs o h1 h2=>(hi.rows.2 j v e sz xs o h1 h2).other (by
   rintro rfl
   have hm:k∈bs.filterMap id:=List.mem_filterMap.2 ⟨some k,List.mem_of_getElem? h2,rfl⟩
   exact lH.2.2 k hk k hm rfl)⟩
  nodup:=by
   show ((rt h.L k i v).map (·.1)++bs.filterMap id).Nodup
   rw [qp];exact hi.nodup
  apart:=fun b hb=>by
   have hb:b∈(rt h.L k i v).map (·.1)++bs.filterMap id:=hb
   rw [qp] at hb;exact hi.apart b hb
  os:=hi.os
  tape:=hi.tape
  output:=hi.output
  size:=by simpa [World.setCell] using hi.size
  old:=fun b hb hu=>by
   rw [fP ?_]
   ·exact hi.old b hb hu
   ·rintro rfl
    rcases fX.2 with h1 | h1
    ·exact hu h1
    ·omega
  mem:=hi.mem
  le:=hi.le}
def aS.add (M:aS)(b:Nat)(cs:List Value):aS:=fun k=>if k=b then some cs else M k
theorem Hp.freeze {c h w bs b cs L}(hi:Hp c h w bs)(hL:h.L=(b,cs)::L):
 Hp c {h with M:=h.M.add b cs,L:=L} w bs:=by
 have lH:=hi.nodup
 rw [hL] at lH
 simp only [List.map_cons,List.cons_append,List.nodup_cons] at lH
 have hbM:=(hi.apart b (by rw [hL];simp)).1
 have hbU:=(hi.apart b (by rw [hL];simp)).2
 exact
 {typ:=fun k u hu=>⟨(hi.typ k u hu).1,fun hk=>(hi.typ k u hu).2 (by rw [hL];simp only [List.map_cons,List.mem_cons];exact .inr hk)⟩
  holds:=fun k x hk=>by
   have iJ:aS.add h.M b cs k=some x:=hk
   clear hk
   unfold aS.add at iJ
   split at iJ
   ·rename_i TU
    subst TU
    injection iJ with iJ;subst iJ
    obtain ⟨t,ht⟩:=hi.blk k cs (by rw [hL];simp)
    exact ⟨t,_,ht⟩
   ·exact hi.holds _ _ iJ
  blk:=fun k x hk=>hi.blk k x (by rw [hL];simp [hk])
  rows:=hi.rows
  nodup:=lH.2
  apart:=fun k hk=>by
   have h1:=hi.apart k (by rw [hL];simp only [List.map_cons,List.cons_append,List.mem_cons];exact .inr hk)
   refine ⟨?_,h1.2⟩
   show aS.add h.M b cs k=none
   unfold aS.add
   rw [if_neg]
   ·exact h1.1
   ·rintro rfl;exact lH.1 hk
  os:=hi.os
  tape:=hi.tape
  output:=hi.output
  size:=hi.size
  old:=hi.old
  mem:=fun k hk hu=>by
   show aS.add h.M b cs k=_
   unfold aS.add
   rw [if_neg]
   ·exact hi.mem k hk hu
   ·rintro rfl
    rcases hbU with h1 | h1
    ·exact hu h1
    ·omega
  le:=fun k x hk=>by
   show aS.add h.M b cs k=_
   unfold aS.add
   rw [if_neg]
   ·exact hi.le k x hk
   ·rintro rfl
    have:=hi.le k x hk
    rw [hbM] at this;cases this}
theorem Hp.extT {c h w bs t}(hi:Hp c h w bs):aH h.N (h.N.add w.heap.size t):=by
 intro b u hu
 have:=(hi.typ b u hu).1
 unfold Tm.add
 rw [if_neg (by omega)];exact hu
theorem Hp.retyp {c N N' M L R w bs}(hi:Hp c ⟨N,M,L,R⟩ w bs)(h:∀ b t,N' b=some t ->b<w.heap.size/\(b∈L.map (·.1) ->∃ cs f,w.heap[b]?=some (.cells cs t f))):Hp c ⟨N',M,L,R⟩ w bs:=
 {typ:=h
  holds:=hi.holds
  blk:=hi.blk
  rows:=hi.rows
  nodup:=hi.nodup
  apart:=hi.apart
  os:=hi.os
  tape:=hi.tape
  output:=hi.output
  size:=hi.size
  old:=hi.old
  mem:=hi.mem
  le:=hi.le}
theorem Hp.untype {c N N' M L R w bs}(hi:Hp c ⟨N,M,L,R⟩ w bs)(h:∀ b t,N' b=some t ->N b=some t):Hp c ⟨N',M,L,R⟩ w bs:=
 {typ:=fun b u hu=>hi.typ b u (h b u hu)
  holds:=hi.holds
  blk:=hi.blk
  rows:=hi.rows
  nodup:=hi.nodup
  apart:=hi.apart
  os:=hi.os
  tape:=hi.tape
  output:=hi.output
  size:=hi.size
  old:=hi.old
  mem:=hi.mem
  le:=hi.le}
theorem Hp.drop {c h w bs b cs L}(hi:Hp c h w bs)(hL:h.L=(b,cs)::L):Hp c {h with L:=L} w bs:=by
 have lH:=hi.nodup
 rw [hL] at lH
 simp only [List.map_cons,List.cons_append,List.nodup_cons] at lH
 exact
 {typ:=fun k u hu=>⟨(hi.typ k u hu).1,fun hk=>(hi.typ k u hu).2 (by rw [hL];simp only [List.map_cons,List.mem_cons];exact .inr hk)⟩
  holds:=hi.holds
  blk:=fun k x hk=>hi.blk k x (by rw [hL];simp [hk])
  rows:=hi.rows
  nodup:=lH.2
  apart:=fun k hk=>hi.apart k (by rw [hL];simp only [List.map_cons,List.cons_append,List.mem_cons];exact .inr hk)
  os:=hi.os
  tape:=hi.tape
  output:=hi.output
  size:=hi.size
  old:=hi.old
  mem:=hi.mem
  le:=hi.le}
theorem H8 {P:Program}{w:World}{v:Value}{e:TypeId}{sz:Nat}{xs:List Value}{o:Option Nat}(hr:zg w v e sz xs o)
 {t tx ty:TypeId} {i:TypeInfo} {z x:Value} {m:Nat} {news:List Value} (ht:P.underlying t=some (.slice e)) (hi:P.info? e=some i) (hz:i.zero=some z) (ej:i.size=sz)
 (Dk:z.cells.size=sz) (dG:0<sz) (hs:Src P sz tx x m news w) (hb:xs.length+news.length<=4398046511104) (EO:i.bytes<=24*i.size):
 ∃ v' w' o',(Builtin.append_ #[t,tx] ty #[v,x]).run P w=.ok v' w'/\zg w' v' e sz (xs++news) o'/\w.grownBy w' o/\(o'=o\/∃ g,o'=some g/\w.heap.size<=g):=by
 subst ej
 have hm:news.length=m*i.size:=hs.newsLen
 have grow:∀ (base:Option Addr) (n cap:Nat),xs.length=n*i.size ->(Builtin.firstCells i.size n (.slice base n cap)).run P w.drew=.ok xs.toArray w.drew ->cap<n+m ->
  ∃ v' w' o',(Builtin.append_ #[t,tx] ty #[.slice base n cap,x]).run P w=.ok v' w'/\zg w' v' e i.size (xs++news) o'/\w.grownBy w' o/\(o'=o\/∃ g,o'=some g/\w.heap.size<=g):=by
  intro base n cap hn aag hg
  have Dq:n+m<=4398046511104:=by
   have h1:(n+m)*1<=(n+m)*i.size:=Nat.mul_le_mul_left _ dG
   have h2:(n+m)*i.size=n*i.size+m*i.size:=Nat.add_mul ..
   omega
  have lJ:=nextslicecap_le hg
  have xB:=run_append_grow_src (P:=P) w t tx ty e i z ht hi hz base n cap xs aag x m news hs hg (by omega) (by
   have h2:(n+m)*i.size=n*i.size+m*i.size:=Nat.add_mul ..
   calc Builtin.nextslicecap (n+m) cap*i.bytes<=(2*(n+m))*(24*i.size):=Nat.mul_le_mul lJ EO
    _=48*((n+m)*i.size):=by rw [Nat.mul_comm 2,Nat.mul_assoc,<- Nat.mul_assoc 2 24,Nat.mul_left_comm]
    _<=281474976710656:=by omega)
  refine ⟨_,_,some w.heap.size,xB,.inr (.inl ⟨w.heap.size,n+m,_,(Builtin.zeroCells z.cells (grownCap w (n+m) cap e - (n+m))).toList,rfl,?_,?_,?_,grownCap_ge _ _ _ _,rfl⟩),?_,.inr ⟨_,rfl,Nat.le_refl _⟩⟩
  ·have:=@eZ w.drew (.cells ((xs++news).toArray++Builtin.zeroCells z.cells (grownCap w (n+m) cap e - (n+m))) e)
   rw [show w.drew.heap.size=w.heap.size from rfl] at this
   rw [this]
   congr 2
   apply Array.toList_inj.1
   simp
  ·rw [List.length_append,hn,hm,Nat.add_mul]
  ·have Ol:=grownCap_ge w (n+m) cap e
   rw [List.length_append,List.length_append,hn,hm,Array.length_toList,size_zeroCells,Dk,<- Nat.add_mul,<- Nat.add_mul]
   congr 1
   omega
  ·exact ⟨rfl,rfl,rfl,by simp,fun k hk _=>ci (w:=w.drew) hk⟩
 rcases hr with ⟨rfl,rfl,rfl⟩ | ⟨g,n,cap,junk,rfl,hg,hn,hc,dJ,rfl⟩ | ⟨h0,_⟩ | ⟨h0,_⟩
 ·by_cases h0:m=0
  ·subst h0
   have:news=[]:=by simpa using hm
   subst this
   refine ⟨.slice none 0 0,w,none,?_,.inl ⟨rfl,rfl,rfl⟩,⟨rfl,rfl,rfl,Nat.le_refl _,fun _ _ _=>rfl⟩,.inl rfl⟩
   rcases hs.kind with ⟨e',hk⟩ | hk<;>simp [Builtin.append_,run_underlying ht,run_underlying hk,Go.sizeOf,typeInfo,hi,hs.len,hs.cells]
  ·exact grow none 0 0 (by simp) (run_firstCells_none w.drew _ _ _ _) (by omega)
 ·by_cases OA:n+m<=cap
  ·have ej:xs.length+news.length<=(xs++junk).length:=by
    rw [hc,hn,hm,<- Nat.add_mul];exact Nat.mul_le_mul_right _ OA
   have kE:=run_storeCells_at P g (n*i.size) e news 0 (xs++junk).toArray w hg (by rw [<- hn];simpa using ej) hs.one
   simp only [Nat.add_zero] at kE
   have aiR:(xs++junk).toArray.toList.take (n*i.size)++news++(xs++junk).toArray.toList.drop (n*i.size+news.length)=xs++news++junk.drop news.length:=by
    rw [<- hn]
    simp [List.drop_append]
   rw [aiR] at kE
   refine ⟨.slice (some ⟨g,0,none⟩) (n+m) cap,w.setRow g (xs++news++junk.drop news.length).toArray,some g,?_,.inr (.inl ⟨g,n+m,cap,junk.drop news.length,rfl,?_,?_,?_,OA,rfl⟩),?_,.inl rfl⟩
   ·rcases hs.kind with ⟨e',hk⟩ | hk<;>simp [Builtin.append_,run_underlying ht,run_underlying hk,Go.sizeOf,typeInfo,hi,hs.len,OA,hs.cells,Addr.add_lit,kE]
   ·exact setRow_heap w g _ _ e (0,0) hg
   ·rw [List.length_append,hn,hm,Nat.add_mul]
   ·rw [<- hc]
    simp only [List.length_append,List.length_drop] at ej ⊢
    omega
   ·exact ⟨rfl,rfl,rfl,by simp,fun k _ hk=>setRow_other w g k _ (by rintro rfl;exact hk rfl)⟩
  ·refine grow (some ⟨g,0,none⟩) n cap hn ?_ (by omega)
   refine run_firstCells_some w.drew i.size n ⟨g,0,none⟩ n cap xs hn ?_
   intro j u hj
   rw [World.cell?_drew]
   have aN:j<xs.length:=(List.getElem?_eq_some_iff.1 hj).1
   have:w.cell? ((⟨g,0,none⟩:Addr).add j)=(xs++junk)[j]?:=by
    by_cases h0:j=0
    ·subst h0;simp [Addr.add,World.cell?,hg]
    ·simp [Addr.add,h0,World.cell?,hg]
   rw [this,List.getElem?_append_left aN];exact hj
 ·omega
 ·omega
def FW (c a b:Value):Option Value:=match c with | .bool t=>some (if t=true then a else b) | _=>none
def Sx (v:Value):Option Value:=match v with | .pointer (some a)=>some (.pointer (some a)) | _=>none
def tL (k:Option Nat)(v:Value):Option Value:=match k,v with | some k,.pointer (some a)=>some (.pointer (some (a.add k))) | _,_=>none
def No (sz:Option Nat)(x i:Value):Option Value:=
 match sz,x,i with
 | some sz,.slice (some a) len _,.int _ n=>if 0<=n/\n<len then some (.pointer (some (a.add (n.toNat*sz)))) else none
 | _,_,_=>none
def rS (s:ByteArray)(k:Nat):UInt8:=s.data.toList.getD k 0
def vAt (str:Bool)(x i:Value):Option Value:=
 match str,x,i with
 | true,.string s,.int _ n=>if 0<=n/\n<s.size then some (.int .u8 (rS s n.toNat).toNat) else none
 | _,_,_=>none
def PW (v:Value):Option Value:=match v with | .bool t=>some (.bool !t) | _=>none
def RN (v:Value):Option Value:=match v with | .int k n=>some (.int k (k.wrap (0 - n))) | _=>none
def MC (v:Value)(i:Nat):Option Value:=match v with | .tuple vs=>vs[i]? | _=>none
def NB (str sl:Bool)(v:Value):Option Value:=
 match str,v with
 | true,.string s=>some (.int .i64 s.size)
 | false,.slice _ n _=>if sl=true then some (.int .i64 n) else none
 | _,_=>none
def Sj (sl:Bool)(v:Value):Option Value:=match v with
 | .slice _ _ n=>if sl=true then some (.int .i64 n) else none
 | _=>none
def DY (k:Option IntKind)(v:Value):Option Value:=match k,v with | some k,.int _ n=>some (.int k (k.wrap n)) | _,_=>none
def wR (b:Bool)(t:TypeId)(v:Value):Option Value:=if b=true then some (.iface t v) else none
def xT (str:Bool)(x:Value)(lo hi:Option Value):Option Value:=
 match str,x,lo,hi with
 | true,.string s,some (.int _ l),some (.int _ h)=>if 0<=l/\l<=h/\h<=s.size then some (.string (s.extract l.toNat h.toNat)) else none
 | true,.string s,some (.int _ l),none=>if 0<=l/\l<=s.size then some (.string (s.extract l.toNat s.size)) else none
 | true,.string s,none,some (.int _ h)=>if 0<=h/\h<=s.size then some (.string (s.extract 0 h.toNat)) else none
 | _,_,_,_=>none
def kB (a:Option Addr)(cap l sz:Nat):Option Addr:=if cap=l then a else a.map (·.add (l*sz))
def zh (sz:Option Nat)(x:Value)(lo hi:Option Value):Option Value:=
 match sz,x,lo,hi with
 | some sz,.slice a _ cap,some (.int _ l),some (.int _ h)=>if 0<=l/\l<=h/\h<=cap then some (.slice (kB a cap l.toNat sz) (h.toNat - l.toNat) (cap - l.toNat)) else none
 | some sz,.slice a n cap,some (.int _ l),none=>if 0<=l/\l<=n/\n<=cap then some (.slice (kB a cap l.toNat sz) (n - l.toNat) (cap - l.toNat)) else none
 | some sz,.slice a _ cap,none,some (.int _ h)=>if 0<=h/\h<=cap then some (.slice (kB a cap 0 sz) h.toNat cap) else none
 | _,_,_,_=>none
def mC (z:List Value):Nat ->List Value ->List Value
 | _,[]=>z
 | i,v::vs=>mC (z.set i v) (i+1) vs
def bt (P:Program)(t:TypeId):Option (List Value×List (Nat×Nat)):=
 match P.info? t,P.underlying t with
 | some it,some (.struct fields)=>
  match it.zero,fields.toList.mapM (fun f=>(P.info? f.type).map fun i=>(f.offset,i.size)) with
  | some z,some pl=>some (z.cells.toList,pl)
  | _,_=>none
 | _,_=>none
def nz (pl:List (Nat×Nat)):List Value ->List (Nat×List Value) ->Option (List Value)
 | z,[]=>some z
 | z,(i,vs)::rest=>
  match pl[i]? with
  | some (off,size)=>if vs.length=size/\off+vs.length<=z.length then nz pl (mC z off vs) rest else none
  | none=>none
def uD (o:Option (List Value×List (Nat×Nat)))(parts:List (Nat×List Value)):Option Value:=
 match o with
 | some (z,pl)=>(nz pl z parts).map fun cs=> .agg cs.toArray
 | none=>none
def EM (sz:Nat)(z:List Value)(len:Nat)(parts:List (Nat×List Value)):Option (List Value):=
 nz ((List.range len).map fun i=>(i*sz,sz)) ((List.range len).flatMap fun _=>z) parts
theorem MD (vs:List Value)(off:Nat):∀ (z:Array Value) (i:Nat),
 ((vs.zipIdx i).foldl (fun cs x=>cs.setIfInBounds (off+x.2) x.1) z)=(mC z.toList (off+i) vs).toArray:=by
 induction vs with
 | nil=>intro z i;simp [mC]
 | cons v vs ih=>
  intro z i
  simp only [List.zipIdx_cons,List.foldl_cons,mC]
  rw [ih]
  simp [Nat.add_assoc]
theorem As {pl:List (Nat×Nat)}{place:Nat ->Option (Nat×Nat)}(oF:∀ i p,pl[i]?=some p ->place i=some p):
 ∀ (parts:List (Nat×Value)) (z cs:List Value),nz pl z (parts.map fun x=>(x.1,x.2.cells.toList))=some cs ->Instr.fill place z.toArray parts=some cs.toArray:=by
 intro parts
 induction parts with
 | nil=>intro z cs h;simp [nz] at h;simp [Instr.fill,h]
 | cons p rest ih=>
  obtain ⟨i,v⟩:=p
  intro z cs h
  simp only [List.map_cons,nz] at h
  split at h
  ·rename_i off size hp
   split at h
   ·rename_i hc
    have h1:v.cells.size=size:=by simpa using hc.1
    simp only [Instr.fill,oF _ _ hp]
    rw [if_neg]
    ·have hf:=MD v.cells.toList off z.toArray 0
     have:=ih _ _ h
     rw [<- this]
     congr 1
     simp only [Nat.add_zero] at hf
     rw [<- hf,<- Array.foldl_toList,Array.toList_zipIdx]
    ·have:=hc.2
     simp only [Array.length_toList,h1] at this
     simp [h1]
     omega
   ·cases h
  ·cases h
theorem IX {P:Program}{t:TypeId}{parts:List (Nat×Value)}{v:Value}(h:uD (bt P t) (parts.map fun x=>(x.1,x.2.cells.toList))=some v):
 ∃ cs:List Value,v=.agg cs.toArray/\P.built t parts=some cs.toArray:=by
 unfold uD at h
 split at h
 ·rename_i z pl hb
  obtain ⟨cs,iE,rfl⟩:=Option.map_eq_some_iff.1 h
  refine ⟨cs,rfl,?_⟩
  unfold bt at hb
  split at hb
  ·rename_i it fields Kq hu
   split at hb
   ·rename_i z' pl' hz oF
    injection hb with hb
    injection hb with fD ey
    subst fD ey
    unfold Program.built
    rw [Kq,hu]
    simp only [hz,oF]
    have:=As (pl:=pl') (place:=(pl'.toArray[·]?)) (fun i p hp=>by simpa using hp) parts _ _ iE
    simpa using this
   ·cases hb
  ·cases hb
 ·cases h
theorem EP (z:Array Value)(hz:0<z.size):∀ len,((Array.range (len*z.size)).map (z[· % z.size]!))=((List.range len).flatMap fun _=>z.toList).toArray:=by
 intro len
 apply Array.toList_inj.1
 simp only [Array.toList_map,Array.toList_range]
 induction len with
 | zero=>simp
 | succ n ih=>
  rw [Nat.succ_mul,List.range_add,List.map_append,ih,List.range_succ,List.flatMap_append]
  congr 1
  simp only [List.map_map,List.flatMap_cons,List.flatMap_nil,List.append_nil]
  apply List.ext_getElem
  ·simp
  ·intro i h1 h2
   simp only [List.getElem_map,List.getElem_range,Function.comp]
   simp only [List.length_map,List.length_range] at h1
   rw [Nat.mul_add_mod_self_right,Nat.mod_eq_of_lt h1]
   simp [h1]
def eC (P:Program)(t:TypeId):Option (TypeId×Nat×List Value):=
 match P.underlying t with
 | some (.slice e)=>match P.info? e with
  | some ie=>match ie.zero with
   | some z=>if z.cells.size=ie.size/\0<ie.size then some (e,ie.size,z.cells.toList) else none
   | none=>none
  | none=>none
 | _=>none
theorem jo {P:Program}{t e sz z}(h:eC P t=some (e,sz,z)):∃ ie zv,P.underlying t=some (.slice e)/\P.info? e=some ie/\ie.zero=some zv/\ie.size=sz/\0<sz/\zv.cells.toList=z/\zv.cells.size=sz:=by
 unfold eC at h
 split at h
 ·rename_i e' hu
  split at h
  ·rename_i ie hi
   split at h
   ·rename_i zv hz
    split at h
    ·rename_i hs
     injection h with h
     injection h with h1 h2
     injection h2 with h2 h3
     subst h1 h2 h3
     exact ⟨ie,zv,hu,hi,hz,rfl,hs.2,rfl,hs.1⟩
    ·cases h
   ·cases h
  ·cases h
 ·cases h
theorem xx {P:Program}{t e sz z len}{parts:List (Nat×Value)}{cs:List Value}(ht:eC P t=some (e,sz,z))(bw:len*sz<=16777216)
 (h:EM sz z len (parts.map fun x=>(x.1,x.2.cells.toList))=some cs) (w:World):
 (Instr.buildSlice t len parts.toArray).run P w=.ok (.slice (some ⟨w.heap.size,0,none⟩) len len) (w.alloc (.cells cs.toArray e)):=by
 obtain ⟨ie,zv,hu,hi,hz,rfl,dG,rfl,ej⟩:=jo ht
 have hf:Instr.fill (fun i=>some (i*ie.size,ie.size)) ((Array.range (len*ie.size)).map (zv.cells[· % zv.cells.size]!)) parts.toArray.toList=some cs.toArray:=by
  have hzz:=EP zv.cells (by omega) len
  rw [ej] at hzz
  rw [ej,hzz]
  unfold EM at h
  refine As (place:=fun i=>some (i*ie.size,ie.size)) ?_ parts _ _ h
  intro i p hp
  simp only [List.getElem?_map,Option.map_eq_some_iff] at hp
  obtain ⟨a,ha,rfl⟩:=hp
  have:=List.getElem?_eq_some_iff.1 ha
  obtain ⟨h1,h2⟩:=this
  simp at h2
  rw [h2]
 rcases Nat.eq_zero_or_pos len with h0 | h0
 ·subst h0
  have hf0:Instr.fill (fun i=>some (i*ie.size,ie.size)) #[] parts=some cs.toArray:=by
   have:(Array.range (0*ie.size)).map (zv.cells[· % zv.cells.size]!)= #[]:=by simp [Array.range]
   rw [this] at hf;simpa using hf
  have e0:∀ f:Nat ->Value,Array.map f (Array.range 0)= #[]:=fun f=>by apply Array.ext';simp
  simp [Instr.buildSlice,run_underlying hu,e0,Go.sizeOf,typeInfo,hi,hf0,newRow]
 ·refine run_buildSlice w t e len _ cs.toArray ie zv hu hi hz (by omega) ?_ hf
  have:=Nat.mul_pos h0 dG;omega
def vr (L:List (Nat×List Value))(k:Nat):Nat ->List Value ->List (Nat×List Value)
 | _,[]=>L
 | i,v::vs=>vr (rt L k i v) k (i+1) vs
theorem Hp.storeN {c k}(vs:List Value):∀ (i:Nat) {h:Sh} {w:World} {bs},Hp c h w bs ->k∈h.L.map (·.1) ->Hp c {h with L:=vr h.L k i vs} (w.setCells k i vs) bs:=by
 induction vs with
 | nil=>intro i h w bs hi _;exact hi
 | cons v vs ih=>
  intro i h w bs hi hk
  exact ih (i+1) (hi.store hk) (by show k∈(rt h.L k i v).map (·.1);rw [qp];exact hk)
def Wf (h:Sh):Prop:=(h.L.map (·.1)).Nodup/\∀ b∈h.L.map (·.1),h.M b=none
theorem Hp.wf {c h w bs}(hi:Hp c h w bs):Wf h:=
 ⟨(List.nodup_append.1 hi.nodup).1,fun b hb=>(hi.apart b (by simp only [List.mem_append];exact .inl hb)).1⟩
theorem Hp.append {c h w w' bs j v e sz xs ys v' o o'}(hi:Hp c h w bs)(_hj:h.R[j]?=some (v,e,sz,xs))(ho:bs[j]?=some o)
 (hr:zg w' v' e sz ys o') (hg:w.grownBy w' o) (hn:o'=o\/∃ g,o'=some g/\w.heap.size<=g):
 Hp c {h with R:=h.R.set j (v',e,sz,ys)} w' (bs.set j o'):=by
 have X2:j<bs.length:=(List.getElem?_eq_some_iff.1 ho).1
 have lH:=List.nodup_append.1 hi.nodup
 have hom:∀ g,o=some g ->g∈bs.filterMap id:=fun g vi=>List.mem_filterMap.2 ⟨some g,by subst vi;exact List.mem_of_getElem? ho,rfl⟩
 have EJ:∀ b,b<w.heap.size ->o≠some b ->w'.heap[b]?=w.heap[b]?:=fun b hb cD=>hg.block b hb (fun he=>cD he.symm)
 -- the blocks behind the append
 have yK:∀ b,b∈(bs.set j o').filterMap id ->b∈bs.filterMap id\/w.heap.size<=b:=by
  intro b hb
  obtain ⟨x,hx,vL⟩:=List.mem_filterMap.1 hb
  simp only [id] at vL
  subst vL
  rcases List.mem_or_eq_of_mem_set hx with hx | hx
  ·exact .inl (List.mem_filterMap.2 ⟨_,hx,rfl⟩)
  ·rcases hn with hn | ⟨g,vi,hgw⟩
   ·exact .inl (hom b (by rw [<- hn,<- hx]))
   ·rw [<- hx] at vi;injection vi with vi;subst vi;exact .inr hgw
 have agl:((bs.set j o').filterMap id).Nodup:=by
  have h2:=lH.2.1
  have aN:∀ b,b∈bs.filterMap id ->b<w.heap.size:=fun b hb=>hi.own_lt (by simp only [List.mem_append];exact .inr hb)
  rw [List.set_eq_take_append_cons_drop,if_pos X2]
  have Dh:bs=bs.take j++o::bs.drop (j+1):=by
   have:=List.getElem?_eq_some_iff.1 ho
   obtain ⟨h1,h3⟩:=this
   conv=>lhs;rw [<- List.take_append_drop j bs,dq h1,h3]
  rw [Dh] at h2 aN
  rcases hn with rfl | ⟨g,rfl,hgw⟩
  ·exact h2
  ·rw [List.filterMap_append,List.nodup_append] at h2 ⊢
   have jT:∀ b,b∈(bs.drop (j+1)).filterMap id ->b∈(o::bs.drop (j+1)).filterMap id:=by
    intro b hb
    rw [List.filterMap_cons]
    cases o with
    | none=>exact hb
    | some q=>exact p5 hb
   refine ⟨h2.1,?_,?_⟩
   ·rw [List.filterMap_cons]
    simp only [id,List.nodup_cons]
    constructor
    ·intro hm
     have:=aN g (by rw [List.filterMap_append,List.mem_append];exact .inr (jT g hm))
     omega
    ·have:=h2.2.1
     rw [List.filterMap_cons] at this
     simp only [id] at this
     split at this
     ·exact this
     ·exact (List.nodup_cons.1 this).2
   ·intro a ha b hb
    rw [List.filterMap_cons] at hb
    simp only [id,List.mem_cons] at hb
    rcases hb with rfl | hb
    ·have:=aN a (by rw [List.filterMap_append,List.mem_append];exact .inl ha)
     omega
    ·exact h2.2.2 a ha b (jT b hb)
 exact
 {typ:=fun b u hu=>by
   obtain ⟨aN,hc⟩:=hi.typ b u hu
   refine ⟨Nat.lt_of_lt_of_le aN hg.size,fun hb=> ?_⟩
   obtain ⟨cs',f,hc⟩:=hc hb
   refine ⟨cs',f,?_⟩
   rw [EJ b (fh hc) ?_]
   ·exact hc
   ·intro he
    exact lH.2.2 b hb b (hom b he) rfl
  holds:=fun b x hb=>by
   obtain ⟨t,f,ht⟩:=hi.holds _ _ hb
   refine ⟨t,f,?_⟩
   rw [EJ b (hi.holds.lt hb) ?_]
   ·exact ht
   ·intro he
    have:=(hi.apart b (by simp only [List.mem_append];exact .inr (hom b he))).1
    rw [hb] at this;cases this
  blk:=fun b x hb=>by
   have hk:b∈h.L.map (·.1):=List.mem_map.2 ⟨(b,x),hb,rfl⟩
   obtain ⟨t,ht⟩:=hi.blk _ _ hb
   refine ⟨t,?_⟩
   rw [EJ b (fh ht) ?_]
   ·exact ht
   ·intro he
    exact lH.2.2 b hk b (hom b he) rfl
  rows:=by
   refine ⟨by simp [hi.rows.1],?_⟩
   intro k u e2 sz2 zs q h1 h2
   by_cases hkj:j=k
   ·subst hkj
    rw [List.getElem?_set_self (by rw [hi.rows.1];exact X2)] at h1
    rw [List.getElem?_set_self X2] at h2
    simp only [Option.some.injEq,Prod.mk.injEq] at h1 h2
    obtain ⟨rfl,rfl,rfl,rfl⟩:=h1
    subst h2
    exact hr
   ·rw [List.getElem?_set_ne hkj] at h1 h2
    have bP:=hi.rows.2 k u e2 sz2 zs q h1 h2
    refine bP.keep fun g hq=> ?_
    subst hq
    refine EJ g bP.lt ?_
    intro he
    subst he
    -- two rows would own one block
    have h3:=lH.2.1
    have:∀ (l:List (Option Nat)),(l.filterMap id).Nodup ->∀ (a b:Nat),l[a]?=some (some g) ->l[b]?=some (some g) ->a=b:=by
     intro l
     induction l with
     | nil=>intro _ a b ha;simp at ha
     | cons x l ih=>
      intro hl a b ha hb
      cases a with
      | zero=>
       cases b with
       | zero=>rfl
       | succ b=>
        simp at ha hb
        subst ha
        rw [List.filterMap_cons] at hl
        simp only [id,List.nodup_cons] at hl
        exact (hl.1 (List.mem_filterMap.2 ⟨some g,List.mem_of_getElem? hb,rfl⟩)).elim
      | succ a=>
       cases b with
       | zero=>
        simp at ha hb
        subst hb
        rw [List.filterMap_cons] at hl
        simp only [id,List.nodup_cons] at hl
        exact (hl.1 (List.mem_filterMap.2 ⟨some g,List.mem_of_getElem? ha,rfl⟩)).elim
       | succ b=>
        simp at ha hb
        rw [List.filterMap_cons] at hl
        simp only [id] at hl
        split at hl
        ·rw [ih hl a b ha hb]
        ·rw [ih (List.nodup_cons.1 hl).2 a b ha hb]
    exact hkj (this bs h3 j k ho h2)
  nodup:=by
   rw [List.nodup_append]
   refine ⟨lH.1,agl,?_⟩
   intro a ha b hb
   rcases yK b hb with hb | hb
   ·exact lH.2.2 a ha b hb
   ·have:=hi.own_lt (b:=a) (by simp only [List.mem_append];exact .inl ha)
    omega
  apart:=fun b hb=>by
   rcases qM hb with hb | hb
   ·exact hi.apart b (by simp only [List.mem_append];exact .inl hb)
   ·rcases yK b hb with hb | hb
    ·exact hi.apart b (by simp only [List.mem_append];exact .inr hb)
    ·refine ⟨?_,.inr (Nat.le_trans hi.size hb)⟩
     cases hM:h.M b with
     | none=>rfl
     | some x=>have:=hi.holds.lt hM;omega
  os:=hg.os.trans hi.os
  tape:=hg.tape.trans hi.tape
  output:=hg.output.trans hi.output
  size:=Nat.le_trans hi.size hg.size
  old:=fun b hb hu=>by
   rw [EJ b (Nat.lt_of_lt_of_le hb hi.size) ?_]
   ·exact hi.old b hb hu
   ·intro he
    rcases (hi.apart b (by simp only [List.mem_append];exact .inr (hom b he))).2 with h1 | h1
    ·exact hu h1
    ·omega
  mem:=hi.mem
  le:=hi.le}
def qv (P:Program)(t:TypeId):Bool:=match P.underlying t with | some .bool=>true | _=>false
def xR (P:Program)(t:TypeId):Bool:=match P.underlying t with | some (.pointer _)=>true | _=>false
def qW (op:BinOp)(k:IntKind)(x y:Int):Option Value:=
 match op with
 | .and=>some (.int k (k.wrap (BitVec.ofInt k.bits x &&& BitVec.ofInt k.bits y).toNat))
 | .or=>some (.int k (k.wrap (BitVec.ofInt k.bits x ||| BitVec.ofInt k.bits y).toNat))
 | .xor=>some (.int k (k.wrap (BitVec.ofInt k.bits x ^^^ BitVec.ofInt k.bits y).toNat))
 | .quo=>if y=0 then none else some (.int k (k.wrap (x.tdiv y)))
 | .rem=>if y=0 then none else some (.int k (x.tmod y))
 | .shl=>if 0<=y then some (.int k (k.wrap (x*2 ^ (min y.toNat k.bits)))) else none
 | .shr=>if 0<=y then some (.int k (x.fdiv (2 ^ (min y.toNat k.bits)))) else none
 | _=>none
def Fj (P:Program)(t:TypeId):Option Nat:=match P.underlying t with | some .bool=>some 0 | some (.int _)=>some 1 | some .string=>some 2 | _=>none
def RH (P:Program):Nat ->List Field ->Option (List Nat)
 | _,[]=>some []
 | i,f::r=>if f.name≠ "_"/\f.offset=i then match Fj P f.type,RH P (i+1) r with | some k,some l=>some (k::l) | _,_=>none else none
def IM (P:Program)(t:TypeId):Option (List Nat):=
 if P.stoodInHeld t=false/\P.eqGuardType P.depth t=false then match P.underlying t with | some (.struct fs)=>RH P 0 fs.toList | _=>none else none
def Zk:Nat ->Value ->Value ->Option Bool
 | 0,.bool a,.bool b=>some (decide (a=b))
 | 1,.int i a,.int j b=>if i=j then some (decide (a=b)) else none
 | 2,.string a,.string b=>some (decide (a=b))
 | _,_,_=>none
def Nn:List Nat ->List Value ->List Value ->Option Bool
 | [],_,_=>some true
 | k::ks,x::xs,y::ys=>match Zk k x y with
  | some true=>Nn ks xs ys
  | some false=>some false
  | none=>none
 | _,_,_=>none
def CJ (op:BinOp)(k:IntKind)(x y:Int):Option Value:=
 match op with
 | .shl=>if 0<=y then some (.int k (k.wrap (x*2 ^ (min y.toNat k.bits)))) else none
 | .shr=>if 0<=y then some (.int k (x.fdiv (2 ^ (min y.toNat k.bits)))) else none
 | _=>none
def Bp (P:Program)(op:BinOp)(t:TypeId)(x y:Value):Option Value:=
 match x,y with
 | .int i a,.int j b=>if i=j then qW op i a b else CJ op i a b
 | .string a,.string b=>match op with
  | .add=>if a.size+b.size<=9223372036854775807 then some (.string (a++b)) else none
  | _=>none
 | .bool a,.bool b=>match op with
  | .eql=>if qv P t=true then some (.bool (a==b)) else none
  | .neq=>if qv P t=true then some (.bool (!(a==b))) else none
  | _=>none
 | .slice a _ _,.slice none 0 0=>match op with
  | .eql=>if ea P t=true then some (.bool a.isNone) else none
  | .neq=>if ea P t=true then some (.bool (!a.isNone)) else none
  | _=>none
 | .pointer a,.pointer none=>match op with
  | .eql=>if xR P t=true then some (.bool a.isNone) else none
  | .neq=>if xR P t=true then some (.bool (!a.isNone)) else none
  | _=>none
 | .agg a,.agg b=>match op with
  | .eql=>match IM P t with | some ks=>(Nn ks a.toList b.toList).map .bool | none=>none
  | .neq=>match IM P t with | some ks=>(Nn ks a.toList b.toList).map fun r=> .bool (!r) | none=>none
  | _=>none
 | _,_=>none
def gZ (P:Program)(op:BinOp)(t:TypeId)(x y:Value):Option Value:=
 match Ef op x y with
 | some v=>some v
 | none=>Bp P op t x y
theorem Qx {P:Program}{op:BinOp}{t:TypeId}{X Y:Operand}{x y v:Value}(hv:Ef op x y=some v)(w:World):
 (do eqGuard op t X Y x y;binOp op t x y:Sem Value).run P w=.ok v w:=by
 unfold Ef at hv
 split at hv
 ·rename_i i a j b
  split at hv
  ·rename_i G4
   subst G4
   simp [cY,qS hv]
  ·cases hv
 ·rename_i a b
  split at hv<;>first | (cases hv;done) | (injection hv with hv;subst hv;simp [cY,binOp,Op.stringOp,rF])
 ·cases hv
theorem J3 {P:Program}{d:Nat}{t:TypeId}{k:Nat}{x y:Value}{b:Bool}(hk:Fj P t=some k)(h:Zk k x y=some b)(w:World):(Op.equalIn (d+1) t x y).run P w=.ok b w:=by
 unfold Fj at hk
 split at hk
 ·rename_i hu
  injection hk with hk;subst hk
  cases x<;>cases y<;>simp only [Zk,reduceCtorEq] at h
  injection h with h;subst h
  rw [run_equalIn_bool' w d t _ _ hu]
  rename_i a b
  cases a<;>cases b<;>rfl
 ·rename_i kk hu
  injection hk with hk;subst hk
  cases x<;>cases y<;>simp only [Zk,reduceCtorEq] at h
  split at h
  ·rename_i G4
   injection h with h;subst h G4
   rw [run_equalIn_int w d t _ _ _ _ hu]
   rfl
  ·cases h
 ·rename_i hu
  injection hk with hk;subst hk
  cases x<;>cases y<;>simp only [Zk,reduceCtorEq] at h
  injection h with h;subst h
  rw [run_equalIn_string w d t _ _ hu,rF]
 ·cases hk
theorem Bo {P:Program}{t:TypeId}{k off:Nat}{xs:Array Value}{x:Value}(hk:Fj P t=some k)(hx:xs[off]?=some x)(w:World):(part t xs off).run P w=.ok x w:=by
 unfold Fj at hk
 split at hk
 ·rename_i hu;simp [part,isAgg,run_underlying hu,hx]
 ·rename_i kk hu;simp [part,isAgg,run_underlying hu,hx]
 ·rename_i hu;simp [part,isAgg,run_underlying hu,hx]
 ·cases hk
theorem tw {P:Program}{d:Nat}{xs ys:Array Value}:∀ (fs:List Field) (i:Nat) (ks:List Nat) (b:Bool),RH P i fs=some ks ->Nn ks (xs.toList.drop i) (ys.toList.drop i)=some b ->∀ w,(Op.eqFields (d+1) xs ys fs).run P w=.ok b w
 | [],i,ks,b,h1,h2,w=>by
  simp only [RH,Option.some.injEq] at h1;subst h1
  simp only [Nn,Option.some.injEq] at h2;subst h2
  rfl
 | f::fs,i,ks,b,h1,h2,w=>by
  simp only [RH] at h1
  split at h1
  ·rename_i hc
   obtain ⟨KK,ab0⟩:=hc
   split at h1
   ·rename_i k l hk hl
    injection h1 with h1;subst h1
    cases hx:xs.toList.drop i with
    | nil=>rw [hx] at h2;simp [Nn] at h2
    | cons x xr=>
     cases hy:ys.toList.drop i with
     | nil=>rw [hx,hy] at h2;simp [Nn] at h2
     | cons y yr=>
      rw [hx,hy] at h2
      have hxi:xs[f.offset]?=some x:=by
       have:=congrArg (·[0]?) hx
       rw [ab0];simpa using this
      have hyi:ys[f.offset]?=some y:=by
       have:=congrArg (·[0]?) hy
       rw [ab0];simpa using this
      have hxr:xs.toList.drop (i+1)=xr:=by
       have:=congrArg List.tail hx
       simpa [List.tail_drop] using this
      have hyr:ys.toList.drop (i+1)=yr:=by
       have:=congrArg List.tail hy
       simpa [List.tail_drop] using this
      have ih:=tw (P:=P) (d:=d) (xs:=xs) (ys:=ys) fs (i+1) l
      rw [hxr,hyr] at ih
      rw [Op.eqFields,if_pos KK]
      simp only [Sem.run_bind,Bo hk hxi,Result.andThen_ok,Bo hk hyi]
      simp only [Nn] at h2
      split at h2
      ·rename_i hv
       rw [J3 hk hv]
       simp only [Result.andThen_ok,Bool.not_true,Bool.false_eq_true,if_false]
       exact ih b hl h2 w
      ·rename_i hv
       injection h2 with h2;subst h2
       rw [J3 hk hv]
       simp only [Result.andThen_ok,Bool.not_false,if_true]
       rfl
      ·cases h2
   ·cases h1
  ·cases h1
theorem Jy {P:Program}{t:TypeId}{ks:List Nat}{xs ys:Array Value}{b:Bool}(hs:IM P t=some ks)(he:Nn ks xs.toList ys.toList=some b)(w:World):
 P.eqGuardType P.depth t=false/\(Op.equalIn 10000 t (.agg xs) (.agg ys)).run P w=.ok b w:=by
 unfold IM at hs
 split at hs
 ·rename_i hc
  split at hs
  ·rename_i fs hu
   have hf:P.fieldsOf t=fs:=by unfold Program.fieldsOf;rw [hu]
   refine ⟨hc.2,?_⟩
   rw [run_equalIn_struct w 9999 t xs ys (by rw [hf];exact hu) hc.1,hf]
   exact tw fs.toList 0 ks b hs (by simpa using he) w
  ·cases hs
 ·cases hs
theorem SQ {P:Program}{op:BinOp}{t:TypeId}{X Y:Operand}{x y v:Value}(hv:Bp P op t x y=some v)(w:World):
 (do eqGuard op t X Y x y;binOp op t x y:Sem Value).run P w=.ok v w:=by
 unfold Bp at hv
 split at hv
 ·rename_i i a j b
  split at hv
  ·rename_i G4
   subst G4
   unfold qW at hv
   split at hv
   ·injection hv with hv;subst hv;simp [cY,binOp,Op.intBits]
   ·injection hv with hv;subst hv;simp [cY,binOp,Op.intBits]
   ·injection hv with hv;subst hv;simp [cY,binOp,Op.intBits]
   ·split at hv
    ·cases hv
    ·rename_i h0
     injection hv with hv;subst hv;simp [cY,binOp,Op.intDiv,h0]
   ·split at hv
    ·cases hv
    ·rename_i h0
     injection hv with hv;subst hv;simp [cY,binOp,Op.intDiv,h0]
   ·split at hv
    ·rename_i h0
     have h0:¬ b<0:=by omega
     injection hv with hv;subst hv;simp [cY,binOp,Op.shift,h0]
    ·cases hv
   ·split at hv
    ·rename_i h0
     have h0:¬ b<0:=by omega
     injection hv with hv;subst hv;simp [cY,binOp,Op.shift,h0]
    ·cases hv
   ·cases hv
  ·unfold CJ at hv
   split at hv
   ·split at hv
    ·rename_i h0
     have h0:¬ b<0:=by omega
     injection hv with hv;subst hv;simp [cY,binOp,Op.shift,h0]
    ·cases hv
   ·split at hv
    ·rename_i h0
     have h0:¬ b<0:=by omega
     injection hv with hv;subst hv;simp [cY,binOp,Op.shift,h0]
    ·cases hv
   ·cases hv
 ·rename_i a b
  split at hv
  ·split at hv
   ·rename_i hb
    injection hv with hv;subst hv
    have:¬ (((a.size+b.size:Nat):Int)>IntKind.i64.max):=by
     have:IntKind.i64.max=9223372036854775807:=by decide
     omega
    have h2:(eqGuard .add t X Y (.string a) (.string b)).run P w=.ok () w:=cY (by simp) (by simp) w
    simp only [Sem.run_bind,h2,Result.andThen_ok,binOp,Op.stringOp]
    rw [if_neg this]
    rfl
   ·cases hv
  ·cases hv
 ·rename_i a b
  split at hv<;>first | (cases hv;done) | skip
  all_goals
   split at hv<;>first | (cases hv;done) | skip
   rename_i hb
   injection hv with hv;subst hv
   unfold qv at hb
   split at hb
   ·rename_i hu
    simp [cY,binOp,run_equal_bool w t a b hu]
   ·cases hb
 ·rename_i a l c
  split at hv<;>first | (cases hv;done) | skip
  all_goals
   split at hv<;>first | (cases hv;done) | skip
   rename_i hb
   injection hv with hv;subst hv
   unfold ea at hb
   split at hb
   ·rename_i e hu
    simp [cY,binOp,run_equal_slice_nil w t e a l c hu]
   ·cases hb
 ·rename_i a
  split at hv<;>first | (cases hv;done) | skip
  all_goals
   split at hv<;>first | (cases hv;done) | skip
   rename_i hb
   injection hv with hv;subst hv
   unfold xR at hb
   split at hb
   ·rename_i e hu
    have hp:P.underlying t=some (.pointer (P.pointee t)):=by unfold Program.pointee;rw [hu]
    simp [cY,binOp,run_equal_pointer_nil w t a hp]
   ·cases hb
 ·rename_i a b
  split at hv
  ·split at hv
   ·rename_i ks hs
    obtain ⟨r,hr,rfl⟩:=Option.map_eq_some_iff.1 hv
    obtain ⟨hg,hq⟩:=Jy hs hr w
    have h1:(eqGuard .eql t X Y (.agg a) (.agg b)).run P w=.ok () w:=run_eqGuard_agg w .eql t X Y a b hg
    simp only [Sem.run_bind,h1,Result.andThen_ok,run_eql_struct w,hq]
   ·cases hv
  ·split at hv
   ·rename_i ks hs
    obtain ⟨r,hr,rfl⟩:=Option.map_eq_some_iff.1 hv
    obtain ⟨hg,hq⟩:=Jy hs hr w
    have h1:(eqGuard .neq t X Y (.agg a) (.agg b)).run P w=.ok () w:=run_eqGuard_agg w .neq t X Y a b hg
    simp only [Sem.run_bind,h1,Result.andThen_ok,run_neq_struct w,hq]
   ·cases hv
  ·cases hv
 ·cases hv
theorem Eu {P:Program}{op:BinOp}{t:TypeId}{X Y:Operand}{x y v:Value}(hv:gZ P op t x y=some v)(w:World):
 (do eqGuard op t X Y x y;binOp op t x y:Sem Value).run P w=.ok v w:=by
 unfold gZ at hv
 split at hv
 ·rename_i u hu
  injection hv with hv;subst hv
  exact Qx hu w
 ·exact SQ hv w
def cvT (P:Program)(src t:TypeId):Option IntKind:=if (P.underlying src).isSome=true then qN P t else none
def pz (h:Sh)(t:Option (Bool×Nat×Value))(v:Value):Option Value:=
 match t,v with
 | some (false,_,_),.pointer (some a)=>h.cell a
 | some (true,n,_),.pointer (some a)=>(h.cells a 0 n).map fun cs=> .agg cs.toArray
 | _,_=>none
def DA (P:Program)(src t:TypeId):Bool:=match P.underlying src,P.underlying t with
 | some (.slice e),some .string=>(match P.underlying e with | some (.int .u8)=>true | _=>false)
 | _,_=>false
def CB:List Value ->Option (List Int)
 | []=>some []
 | .int .u8 n::l=>(CB l).map (n:: ·)
 | _::_=>none
def Ux (h:Sh):Value ->Option Value
 | .slice none _ _=>some (.string ByteArray.empty)
 | .slice (some ⟨b,o,none⟩) n _=>(h.cells ⟨b,o,none⟩ 0 n).bind fun cs=>(CB cs).map fun xs=> .string (strOfNums xs)
 | _=>none
def o5 (P:Program)(h:Sh)(src t:TypeId)(v:Value):Option Value:=match v with
 | .int k n=>DY (cvT P src t) (.int k n)
 | .slice a n c=>if DA P src t=true then Ux h (.slice a n c) else none
 | _=>none
def Z9 (P:Program)(t:TypeId)(i:Nat):Option (Bool×Nat×Nat):=
 match P.underlying t with
 | some (.struct fs)=>match fs[i]? with
  | some f=>match P.info? f.type,P.underlying f.type with
   | some inf,some d=>some (B6 d,f.offset,inf.size)
   | _,_=>none
  | none=>none
 | _=>none
def Wi (k:Option (Bool×Nat×Nat))(v:Value):Option Value:=match k,v with
 | some (true,o,n),.agg cs=>some (.agg (cs.extract o (o+n)))
 | some (false,o,_),.agg cs=>cs[o]?
 | _,_=>none
theorem aa7 {P:Program}{t:TypeId}{i:Nat}{x v:Value}(h:Wi (Z9 P t i) x=some v)(w:World):(Instr.field t x i).run P w=.ok v w:=by
 unfold Wi at h
 split at h
 ·rename_i o n cs hk
  injection h with h;subst h
  unfold Z9 at hk
  split at hk
  ·rename_i fs OQ
   split at hk
   ·rename_i f hf
    split at hk
    ·rename_i inf d vJ hd
     injection hk with hk
     simp only [Prod.mk.injEq] at hk
     obtain ⟨h1,rfl,rfl⟩:=hk
     simp [Instr.field,run_underlying OQ,hf,part,asAgg,js hd,h1,Go.sizeOf,typeInfo,vJ]
    ·cases hk
   ·cases hk
  ·cases hk
 ·rename_i o n cs hk
  unfold Z9 at hk
  split at hk
  ·rename_i fs OQ
   split at hk
   ·rename_i f hf
    split at hk
    ·rename_i inf d vJ hd
     injection hk with hk
     simp only [Prod.mk.injEq] at hk
     obtain ⟨h1,rfl,rfl⟩:=hk
     simp [Instr.field,run_underlying OQ,hf,part,asAgg,js hd,h1,h]
    ·cases hk
   ·cases hk
  ·cases hk
 ·cases h
def Ti (P:Program)(src t:TypeId):Nat:=match P.underlying src,P.underlying t with
 | some .string,some (.slice e)=>(match P.underlying e with | some (.int .u8)=>1 | _=>0)
 | some (.slice e),some (.slice _)=>if src=t then (match P.underlying e with | some (.int .u8)=>2 | _=>0) else 0
 | _,_=>0
def pv (P:Program)(e:dj)(h:Sh):Op ->Option Value
 | .move x | .assign x=>some (ev e x)
 | .pick c a b=>FW (ev e c) (ev e a) (ev e b)
 | .nilCheck x=>Sx (ev e x)
 | .fieldAddr t x i=>tL (cN P t i) (ev e x)
 | .indexAddr t x i=>No (dy P t) (ev e x) (ev e i)
 | .index t x i=>vAt (cP P t) (ev e x) (ev e i)
 | .binOp op t x y _=>gZ P op t (ev e x) (ev e y)
 | .unOp .not _ x=>PW (ev e x)
 | .unOp .neg _ x=>RN (ev e x)
 | .extract x i=>MC (ev e x) i
 | .build t parts=>uD (bt P t) (parts.toList.map fun x=>(x.1,(ev e x.2).cells.toList))
 | .convert src t x=>o5 P h src t (ev e x)
 | .makeInterface t x=>wR (P.concrete t) t (ev e x)
 | .makeFunc fn a b=>some (.func fn (a.map (ev e)) (b.map (ev e)))
 | .slice t x lo hi none=>if cP P t=true then xT true (ev e x) (lo.map (ev e)) (hi.map (ev e)) else zh (dy P t) (ev e x) (lo.map (ev e)) (hi.map (ev e))
 | .load t x=>pz h (tk P t) (ev e x)
 | .field t x i=>Wi (Z9 P t i) (ev e x)
 | .call {callee:=.builtin .len,args,argTypes}=>match args.toList,argTypes.toList with
  | [x],[t]=>NB (cP P t) (ea P t) (ev e x)
  | _,_=>none
 | .call {callee:=.builtin .cap,args,argTypes}=>match args.toList,argTypes.toList with
  | [x],[t]=>Sj (ea P t) (ev e x)
  | _,_=>none
 | _=>none
theorem vO {P:Program}{src t:TypeId}{v u:Value}(h:DY (cvT P src t) v=some u)(w:World):(convert src t v).run P w=.ok u w:=by
 unfold DY at h
 split at h
 ·rename_i k q n hk
  injection h with h;subst h
  unfold cvT at hk
  split at hk
  rotate_left
  ·cases hk
  rename_i hs
  unfold qN at hk
  split at hk
  ·rename_i k' hu
   injection hk with hk;subst hk
   obtain ⟨d,hd⟩:=Option.isSome_iff_exists.1 hs
   simp [convert,run_underlying hd,run_underlying hu,Conv.intToInt]
  ·cases hk
 ·cases h
theorem vh:∀ {cs:List Value} {xs:List Int},CB cs=some xs ->cs=xs.map (Value.int .u8)
 | [],xs,h=>by injection h with h;subst h;rfl
 | v::l,xs,h=>by
  unfold CB at h
  split at h
  ·cases ‹_::_=[]›
  ·rename_i n l' he
   injection he with h1 h2
   subst h1 h2
   obtain ⟨ys,hy,rfl⟩:=Option.map_eq_some_iff.1 h
   rw [List.map_cons,<- vh hy]
  ·cases h
theorem Qi {P:Program}{src t:TypeId}(h:DA P src t=true):∃ e,P.underlying src=some (.slice e)/\P.underlying e=some (.int .u8)/\P.underlying t=some .string:=by
 unfold DA at h
 split at h
 ·rename_i e h1 h2
  split at h
  ·rename_i h3;exact ⟨e,h1,h3,h2⟩
  ·cases h
 ·cases h
theorem zF {P:Program}{t:TypeId}{x i v:Value}(h:vAt (cP P t) x i=some v)(w:World):(Instr.index t x i).run P w=.ok v w:=by
 unfold vAt at h
 split at h
 ·rename_i s k n hs
  split at h
  ·rename_i hb
   injection h with h;subst h
   unfold cP at hs
   split at hs
   ·rename_i hu
    have aN:n.toNat<s.size:=by omega
    have eD:n.toNat<s.data.size:=aN
    simp only [Instr.index,asIntOf,Sem.run_bind,Sem.run_pure,Result.andThen_ok,run_underlying hu,hb.1,if_true]
    have he:s[n.toNat]?=some (rS s n.toNat):=by
     rw [getElem?_pos s n.toNat aN]
     congr 1
     simp only [rS,List.getD_eq_getElem?_getD]
     rw [gq (by simpa using eD)]
     rfl
    rw [he]
    rfl
   ·cases hs
  ·cases h
 ·cases h
def Ob (P:Program):Op ->Bool | .load _ _=>true | .convert src t _=>DA P src t | _=>false
theorem AK {P:Program}{o:Oper}{e:dj}{h:Sh}{v:Value}(hv:pv P e h o.op=some v){c:Ctx}{w:World}(hw:Ob P o.op=true ->Is c h w):
 (execOp (ev e) o).run P w=.ok (.value v) w:=by
 unfold pv at hv
 split at hv
 ·rename_i x ef;injection hv with hv;subst hv;simp only [execOp,ef];rfl
 ·rename_i x ef;injection hv with hv;subst hv;simp only [execOp,ef];rfl
 ·rename_i cc a b ef
  unfold FW at hv
  split at hv
  ·rename_i t ht
   injection hv with hv;subst hv
   simp [execOp,ef,ht,asBool]
  ·cases hv
 ·rename_i x ef
  unfold Sx at hv
  split at hv
  ·rename_i a ha
   injection hv with hv;subst hv
   simp [execOp,ef,ha]
  ·cases hv
 ·rename_i t x i ef
  unfold tL at hv
  split at hv
  ·rename_i k a hk ha
   injection hv with hv;subst hv
   unfold cN at hk
   split at hk
   ·rename_i fs OQ
    split at hk
    ·rename_i f hf
     split at hk
     ·rename_i inf vJ
      split at hk
      ·cases hk
      ·rename_i ej
       simp only [Option.some.injEq] at hk
       subst hk
       simp only [execOp,ef,ha,Instr.fieldAt]
       simp [run_underlying OQ,hf,Instr.sureAddr,fieldPlace,Go.sizeOf,typeInfo,vJ,ej]
     ·cases hk
    ·cases hk
   ·cases hk
  ·cases hv
 ·rename_i t x i ef
  unfold No at hv
  split at hv
  ·rename_i sz a len cap k n hk ha hi
   split at hv
   ·rename_i hb
    injection hv with hv;subst hv
    unfold dy at hk
    split at hk
    ·rename_i el RT
     simp only [Option.map_eq_some_iff] at hk
     obtain ⟨inf,vJ,rfl⟩:=hk
     simp only [execOp,ef,ha,hi,Instr.indexAt]
     simp [asIntOf,run_underlying RT,hb,Go.sizeOf,typeInfo,vJ]
    ·cases hk
   ·cases hv
  ·cases hv
 ·rename_i t x i ef
  simp only [execOp,ef,Sem.run_bind,zF hv]
  rfl
 ·rename_i op t x y _ ef
  simp only [execOp,ef]
  have:=Eu (X:=x) (Y:=y) hv w
  rw [Sem.run_bind,this]
  rfl
 ·rename_i t x ef
  unfold PW at hv
  split at hv
  ·rename_i b hb
   injection hv with hv;subst hv
   simp [execOp,ef,hb,Op.unary]
  ·cases hv
 ·rename_i t x ef
  unfold RN at hv
  split at hv
  ·rename_i k n hb
   injection hv with hv;subst hv
   simp [execOp,ef,hb,Op.unary,Op.intArith]
  ·cases hv
 ·rename_i x i ef
  unfold MC at hv
  split at hv
  ·rename_i vs hx
   simp [execOp,ef,hx,Instr.extract,hv]
  ·cases hv
 ·rename_i t parts ef
  obtain ⟨cs,rfl,hb⟩:=IX (P:=P) (t:=t) (parts:=parts.toList.map fun x=>(x.1,ev e x.2)) (by rw [List.map_map];exact hv)
  simp only [execOp,ef]
  have:=run_build (P:=P) w t (parts.map fun (i,x)=>(i,ev e x)) cs.toArray (by simpa using hb)
  rw [Sem.run_bind,this]
  rfl
 ·rename_i src t x ef
  have kM:(convert src t (ev e x)).run P w=.ok v w:=by
   unfold o5 at hv
   split at hv
   ·rename_i k n hx
    rw [hx];exact vO hv w
   ·rename_i a n c hx
    rw [hx]
    split at hv
    ·rename_i hb
     obtain ⟨el,hs,he,hd⟩:=Qi hb
     unfold Ux at hv
     split at hv
     ·rename_i n' c' Ds
      injection Ds with h1 h2 h3
      subst h1
      injection hv with hv
      subst hv
      exact run_convert_bytes_nil w src el hs he _ _ t hd
     ·rename_i b o n' c' Ds
      injection Ds with h1 h2 h3
      subst h1 h2 h3
      obtain ⟨cs,iE,hv⟩:=Option.bind_eq_some_iff.1 hv
      obtain ⟨xs,eJ,rfl⟩:=Option.map_eq_some_iff.1 hv
      obtain ⟨bs,hi⟩:=hw (by rw [ef];exact hb)
      obtain ⟨hl,hc⟩:=iC _ _ _ (hi.cells _ _ _ iE)
      have YZ:=vh eJ
      refine run_convert_bytes_arg w src el hs he b o _ _ xs (by rw [<- hl,YZ,List.length_map]) ?_ t hd
      intro i A2
      have h4:=hc i (Value.int .u8 (xs.getD i 0)) (by
       rw [YZ,List.getElem?_map]
       have:i<xs.length:=by rw [YZ,List.length_map] at hl;omega
       simp [List.getD_eq_getElem?_getD,gq this])
      have aa8:(⟨b,o,none⟩:Addr).add i=⟨b,o+i,none⟩:=by unfold Addr.add;split<;>simp_all
      simp only [Nat.zero_add] at h4
      rw [aa8] at h4
      exact h4
     ·cases hv
    ·cases hv
   ·cases hv
  simp only [execOp,ef,Sem.run_bind,kM]
  rfl
 ·rename_i t x ef
  unfold wR at hv
  split at hv
  ·rename_i hc
   injection hv with hv;subst hv
   simp only [execOp,ef,Sem.run_bind,run_makeInterface (P:=P) (w:=w) t (ev e x) hc]
   rfl
  ·cases hv
 ·rename_i fn a b ef
  injection hv with hv;subst hv
  simp only [execOp,ef,Instr.makeFunc];rfl
 ·rename_i t x lo hi ef
  have vB:(Instr.sliceAt t (ev e x) (lo.map (ev e)) (hi.map (ev e)) none).run P w=.ok v w:=by
   split at hv
   ·rename_i hs
    unfold cP at hs
    split at hs
    ·rename_i hu
     rw [run_sliceAt_string (w:=w) t _ _ _ _ hu]
     unfold xT at hv
     split at hv<;>first | (cases hv;done) | skip
     all_goals
      split at hv<;>first | (cases hv;done) | skip
      rename_i hb
      injection hv with hv;subst hv
     ·rename_i h1 h2 h3;rw [h1,h2,h3];exact run_slice_string (w:=w) t _ _ _ _ _ hu hb.1 hb.2.1 hb.2.2
     ·rename_i h1 h2 h3;rw [h1,h2,h3];exact run_slice_string_l (w:=w) t _ hu _ _ hb.1 hb.2
     ·rename_i h1 h2 h3;rw [h1,h2,h3];exact run_slice_string_h (w:=w) t _ hu _ _ hb.1 hb.2
    ·cases hs
   ·have RT:∀ {sz},dy P t=some sz ->∃ el,P.underlying t=some (.slice el)/\P.underlying t=some (.slice (P.elem t))/\(∀ w,(Go.sizeOf (P.elem t)).run P w=.ok sz w):=by
     intro sz ej
     unfold dy at ej
     split at ej
     ·rename_i el hu
      obtain ⟨inf,vJ,rfl⟩:=Option.map_eq_some_iff.1 ej
      have he:P.elem t=el:=by unfold Program.elem;rw [hu]
      exact ⟨el,hu,by rw [he];exact hu,fun w=>by rw [he];simp [Go.sizeOf,typeInfo,vJ]⟩
     ·cases ej
    unfold zh at hv
    split at hv<;>first | (cases hv;done) | skip
    all_goals
     split at hv<;>first | (cases hv;done) | skip
     rename_i hb
     injection hv with hv;subst hv
    ·rename_i h0 h1 h2 h3
     obtain ⟨el,hu,WK,ej⟩:=RT h0
     have cG:∀ x lo hi,(Instr.sliceAt t x lo hi none).run P w=(Instr.slice t x lo hi none).run P w:=fun x lo hi=>by simp [Instr.sliceAt,run_underlying hu]
     rw [h1,h2,h3,cG,run_slice_lh (w:=w) t _ _ _ WK _ _ _ _ hb.1 hb.2.1 hb.2.2,ej]
     simp only [Result.andThen_ok,sliced,kB]
    ·rename_i h0 h1 h2 h3
     obtain ⟨el,hu,WK,ej⟩:=RT h0
     have cG:∀ x lo hi,(Instr.sliceAt t x lo hi none).run P w=(Instr.slice t x lo hi none).run P w:=fun x lo hi=>by simp [Instr.sliceAt,run_underlying hu]
     rw [h1,h2,h3,cG,run_slice_l (w:=w) t _ _ _ WK _ _ hb.1 hb.2.1,ej]
     simp only [Result.andThen_ok,sliced,kB]
    ·rename_i h0 h1 h2 h3
     obtain ⟨el,hu,WK,ej⟩:=RT h0
     have cG:∀ x lo hi,(Instr.sliceAt t x lo hi none).run P w=(Instr.slice t x lo hi none).run P w:=fun x lo hi=>by simp [Instr.sliceAt,run_underlying hu]
     rw [h1,h2,h3,cG,run_slice_h (w:=w) t _ _ _ WK _ _ hb.1 hb.2,ej]
     simp only [Result.andThen_ok,sliced,kB,Nat.sub_zero]
  simp only [execOp,ef,Sem.run_bind,Option.map_none,vB]
  rfl
 ·rename_i t x ef
  obtain ⟨bs,hi⟩:=hw (by rw [ef];rfl)
  unfold pz at hv
  split at hv
  ·rename_i n z a tu ha
   obtain ⟨i,d,Dd,hd,hz,hg,hn⟩:=lU tu
   simp only [execOp,ef,Instr.loadAt,ha,Instr.sureAddr,loadVar]
   simp [js hd,hg,hi.cell hv]
  ·rename_i n z a tu ha
   obtain ⟨i,d,Dd,hd,hz,hg,hn⟩:=lU tu
   obtain ⟨cs,iE,rfl⟩:=Option.map_eq_some_iff.1 hv
   obtain ⟨hl,hc⟩:=iC _ _ _ (hi.cells _ _ _ iE)
   have:=run_loadCells_list (P:=P) (w:=w) a cs (fun j v hj=>by simpa using hc j v hj)
   rw [hl] at this
   simp only [execOp,ef,Instr.loadAt,ha,Instr.sureAddr,loadVar]
   simp [js hd,hg,Go.sizeOf,typeInfo,Dd,hn,this]
  ·cases hv
 ·rename_i t x i ef
  simp only [execOp,ef,Sem.run_bind,aa7 hv]
  rfl
 ·rename_i args argTypes ef
  split at hv
  ·rename_i x t hx ht
   have mM:args= #[x]:=by apply Array.toList_inj.1;simpa using hx
   have Je:argTypes= #[t]:=by apply Array.toList_inj.1;simpa using ht
   subst mM Je
   simp only [execOp,ef,resolve,invoke,builtin]
   unfold NB at hv
   split at hv
   ·rename_i s gF lZ
    injection hv with hv;subst hv
    unfold cP at gF
    split at gF
    ·rename_i hu
     simp [Builtin.len_,run_underlying hu,lZ,goInt]
    ·cases gF
   ·rename_i a n cp gF lZ
    split at hv
    ·rename_i FU
     injection hv with hv;subst hv
     unfold ea at FU
     split at FU
     ·rename_i el hu
      simp [Builtin.len_,run_underlying hu,lZ,goInt]
     ·cases FU
    ·cases hv
   ·cases hv
  ·cases hv
 ·rename_i args argTypes ef
  split at hv
  ·rename_i x t hx ht
   have mM:args= #[x]:=by apply Array.toList_inj.1;simpa using hx
   have Je:argTypes= #[t]:=by apply Array.toList_inj.1;simpa using ht
   subst mM Je
   simp only [execOp,ef,resolve,invoke,builtin]
   unfold Sj at hv
   split at hv
   ·rename_i a n cp lZ
    split at hv
    ·rename_i FU
     injection hv with hv;subst hv
     unfold ea at FU
     split at FU
     ·rename_i el hu
      simp [Builtin.cap_,run_underlying hu,lZ,goInt]
     ·cases FU
    ·cases hv
   ·cases hv
  ·cases hv
 ·cases hv
theorem sG {P:Program}{o:Oper}{e:dj}{h:Sh}{v:Value}(hv:pv P e h o.op=some v){c:Ctx}{w:World}(hw:Is c h w):
 (execOp (ev e) o).run P w=.ok (.value v) w:=AK hv fun _=>hw
def fZ (h h':Sh):Prop:=∀ a v,h.cell a=some v ->h'.cell a=some v
theorem fZ.refl (h:Sh):fZ h h:=fun _ _ hv=>hv
theorem fZ.trans {a b c:Sh}(h:fZ a b)(h':fZ b c):fZ a c:=fun x v hv=>h' x v (h x v hv)
theorem fZ.cells {h h':Sh}(hs:fZ h h'){a:Addr}:∀ {n i cs},h.cells a i n=some cs ->h'.cells a i n=some cs:=by
 intro n
 induction n with
 | zero=>intro i cs hc;exact hc
 | succ n ih=>
  intro i cs hc
  unfold Sh.cells o7 at hc ⊢
  split at hc
  ·rename_i v l hv hl
   rw [hs _ _ hv,ih hl]
   exact hc
  ·cases hc
theorem UP {P:Program}{e:dj}{h h':Sh}{op:Op}{v:Value}(hv:pv P e h op=some v)(hs:Ob P op=true ->fZ h h'):pv P e h' op=some v:=by
 unfold pv at hv ⊢
 split at hv<;>first | exact hv | skip
 ·unfold o5 at hv ⊢
  split at hv
  ·exact hv
  ·split at hv
   ·rename_i hb
    have hs:=hs hb
    rw [if_pos hb]
    unfold Ux at hv ⊢
    split at hv
    ·exact hv
    ·obtain ⟨cs,iE,hv⟩:=Option.bind_eq_some_iff.1 hv
     rw [hs.cells iE]
     exact hv
    ·cases hv
   ·cases hv
  ·cases hv
 rename_i t x
 have hs:=hs rfl
 unfold pz at hv ⊢
 split at hv
 ·exact hs _ _ hv
 ·obtain ⟨cs,iE,rfl⟩:=Option.map_eq_some_iff.1 hv
  simp only [hs.cells iE,Option.map_some]
 ·cases hv
structure KontL where
 nrm:dj ->List Deferred ->Sh ->Prop
 exi:Nat ->dj ->List Deferred ->Sh ->Prop
 ret:dj ->List Deferred ->Sh ->Prop
 pan:List PanicEntry ->dj ->List Deferred ->Sh ->Prop
def ce (b:Nat):List (Nat×List Value) ->Prop
 | []=>True
 | (k,_)::l=>(b≠k/\k≠b)/\ce b l
theorem iA {b:Nat}:∀ {L:List (Nat×List Value)},b∉L.map (·.1) ->ce b L
 | [],_=>trivial
 | (k,_)::l,hb=>by
  simp only [List.map_cons,List.mem_cons,not_or] at hb
  exact ⟨⟨hb.1,Ne.symm hb.1⟩,iA hb.2⟩
def DM (cs:List Value)(h:Sh)(k:Nat ->Sh ->Prop):Prop:=
 ∀ b,h.M b=none ->ce b h.L ->k b {h with L:=(b,cs)::h.L}
def OI (t:TypeId)(cs:List Value)(h:Sh)(k:Nat ->Sh ->Prop):Prop:=
 ∀ b T,h.M b=none ->ce b h.L ->aH h.N T ->T b=some t ->k b {h with N:=T,L:=(b,cs)::h.L}
def P6 (P:Program)(f:FuncId)(args:List Value)(h:Sh)(k:Value ->Sh ->Prop)(pan:List PanicEntry ->Sh ->Prop):Prop:=
 de P f=true/\∀ c w,Is c h w ->Calls P f args.toArray w fun
  | .returned v,w'=>∃ h',Is c h' w'/\k v h'
  | .panicked ch,w'=>∃ h',Is c h' w'/\pan ch h'
  | .outgrown,_=>False
def ae7 (P:Program)(op:Sem Value)(h:Sh)(k:Value ->Prop):Prop:=
 ∃ v,(∀ c w,Is c h w ->op.run P w=.ok v w)/\k v
inductive Srcs (P:Program) (tx:TypeId) (sz:Nat) (h:Sh):Value ->List Value ->Prop
 | slice (a n c news e'):P.underlying tx=some (.slice e') ->h.cells a 0 (n*sz)=some news ->(∀ u∈news,u.oneCell'=true) ->Srcs P tx sz h (.slice (some a) n c) news
 | nil (c e'):P.underlying tx=some (.slice e') ->Srcs P tx sz h (.slice none 0 c) []
 | str (s):sz=1 ->P.underlying tx=some .string ->Srcs P tx sz h (.string s) (byteCells s)
def kX (P:Program)(t:TypeId):Bool:=match eC P t with
 | some (e,_,_)=>match P.info? e with | some i=>decide (i.bytes<=24*i.size) && decide (i.bytes<=4096) | none=>false
 | none=>false
def ab9 (P:Program)(t tx:TypeId)(x y:Value)(h:Sh)(k:Value ->Sh ->Prop):Prop:=
 ∃ e sz z n ik,eC P t=some (e,sz,z)/\kX P t=true/\P.underlying tx=some (.int ik)/\x=.slice none 0 0/\y=.int .i64 ((n:Nat):Int)/\0<n/\n<=4294967296/\
  ∀ a c zs,zs.length=n*sz ->n<=c ->k (.slice a n c) {h with R:=(.slice a n c,e,sz,zs)::h.R}
def Pq (x:Value)(e:TypeId)(sz:Nat)(xs:List Value)(h:Sh)(L':List (Nat×List Value)):Prop:=
 (x=.slice none 0 0/\xs=[]/\L'=h.L)\/
 (∃ g n cap junk L1 L2,x=.slice (some ⟨g,0,none⟩) n cap/\h.N g=some e/\h.L=L1++(g,xs++junk)::L2/\L'=L1++L2/\xs.length=n*sz/\(xs++junk).length=cap*sz/\n<=cap)
def KD (P:Program)(t tx:TypeId)(x y:Value)(h:Sh)(k:Value ->Sh ->Prop):Prop:=ab9 P t tx x y h k\/
 ∃ e sz z news,eC P t=some (e,sz,z)/\kX P t=true/\Srcs P tx sz h y news/\
  ((∃ j xs,h.R[j]?=some (x,e,sz,xs)/\xs.length+news.length<=4398046511104/\∀ a m c,m*sz=xs.length+news.length ->k (.slice a m c) {h with R:=h.R.set j (.slice a m c,e,sz,xs++news)})\/
   (x=.slice none 0 0/\news.length<=4398046511104/\∀ a m c,m*sz=news.length ->k (.slice a m c) {h with R:=(.slice a m c,e,sz,news)::h.R})\/
   (∃ a n xs,x=.slice (some a) n n/\h.cells a 0 (n*sz)=some xs/\0<news.length/\xs.length+news.length<=4398046511104/\∀ a m c,m*sz=xs.length+news.length ->k (.slice a m c) {h with R:=(.slice a m c,e,sz,xs++news)::h.R})\/
   (∃ b o n c,x=.slice (some ⟨b,o,none⟩) n c/\n<=c/\news=[]/\k x h)\/
   (∃ a n xs,x=.slice (some a) n n/\h.cells a 0 (n*sz)=some xs/\0<news.length/\xs.length+news.length<=4398046511104/\∀ g m c junk,h.M g=none ->ce g h.L ->m*sz=xs.length+news.length ->m<=c ->(xs++news++junk).length=c*sz ->
    k (.slice (some ⟨g,0,none⟩) m c) {h with L:=(g,xs++news++junk)::h.L})\/
   (∃ xs L',Pq x e sz xs h L'/\Srcs P tx sz {h with L:=L'} y news/\0<news.length/\xs.length+news.length<=4398046511104/\∀ N' g m c junk,aH h.N N' ->N' g=some e ->h.M g=none ->ce g L' ->m*sz=xs.length+news.length ->m<=c ->(xs++news++junk).length=c*sz ->
    k (.slice (some ⟨g,0,none⟩) m c) {h with N:=N',L:=(g,xs++news++junk)::L'}))
def Ja (P:Program)(t:TypeId):Option IntKind:=match P.underlying t with
 | some (.map kt _)=>match P.underlying kt with | some (.int K)=>some K | _=>none
 | _=>none
def lq (K:IntKind)(n:Int):List Value ->Bool
 | .int k a::_::r=>decide (k=K) && !decide (a=n) && lq K n r
 | []=>true
 | _=>false
def sS (K:IntKind)(n:Int):List Value ->Option Value
 | .int k a::v::r=>if k=K then (if a=n then some v else sS K n r) else none
 | _=>none
def Fs (x y:Value):Option Value:=match x,y with
 | .int k a,.int k' b=>if k=k' then some (.int k (if b<a then b else a)) else none
 | _,_=>none
theorem Tg {P:Program}{x y v:Value}{w:World}(h:Fs x y=some v):(Builtin.min2 x y).run P w=.ok v w:=by
 unfold Fs at h
 split at h
 ·rename_i k a k' b
  split at h
  ·rename_i hk
   subst hk
   injection h with h
   subst h
   simp [Builtin.min2]
  ·cases h
 ·cases h
def Fp (x y:Value):Option Value:=match x,y with
 | .int k a,.int k' b=>if k=k' then some (.int k (if b>a then b else a)) else none
 | _,_=>none
theorem QA {P:Program}{x y v:Value}{w:World}(h:Fp x y=some v):(Builtin.max2 x y).run P w=.ok v w:=by
 unfold Fp at h
 split at h
 ·rename_i k a k' b
  split at h
  ·rename_i hk
   subst hk
   injection h with h
   subst h
   simp [Builtin.max2]
  ·cases h
 ·cases h
def xMk (l c:Value)(k:Nat ->Prop):Prop:=match l,c with
 | .int _ n,.int _ m=>n=m/\0<=n/\k n.toNat
 | _,_=>False
def Xi (K:Option IntKind)(m k x:Value)(h:Sh)(next:Sh ->Prop):Prop:=match K,k,h.R with
 | some K,.int K' n,(.map (some g),t',sz,xs)::rest=>(m=.map (some g)/\K'=K/\sz=0/\lq K n xs=true)/\next {h with R:=(.map (some g),t',sz,xs++[.int K' n,x])::rest}
 | _,_,_=>False
def Jq (K:Option IntKind)(m k:Value)(h:Sh)(next:Value ->Prop):Prop:=match K,k,h.R with
 | some K,.int K' n,(.map (some g),_,sz,xs)::_=>(m=.map (some g)/\K'=K/\sz=0)/\ed (sS K n xs) next
 | _,_,_=>False
theorem pM {K:IntKind}{n:Int}:∀ (es:List MapEntry) (xs:List Value) (i:Nat),es.flatMap (fun x=>[x.key,x.val])=xs ->lq K n xs=true ->Instr.findNow (.int K) (.int K n) es i=some none
 | [],xs,i,h,ha=>by simp [Instr.findNow]
 | e::es,xs,i,h,ha=>by
  subst h
  simp only [List.flatMap_cons,nn] at ha
  cases hk:e.key with
  | int k a=>
   rw [hk] at ha
   simp only [lq,Bool.and_eq_true,decide_eq_true_eq,Bool.not_eq_true',decide_eq_false_iff_not] at ha
   obtain ⟨⟨h1,h2⟩,h3⟩:=ha
   subst h1
   have cD:(n==a)=false:=by simp;exact fun h=>h2 h.symm
   simp only [Instr.findNow,hk,Instr.sameNow,if_true,cD]
   exact pM es _ _ rfl h3
  | _=>rw [hk] at ha;cases ha
theorem uZ {K:IntKind}{n:Int}{u:Value}:∀ (es:List MapEntry) (xs:List Value) (i:Nat),es.flatMap (fun x=>[x.key,x.val])=xs ->sS K n xs=some u ->∃ j,Instr.findNow (.int K) (.int K n) es i=some (some (j,u))
 | [],xs,i,h,ha=>by subst h;cases ha
 | e::es,xs,i,h,ha=>by
  subst h
  simp only [List.flatMap_cons,nn] at ha
  cases hk:e.key with
  | int k a=>
   rw [hk] at ha
   simp only [sS] at ha
   split at ha
   ·rename_i h1
    subst h1
    split at ha
    ·rename_i h2
     subst h2
     injection ha with ha
     exact ⟨i,by simp [Instr.findNow,hk,Instr.sameNow,ha]⟩
    ·rename_i h2
     have cD:(n==a)=false:=by simp;exact fun h=>h2 h.symm
     obtain ⟨j,hj⟩:=uZ es _ (i+1) rfl ha
     exact ⟨j,by simp only [Instr.findNow,hk,Instr.sameNow,if_true,cD];exact hj⟩
   ·cases ha
  | _=>rw [hk] at ha;cases ha
theorem yJ {P:Program}{t:TypeId}{K:IntKind}(h:Ja P t=some K):∃ kt et,P.underlying t=some (.map kt et)/\P.underlying kt=some (.int K):=by
 unfold Ja at h
 split at h
 ·rename_i kt et hu
  split at h
  ·rename_i K' hk
   injection h with h
   exact ⟨kt,et,hu,by rw [hk,h]⟩
  ·cases h
 ·cases h
theorem VR {P:Program}{t kt et:TypeId}{K:IntKind}{n:Int}{val:Value}{r:Nat}{w:World}{es:Array MapEntry}{clock:Nat}(hm:P.underlying t=some (.map kt et))(hk:P.underlying kt=some (.int K))(hb:w.heap[r]?=some (.map es clock))
 (hf:Instr.findNow (.int K) (.int K n) es.toList 0=some none):
 (Instr.mapUpdate t (.map (some r)) (.int K n) val).run P w=.ok () {w with heap:=w.heap.setIfInBounds r (.map (es.push {key:=.int K n,val:=val,born:=clock}) (clock+1))}:=by
 have hc:(Instr.checkKey false 10000 kt (.int K n)).run P w=.ok () w:=MapKept.run_checkKey (k:=.int K n) hk (by simp [MapKept.IsKey]) false 9999
 simp [Instr.mapUpdate,run_underlying hm,MapKept.run_getObj_map hb,hc,MapKept.run_findKey hk hf,MapKept.run_setObj_map _ hb,Result.andThen]
theorem Pe {P:Program}{t kt et:TypeId}{K:IntKind}{n:Int}{u:Value}{r j:Nat}{w:World}{es:Array MapEntry}{clock:Nat}(hm:P.underlying t=some (.map kt et))(hk:P.underlying kt=some (.int K))(hb:w.heap[r]?=some (.map es clock))
 (hf:Instr.findNow (.int K) (.int K n) es.toList 0=some (some (j,u))):
 (Instr.lookup t (.map (some r)) (.int K n) false).run P w=.ok u w:=by
 have hc:(Instr.checkKey es.isEmpty 10000 kt (.int K n)).run P w=.ok () w:=MapKept.run_checkKey (k:=.int K n) hk (by simp [MapKept.IsKey]) _ 9999
 simp [Instr.lookup,run_underlying hm,MapKept.run_getObj_map hb,hc,MapKept.run_findKey hk hf,Result.andThen]
def od:List (Nat×List Value) ->Nat ->Nat ->List Value ->Option (List (Nat×List Value))
 | [],_,_,_=>none
 | (b,cs)::l,k,i,vs=>if k=b then (if i+vs.length<=cs.length then some ((b,mC cs i vs)::l) else none) else (od l k i vs).map ((b,cs):: ·)
theorem G6 (b:Nat)(l:List (Nat×List Value))(vs:List Value):∀ (i:Nat) (cs:List Value),vr ((b,cs)::l) b i vs=(b,mC cs i vs)::l:=by
 induction vs with
 | nil=>intro i cs;rfl
 | cons v vs ih=>intro i cs;simp only [vr,rt,if_true,mC];exact ih _ _
theorem IB (b:Nat)(k:Nat)(hb:k≠b)(cs:List Value)(vs:List Value):∀ (i:Nat) (l:List (Nat×List Value)),vr ((b,cs)::l) k i vs=(b,cs)::vr l k i vs:=by
 induction vs with
 | nil=>intro i l;rfl
 | cons v vs ih=>intro i l;simp only [vr,rt,if_neg hb];exact ih _ _
theorem NM {k i:Nat}{vs:List Value}:∀ {L L':List (Nat×List Value)},od L k i vs=some L' ->L'=vr L k i vs/\∃ cs,(k,cs)∈L/\i+vs.length<=cs.length:=by
 intro L
 induction L with
 | nil=>intro L' h;cases h
 | cons p l ih=>
  obtain ⟨b,cs⟩:=p
  intro L' h
  unfold od at h
  split at h
  ·rename_i hk
   subst hk
   split at h
   ·rename_i hl
    injection h with h
    subst h
    exact ⟨(G6 _ _ _ _ _).symm,cs,by simp,hl⟩
   ·cases h
  ·rename_i hk
   obtain ⟨l',gG,rfl⟩:=Option.map_eq_some_iff.1 h
   obtain ⟨h1,cs',h2,h3⟩:=ih gG
   exact ⟨by rw [IB _ _ hk,h1],cs',p5 h2,h3⟩
def Km (v:Value):Bool:=match v with | .iface _ _=>true | _=>false
def JM (P:Program)(src t:TypeId)(x:Value)(h:Sh)(k:Value ->Sh ->Prop):Prop:=match Ti P src t with
 | 1=>(match x with
  | .string s=>∀ b c junk,h.M b=none ->ce b h.L ->k (.slice (some ⟨b,0,none⟩) s.size c) {h with M:=h.M.add b (s.data.toList.map (fun b=>Value.int .u8 b.toNat)++junk)}
  | _=>False)
 | 2=>(match x,h.L with
  | .slice (some ⟨b,0,none⟩) n c,(b',cs)::L=>b=b'/\(ce b L ->k x {h with M:=h.M.add b cs,L:=L})
  | _,_=>False)
 | _=>ed (o5 P h src t x) fun v=>k v h
def aa2 (P:Program)(t:TypeId)(x:Value)(h:Sh)(k:Value ->Sh ->Prop):Prop:=cP P t=true/\(match x with
 | .string s=>∀ g,k (.pointer (some ⟨g,0,none⟩)) {h with R:=(.pointer (some ⟨g,0,none⟩),t,0,[.string s,.int .i64 ((0:Nat):Int)])::h.R}
 | _=>False)
def KR (it:Value)(h:Sh)(k:Value ->Sh ->Prop):Prop:=match it,h.R with
 | .pointer (some ⟨g,0,none⟩),(.pointer (some ⟨g',0,none⟩),t,sz,[.string s,.int .i64 pos])::R=>(g=g'/\sz=0)/\
  (if pos.toNat<s.size then k (.tuple #[.bool true,.int .i64 pos,.int .i32 ((Utf8.decode s pos.toNat).1:Nat)]) {h with R:=(.pointer (some ⟨g,0,none⟩),t,0,[.string s,.int .i64 ((pos.toNat+(Utf8.decode s pos.toNat).2:Nat):Int)])::R}
   else k (.tuple #[.bool false]) h)
 | _,_=>False
theorem Hp.keepsBut {c N M L R w w' bs g}(hi:Hp c ⟨N,M,L,R⟩ w bs)(hgU:g∈c.U\/c.w0.heap.size<=g)(GH:M g=none)(EY:g∉L.map (·.1))(hgR:g∉bs.filterMap id)
 (k1:w'.os=w.os) (k2:w'.tape=w.tape) (k3:w'.output=w.output) (k4:w.heap.size<=w'.heap.size) (k5:∀ b,b≠g ->b<w.heap.size ->w'.heap[b]?=w.heap[b]?):Hp c ⟨N,M,L,R⟩ w' bs where
 typ:=fun b u hu=>by
  obtain ⟨aN,hc⟩:=hi.typ b u hu
  refine ⟨by omega,fun hb=> ?_⟩
  obtain ⟨cs',f,hc⟩:=hc hb
  exact ⟨cs',f,by rw [k5 b (by rintro rfl;exact EY hb) (fh hc)];exact hc⟩
 holds:=fun b x hb=>by
  have:=hi.holds.lt hb
  obtain ⟨t,f,ht⟩:=hi.holds _ _ hb
  exact ⟨t,f,by rw [k5 b (by rintro rfl;simp only [] at hb;rw [GH] at hb;cases hb) this];exact ht⟩
 blk:=fun b x hb=>by
  have h2:=hi.blk _ _ hb
  have hl:=h2.lt
  obtain ⟨t,ht⟩:=h2
  exact ⟨t,by rw [k5 b (by rintro rfl;exact EY (List.mem_map.2 ⟨_,hb,rfl⟩)) hl];exact ht⟩
 rows:=⟨hi.rows.1,fun i v e sz xs o h1 h2=>(hi.rows.2 i v e sz xs o h1 h2).keep fun q hq=>by
  subst hq
  refine k5 q ?_ (hi.rows.2 i v e sz xs _ h1 h2).lt
  rintro rfl
  exact hgR (List.mem_filterMap.2 ⟨some q,List.mem_of_getElem? h2,rfl⟩)⟩
 nodup:=hi.nodup
 apart:=hi.apart
 os:=k1.trans hi.os
 tape:=k2.trans hi.tape
 output:=k3.trans hi.output
 size:=Nat.le_trans hi.size k4
 old:=fun b hb hu=>by
  rw [k5 b (by rintro rfl;rcases hgU with h | h;exact hu h;omega) (Nat.lt_of_lt_of_le hb hi.size)];exact hi.old b hb hu
 mem:=hi.mem
 le:=hi.le
theorem Hp.addM {c N M L R w bs g cs t f}(hi:Hp c ⟨N,M,L,R⟩ w bs)(hg:w.heap[g]?=some (.cells cs t f))(hU:g∈c.U\/c.w0.heap.size<=g)(hM:M g=none)(hL:g∉L.map (·.1))(hR:g∉bs.filterMap id):Hp c ⟨N,M.add g cs.toList,L,R⟩ w bs where
 typ:=hi.typ
 holds:=fun b x hb=>by
  have iJ:aS.add M g cs.toList b=some x:=hb
  clear hb
  unfold aS.add at iJ
  split at iJ
  ·rename_i TU
   subst TU
   injection iJ with iJ;subst iJ
   exact ⟨t,f,by simpa using hg⟩
  ·exact hi.holds _ _ iJ
 blk:=hi.blk
 rows:=hi.rows
 nodup:=hi.nodup
 apart:=fun b hb=>by
  refine ⟨?_,(hi.apart b hb).2⟩
  show aS.add M g cs.toList b=none
  unfold aS.add
  rw [if_neg]
  ·exact (hi.apart b hb).1
  ·rintro rfl
   rcases qM hb with hb | hb
   ·exact hL hb
   ·exact hR hb
 os:=hi.os
 tape:=hi.tape
 output:=hi.output
 size:=hi.size
 old:=hi.old
 mem:=fun b hb hu=>by
  show aS.add M g cs.toList b=_
  unfold aS.add
  rw [if_neg]
  ·exact hi.mem b hb hu
  ·rintro rfl
   rcases hU with h | h
   ·exact hu h
   ·omega
 le:=fun b x hb=>by
  have h1:M b=some x:=hi.le b x hb
  show aS.add M g cs.toList b=some x
  unfold aS.add
  rw [if_neg]
  ·exact h1
  ·rintro rfl;rw [hM] at h1;cases h1
theorem ac4 {P:Program}{src t:TypeId}(h:Ti P src t=1):P.underlying src=some .string/\∃ el,P.underlying t=some (.slice el)/\P.underlying el=some (.int .u8):=by
 unfold Ti at h
 split at h
 ·rename_i e h1 h2
  split at h
  ·rename_i h3;exact ⟨h1,e,h2,h3⟩
  ·cases h
 ·split at h
  ·split at h<;>cases h
  ·cases h
 ·cases h
theorem abP {P:Program}{src t:TypeId}(h:Ti P src t=2):src=t/\∃ el,P.underlying t=some (.slice el)/\P.underlying el=some (.int .u8):=by
 unfold Ti at h
 split at h
 ·split at h<;>cases h
 ·rename_i e e' h1 h2
  split at h
  ·rename_i h3
   split at h
   ·rename_i h4
    subst h3
    exact ⟨rfl,e,h1,h4⟩
   ·cases h
  ·cases h
 ·cases h
theorem zJ {P:Program}{w:World}{g pos:Nat}{s:ByteArray}{ty:TypeId}(hg:w.heap[g]?=some (.stringIter s pos)):
 (Instr.next (.pointer (some ⟨g,0,none⟩)) true ty).run P w=if pos<s.size then .ok (.tuple #[.bool true,.int .i64 (pos:Int),.int .i32 ((Utf8.decode s pos).1:Nat)]) {w with heap:=w.heap.setIfInBounds g (.stringIter s (pos+(Utf8.decode s pos).2))} else .ok (.tuple #[.bool false]) w:=by
 by_cases hp:pos<s.size
 ·simp [Instr.next,getObj,setObj,Sem.run,hg,hp,Result.andThen,goInt]
 ·simp [Instr.next,getObj,Sem.run,hg,hp]
theorem Hp.grown {c h w bs w' cs t f}(hi:Hp c h w bs)(k1:w'.os=w.os)(k2:w'.tape=w.tape)(k3:w'.output=w.output)(k4:w'.heap.size=w.heap.size+1)(k5:∀ b,b<w.heap.size ->w'.heap[b]?=w.heap[b]?)(k6:w'.heap[w.heap.size]?=some (.cells cs t f)):
 Hp c {h with M:=h.M.add w.heap.size cs.toList} w' bs where
 typ:=fun b u hu=>by
  obtain ⟨aN,hc⟩:=hi.typ b u hu
  refine ⟨by omega,fun hb=> ?_⟩
  obtain ⟨cs',f,hc⟩:=hc hb
  exact ⟨cs',f,by rw [k5 b (fh hc)];exact hc⟩
 holds:=fun b x hb=>by
  have iJ:aS.add h.M w.heap.size cs.toList b=some x:=hb
  clear hb
  unfold aS.add at iJ
  split at iJ
  ·rename_i TU
   subst TU
   injection iJ with iJ;subst iJ
   exact ⟨t,f,by simpa using k6⟩
  ·have:=hi.holds.lt iJ
   obtain ⟨t,f,ht⟩:=hi.holds _ _ iJ
   exact ⟨t,f,by rw [k5 b this];exact ht⟩
 blk:=fun b x hb=>by
  have h2:=hi.blk _ _ hb
  have hl:=h2.lt
  obtain ⟨t,ht⟩:=h2
  exact ⟨t,by rw [k5 b hl];exact ht⟩
 rows:=⟨hi.rows.1,fun i v e sz xs o h1 h2=>(hi.rows.2 i v e sz xs o h1 h2).keep fun q hq=>by
  subst hq
  exact k5 q (hi.rows.2 i v e sz xs _ h1 h2).lt⟩
 nodup:=hi.nodup
 apart:=fun b hb=>by
  have h1:=hi.apart b hb
  have aN:=hi.own_lt hb
  refine ⟨?_,h1.2⟩
  show aS.add h.M w.heap.size cs.toList b=none
  unfold aS.add
  rw [if_neg (by omega)]
  exact h1.1
 os:=k1.trans hi.os
 tape:=k2.trans hi.tape
 output:=k3.trans hi.output
 size:=by have:=hi.size;omega
 old:=fun b hb hu=>by rw [k5 b (Nat.lt_of_lt_of_le hb hi.size)];exact hi.old b hb hu
 mem:=fun b hb hu=>by
  have:=hi.size
  show aS.add h.M w.heap.size cs.toList b=_
  unfold aS.add
  rw [if_neg (by omega)]
  exact hi.mem b hb hu
 le:=fun b x hb=>by
  have h1:=hi.le b x hb
  have h2:=hi.holds.lt h1
  show aS.add h.M w.heap.size cs.toList b=some x
  unfold aS.add
  rw [if_neg (by omega)]
  exact h1
def Gy (P:Program)(K:KontL)(o:Oper)(e:dj)(ds:List Deferred)(h:Sh)(next:Value ->List Deferred ->Sh ->Prop):Prop:=
 match o.op with
 | .box t x=>OI t (ev e x).cells.toList h fun b h'=>next (.pointer (some ⟨b,0,none⟩)) ds h'
 | .alloc t=>ed (tk P t) fun (_,_,z)=>OI t z.cells.toList h fun b h'=>next (.pointer (some ⟨b,0,none⟩)) ds h'
 | .buildSlice t n parts=>ed (eC P t) fun (_,sz,z)=>n*sz<=16777216/\
  ed (EM sz z n (parts.toList.map fun x=>(x.1,(ev e x.2).cells.toList))) fun cs=>DM cs h fun b h'=>next (.slice (some ⟨b,0,none⟩) n n) ds h'
 | .store t x y=>ed (tk P t) fun (_,n,_)=>zK (ev e x) fun a=>
  ((ev e y).cells.toList.length=n/\a.spot=none/\(ev e y).cells.toList.all (·.oneCell')=true)/\
  ed (od h.L a.block a.off (ev e y).cells.toList) fun L'=>next undef ds {h with L:=L'}
 | .call {callee:=.value f,args,..}=>YV (ev e f) fun g first cap=>
  P6 P g (first++args.toList.map (ev e)++cap) h (fun v h'=>next v ds h') (fun ch h'=>K.pan ch e ds h')
 | .call {callee:=.builtin .append,args,argTypes}=>match args.toList,argTypes.toList with
  | [x,y],[t,tx]=>KD P t tx (ev e x) (ev e y) h fun v h'=>next v ds h'
  | _,_=>False
 | .defer {callee:=.value f,args,..}=>match ev e f with
  | .func fn first captured=>next undef ({target:=.fn fn captured,args:=first++args.map (ev e)}::ds) h
  | _=>False
 | .binOp op t x y _=>match gZ P op t (ev e x) (ev e y) with
  | some v=>next v ds h
  | none=>ae7 P (do eqGuard op t x y (ev e x) (ev e y);binOp op t (ev e x) (ev e y)) h fun v=>next v ds h
 | .panic x=>Km (ev e x)=true/\K.pan [{v:=ev e x,recovered:=false}] e ds h
 | .call {callee:=.builtin .min,args,..}=>match args.toList with
  | [x,y]=>ed (Fs (ev e x) (ev e y)) fun v=>next v ds h
  | _=>False
 | .call {callee:=.builtin .max,args,..}=>match args.toList with
  | [x,y]=>ed (Fp (ev e x) (ev e y)) fun v=>next v ds h
  | _=>False
 | .makeSlice t l c=>ed (eC P t) fun (_,_,z)=>kX P t=true/\xMk (ev e l) (ev e c) fun n=>n<=4294967296/\
  DM ((List.range n).flatMap fun _=>z) h fun b h'=>next (.slice (some ⟨b,0,none⟩) n n) ds h'
 | .makeMap t none=>∀ g,next (.map (some g)) ds {h with R:=(.map (some g),t,0,[])::h.R}
 | .insert t m k x=>Xi (Ja P t) (ev e m) (ev e k) (ev e x) h fun h'=>next undef ds h'
 | .lookup t m k false=>Jq (Ja P t) (ev e m) (ev e k) h fun v=>next v ds h
 | .convert src t x=>JM P src t (ev e x) h fun v h'=>next v ds h'
 | .range t x=>aa2 P t (ev e x) h fun v h'=>next v ds h'
 | .next it true=>KR (ev e it) h fun v h'=>next v ds h'
 | op=>ed (pv P e h op) fun v=>next v ds h
def KontL.toK (K:KontL)(c:Ctx):Kont where
 nrm:=fun e ds w=>∃ h,Is c h w/\K.nrm e ds h
 exi:=fun i e ds w=>∃ h,Is c h w/\K.exi i e ds h
 ret:=fun e ds w=>∃ h,Is c h w/\K.ret e ds h
 pan:=fun ch e ds w=>∃ h,Is c h w/\K.pan ch e ds h
theorem Hp.addNil {c h w bs e sz}(hi:Hp c h w bs):Hp c {h with R:=(.slice none 0 0,e,sz,[])::h.R} w (none::bs) where
 typ:=hi.typ
 holds:=hi.holds
 blk:=hi.blk
 rows:=by
  refine ⟨by simp [hi.rows.1],?_⟩
  intro i v e sz xs o h1 h2
  cases i with
  | zero=>
   simp at h1 h2
   obtain ⟨rfl,rfl,rfl,rfl⟩:=h1
   subst h2
   exact .inl ⟨rfl,rfl,rfl⟩
  | succ i=>exact hi.rows.2 i v e sz xs o (by simpa using h1) (by simpa using h2)
 nodup:=hi.nodup
 apart:=hi.apart
 os:=hi.os
 tape:=hi.tape
 output:=hi.output
 size:=hi.size
 old:=hi.old
 mem:=hi.mem
 le:=hi.le
theorem Srcs.rows {P:Program}{tx sz h y news}(R':List (Value×TypeId×Nat×List Value))(hs:Srcs P tx sz h y news):Srcs P tx sz {h with R:=R'} y news:=by
 cases hs with
 | slice a n cc _ e' hu hc h1=>
  refine .slice a n cc _ e' hu ?_ h1
  have:∀ n i,Sh.cells {h with R:=R'} a i n=h.cells a i n:=by
   intro n
   induction n with
   | zero=>intro i;rfl
   | succ n ih=>intro i;unfold Sh.cells;rw [ih];rfl
  rw [this];exact hc
 | nil cc e' hu=>exact .nil cc e' hu
 | str s h1 hu=>exact .str s h1 hu
theorem Srcs.more {P:Program}{tx sz h y news el sz'}(hs:Srcs P tx sz h y news):Srcs P tx sz {h with R:=(Value.slice none 0 0,el,sz',[])::h.R} y news:=hs.rows _
theorem Srcs.src {P:Program}{tx sz h y news}(hs:Srcs P tx sz h y news){c w bs}(hi:Hp c h w bs):∃ m,Src P sz tx y m news w:=by
 cases hs with
 | slice a n cc _ e' hu hc h1=>
  obtain ⟨hl,hcc⟩:=iC _ _ _ (hi.cells _ _ _ hc)
  exact ⟨n,Src.ofSlice w hu a n cc news hl (fun j u hj=>by simpa using hcc j u hj) h1⟩
 | nil cc e' hu=>exact ⟨0,Src.ofNil w hu cc⟩
 | str s h1 hu=>subst h1;exact ⟨s.size,Src.ofString w hu s⟩
theorem vf {P:Program}{t tx ty:TypeId}{e sz z}{c h w bs j v xs o y news}(ht:eC P t=some (e,sz,z))(cq:kX P t=true)(hs:Srcs P tx sz h y news)
 (hi:Hp c h w bs) (hj:h.R[j]?=some (v,e,sz,xs)) (ho:bs[j]?=some o) (hb:xs.length+news.length<=4398046511104):
 ∃ v' w' bs',(Builtin.append_ #[t,tx] ty #[v,y]).run P w=.ok v' w'/\Hp c {h with R:=h.R.set j (v',e,sz,xs++news)} w' bs'/\∀ g n k,v'=.slice (some ⟨g,0,none⟩) n k ->o=some g\/w.heap.size<=g:=by
 obtain ⟨m,yM⟩:=hs.src hi
 have EO:∃ i,P.info? e=some i/\i.bytes<=24*i.size/\i.bytes<=4096:=by
  unfold kX at cq
  rw [ht] at cq
  simp only [] at cq
  split at cq
  ·rename_i i GJ;exact ⟨i,GJ,by simpa using cq⟩
  ·cases cq
 obtain ⟨i,GJ,EO,hbz⟩:=EO
 obtain ⟨ie,zv,hu,CF,hz,ej,dG,uz,Dk⟩:=jo ht
 rw [GJ] at CF
 injection CF with CF
 subst CF
 obtain ⟨v',w',o',hr,bP,hg,hn⟩:=H8 (P:=P) (t:=t) (tx:=tx) (ty:=ty) (hi.rows.2 j v e sz xs o hj ho) hu GJ hz ej Dk dG yM hb EO
 refine ⟨v',w',_,hr,hi.append hj ho bP hg hn,fun g n k hv=> ?_⟩
 subst hv
 rcases bP with ⟨h,_⟩ | ⟨g',n',cap,junk,h,_,_,_,_,ho'⟩ | ⟨h0,_⟩ | ⟨h0,_⟩
 ·cases h
 ·cases h
  rcases hn with hn | ⟨g2,h2,Ol⟩
  ·exact .inl (by rw [<- hn,ho'])
  ·rw [ho'] at h2;cases h2;exact .inr Ol
 ·omega
 ·omega
theorem xf {P:Program}{t tx ty:TypeId}{e sz z}{c h w bs j v xs o y news}(ht:eC P t=some (e,sz,z))(cq:kX P t=true)(hs:Srcs P tx sz h y news)
 (hi:Hp c h w bs) (hj:h.R[j]?=some (v,e,sz,xs)) (ho:bs[j]?=some o) (hb:xs.length+news.length<=4398046511104):
 ∃ v' w' bs',(Builtin.append_ #[t,tx] ty #[v,y]).run P w=.ok v' w'/\Hp c {h with R:=h.R.set j (v',e,sz,xs++news)} w' bs':=by
 obtain ⟨v',w',bs',hr,hh,_⟩:=vf (ty:=ty) ht cq hs hi hj ho hb
 exact ⟨v',w',bs',hr,hh⟩
theorem zg.form {w:World}{v:Value}{e:TypeId}{sz:Nat}{xs:List Value}{o:Option Nat}(h:zg w v e sz xs o)(ej:0<sz):∃ a m c,v=.slice a m c/\m*sz=xs.length:=by
 rcases h with ⟨rfl,rfl,_⟩ | ⟨g,n,cap,junk,rfl,_,hn,_⟩ | ⟨h0,_⟩ | ⟨h0,_⟩
 ·exact ⟨none,0,0,rfl,by simp⟩
 ·exact ⟨_,n,cap,rfl,hn.symm⟩
 ·omega
 ·omega
theorem Hp.form {c:Ctx}{h:Sh}{w:World}{bs:List (Option Nat)}{j:Nat}{v:Value}{e:TypeId}{sz:Nat}{xs:List Value}(hi:Hp c h w bs)(hj:h.R[j]?=some (v,e,sz,xs))(ej:0<sz):∃ a m c,v=.slice a m c/\m*sz=xs.length:=by
 have aN:j<bs.length:=by rw [<- hi.rows.1];exact (List.getElem?_eq_some_iff.1 hj).1
 exact (hi.rows.2 j v e sz xs _ hj (gq aN)).form ej
theorem uo {P:Program}(w:World)(t tx ty e:TypeId)(i:TypeInfo)(z:Value)(ik:IntKind)(ht:P.underlying t=some (.slice e))(hi:P.info? e=some i)(hz:i.zero=some z)(hk:P.underlying tx=some (.int ik))(n:Nat)
 (h0:0<n) (h1:n<=4294967296) (dG:0<i.size) (EO:i.bytes<=4096):
 (Builtin.append_ #[t,tx] ty #[.slice none 0 0,.int .i64 (n:Int)]).run P w=
  .ok (.slice (some ⟨w.heap.size,0,none⟩) n (grownCap w n 0 e))
   (w.drew.alloc (.cells (Builtin.zeroCells z.cells n++Builtin.zeroCells z.cells (grownCap w n 0 e - n)) e)):=by
 have hw:IntKind.i64.wrap (n:Int)=(n:Int):=wrap_small n (by omega) (by omega)
 have hn0:¬ (n<=0):=by omega
 have lJ:=nextslicecap_le (need:=n) (old:=0) h0
 have h48:Builtin.nextslicecap n 0*i.bytes<=281474976710656:=by
  calc Builtin.nextslicecap n 0*i.bytes<=(2*n)*4096:=Nat.mul_le_mul lJ EO
   _<=281474976710656:=by omega
 have ag9:¬ (281474976710656<Builtin.nextslicecap n 0*i.bytes):=by omega
 have aiZ:¬ (281474976710656<(n:Int)*(i.bytes:Int)):=by
  have:n*i.bytes<=n*4096:=Nat.mul_le_mul_left _ EO
  have h3:((n*i.bytes:Nat):Int)=(n:Int)*(i.bytes:Int):=by push_cast;rfl
  omega
 have ahK:¬ (9223372036854775807<(n:Int)):=by omega
 have hnz:¬ (n*i.size=0):=by
  have:=Nat.mul_pos h0 dG
  omega
 have ae0:¬ ((n:Int)<0):=by omega
 simp [Builtin.append_,run_underlying ht,run_underlying hk,Go.sizeOf,typeInfo,zeroValue,hi,hz,asIntOf,run_firstCells_none,hw,ahK,ag9,aiZ,hnz,ae0,Question.forced,newRow,grownCap,asInt]
 omega
theorem B9 {P:Program}{t tx ty:TypeId}{e sz z ik}{c h w bs n}(ht:eC P t=some (e,sz,z))(cq:kX P t=true)(hk:P.underlying tx=some (.int ik))
 (hi:Hp c h w bs) (h0:0<n) (h1:n<=4294967296):
 ∃ v' w' bs' zs cap,(Builtin.append_ #[t,tx] ty #[.slice none 0 0,.int .i64 ((n:Nat):Int)]).run P w=.ok v' w'/\zs.length=n*sz/\n<=cap/\(∃ a,v'=.slice a n cap)/\Hp c {h with R:=(v',e,sz,zs)::h.R} w' bs':=by
 have EO:∃ i,P.info? e=some i/\i.bytes<=24*i.size/\i.bytes<=4096:=by
  unfold kX at cq
  rw [ht] at cq
  simp only [] at cq
  split at cq
  ·rename_i i GJ;exact ⟨i,GJ,by simpa using cq⟩
  ·cases cq
 obtain ⟨i,GJ,EO,hbz⟩:=EO
 obtain ⟨ie,zv,hu,CF,hz,ej,Mb,uz,Dk⟩:=jo ht
 rw [GJ] at CF
 injection CF with CF
 subst CF
 subst ej
 have xB:=uo (P:=P) w t tx ty e i zv ik hu GJ hz hk n h0 h1 Mb hbz
 have uz:(Builtin.zeroCells zv.cells n).toList.length=n*i.size:=by rw [Array.length_toList,size_zeroCells,Dk]
 have bP:zg (w.drew.alloc (.cells (Builtin.zeroCells zv.cells n++Builtin.zeroCells zv.cells (grownCap w n 0 e - n)) e)) (.slice (some ⟨w.heap.size,0,none⟩) n (grownCap w n 0 e)) e i.size (Builtin.zeroCells zv.cells n).toList (some w.heap.size):=by
  have Ol:n<=grownCap w n 0 e:=grownCap_ge w n 0 e
  refine .inr (.inl ⟨w.heap.size,n,_,(Builtin.zeroCells zv.cells (grownCap w n 0 e - n)).toList,rfl,?_,uz,?_,Ol,rfl⟩)
  ·have:=@eZ w.drew (.cells (Builtin.zeroCells zv.cells n++Builtin.zeroCells zv.cells (grownCap w n 0 e - n)) e)
   rw [show w.drew.heap.size=w.heap.size from rfl] at this
   rw [this]
   congr 2
   apply Array.toList_inj.1
   simp
  ·rw [List.length_append,uz,Array.length_toList,size_zeroCells,Dk,<- Nat.add_mul]
   congr 1
   omega
 have rU:=hi.addNil (e:=e) (sz:=i.size)
 have vj:w.grownBy (w.drew.alloc (.cells (Builtin.zeroCells zv.cells n++Builtin.zeroCells zv.cells (grownCap w n 0 e - n)) e)) none:=⟨rfl,rfl,rfl,by simp,fun k hk _=>ci (w:=w.drew) hk⟩
 have:=rU.append (j:=0) (o:=none) rfl rfl bP vj (.inr ⟨_,rfl,Nat.le_refl _⟩)
 exact ⟨_,_,_,_,_,xB,uz,grownCap_ge w n 0 e,⟨_,rfl⟩,this⟩
theorem yq {P:Program}{t tx ty:TypeId}{e sz z}{c h w bs b o n cap y}(ht:eC P t=some (e,sz,z))(hs:Srcs P tx sz h y [])
 (hi:Hp c h w bs) (dJ:n<=cap):(Builtin.append_ #[t,tx] ty #[.slice (some ⟨b,o,none⟩) n cap,y]).run P w=.ok (.slice (some ⟨b,o,none⟩) n cap) w:=by
 obtain ⟨m,yM⟩:=hs.src hi
 obtain ⟨i,zv,hu,GJ,hz,rfl,dG,uz,Dk⟩:=jo ht
 have hm:0=m*i.size:=yM.newsLen
 obtain rfl:m=0:=by
  rcases Nat.mul_eq_zero.1 hm.symm with h | h
  ·exact h
  ·omega
 have:=run_append_room_src (P:=P) w t tx ty e i hu GJ b o n cap y 0 [] yM (by omega) (fun j hj=>by simp at hj) (fun j hj=>by simp at hj)
 simpa [World.setCells] using this
theorem uI {P:Program}{t tx ty:TypeId}{e sz z}{c h w bs a n xs y news}(ht:eC P t=some (e,sz,z))(cq:kX P t=true)(hs:Srcs P tx sz h y news)
 (hi:Hp c h w bs) (hx:h.cells a 0 (n*sz)=some xs) (dG:0<news.length) (hb:xs.length+news.length<=4398046511104):
 ∃ v' w' bs',(Builtin.append_ #[t,tx] ty #[.slice (some a) n n,y]).run P w=.ok v' w'/\Hp c {h with R:=(v',e,sz,xs++news)::h.R} w' bs'/\∃ m k,v'=.slice (some ⟨w.heap.size,0,none⟩) m k:=by
 obtain ⟨m,yM⟩:=hs.src hi
 have EO:∃ i,P.info? e=some i/\i.bytes<=24*i.size/\i.bytes<=4096:=by
  unfold kX at cq
  rw [ht] at cq
  simp only [] at cq
  split at cq
  ·rename_i i GJ;exact ⟨i,GJ,by simpa using cq⟩
  ·cases cq
 obtain ⟨i,GJ,EO,hbz⟩:=EO
 obtain ⟨ie,zv,hu,CF,hz,ej,Mb,uz,Dk⟩:=jo ht
 rw [GJ] at CF
 injection CF with CF
 subst CF
 subst ej
 obtain ⟨hl,hcc⟩:=iC _ _ _ (hi.cells _ _ _ hx)
 have hm:news.length=m*i.size:=yM.newsLen
 have hm0:0<m:=by
  rcases Nat.eq_zero_or_pos m with h0 | h0
  ·rw [h0] at hm;omega
  ·exact h0
 have Dq:n+m<=4398046511104:=by
  have h1:(n+m)*1<=(n+m)*i.size:=Nat.mul_le_mul_left _ Mb
  have h2:(n+m)*i.size=n*i.size+m*i.size:=Nat.add_mul ..
  omega
 have hg:n<n+m:=by omega
 have lJ:=nextslicecap_le hg
 have aag:=run_firstCells_some (P:=P) w.drew i.size n a n n xs hl (fun j u hj=>by rw [World.cell?_drew];simpa using hcc j u hj)
 have xB:=run_append_grow_src (P:=P) w t tx ty e i _ hu GJ hz (some a) n n xs aag y m news yM hg (by omega) (by
  have h2:(n+m)*i.size=n*i.size+m*i.size:=Nat.add_mul ..
  calc Builtin.nextslicecap (n+m) n*i.bytes<=(2*(n+m))*(24*i.size):=Nat.mul_le_mul lJ EO
   _=48*((n+m)*i.size):=by rw [Nat.mul_comm 2,Nat.mul_assoc,<- Nat.mul_assoc 2 24,Nat.mul_left_comm]
   _<=281474976710656:=by omega)
 have bP:zg (w.drew.alloc (.cells ((xs++news).toArray++Builtin.zeroCells zv.cells (grownCap w (n+m) n e - (n+m))) e)) (.slice (some ⟨w.heap.size,0,none⟩) (n+m) (grownCap w (n+m) n e)) e i.size (xs++news) (some w.heap.size):=by
  refine .inr (.inl ⟨w.heap.size,n+m,_,(Builtin.zeroCells zv.cells (grownCap w (n+m) n e - (n+m))).toList,rfl,?_,?_,?_,grownCap_ge _ _ _ _,rfl⟩)
  ·have:=@eZ w.drew (.cells ((xs++news).toArray++Builtin.zeroCells zv.cells (grownCap w (n+m) n e - (n+m))) e)
   rw [show w.drew.heap.size=w.heap.size from rfl] at this
   rw [this]
   congr 2
   apply Array.toList_inj.1
   simp
  ·rw [List.length_append,hl,hm,Nat.add_mul]
  ·have Ol:=grownCap_ge w (n+m) n e
   rw [List.length_append,List.length_append,hl,hm,Array.length_toList,size_zeroCells,Dk,<- Nat.add_mul,<- Nat.add_mul]
   congr 1
   omega
 have rU:=hi.addNil (e:=e) (sz:=i.size)
 have vj:w.grownBy (w.drew.alloc (.cells ((xs++news).toArray++Builtin.zeroCells zv.cells (grownCap w (n+m) n e - (n+m))) e)) none:=⟨rfl,rfl,rfl,by simp,fun k hk _=>ci (w:=w.drew) hk⟩
 have:=rU.append (j:=0) (o:=none) rfl rfl bP vj (.inr ⟨_,rfl,Nat.le_refl _⟩)
 exact ⟨_,_,_,xB,this,_,_,rfl⟩
theorem Hp.unrow {c N M L v e sz xs R w bs}(hi:Hp c ⟨N,M,L,(v,e,sz,xs)::R⟩ w bs)(ej:0<sz)(cD:0<xs.length)(p4:∀ g n k,v=.slice (some ⟨g,0,none⟩) n k ->N g=none\/N g=some e):
 ∃ g n cap junk bs',v=.slice (some ⟨g,0,none⟩) n cap/\M g=none/\ce g L/\n*sz=xs.length/\n<=cap/\(xs++junk).length=cap*sz/\w.heap[g]?=some (.cells (xs++junk).toArray e (0,0))/\Hp c ⟨N,M,(g,xs++junk)::L,R⟩ w bs':=by
 obtain ⟨bw,bP⟩:=hi.rows
 cases bs with
 | nil=>simp at bw
 | cons o bs=>
  have hr:=bP 0 v e sz xs o rfl rfl
  rcases hr with ⟨rfl,rfl,rfl⟩ | ⟨g,n,cap,junk,rfl,hg,hn,hc,dJ,rfl⟩ | ⟨h0,_⟩ | ⟨h0,_⟩
  ·simp at cD
  ·have lH:=hi.nodup
   rw [List.filterMap_cons] at lH
   simp only [id] at lH
   have GH:=(hi.apart g (by simp)).1
   have EH:(L.map (·.1)++g::bs.filterMap id).Perm (g::(L.map (·.1)++bs.filterMap id)):=List.perm_middle
   have Vl:=EH.nodup_iff.1 lH
   have EY:g∉L.map (·.1):=fun h=>(List.nodup_cons.1 Vl).1 (vZ (.inl h))
   refine ⟨g,n,cap,junk,bs,rfl,GH,iA EY,hn.symm,dJ,hc,hg,?_⟩
   exact
   {typ:=fun b u hu=>⟨(hi.typ b u hu).1,fun hb=>by
     rcases rP hb with hb | hb
     ·have h0:=p4 g n cap rfl
      rw [show b=g from hb] at hu
      rw [show N g=some u from hu] at h0
      rcases h0 with h0 | h0
      ·cases h0
      ·cases h0;exact ⟨_,_,by rw [show b=g from hb];exact hg⟩
     ·exact (hi.typ b u hu).2 hb⟩
    holds:=hi.holds
    blk:=fun b cs hb=>by
     rcases rP hb with hb | hb
     ·injection hb with h1 h2;subst h1 h2;exact ⟨e,hg⟩
     ·exact hi.blk b cs hb
    rows:=⟨by simpa using bw,fun i v e sz xs o h1 h2=>bP (i+1) v e sz xs o (by simpa using h1) (by simpa using h2)⟩
    nodup:=by simpa using Vl
    apart:=fun b hb=>hi.apart b (by
     simp only [List.map_cons,List.cons_append,List.mem_cons,List.mem_append] at hb
     simp only [List.filterMap_cons,id,List.mem_append,List.mem_cons]
     rcases hb with hb | hb | hb
     ·exact .inr (.inl hb)
     ·exact .inl hb
     ·exact .inr (.inr hb))
    os:=hi.os
    tape:=hi.tape
    output:=hi.output
    size:=hi.size
    old:=hi.old
    mem:=hi.mem
    le:=hi.le}
  ·omega
  ·omega
theorem Hp.perm {c N M L L' R w bs}(hi:Hp c ⟨N,M,L,R⟩ w bs)(hp:L.Perm L'):Hp c ⟨N,M,L',R⟩ w bs:=
 {typ:=fun b u hu=>⟨(hi.typ b u hu).1,fun hb=>(hi.typ b u hu).2 ((hp.map _).mem_iff.2 hb)⟩
  holds:=hi.holds
  blk:=fun b cs hb=>hi.blk b cs (hp.mem_iff.2 hb)
  rows:=hi.rows
  nodup:=by
   have h1:(L.map (·.1)++bs.filterMap id).Perm (L'.map (·.1)++bs.filterMap id):=(hp.map _).append_right _
   exact h1.nodup_iff.1 hi.nodup
  apart:=fun b hb=>hi.apart b (by
   simp only [List.mem_append] at hb ⊢
   rcases hb with hb | hb
   ·exact .inl ((hp.map _).mem_iff.2 hb)
   ·exact .inr hb)
  os:=hi.os
  tape:=hi.tape
  output:=hi.output
  size:=hi.size
  old:=hi.old
  mem:=hi.mem
  le:=hi.le}
theorem Hp.rerow {c N M L R w bs g xs junk e sz n cap}(hi:Hp c ⟨N,M,(g,xs++junk)::L,R⟩ w bs)(hN:N g=some e)(hn:xs.length=n*sz)(hc:(xs++junk).length=cap*sz)(dJ:n<=cap):
 Hp c ⟨N,M,L,(.slice (some ⟨g,0,none⟩) n cap,e,sz,xs)::R⟩ w (some g::bs):=by
 have EH:(L.map (·.1)++g::bs.filterMap id).Perm (g::(L.map (·.1)++bs.filterMap id)):=List.perm_middle
 exact
 {typ:=fun b u hu=>⟨(hi.typ b u hu).1,fun hb=>(hi.typ b u hu).2 (p5 hb)⟩
  holds:=hi.holds
  blk:=fun b cs hb=>hi.blk b cs (p5 hb)
  rows:=⟨by simpa using hi.rows.1,fun i v e' sz' xs' o h1 h2=>by
   cases i with
   | succ i=>exact hi.rows.2 i v e' sz' xs' o (by simpa using h1) (by simpa using h2)
   | zero=>
    simp only [List.getElem?_cons_zero,Option.some.injEq,Prod.mk.injEq] at h1 h2
    obtain ⟨rfl,rfl,rfl,rfl⟩:=h1
    subst h2
    obtain ⟨t,ht⟩:=hi.blk g (xs++junk) (by simp)
    obtain ⟨cs,f,GG⟩:=(hi.typ g e hN).2 (by simp)
    rw [ht] at GG
    cases GG
    exact .inr (.inl ⟨g,n,cap,junk,rfl,ht,hn,hc,dJ,rfl⟩)⟩
  nodup:=by
   have:=EH.nodup_iff.2 (by simpa using hi.nodup)
   simpa [List.filterMap_cons] using this
  apart:=fun b hb=>hi.apart b (by
   simp only [List.filterMap_cons,id,List.mem_append,List.mem_cons] at hb
   simp only [List.map_cons,List.cons_append,List.mem_cons,List.mem_append]
   rcases hb with hb | hb | hb
   ·exact .inr (.inl hb)
   ·exact .inl hb
   ·exact .inr (.inr hb))
  os:=hi.os
  tape:=hi.tape
  output:=hi.output
  size:=hi.size
  old:=hi.old
  mem:=hi.mem
  le:=hi.le}
theorem Hp.retold {c N M L R w bs g cs e f}(hi:Hp c ⟨N,M,L,R⟩ w bs)(hg:w.heap[g]?=some (.cells cs e f)):Hp c ⟨N.add g e,M,L,R⟩ w bs:=
 hi.retyp fun b t hb=>by
  unfold Tm.add at hb
  split at hb
  ·rename_i h;subst h;cases hb;exact ⟨(Array.getElem?_eq_some_iff.1 hg).1,fun _=>⟨_,_,hg⟩⟩
  ·exact hi.typ b t hb
theorem G8 {P:Program}{t tx ty:TypeId}{e sz z}{c N M L R w bs x y xs L' news}(ht:eC P t=some (e,sz,z))(cq:kX P t=true)(HN:0<sz)
 (hi:Hp c ⟨N,M,L,R⟩ w bs) (I2:Pq x e sz xs ⟨N,M,L,R⟩ L') (hs:Srcs P tx sz ⟨N,M,L',R⟩ y news) (dG:0<news.length) (hb:xs.length+news.length<=4398046511104):
 ∃ w' bs' N' g m cap junk,(Builtin.append_ #[t,tx] ty #[x,y]).run P w=.ok (.slice (some ⟨g,0,none⟩) m cap) w'/\aH N N'/\N' g=some e/\M g=none/\ce g L'/\m*sz=xs.length+news.length/\m<=cap/\(xs++news++junk).length=cap*sz/\Hp c ⟨N',M,(g,xs++news++junk)::L',R⟩ w' bs':=by
 have key:∀ (o:Option Nat) bs0,Hp c ⟨N,M,L',(x,e,sz,xs)::R⟩ w (o::bs0) ->(∀ g,o=some g ->N g=some e) ->
  ∃ w' bs' N' g m cap junk,(Builtin.append_ #[t,tx] ty #[x,y]).run P w=.ok (.slice (some ⟨g,0,none⟩) m cap) w'/\aH N N'/\N' g=some e/\M g=none/\ce g L'/\m*sz=xs.length+news.length/\m<=cap/\(xs++news++junk).length=cap*sz/\Hp c ⟨N',M,(g,xs++news++junk)::L',R⟩ w' bs':=by
  intro o bs0 rU hoN
  obtain ⟨v',w',bs',hr,hh,p4⟩:=vf (ty:=ty) ht cq (hs.rows ((x,e,sz,xs)::R)) rU (j:=0) rfl rfl hb
  have kN:∀ g n k,v'=.slice (some ⟨g,0,none⟩) n k ->N g=none\/N g=some e:=by
   intro g n k hv
   rcases p4 g n k hv with h | h
   ·exact .inr (hoN g h)
   ·left
    cases hN:N g with
    | none=>rfl
    | some u=>have:=(rU.typ g u hN).1;omega
  obtain ⟨g,m,cap,junk,bs2,rfl,GH,EY,hm,dJ,hc,hg,hh2⟩:=Hp.unrow hh HN (by rw [List.length_append];omega) kN
  refine ⟨w',bs2,N.add g e,g,m,cap,junk,hr,?_,by simp [Tm.add],GH,EY,by rw [hm,List.length_append],dJ,hc,hh2.retold hg⟩
  intro b u hu
  unfold Tm.add
  split
  ·rename_i h
   subst h
   rcases kN _ _ _ rfl with h | h
   ·rw [h] at hu;cases hu
   ·rw [<- hu,h]
  ·exact hu
 rcases I2 with ⟨rfl,rfl,rfl⟩ | ⟨g,n,cap,junk,L1,L2,rfl,hN,hL,rfl,hn,hc,dJ⟩
 ·exact key none bs hi.addNil (fun g h=>by cases h)
 ·simp only at hL hN
  subst hL
  exact key (some g) bs ((hi.perm List.perm_middle).rerow hN hn hc dJ) (fun g' h=>by cases h;exact hN)
theorem xn {P:Program}{K:KontL}{o:Oper}{e:dj}{ds:List Deferred}{h:Sh}{next:Value ->List Deferred ->Sh ->Prop}
 (hv:Gy P K o e ds h next) {c:Ctx} {w:World} (hw:Is c h w):
 upon P (K.toK c) e ds (fun v ds w'=>∃ h',Is c h' w'/\next v ds h') ((execOp (ev e) o).run P w):=by
 have val:∀ {v:Value},((execOp (ev e) o).run P w=.ok (.value v) w) ->next v ds h ->upon P (K.toK c) e ds (fun v ds w'=>∃ h',Is c h' w'/\next v ds h') ((execOp (ev e) o).run P w):=by
  intro v hr hn
  rw [hr]
  exact ⟨h,hw,hn⟩
 unfold Gy at hv
 split at hv
 ·rename_i t x ef
  obtain ⟨bs,hi⟩:=hw
  have jQ:=hi.alloc (t:=t) (ev e x).cells.toList
  simp only [Array.toArray_toList] at jQ
  simp only [execOp,ef,Instr.box,newVar,newRow]
  have fX:=(List.nodup_cons.1 jQ.wf.1).1
  have hn:=hv w.heap.size (h.N.add w.heap.size t) (jQ.wf.2 _ (by simp)) (iA fX) hi.extT (by simp [Tm.add])
  simpa [upon] using ⟨_,⟨bs,jQ⟩,hn⟩
 ·rename_i t ef
  obtain ⟨⟨g,n,z⟩,tu,hv⟩:=cJ hv
  obtain ⟨i,d,Dd,hd,hz,hg,hn⟩:=lU tu
  obtain ⟨bs,hi⟩:=hw
  have jQ:=hi.alloc (t:=t) z.cells.toList
  simp only [Array.toArray_toList] at jQ
  simp only [execOp,ef,Instr.alloc,newVar,newRow]
  have fX:=(List.nodup_cons.1 jQ.wf.1).1
  have hn:=hv w.heap.size (h.N.add w.heap.size t) (jQ.wf.2 _ (by simp)) (iA fX) hi.extT (by simp [Tm.add])
  simpa [upon,zeroValue,typeInfo,Dd,hz] using ⟨_,⟨bs,jQ⟩,hn⟩
 ·rename_i t n parts ef
  obtain ⟨⟨el,sz,z⟩,ht,hb,hv⟩:=cJ hv
  obtain ⟨cs,iE,hv⟩:=cJ hv
  obtain ⟨bs,hi⟩:=hw
  have jQ:=hi.alloc (t:=el) cs
  have hr:=xx (P:=P) (parts:=parts.toList.map fun x=>(x.1,ev e x.2)) ht hb (by rw [List.map_map];exact iE) w
  have hp:(parts.toList.map fun x=>(x.1,ev e x.2)).toArray=parts.map fun (i,x)=>(i,ev e x):=by
   apply Array.toList_inj.1
   simp
  rw [hp] at hr
  simp only [execOp,ef]
  rw [Sem.run_bind,hr]
  have fX:=(List.nodup_cons.1 jQ.wf.1).1
  have hn:=hv w.heap.size (jQ.wf.2 _ (by simp)) (iA fX)
  have jQ:=jQ.untype (N':=h.N) hi.extT
  exact ⟨_,⟨bs,jQ⟩,hn⟩
 ·rename_i t x y ef
  obtain ⟨⟨g,n,z⟩,tu,hv⟩:=cJ hv
  obtain ⟨a,ha,⟨bw,Dh,h1⟩,hv⟩:=pq hv
  obtain ⟨L',hL,hv⟩:=cJ hv
  obtain ⟨rfl,cs,hm,dJ⟩:=NM hL
  obtain ⟨bs,hi⟩:=hw
  refine A6 (K:=K.toK c) (o:=o) ?_
  unfold vOp;rw [ef];simp only []
  rw [tu,ha]
  simp only [ed,zK,P2]
  refine ⟨bw,Dh,List.all_eq_true.1 h1,?_,_,⟨bs,hi.storeN _ _ (List.mem_map.2 ⟨_,hm,rfl⟩)⟩,hv⟩
  intro j hj
  obtain ⟨t',ht'⟩:=hi.blk _ _ hm
  have hj2:a.off+j<cs.length:=by omega
  refine ⟨by simp [World.cell?,ht',hj2],by simp [World.frozen?,ht']⟩
 ·rename_i f args _ ef
  obtain ⟨g,first,cap,hf,hb,hv⟩:=Jw hv
  refine A6 (K:=K.toK c) (o:=o) ?_
  unfold vOp;rw [ef];simp only []
  rw [hf]
  simp only [YV,Yv]
  exact ⟨hb,hv c w hw⟩
 ·rename_i args argTypes ef
  split at hv
  ·rename_i x y t tx hx ht
   have mM:args= #[x,y]:=by apply Array.toList_inj.1;simpa using hx
   have Je:argTypes= #[t,tx]:=by apply Array.toList_inj.1;simpa using ht
   subst mM Je
   obtain ⟨bs,hi⟩:=hw
   have fin:∀ {v' w' h' bs'},(Builtin.append_ #[t,tx] o.type #[ev e x,ev e y]).run P w=.ok v' w' ->Hp c h' w' bs' ->next v' ds h' ->
    upon P (K.toK c) e ds (fun v ds w'=>∃ h',Is c h' w'/\next v ds h') ((execOp (ev e) o).run P w):=by
    intro v' w' h' bs' hr hh hn
    simp only [execOp,ef,resolve,invoke,builtin,Sem.run_bind,Sem.run_pure,Result.andThen_ok]
    have:(#[x,y].map (ev e))= #[ev e x,ev e y]:=by apply Array.toList_inj.1;simp
    rw [this,hr]
    exact ⟨h',⟨bs',hh⟩,hn⟩
   rcases hv with ⟨el,sz,z,n,ik,HD,cq,hk,zr,hy0,h0,h1,hv⟩ | ⟨el,sz,z,news,HD,cq,hs,hv⟩
   ·obtain ⟨v',w',bs',zs,cap,hr,uz,Ol,⟨a,rfl⟩,hh⟩:=B9 (ty:=o.type) HD cq hk hi h0 h1
    rw [<- zr,<- hy0] at hr
    exact fin hr hh (hv a cap zs uz Ol)
   have HN:0<sz:=by obtain ⟨_,_,_,_,_,_,h,_⟩:=jo HD;exact h
   rcases hv with ⟨j,xs,hj,hb,hv⟩ | ⟨tf,hb,hv⟩ | ⟨a,n,xs,hx,iE,dG,hb,hv⟩ | ⟨b,o',n,cc,hx,dJ,tf,hv⟩ | ⟨a,n,xs,hx,iE,dG,hb,hv⟩ | ⟨xs,L',I2,lZ,dG,hb,hv⟩
   ·have X2:j<bs.length:=by rw [<- hi.rows.1];exact (List.getElem?_eq_some_iff.1 hj).1
    obtain ⟨v',w',bs',hr,hh⟩:=xf (ty:=o.type) HD cq hs hi hj (gq X2) hb
    have I5:j<h.R.length:=(List.getElem?_eq_some_iff.1 hj).1
    obtain ⟨a,m,c,rfl,hm⟩:=hh.form (j:=j) (by show (h.R.set j _)[j]?=_;rw [List.getElem?_set_self I5]) HN
    exact fin hr hh (hv a m c (by rw [hm,List.length_append]))
   ·have rU:=hi.addNil (e:=el) (sz:=sz)
    have Dm:=hs.more (el:=el) (sz':=sz)
    obtain ⟨v',w',bs',hr,hh⟩:=xf (ty:=o.type) HD cq Dm rU (j:=0) rfl rfl (by simpa using hb)
    rw [<- tf] at hr
    obtain ⟨a,m,c,rfl,hm⟩:=hh.form (j:=0) rfl HN
    exact fin hr hh (hv a m c (by simpa using hm))
   ·obtain ⟨v',w',bs',hr,hh,_⟩:=uI (ty:=o.type) HD cq hs hi iE dG hb
    rw [<- hx] at hr
    obtain ⟨a',m,c,rfl,hm⟩:=hh.form (j:=0) rfl HN
    exact fin hr hh (hv a' m c (by rw [hm,List.length_append]))
   ·subst tf
    have hr:=yq (ty:=o.type) HD hs hi (b:=b) (o:=o') dJ
    rw [<- hx] at hr
    exact fin hr hi hv
   ·obtain ⟨v',w',bs',hr,hh,m0,k0,wA⟩:=uI (ty:=o.type) HD cq hs hi iE dG hb
    rw [<- hx] at hr
    obtain ⟨g,m,cap,junk,bs2,rfl,GH,EY,hm,dJ,hc,_,hh2⟩:=hh.unrow HN (by rw [List.length_append];omega) (fun g n k hg=> .inl<| by
     rw [wA] at hg
     injection hg with hg
     injection hg with hg
     injection hg with hg
     show h.N g=none
     cases hN:h.N g with
     | none=>rfl
     | some u=>have:=(hi.typ g u hN).1;omega)
    exact fin hr hh2 (hv g m cap junk GH EY (by rw [hm,List.length_append]) dJ hc)
   ·obtain ⟨w',bs',N',g,m,cap,junk,hr,Lb,hg,GH,EY,hm,dJ,hc,hh⟩:=G8 (ty:=o.type) HD cq HN hi I2 lZ dG hb
    exact fin hr hh (hv N' g m cap junk Lb hg GH EY hm dJ hc)
  ·exact hv.elim
 ·rename_i f args _ ef
  split at hv
  ·rename_i fn first captured hf
   simp only [execOp,ef,resolve,Deferred.ofValue,hf]
   exact ⟨h,hw,hv⟩
  ·exact hv.elim
 ·rename_i op t x y _ ef
  have gen:∀ v,((do eqGuard op t x y (ev e x) (ev e y);binOp op t (ev e x) (ev e y):Sem Value).run P w=.ok v w) ->next v ds h ->upon P (K.toK c) e ds (fun v ds w'=>∃ h',Is c h' w'/\next v ds h') ((execOp (ev e) o).run P w):=by
   intro v hr hn
   refine val ?_ hn
   simp only [execOp,ef]
   rw [Sem.run_bind,hr]
   rfl
  split at hv
  ·rename_i v kL
   exact gen v (Eu kL w) hv
  ·obtain ⟨v,hr,hn⟩:=hv
   exact gen v (hr c w hw) hn
 ·rename_i x ef
  obtain ⟨hif,hv⟩:=hv
  unfold Km at hif
  split at hif
  ·rename_i t u hx
   rw [hx] at hv
   simp only [execOp,ef,hx]
   exact ⟨h,hw,hv⟩
  ·cases hif
 ·rename_i args _ ef
  split at hv
  ·rename_i x y hx
   have mM:args= #[x,y]:=by apply Array.toList_inj.1;simpa using hx
   subst mM
   obtain ⟨v,kL,hv⟩:=cJ hv
   refine val ?_ hv
   simp only [execOp,ef,resolve,invoke,builtin,Sem.run_bind,Sem.run_pure,Result.andThen_ok]
   have:(#[x,y].map (ev e))= #[ev e x,ev e y]:=by apply Array.toList_inj.1;simp
   rw [this]
   simp [Builtin.min_,Tg kL,Result.andThen]
  ·exact hv.elim
 ·rename_i args _ ef
  split at hv
  ·rename_i x y hx
   have mM:args= #[x,y]:=by apply Array.toList_inj.1;simpa using hx
   subst mM
   obtain ⟨v,kL,hv⟩:=cJ hv
   refine val ?_ hv
   simp only [execOp,ef,resolve,invoke,builtin,Sem.run_bind,Sem.run_pure,Result.andThen_ok]
   have:(#[x,y].map (ev e))= #[ev e x,ev e y]:=by apply Array.toList_inj.1;simp
   rw [this]
   simp [Builtin.max_,QA kL,Result.andThen]
  ·exact hv.elim
 ·rename_i t l cc ef
  obtain ⟨⟨el,sz,z⟩,ht,cq,hv⟩:=cJ hv
  unfold xMk at hv
  split at hv
  ·rename_i kl n kc m hl hc
   obtain ⟨rfl,h0,hb,hv⟩:=hv
   obtain ⟨i,zv,hu,CF,hz,ej,dG,uz,Dk⟩:=jo ht
   obtain ⟨bs,hi⟩:=hw
   have EO:(i.bytes:Int)<=4096:=by
    unfold kX at cq
    rw [ht] at cq
    simp only [CF,Bool.and_eq_true,decide_eq_true_eq] at cq
    omega
   have Zh:n<=4294967296:=by omega
   have h48:(i.bytes:Int)*n<=281474976710656:=by
    calc (i.bytes:Int)*n<=4096*n:=Int.mul_le_mul_of_nonneg_right EO h0
     _<=281474976710656:=by omega
   have hr:=run_make (P:=P) w t el i zv hu CF hz kl kc n n h0 (Int.le_refl _) h48 (by omega)
   have adH:madeCells zv.cells (n.toNat*i.size)=((List.range n.toNat).flatMap fun _=>z).toArray:=by
    have:=EP zv.cells (by omega) n.toNat
    rw [Dk,uz] at this
    unfold madeCells
    rw [ej,Dk];exact this
   rw [adH] at hr
   have jQ:=hi.alloc (t:=el) ((List.range n.toNat).flatMap fun _=>z)
   simp only [execOp,ef,hl,hc]
   rw [Sem.run_bind,hr]
   have fX:=(List.nodup_cons.1 jQ.wf.1).1
   have hn:=hv w.heap.size (jQ.wf.2 _ (by simp)) (iA fX)
   have jQ:=jQ.untype (N':=h.N) hi.extT
   exact ⟨_,⟨bs,jQ⟩,hn⟩
  ·exact hv.elim
 ·rename_i t ef
  obtain ⟨bs,hi⟩:=hw
  simp only [execOp,ef]
  exact ⟨_,⟨_,hi.allocMap (t:=t)⟩,hv w.heap.size⟩
 ·rename_i t m k x ef
  obtain ⟨bs,hi⟩:=hw
  unfold Xi at hv
  split at hv
  ·rename_i K K' n g t' sz xs rest hK hk hR
   obtain ⟨⟨hvm,hKK,ej,TO⟩,hv⟩:=hv
   subst hKK ej
   obtain ⟨kt,et,hm,hkt⟩:=yJ hK
   obtain ⟨o,bs',rfl⟩:∃ o bs',bs=o::bs':=by
    have h1:=hi.rows.1
    rw [hR] at h1
    cases bs with
    | nil=>simp at h1
    | cons o bs'=>exact ⟨o,bs',rfl⟩
   have bP:=hi.rows.2 0 _ _ _ _ o (by rw [hR];rfl) rfl
   rcases bP with ⟨hx,_⟩ | ⟨_,_,_,_,hx,_⟩ | ⟨_,g',es,clock,hx,hb,Ad,rfl⟩ | ⟨_,_,_,_,hx,_⟩
   ·cases hx
   ·cases hx
   rotate_left
   ·cases hx
   injection hx with hx;injection hx with hx;subst hx
   have xB:=VR (val:=ev e x) (n:=n) hm hkt hb (pM _ _ 0 Ad TO)
   simp only [execOp,ef,hvm,hk]
   rw [Sem.run_bind,xB]
   have aN:=fh hb
   have zz:zg {w with heap:=w.heap.setIfInBounds g (.map (es.push {key:=.int K' n,val:=ev e x,born:=clock}) (clock+1))} (.map (some g)) t' 0 (xs++[.int K' n,ev e x]) (some g):=
    .inr (.inr (.inl ⟨rfl,g,_,_,rfl,by show (w.heap.setIfInBounds g _)[g]?=_;rw [Array.getElem?_setIfInBounds_self_of_lt aN],by rw [<- Ad];simp,rfl⟩))
   have vj:w.grownBy {w with heap:=w.heap.setIfInBounds g (.map (es.push {key:=.int K' n,val:=ev e x,born:=clock}) (clock+1))} (some g):=
    ⟨rfl,rfl,rfl,by simp,fun k hk cD=>by
     show (w.heap.setIfInBounds g _)[k]?=_
     rw [Array.getElem?_setIfInBounds_ne (by rintro rfl;exact cD rfl)]⟩
   have h2:=hi.append (j:=0) (o:=some g) (by rw [hR];rfl) rfl zz vj (.inl rfl)
   rw [hR] at h2
   exact ⟨_,⟨_,h2⟩,hv⟩
  ·exact hv.elim
 ·rename_i t m k ef
  unfold Jq at hv
  split at hv
  ·rename_i K K' n g t' sz xs rest hK hk hR
   obtain ⟨⟨hvm,hKK,ej⟩,hv⟩:=hv
   obtain ⟨u,hu,oN⟩:=cJ hv
   subst hKK ej
   obtain ⟨kt,et,hm,hkt⟩:=yJ hK
   obtain ⟨bs,hi⟩:=hw
   obtain ⟨o,bs',rfl⟩:∃ o bs',bs=o::bs':=by
    have h1:=hi.rows.1
    rw [hR] at h1
    cases bs with
    | nil=>simp at h1
    | cons o bs'=>exact ⟨o,bs',rfl⟩
   have bP:=hi.rows.2 0 _ _ _ _ o (by rw [hR];rfl) rfl
   rcases bP with ⟨hx,_⟩ | ⟨_,_,_,_,hx,_⟩ | ⟨_,g',es,clock,hx,hb,Ad,rfl⟩ | ⟨_,_,_,_,hx,_⟩
   ·cases hx
   ·cases hx
   rotate_left
   ·cases hx
   injection hx with hx;injection hx with hx;subst hx
   obtain ⟨j,hj⟩:=uZ _ _ 0 Ad hu
   refine val ?_ oN
   simp only [execOp,ef,hvm,hk]
   rw [Sem.run_bind,Pe hm hkt hb hj]
   rfl
  ·exact hv.elim
 ·rename_i src t x ef
  unfold JM at hv
  split at hv
  ·rename_i hk
   split at hv
   ·rename_i s hx
    obtain ⟨hs,el,hd,he⟩:=ac4 hk
    obtain ⟨bs,hi⟩:=hw
    have hr:=Lib.run_convert_string_bytes (P:=P) w src t el s hs hd he
    simp only [execOp,ef,hx]
    rw [Sem.run_bind,hr]
    have jQ:=hi.grown (w':=Lib.bytesWorld w el s) (by simp [Lib.bytesWorld,World.freeze]<;>rfl) (by simp [Lib.bytesWorld,World.freeze]<;>rfl) (by simp [Lib.bytesWorld,World.freeze]<;>rfl) (Lib.bytesWorld_size w el s) (Lib.bytesWorld_at_old w el s) (Lib.bytesWorld_at_new w el s)
    have hnM:h.M w.heap.size=none:=by
     cases hm:h.M w.heap.size with
     | none=>rfl
     | some x=>have:=hi.holds.lt hm;omega
    have fX:ce w.heap.size h.L:=iA fun hm=>by have:=hi.own_lt (vZ (.inl hm));omega
    have iE:(Lib.bytesCells w el s).toList=s.data.toList.map (fun b=>Value.int .u8 b.toNat)++(Array.replicate (grownCap w s.size 0 el - s.size) (Value.int .u8 0)).toList:=by simp [Lib.bytesCells]
    rw [iE] at jQ
    exact ⟨_,⟨bs,jQ⟩,hv _ _ _ hnM fX⟩
   ·exact hv.elim
  ·rename_i hk
   split at hv
   ·rename_i b n cc b' cs L hx hL
    obtain ⟨rfl,hv⟩:=hv
    obtain ⟨rfl,el,hd,he⟩:=abP hk
    obtain ⟨bs,hi⟩:=hw
    obtain ⟨t',hb⟩:=hi.blk b cs (by rw [hL];simp)
    have fX:=hi.apart b (by rw [hL];simp)
    have lH:=hi.nodup
    rw [hL] at lH
    simp only [List.map_cons,List.cons_append,List.nodup_cons,List.mem_append,not_or] at lH
    have jQ:=hi.drop hL
    have YW:w.shape? b=some (t',cs.length):=by simp [World.shape?,hb]
    have xB:(convert src src (.slice (some ⟨b,0,none⟩) n cc)).run P w=.ok (.slice (some ⟨b,0,none⟩) n cc) (w.freeze ⟨b,cs.length,none⟩ 1):=by
     simp [convert,run_underlying hd,run_underlying he,markStringish,YW]
    have TI:∀ k,(w.freeze ⟨b,cs.length,none⟩ 1).heap[k]?=if k=b then some (.cells cs.toArray t' (cs.length,cs.length+1)) else w.heap[k]?:=by
     intro k
     have aN:=fh hb
     unfold World.freeze
     rw [if_neg (by decide)]
     show (w.heap.modify b _)[k]?=_
     rw [Array.getElem?_modify]
     by_cases TU:k=b
     ·subst TU
      rw [if_pos rfl,if_pos rfl,hb]
      rfl
     ·rw [if_neg (Ne.symm TU),if_neg TU]
    simp only [execOp,ef,hx]
    rw [Sem.run_bind,xB]
    have Nr:=jQ.keepsBut (w':=w.freeze ⟨b,cs.length,none⟩ 1) fX.2 fX.1 lH.1.1 lH.1.2 rfl rfl rfl (by simp [World.freeze]) (fun k hk _=>by rw [TI,if_neg hk])
    have hi4:=Nr.addM (by rw [TI,if_pos rfl]) fX.2 fX.1 lH.1.1 lH.1.2
    rw [<- hx]
    exact ⟨_,⟨bs,hi4⟩,hv (iA lH.1.1)⟩
   ·exact hv.elim
  ·obtain ⟨v,kL,hv⟩:=cJ hv
   exact val (sG (o:=o) (by rw [ef];exact kL) hw) hv
 ·rename_i t x ef
  obtain ⟨ht,hv⟩:=hv
  split at hv
  ·rename_i s hx
   unfold cP at ht
   split at ht
   ·rename_i hu
    obtain ⟨bs,hi⟩:=hw
    have hr:=run_range_string (P:=P) w t s hu
    simp only [execOp,ef,hx]
    rw [Sem.run_bind,hr]
    exact ⟨_,⟨_,hi.allocIter (t:=t) s⟩,hv w.heap.size⟩
   ·cases ht
  ·exact hv.elim
 ·rename_i it ef
  unfold KR at hv
  split at hv
  ·rename_i g g' t sz s pos R hx hR
   obtain ⟨⟨rfl,rfl⟩,hv⟩:=hv
   obtain ⟨bs,hi⟩:=hw
   obtain ⟨q,bs',rfl⟩:∃ q bs',bs=q::bs':=by
    have h1:=hi.rows.1
    rw [hR] at h1
    cases bs with
    | nil=>simp at h1
    | cons q bs'=>exact ⟨q,bs',rfl⟩
   have bP:=hi.rows.2 0 _ _ _ _ q (by rw [hR];rfl) rfl
   rcases bP with ⟨hx,_⟩ | ⟨_,_,_,_,hx,_⟩ | ⟨_,_,_,_,hx,_⟩ | ⟨_,g',s',pos',wu,hb,Ad,rfl⟩
   ·cases hx
   ·cases hx
   ·cases hx
   injection wu with wu;injection wu with wu;injection wu with wu;subst wu
   injection Ad with e1 e2
   injection e1 with e1;subst e1
   injection e2 with e2
   injection e2 with _ e2;subst e2
   have xB:=zJ (P:=P) (ty:=o.type) hb
   simp only [Int.toNat_natCast] at hv
   simp only [execOp,ef,hx]
   rw [Sem.run_bind,xB]
   split
   ·rename_i aN
    rw [if_pos aN] at hv
    have Jt:=fh hb
    have zz:zg {w with heap:=w.heap.setIfInBounds g (.stringIter s (pos'+(Utf8.decode s pos').2))} (.pointer (some ⟨g,0,none⟩)) t 0 [.string s,.int .i64 ((pos'+(Utf8.decode s pos').2:Nat):Int)] (some g):=
     .inr (.inr (.inr ⟨rfl,g,s,_,rfl,by show (w.heap.setIfInBounds g _)[g]?=_;rw [Array.getElem?_setIfInBounds_self_of_lt Jt],rfl,rfl⟩))
    have vj:w.grownBy {w with heap:=w.heap.setIfInBounds g (.stringIter s (pos'+(Utf8.decode s pos').2))} (some g):=
     ⟨rfl,rfl,rfl,by simp,fun k hk cD=>by
      show (w.heap.setIfInBounds g _)[k]?=_
      rw [Array.getElem?_setIfInBounds_ne (by rintro rfl;exact cD rfl)]⟩
    have h2:=hi.append (j:=0) (o:=some g) (by rw [hR];rfl) rfl zz vj (.inl rfl)
    rw [hR] at h2
    exact ⟨_,⟨_,h2⟩,hv⟩
   ·rename_i aN
    rw [if_neg aN] at hv
    exact ⟨_,⟨_,hi⟩,hv⟩
  ·exact hv.elim
 ·obtain ⟨v,kL,hv⟩:=cJ hv
  exact val (sG kL hw) hv
section
variable {P:Program} {ops:Array Oper} {Q:Exit ->Act ->World ->Prop} {md:Region.Mode} {S:(World ->Prop) ->Prop} {T:Nat ->Bool}
def j7 (P:Program)(md:Region.Mode)(ops:Array Oper)(Q:Exit ->Act ->World ->Prop)(S:(World ->Prop) ->Prop)(T:Nat ->Bool):Nat ->Array Bool ->Act ->World ->Prop
 | 0,listed,a,w=>Region.ready md ops listed=[]/\Q .normal a w
 | fuel+1,listed,a,w=>
  (Region.ready md ops listed=[] ->Q .normal a w)/\
  ∀ i∈Region.ready md ops listed,wpOp P ops Q i (fun a' w'=>(T i=false ->∀ R,S R ->R w ->R w')/\j7 P md ops Q S T fuel (listed.setIfInBounds i true) a' w') a w
theorem yR:∀ (fuel:Nat) (listed:Array Bool) (a:Act) (w:World),j7 P md ops Q S T fuel listed a w ->wpAny P md ops Q fuel listed a w
 | 0,_,_,_,h=>h
 | fuel+1,_,_,_,h=>⟨h.1,fun i hi=>wpOp_mono (fun a' w' h'=>yR fuel _ a' w' h'.2) (h.2 i hi)⟩
theorem rI {S S':(World ->Prop) ->Prop}(h:∀ R,S R ->S' R):∀ (fuel:Nat) (listed:Array Bool) (a:Act) (w:World),j7 P md ops Q S' T fuel listed a w ->j7 P md ops Q S T fuel listed a w
 | 0,_,_,_,hw=>hw
 | fuel+1,_,_,_,hw=>⟨hw.1,fun i hi=>wpOp_mono (fun a' w' h'=>⟨fun ht R hR=>h'.1 ht R (h R hR),rI h fuel _ a' w' h'.2⟩) (hw.2 i hi)⟩
def Cld (md:Region.Mode)(ops:Array Oper)(listed:Array Bool):Prop:=∀ k ok,ops[k]?=some ok ->listed.getD k false=true ->∀ e∈ok.after,Region.binds md e=true ->listed.getD e.on false=true
theorem ri {l:Array Bool}{j k:Nat}(h:l.getD k false=true):(l.setIfInBounds j true).getD k false=true:=by
 by_cases TR:j=k
 ·subst TR
  rcases Nat.lt_or_ge j l.size with h' | h'
  ·simp [h']
  ·simp [Array.getElem?_eq_none h'] at h
 ·rw [getD_set_ne false TR];exact h
theorem Cld.set {listed:Array Bool}{j:Nat}(h:Cld md ops listed)(hj:j∈Region.ready md ops listed):Cld md ops (listed.setIfInBounds j true):=by
 intro k ok hk hl e he hb
 by_cases TR:j=k
 ·subst TR
  obtain ⟨_,oj,MO,jM⟩:=mem_ready.1 hj
  rw [hk] at MO;injection MO with MO;subst MO
  exact ri (jM e he hb)
 ·rw [getD_set_ne false TR] at hl
  exact ri (h k ok hk hl e he hb)
theorem sk {S':World ->Prop}{i:Nat}{oi:Oper}{v:Value}(hi:ops[i]?=some oi)(oQ:∀ (j:Nat) (o:Oper) cs b,ops[j]?=some o ->o.op≠ .select cs b)
 (hT:(∀ w,S' w)\/(S S'/\∀ j oj,ops[j]?=some oj ->j≠i ->T j=true ->∃ e∈oj.after,Region.binds md e=true/\(e.on=i\/∃ o2,ops[e.on]?=some o2/\∃ e2∈o2.after,Region.binds md e2=true/\e2.on=i)))
 (hQ:∀ c a w,Q (.panic c) (a.put oi.dst v) w ->Q (.panic c) a w):
 ∀ (fuel:Nat) (listed:Array Bool) (a:Act) (w:World),Cld md ops listed ->
  (∀ j oj,ops[j]?=some oj ->j≠i ->listed.getD j true=false ->(∀ e∈oj.after,Region.binds md e=true ->e.on≠i) ->oi.apart ops oj=true) ->
  i∈Region.ready md ops listed ->YieldsIf P ops S' oi v a ->S' w ->
  j7 P md ops Q S T fuel (listed.setIfInBounds i true) (a.put oi.dst v) w ->j7 P md ops Q S T (fuel+1) listed a w:=by
 intro fuel
 induction fuel with
 | zero=>
  intro listed a w _ _ hr hy hS H
  refine ⟨fun h=>(by rw [h] at hr;cases hr),fun j hj=> ?_⟩
  by_cases Bx:j=i
  ·subst Bx;exact hy.wpOp hi hS ⟨fun _ _ _ h=>h,H⟩
  ·have:=ready_mono hj Bx
   rw [H.1] at this
   cases this
 | succ fuel ih=>
  intro listed a w cO Yr hr hy hS H
  refine ⟨fun h=>(by rw [h] at hr;cases hr),fun j hj=> ?_⟩
  by_cases Bx:j=i
  ·subst Bx;exact hy.wpOp hi hS ⟨fun _ _ _ h=>h,H⟩
  ·have h1:=H.2 j (ready_mono hj Bx)
   obtain ⟨acp,oj,MO,jM⟩:=mem_ready.1 hj
   have ada:∀ e∈oj.after,Region.binds md e=true ->e.on≠i:=fun e he hb heq=>by
    have h1:=jM e he hb
    have h0:=(mem_ready.1 hr).1
    rw [heq] at h1
    rcases Nat.lt_or_ge i listed.size with h' | h'
    ·simp [h'] at h0 h1;rw [h0] at h1;cases h1
    ·simp [Array.getElem?_eq_none h'] at h1
   have h2:=wpOp_putIf MO (Yr j oj MO Bx acp ada) (fun cs b=>oQ i oi cs b hi) (fun cs b=>oQ j oj cs b MO) hQ hy h1
   have Y1:∀ k ok,ops[k]?=some ok ->k≠i ->(listed.setIfInBounds j true).getD k true=false ->
    (∀ e∈ok.after,Region.binds md e=true ->e.on≠i) ->oi.apart ops ok=true:=fun k ok hk hki hun bi=>by
    refine Yr k ok hk hki ?_ bi
    by_cases TR:j=k
    ·subst TR;exact acp
    ·rw [getD_set_ne true TR] at hun;exact hun
   refine wpOp_mono (fun a' w' h3=>⟨h3.2.1,?_⟩) h2
   -- the world behind j meets S'
   have hTj:(∀ w,S' w)\/(S S'/\T j=false):=by
    rcases hT with h | ⟨h,hT⟩
    ·exact .inl h
    ·refine .inr ⟨h,?_⟩
     cases hTj:T j with
     | false=>rfl
     | true=>
      obtain ⟨e,he,hb,ZN⟩:=hT j oj MO Bx hTj
      rcases ZN with ZN | ⟨o2,ho2,e2,nF,ey,ZN⟩
      ·exact absurd ZN (ada e he hb)
      ·have h1:=cO e.on o2 ho2 (jM e he hb) e2 nF ey
       have h0:=(mem_ready.1 hr).1
       rw [ZN] at h1
       rcases Nat.lt_or_ge i listed.size with h' | h'
       ·simp [h'] at h0 h1;rw [h0] at h1;cases h1
       ·simp [Array.getElem?_eq_none h'] at h1
   have dU:S' w':=by
    rcases hTj with h | ⟨h,hf⟩
    ·exact h w'
    ·exact h3.2.1 hf S' h hS
   refine ih (listed.setIfInBounds j true) a' w' (cO.set hj) Y1 (ready_mono hr (Ne.symm Bx)) h3.1 dU ?_
   rw [Array.setIfInBounds_comm _ _ Bx]
   exact h3.2.2
end
inductive Sched where
 | done
 | no
 | take (i:Nat) (s:Sched)
 | eff (i:Nat) (t:Bool) (s alt:Sched)
 | effN (i:Nat) (t:Bool) (s alt:Sched)
def tS (P:Program)(ops:List Oper)(k:Nat):Bool:=match ops[k]? with | some o=>Ob P o.op | none=>false
def eV (P:Program)(ops:List Oper)(j:Nat):Bool:=
 match ops[j]? with
 | none=>false
 | some oj=>(List.range ops.length).all fun k=>k==j || !(tS P ops k) || oj.after.any (fun e=>Region.binds .any e && (e.on==k || (match ops[e.on]? with | some o2=>o2.after.any (fun e2=>Region.binds .any e2 && e2.on==k) | none=>false)))
def tG (P:Program)(ops:List Oper):Nat ->Option (List Nat) ->Array Bool ->Bool ->Sched ->Bool
 | _,none,l,_,.done=>Region.ready .any ops.toArray l==[]
 | f+1,none,l,tl,.take i s=>(Region.ready .any ops.toArray l).contains i && Region.free .any ops.toArray l i && (!(tS P ops i) || !tl) && tG P ops f none (l.setIfInBounds i true) tl s
 | f+1,none,l,tl,.eff i t s alt=>match Region.ready .any ops.toArray l with
  | []=>false
  | j::r=>j==i && (!t || eV P ops i) && (t || !tl) && tG P ops f none (l.setIfInBounds i true) (tl || t) s && tG P ops f (some r) l tl alt
 | f+1,none,l,tl,.effN i t s alt=>match Region.ready .any ops.toArray l with
  | []=>false
  | j::r=>j==i && (!t || eV P ops i) && (t || !tl) && tG P ops f none (l.setIfInBounds i true) (tl || t) s && tG P ops f (some r) l tl alt
 | f,some (j::r),l,tl,.effN i t s alt=>j==i && (!t || eV P ops i) && (t || !tl) && tG P ops f none (l.setIfInBounds i true) (tl || t) s && tG P ops f (some r) l tl alt
 | f,some (j::r),l,tl,.eff i t s alt=>j==i && (!t || eV P ops i) && (t || !tl) && tG P ops f none (l.setIfInBounds i true) (tl || t) s && tG P ops f (some r) l tl alt
 | _,some [],_,_,.no=>true
 | _,_,_,_,_=>false
def okD (P:Program)(ops:List Oper)(s:Sched):Bool:=Region.noSelect ops.toArray && tG P ops ops.length none (Array.replicate ops.length false) false s
def Yh (P:Program)(K:KontL)(ops:List Oper)(o:Oper)(e:dj)(ds:List Deferred)(h:Sh)(next:Value ->List Deferred ->Sh ->Prop):Prop:=
 if want ops e o.guard=true then Gy P K o e ds h next else next undef ds h
def vS (P:Program)(ops:List Oper)(K:KontL):Sh ->Sched ->dj ->List Deferred ->Sh ->Prop
 | _,.done,e,ds,h=>K.nrm e ds h
 | _,.no,_,_,_=>True
 | h0,.take i s,e,ds,h=>ed ops[i]? fun o=>if want ops e o.guard=true then ed (pv P e h0 o.op) fun v=>vS P ops K h0 s (cB e o.dst v) ds h else vS P ops K h0 s (cB e o.dst undef) ds h
 | h0,.eff i t s alt,e,ds,h=>(ed ops[i]? fun o=>Yh P K ops o e ds h fun v ds h'=>(t=false ->fZ h0 h')/\vS P ops K h0 s (cB e o.dst v) ds h')/\vS P ops K h0 alt e ds h
 | h0,.effN i t s alt,e,ds,h=>(ed ops[i]? fun o=>Yh P K ops o e ds h fun v ds h'=>∃ h1,fZ h0 h1/\(t=false ->fZ h1 h')/\vS P ops K h1 s (cB e o.dst v) ds h')/\vS P ops K h0 alt e ds h
def yf (pan:List PanicEntry ->dj ->List Deferred ->Sh ->Prop)(ops:List Oper):Prop:=
 ∀ o∈ops,∀ d,o.dst=some d ->∀ ch e v ds h,pan ch (upd e d v) ds h ->pan ch e ds h
def KontL.toQ (c:Ctx)(n:Nat)(K:KontL):Exit ->Act ->World ->Prop
 | .normal,a,w=>∃ e ds h,Fr n a e ds/\Is c h w/\K.nrm e ds h
 | .exit id,a,w=>∃ e ds h,Fr n a e ds/\Is c h w/\K.exi id e ds h
 | .ret,a,w=>∃ e ds h,Fr n a e ds/\Is c h w/\K.ret e ds h
 | .panic ch,a,w=>∃ e ds h,Fr n a e ds/\Is c h w/\K.pan ch e ds h
 | .goto _,_,_=>False
 | .outgrown,_,_=>False
theorem Qb {n:Nat}{ops:List Oper}(qG:vk n ops=true){i:Nat}{o:Oper}(hi:ops[i]?=some o):∀ k,o.dst=some k ->k<n:=by
 intro k hk
 have:=List.all_eq_true.1 qG o (List.mem_of_getElem? hi)
 simpa [hk] using this
theorem K4 {P:Program}{n:Nat}{c:Ctx}{ops:List Oper}(qG:vk n ops=true){K:KontL}{i:Nat}{o:Oper}(hi:ops[i]?=some o)
 {e:dj} {ds:List Deferred} {h:Sh} {w:World} {a:Act} {next:Value ->List Deferred ->Sh ->Prop}
 (ha:Fr n a e ds) (hw:Is c h w) (hv:Yh P K ops o e ds h next):
 wpOp P ops.toArray (K.toQ c n) i (fun a' w'=>∃ v ds' h',Fr n a' (cB e o.dst v) ds'/\Is c h' w'/\next v ds' h') a w:=by
 have hd:=Qb qG hi
 unfold wpOp
 simp only [List.getElem?_toArray,hi]
 rw [pF ha ops qG]
 unfold Yh at hv
 by_cases Ly:want ops e o.guard=true
 ·rw [if_pos Ly] at hv ⊢
  refine .inl ?_
  unfold Oper.wp
  have he:a.eval=ev e:=funext ha.eval
  rw [he]
  have hv:=xn hv hw
  generalize (execOp (ev e) o).run P w=res at hv ⊢
  unfold Oper.upon
  cases res with
  | halt hh w'=>
   cases hh<;>simp only [upon] at hv ⊢
   obtain ⟨h',gP,hv⟩:=hv
   exact ⟨e,ds,h',ha,gP,hv⟩
  | ok x w'=>
   cases x<;>simp only [upon] at hv ⊢
   case value v=>
    obtain ⟨h',gP,hv⟩:=hv
    exact ⟨v,ds,h',ha.put hd v,gP,hv⟩
   case skip=>
    obtain ⟨h',gP,hv⟩:=hv
    exact ⟨_,ds,h',ha.put hd _,gP,hv⟩
   case defer d=>
    obtain ⟨h',gP,hv⟩:=hv
    have h2:Fr n {a with defers:=d::a.defers} e (d::ds):=⟨ha.1,by simp [ha.2.1],ha.2.2⟩
    exact ⟨_,_,h',h2.put hd undef,gP,hv⟩
   case enter f args=>
    refine Calls.mono hv ?_
    intro en w'' hq
    cases en with
    | returned v=>
     obtain ⟨h',gP,hv⟩:=hq
     exact ⟨v,ds,h',ha.put hd v,gP,hv⟩
    | panicked ch=>
     obtain ⟨h',gP,hv⟩:=hq
     exact ⟨e,ds,h',ha,gP,hv⟩
    | outgrown=>exact hq.elim
 ·rw [if_neg Ly] at hv ⊢
  exact ⟨_,ds,h,ha.put hd _,hw,hv⟩
def SS (c:Ctx)(h0:Sh)(w:World):Prop:=∃ h',Is c h' w/\fZ h0 h'
theorem Ei {P:Program}{ops:List Oper}{i j:Nat}{oj:Oper}(hj:ops[j]?=some oj)(cD:j≠i)(ht:eV P ops j=true)(hl:tS P ops i=true):
 ∃ e∈oj.after,Region.binds .any e=true/\(e.on=i\/∃ o2,ops[e.on]?=some o2/\∃ e2∈o2.after,Region.binds .any e2=true/\e2.on=i):=by
 unfold eV at ht
 rw [hj] at ht
 simp only [List.all_eq_true,List.mem_range] at ht
 have aN:i<ops.length:=by
  unfold tS at hl
  split at hl
  ·rename_i o ho;exact (List.getElem?_eq_some_iff.1 ho).1
  ·cases hl
 have:=ht i aN
 simp only [hl,Bool.not_true,Bool.or_false,Bool.or_eq_true,beq_iff_eq] at this
 rcases this with h | h
 ·exact absurd h.symm cD
 ·obtain ⟨e,he,hb⟩:=Array.any_eq_true'.1 h
  simp only [Bool.and_eq_true,Bool.or_eq_true,beq_iff_eq] at hb
  refine ⟨e,he,hb.1,?_⟩
  rcases hb.2 with h | h
  ·exact .inl h
  ·split at h
   ·rename_i o2 ho2
    obtain ⟨e2,nF,ey⟩:=Array.any_eq_true'.1 h
    simp only [Bool.and_eq_true,beq_iff_eq] at ey
    exact .inr ⟨o2,ho2,e2,nF,ey⟩
   ·cases h
def Uh (c:Ctx)(G:Sh ->Prop):(World ->Prop) ->Prop:=fun R=>∃ g,G g/\R=SS c g
theorem PE {P:Program}{n:Nat}{c:Ctx}{ops:List Oper}(qG:vk n ops=true){K:KontL}(oQ:Region.noSelect ops.toArray=true)(Wv:yf K.pan ops):
 ∀ (s:Sched) (h0:Sh) (G:Sh ->Prop) (f:Nat) (r:Option (List Nat)) (l:Array Bool) (tl:Bool) (e:dj) (ds:List Deferred) (h:Sh) (w:World) (a:Act),
  G h0 ->(∀ g,G g ->fZ g h0) ->(Cld .any ops.toArray l/\∀ rs,r=some rs ->∀ j∈rs,j∈Region.ready .any ops.toArray l) ->tG P ops f r l tl s=true ->Fr n a e ds ->Is c h w ->(tl=false ->fZ h0 h) ->vS P ops K h0 s e ds h ->
  match r with
  | none=>j7 P .any ops.toArray (K.toQ c n) (Uh c G) (eV P ops) f l a w
  | some r=>∀ j∈r,wpOp P ops.toArray (K.toQ c n) j (fun a' w'=>(eV P ops j=false ->∀ R,Uh c G R ->R w ->R w')/\j7 P .any ops.toArray (K.toQ c n) (Uh c G) (eV P ops) f (l.setIfInBounds j true) a' w') a w:=by
 have RC:∀ (o:Oper),o∈ops ->∀ (ch) (a:Act) (v:Value) (w:World),K.toQ c n (.panic ch) (a.put o.dst v) w ->K.toQ c n (.panic ch) a w:=by
  intro o ho ch a v w hq
  obtain ⟨e',ds',h',hf,hw,hq⟩:=hq
  cases hd:o.dst with
  | none=>rw [hd] at hf;exact ⟨e',ds',h',hf,hw,hq⟩
  | some d=>
   rw [hd] at hf
   have hn:a.tmps.size=n:=by simpa [Act.put] using hf.1
   have h1:Fr n a (fun t=>a.tmps.getD t undef) a.defers:=⟨hn,rfl,fun _=>rfl⟩
   have h2:Fr n (a.put (some d) v) (upd (fun t=>a.tmps.getD t undef) d v) a.defers:=
    h1.put (d:=some d) (fun k hk=>by
     injection hk with hk;subst hk
     have:=List.all_eq_true.1 qG o ho
     simpa [hd] using this) v
   obtain ⟨he,Dr⟩:=hf.uniq h2
   subst he Dr
   exact ⟨_,_,h',h1,hw,Wv o ho d hd _ _ _ _ _ hq⟩
 -- one effect
 have one:∀ (h0:Sh) (G:Sh ->Prop) (_:∀ g,G g ->fZ g h0) (i:Nat) (t:Bool) (s:Sched) (f:Nat) (l:Array Bool) (tl:Bool) (e:dj) (ds:List Deferred) (h:Sh) (w:World) (a:Act),
  (∀ (e:dj) (ds:List Deferred) (h:Sh) (w:World) (a:Act),Fr n a e ds ->Is c h w ->((tl || t)=false ->fZ h0 h) ->vS P ops K h0 s e ds h ->
   j7 P .any ops.toArray (K.toQ c n) (Uh c G) (eV P ops) f (l.setIfInBounds i true) a w) ->
  (t=true ->eV P ops i=true) ->Fr n a e ds ->Is c h w ->
  (ed ops[i]? fun o=>Yh P K ops o e ds h fun v ds h'=>(t=false ->fZ h0 h')/\vS P ops K h0 s (cB e o.dst v) ds h') ->
  wpOp P ops.toArray (K.toQ c n) i (fun a' w'=>(eV P ops i=false ->∀ R,Uh c G R ->R w ->R w')/\j7 P .any ops.toArray (K.toQ c n) (Uh c G) (eV P ops) f (l.setIfInBounds i true) a' w') a w:=by
  intro h0 G hG i t s f l tl e ds h w a ih ht ha hw hv
  obtain ⟨o,ho,hv⟩:=cJ hv
  refine wpOp_mono ?_ (K4 qG ho ha hw hv)
  rintro a' w' ⟨v,ds',h',hf,gP,jT,hv⟩
  refine ⟨fun htf R hR _=> ?_,ih _ _ _ _ _ hf gP ?_ hv⟩
  ·obtain ⟨g,hg,rfl⟩:=hR
   exact ⟨h',gP,(hG g hg).trans (jT (by cases t with | false=>rfl | true=>rw [ht rfl] at htf;cases htf))⟩
  intro h2
  simp only [Bool.or_eq_false_iff] at h2
  exact jT h2.2
 have oneN:∀ (h0:Sh) (G:Sh ->Prop) (_:∀ g,G g ->fZ g h0) (i:Nat) (t:Bool) (s:Sched) (f:Nat) (l:Array Bool) (tl:Bool) (e:dj) (ds:List Deferred) (h:Sh) (w:World) (a:Act),
  (∀ (h1:Sh),fZ h0 h1 ->∀ (e:dj) (ds:List Deferred) (h:Sh) (w:World) (a:Act),Fr n a e ds ->Is c h w ->((tl || t)=false ->fZ h1 h) ->vS P ops K h1 s e ds h ->
   j7 P .any ops.toArray (K.toQ c n) (Uh c G) (eV P ops) f (l.setIfInBounds i true) a w) ->
  (t=true ->eV P ops i=true) ->Fr n a e ds ->Is c h w ->
  (ed ops[i]? fun o=>Yh P K ops o e ds h fun v ds h'=>∃ h1,fZ h0 h1/\(t=false ->fZ h1 h')/\vS P ops K h1 s (cB e o.dst v) ds h') ->
  wpOp P ops.toArray (K.toQ c n) i (fun a' w'=>(eV P ops i=false ->∀ R,Uh c G R ->R w ->R w')/\j7 P .any ops.toArray (K.toQ c n) (Uh c G) (eV P ops) f (l.setIfInBounds i true) a' w') a w:=by
  intro h0 G hG i t s f l tl e ds h w a ih ht ha hw hv
  obtain ⟨o,ho,hv⟩:=cJ hv
  refine wpOp_mono ?_ (K4 qG ho ha hw hv)
  rintro a' w' ⟨v,ds',h',hf,gP,h1,yY,jT,hv⟩
  refine ⟨fun htf R hR _=> ?_,ih h1 yY _ _ _ _ _ hf gP ?_ hv⟩
  ·obtain ⟨g,hg,rfl⟩:=hR
   exact ⟨h',gP,((hG g hg).trans yY).trans (jT (by cases t with | false=>rfl | true=>rw [ht rfl] at htf;cases htf))⟩
  intro h2
  simp only [Bool.or_eq_false_iff] at h2
  exact jT h2.2
 intro s
 induction s with
 | done=>
  intro h0 G f r l tl e ds h w a Oq hG cO cq ha hw jT hv
  cases r with
  | none=>
   have hr:Region.ready .any ops.toArray l=[]:=by simpa [tG] using cq
   have hq:K.toQ c n .normal a w:=⟨e,ds,h,ha,hw,hv⟩
   cases f with
   | zero=>exact ⟨hr,hq⟩
   | succ f=>exact ⟨fun _=>hq,by rw [hr];simp⟩
  | some r=>cases f<;>cases r<;>simp [tG] at cq
 | no=>
  intro h0 G f r l tl e ds h w a Oq hG cO cq ha hw jT hv
  cases r with
  | none=>cases f<;>simp [tG] at cq
  | some r=>
   cases r with
   | nil=>intro j hj;simp at hj
   | cons j r=>cases f<;>simp [tG] at cq
 | take i s ih=>
  intro h0 G f r l tl e ds h w a Oq hG cO cq ha hw jT hv
  cases r with
  | some r=>cases f<;>cases r<;>simp [tG] at cq
  | none=>
   cases f with
   | zero=>simp [tG] at cq
   | succ f=>
    simp only [tG,Bool.and_eq_true,Bool.or_eq_true,Bool.not_eq_true'] at cq
    obtain ⟨⟨⟨hr,hf⟩,hld⟩,cq⟩:=cq
    obtain ⟨o,ho,hv⟩:=cJ hv
    have hi:ops.toArray[i]?=some o:=by simpa using ho
    have he:a.eval=ev e:=funext ha.eval
    have hww:Region.wanted o (yielded ops.toArray a.tmps)=want ops e o.guard:=pF ha ops qG o
    have Yj:tS P ops i=Ob P o.op:=by unfold tS;rw [ho]
    have cont:∀ v,vS P ops K h0 s (cB e o.dst v) ds h ->(∀ S',(∀ w,S' w ->SS c h0 w)\/Ob P o.op=false ->YieldsIf P ops.toArray S' o v a) ->
     j7 P .any ops.toArray (K.toQ c n) (Uh c G) (eV P ops) (f+1) l a w:=by
     intro v hv hy
     have SD:=ih h0 G f none (l.setIfInBounds i true) tl (cB e o.dst v) ds h w (a.put o.dst v) Oq hG ⟨cO.1.set (by simpa using hr),fun _ h=>by cases h⟩ cq (ha.put (Qb qG ho) v) hw jT hv
     simp only [] at SD
     cases hl:Ob P o.op with
     | false=>
      exact sk (S':=fun _=>True) hi (Region.noSelect_spec oQ) (.inl fun _=>trivial) (fun ch a w=>RC o (List.mem_of_getElem? ho) ch a v w)
       f l a w cO.1 (Region.free_spec hi hf) (by simpa using hr) (hy _ (.inr hl)) trivial SD
     | true=>
      have IK:tl=false:=by
       rcases hld with h | h
       ·rw [Yj,hl] at h;cases h
       ·exact h
      refine sk (S':=SS c h0) hi (Region.noSelect_spec oQ) (.inr ⟨⟨h0,Oq,rfl⟩,fun j oj hj cD ht=>by simpa using Ei (by simpa using hj) cD ht (by rw [Yj];exact hl)⟩)
       (fun ch a w=>RC o (List.mem_of_getElem? ho) ch a v w) f l a w cO.1 (Region.free_spec hi hf) (by simpa using hr) (hy _ (.inl fun _ h=>h)) ⟨h,hw,jT IK⟩ SD
    by_cases Ly:want ops e o.guard=true
    ·rw [if_pos Ly] at hv
     obtain ⟨v,hpv,hv⟩:=cJ hv
     refine cont v hv fun S' dU=> .inl ⟨by rw [hww];exact Ly,fun w hSw=> ?_⟩
     rw [he]
     rcases dU with dU | dU
     ·obtain ⟨h',gP,Dm⟩:=dU w hSw
      exact sG (UP hpv fun _=>Dm) gP
     ·exact AK (c:=c) hpv fun hl=>by rw [dU] at hl;cases hl
    ·rw [if_neg Ly] at hv
     refine cont undef hv fun S' _=> .inr ⟨by rw [hww];simpa using Ly,rfl⟩
 | eff i t s alt ihs iha=>
  intro h0 G f r l tl e ds h w a Oq hG cO cq ha hw jT hv
  obtain ⟨kL,oN⟩:=hv
  cases r with
  | none=>
   cases f with
   | zero=>simp [tG] at cq
   | succ f=>
    simp only [tG] at cq
    split at cq
    ·cases cq
    ·rename_i j r hr
     simp only [Bool.and_eq_true,beq_iff_eq] at cq
     obtain ⟨⟨⟨⟨Bx,ht⟩,IK⟩,Hr⟩,mu⟩:=cq
     replace ht:t=true ->eV P ops i=true:=fun h=>by rw [h] at ht;simpa using ht
     subst Bx
     have Zf:j∈Region.ready .any ops.toArray l:=by rw [hr];simp
     have ZD:∀ rs,some r=some rs ->∀ k∈rs,k∈Region.ready .any ops.toArray l:=fun rs h k hk=>by injection h with h;subst h;rw [hr];exact p5 hk
     have h1:=one h0 G hG j t s f l tl e ds h w a (fun e ds h w a hf hw hs hv=>ihs h0 G f none _ _ e ds h w a Oq hG ⟨cO.1.set Zf,fun _ h=>by cases h⟩ Hr hf hw hs hv) ht ha hw kL
     have h2:=iha h0 G f (some r) l tl e ds h w a Oq hG ⟨cO.1,ZD⟩ mu ha hw jT oN
     refine ⟨fun h0=>absurd (hr ▸ h0) (by simp),fun k hk=> ?_⟩
     rw [hr] at hk
     rcases rP hk with rfl | hk
     ·exact h1
     ·exact h2 k hk
  | some r=>
   cases r with
   | nil=>cases f<;>simp [tG] at cq
   | cons j r=>
    have iB:(j==i && (!t || eV P ops i) && (t || !tl) && tG P ops f none (l.setIfInBounds i true) (tl || t) s && tG P ops f (some r) l tl alt)=true:=by
     cases f<;>exact cq
    simp only [Bool.and_eq_true,beq_iff_eq] at iB
    obtain ⟨⟨⟨⟨Bx,ht⟩,IK⟩,Hr⟩,mu⟩:=iB
    replace ht:t=true ->eV P ops i=true:=fun h=>by rw [h] at ht;simpa using ht
    subst Bx
    have Zf:j∈Region.ready .any ops.toArray l:=cO.2 _ rfl j (by simp)
    have ZD:∀ rs,some r=some rs ->∀ k∈rs,k∈Region.ready .any ops.toArray l:=fun rs h k hk=>by injection h with h;subst h;exact cO.2 _ rfl k (p5 hk)
    have h1:=one h0 G hG j t s f l tl e ds h w a (fun e ds h w a hf hw hs hv=>ihs h0 G f none _ _ e ds h w a Oq hG ⟨cO.1.set Zf,fun _ h=>by cases h⟩ Hr hf hw hs hv) ht ha hw kL
    have h2:=iha h0 G f (some r) l tl e ds h w a Oq hG ⟨cO.1,ZD⟩ mu ha hw jT oN
    intro k hk
    rcases rP hk with rfl | hk
    ·exact h1
    ·exact h2 k hk
 | effN i t s alt ihs iha=>
  intro h0 G f r l tl e ds h w a Oq hG cO cq ha hw jT hv
  obtain ⟨kL,oN⟩:=hv
  cases r with
  | none=>
   cases f with
   | zero=>simp [tG] at cq
   | succ f=>
    simp only [tG] at cq
    split at cq
    ·cases cq
    ·rename_i j r hr
     simp only [Bool.and_eq_true,beq_iff_eq] at cq
     obtain ⟨⟨⟨⟨Bx,ht⟩,IK⟩,Hr⟩,mu⟩:=cq
     replace ht:t=true ->eV P ops i=true:=fun h=>by rw [h] at ht;simpa using ht
     subst Bx
     have Zf:j∈Region.ready .any ops.toArray l:=by rw [hr];simp
     have ZD:∀ rs,some r=some rs ->∀ k∈rs,k∈Region.ready .any ops.toArray l:=fun rs h k hk=>by injection h with h;subst h;rw [hr];exact p5 hk
     have h1:=oneN h0 G hG j t s f l tl e ds h w a (fun g1 yY e ds h w a hf hw hs hv=>rI (fun R hR=>by obtain ⟨g,hg,hR⟩:=hR;exact ⟨g,.inl hg,hR⟩) _ _ _ _ (ihs g1 (fun g=>G g\/g=g1) f none _ _ e ds h w a (.inr rfl) (fun g hg=>by rcases hg with hg | rfl;exact (hG g hg).trans yY;exact fZ.refl _) ⟨cO.1.set Zf,fun _ h=>by cases h⟩ Hr hf hw hs hv)) ht ha hw kL
     have h2:=iha h0 G f (some r) l tl e ds h w a Oq hG ⟨cO.1,ZD⟩ mu ha hw jT oN
     refine ⟨fun h0=>absurd (hr ▸ h0) (by simp),fun k hk=> ?_⟩
     rw [hr] at hk
     rcases rP hk with rfl | hk
     ·exact h1
     ·exact h2 k hk
  | some r=>
   cases r with
   | nil=>cases f<;>simp [tG] at cq
   | cons j r=>
    have iB:(j==i && (!t || eV P ops i) && (t || !tl) && tG P ops f none (l.setIfInBounds i true) (tl || t) s && tG P ops f (some r) l tl alt)=true:=by
     cases f<;>exact cq
    simp only [Bool.and_eq_true,beq_iff_eq] at iB
    obtain ⟨⟨⟨⟨Bx,ht⟩,IK⟩,Hr⟩,mu⟩:=iB
    replace ht:t=true ->eV P ops i=true:=fun h=>by rw [h] at ht;simpa using ht
    subst Bx
    have Zf:j∈Region.ready .any ops.toArray l:=cO.2 _ rfl j (by simp)
    have ZD:∀ rs,some r=some rs ->∀ k∈rs,k∈Region.ready .any ops.toArray l:=fun rs h k hk=>by injection h with h;subst h;exact cO.2 _ rfl k (p5 hk)
    have h1:=oneN h0 G hG j t s f l tl e ds h w a (fun g1 yY e ds h w a hf hw hs hv=>rI (fun R hR=>by obtain ⟨g,hg,hR⟩:=hR;exact ⟨g,.inl hg,hR⟩) _ _ _ _ (ihs g1 (fun g=>G g\/g=g1) f none _ _ e ds h w a (.inr rfl) (fun g hg=>by rcases hg with hg | rfl;exact (hG g hg).trans yY;exact fZ.refl _) ⟨cO.1.set Zf,fun _ h=>by cases h⟩ Hr hf hw hs hv)) ht ha hw kL
    have h2:=iha h0 G f (some r) l tl e ds h w a Oq hG ⟨cO.1,ZD⟩ mu ha hw jT oN
    intro k hk
    rcases rP hk with rfl | hk
    ·exact h1
    ·exact h2 k hk
def gk:Op ->Bool
 | .move _ | .assign _ | .pick _ _ _ | .nilCheck _ | .fieldAddr _ _ _ | .indexAddr _ _ _ | .index _ _ _ | .binOp _ _ _ _ _ | .unOp _ _ _ | .extract _ _ | .build _ _ | .convert _ _ _ | .makeInterface _ _ | .makeFunc _ _ _ | .slice _ _ _ _ _ | .load _ _ | .field _ _ _=>true
 | .call c=>match c.callee with | .builtin .len=>true | .builtin .cap=>true | _=>false
 | _=>false
def nh (o:Oper):Bool:=o.guard.isSome && gk o.op
def jH (P:Program)(ops:List Oper)(K:KontL):List Oper ->dj ->List Deferred ->Sh ->Prop
 | [],e,ds,h=>K.nrm e ds h
 | o::r,e,ds,h=>
  if nh o=true then ed (if want ops e o.guard=true then pv P e h o.op else some undef) fun v=>jH P ops K r (cB e o.dst v) ds h
  else if want ops e o.guard=true then Gy P K o e ds h (fun v ds h=>jH P ops K r (cB e o.dst v) ds h)
  else jH P ops K r (cB e o.dst undef) ds h
def Gn (dr:List (Nat×Sched))(id:Nat):Sched:=match dr with | []=> .no | (j,s)::r=>if j=id then s else Gn r id
def eo (P:Program)(n:Nat)(dr:List (Nat×Sched)):Code ->Bool
 | .skip | .exit _ | .ret=>true
 | .region id ops d=>vk n ops.toList && (!d || okD P ops.toList (Gn dr id))
 | .seq a b | .cond _ a b=>eo P n dr a && eo P n dr b
 | .block _ b | .loop b=>eo P n dr b
 | _=>false
def sN (P:Program)(dr:List (Nat×Sched))(id:Nat)(ops:List Oper)(d:Bool)(K:KontL)(e:dj)(ds:List Deferred)(h:Sh):Prop:=
 if d=true then yf K.pan ops/\(∃ h0,fZ h0 h/\vS P ops K h0 (Gn dr id) e ds h) else jH P ops K ops e ds h
def bK (h:Sh)(k:Sh ->Prop):Prop:=∀ c w,Is c h w ->∃ h',Is c h' w/\k h'
def TY (P:Program)(dr:List (Nat×Sched)):Code ->KontL ->dj ->List Deferred ->Sh ->Prop
 | .skip,K=>K.nrm
 | .region id ops d,K=>sN P dr id ops.toList d K
 | .seq a b,K=>TY P dr a {K with nrm:=TY P dr b K}
 | .cond c a b,K=>fun e ds h=>BO (ev e c) fun t=>if t=true then TY P dr a K e ds h else TY P dr b K e ds h
 | .block id b,K=>TY P dr b {K with exi:=fun i=>if i=id then K.nrm else K.exi i}
 | .loop b,K=>fun e ds h=>∃ (I:Nat ->dj ->List Deferred ->Sh ->Prop),(bK h fun h=>∃ m,I m e ds h)/\
  ∀ m e ds h,I m e ds h ->TY P dr b {K with nrm:=fun e ds h=>bK h fun h=>∃ m',m'<m/\I m' e ds h} e ds h
 | .exit id,K=>K.exi id
 | .ret,K=>K.ret
 | _,_=>fun _ _ _=>False
theorem Is.drawn {c h w}(hw:Is c h w):Is c h {w with drawn:=w.drawn+1}:=by
 obtain ⟨bs,hi⟩:=hw
 exact ⟨bs,
  {typ:=hi.typ
   holds:=hi.holds
   blk:=hi.blk
   rows:=hi.rows
   nodup:=hi.nodup
   apart:=hi.apart
   os:=hi.os
   tape:=hi.tape
   output:=hi.output
   size:=hi.size
   old:=hi.old
   mem:=hi.mem
   le:=hi.le}⟩
theorem Hl {P:Program}{n:Nat}{c:Ctx}{ops:List Oper}(qG:vk n ops=true){K:KontL}:∀ (l:List Oper) (_:vk n l=true) (e:dj) (ds:List Deferred) (h:Sh) (w:World) (a:Act),
 Fr n a e ds ->Is c h w ->jH P ops K l e ds h ->wpList P ops.toArray (K.toQ c n) l a w:=by
 intro l
 induction l with
 | nil=>
  intro _ e ds h w a ha hw hv
  exact ⟨e,ds,h,ha,hw,hv⟩
 | cons o r ih=>
  intro hl e ds h w a ha hw hv
  simp only [vk,List.all_cons,Bool.and_eq_true] at hl
  have hd:∀ k,o.dst=some k ->k<n:=by
   intro k hk
   have:=hl.1
   simp [hk] at this
   exact this
  have ih:=ih hl.2
  unfold jH at hv
  unfold wpList
  rw [pF ha ops qG]
  by_cases hpg:nh o=true
  ·rw [if_pos hpg] at hv
   obtain ⟨v,kL,hv⟩:=cJ hv
   by_cases Ly:want ops e o.guard=true
   ·rw [if_pos Ly] at kL ⊢
    refine .inl ?_
    unfold Oper.wp
    have he:a.eval=ev e:=funext ha.eval
    rw [he,sG kL hw]
    exact ih _ _ _ _ _ (ha.put hd v) hw hv
   ·rw [if_neg Ly] at kL ⊢
    injection kL with kL
    subst kL
    exact ih _ _ _ _ _ (ha.put hd _) hw hv
  rw [if_neg hpg] at hv
  by_cases Ly:want ops e o.guard=true
  ·rw [if_pos Ly] at hv ⊢
   refine .inl ?_
   unfold Oper.wp
   have he:a.eval=ev e:=funext ha.eval
   rw [he]
   have hv:=xn hv hw
   generalize (execOp (ev e) o).run P w=res at hv ⊢
   unfold Oper.upon
   cases res with
   | halt hh w'=>
    cases hh<;>simp only [upon] at hv ⊢
    obtain ⟨h',gP,hv⟩:=hv
    exact ⟨e,ds,h',ha,gP,hv⟩
   | ok x w'=>
    cases x<;>simp only [upon] at hv ⊢
    case value v=>
     obtain ⟨h',gP,hv⟩:=hv
     exact ih _ _ _ _ _ (ha.put hd v) gP hv
    case skip=>
     obtain ⟨h',gP,hv⟩:=hv
     exact ih _ _ _ _ _ (ha.put hd _) gP hv
    case defer d=>
     obtain ⟨h',gP,hv⟩:=hv
     refine ih _ _ _ _ _ ?_ gP hv
     have h2:Fr n {a with defers:=d::a.defers} e (d::ds):=⟨ha.1,by simp [ha.2.1],ha.2.2⟩
     exact h2.put hd undef
    case enter f args=>
     refine Calls.mono hv ?_
     intro en w'' hq
     cases en with
     | returned v=>
      obtain ⟨h',gP,hv⟩:=hq
      exact ih _ _ _ _ _ (ha.put hd v) gP hv
     | panicked ch=>
      obtain ⟨h',gP,hv⟩:=hq
      exact ⟨e,ds,h',ha,gP,hv⟩
     | outgrown=>exact hq.elim
  ·rw [if_neg Ly] at hv ⊢
   exact ih _ _ _ _ _ (ha.put hd _) hw hv
theorem j6 {P:Program}{n:Nat}{c₀:Ctx}{dr:List (Nat×Sched)}(hm:P.follows .mixedOrders=true):∀ (c:Code) (K:KontL) (e:dj) (ds:List Deferred) (h:Sh) (w:World) (a:Act),eo P n dr c=true ->
 Fr n a e ds ->Is c₀ h w ->TY P dr c K e ds h ->c.wp P (K.toQ c₀ n) a w:=by
 intro c
 induction c with
 | skip=>exact fun K e ds h w a _ ha hw hv=>wp_skip ⟨e,ds,h,ha,hw,hv⟩
 | ret=>exact fun K e ds h w a _ ha hw hv=>wp_ret ⟨e,ds,h,ha,hw,hv⟩
 | exit id=>exact fun K e ds h w a _ ha hw hv=>wp_exit ⟨e,ds,h,ha,hw,hv⟩
 | region id ops d=>
  intro K e ds h w a hc ha hw hv
  simp only [eo,Bool.and_eq_true] at hc
  obtain ⟨cq,hdr⟩:=hc
  have hv:sN P dr id ops.toList d K e ds h:=hv
  unfold sN at hv
  cases d with
  | false=>
   simp only [Bool.false_eq_true,if_false] at hv
   refine wp_region_list ?_
   have:=Hl cq ops.toList cq e ds h w a ha hw hv
   simpa using this
  | true=>
   simp only [if_true] at hv
   simp only [Bool.not_true,Bool.false_or,okD,Bool.and_eq_true] at hdr
   obtain ⟨hp,h0,jT,hv⟩:=hv
   have:=PE (P:=P) (c:=c₀) cq (by simpa using hdr.1) hp (Gn dr id) h0 (fun g=>g=h0) ops.toList.length none (Array.replicate ops.toList.length false) false e ds h _ a rfl (fun g hg=>by rw [hg];exact fZ.refl _) ⟨fun k ok hk hl=>(by simp [Array.getElem?_replicate] at hl;split at hl<;>cases hl),fun _ h=>(by cases h)⟩ hdr.2 ha hw.drawn (fun _=>jT) hv
   simp only [Array.toArray_toList,Array.length_toList] at this
   exact wp_region_any hm (yR _ _ _ _ this)
 | seq x y ihx ihy=>
  intro K e ds h w a hc ha hw hv
  simp only [eo,Bool.and_eq_true] at hc
  refine wp_seq (wp_mono (ihx _ e ds h w a hc.1 ha hw hv) ?_)
  intro ex a' w' hq
  cases ex with
  | normal=>
   obtain ⟨e',ds',h',hf,gP,hq⟩:=hq
   exact ihy K e' ds' h' w' a' hc.2 hf gP hq
  | _=>exact hq
 | cond c x y ihx ihy=>
  intro K e ds h w a hc ha hw hv
  simp only [eo,Bool.and_eq_true] at hc
  obtain ⟨t,hev,hv⟩:=tI hv
  refine wp_cond_split (t:=t) (by rw [ha.eval];exact hev) ?_ ?_
  ·rintro rfl;exact ihx K e ds h w a hc.1 ha hw (by simpa using hv)
  ·rintro rfl;exact ihy K e ds h w a hc.2 ha hw (by simpa using hv)
 | block id b ih=>
  intro K e ds h w a hc ha hw hv
  refine wp_block (wp_mono (ih _ e ds h w a hc ha hw hv) ?_)
  intro ex a' w' hq
  cases ex with
  | exit i=>
   obtain ⟨e',ds',h',hf,gP,hq⟩:=hq
   simp only [Exit.inBlock]
   by_cases hi:i=id
   ·simp only [hi,if_true] at hq ⊢;exact ⟨e',ds',h',hf,gP,hq⟩
   ·simp only [hi,if_false] at hq ⊢;exact ⟨e',ds',h',hf,gP,hq⟩
  | _=>exact hq
 | loop b ih=>
  intro K e ds h w a hc ha hw hv
  obtain ⟨I,cO,hr⟩:=hv
  obtain ⟨h,hw,m,hI⟩:=cO _ _ hw
  intro fb k cs
  have key:∀ m e ds h w a,Fr n a e ds ->Is c₀ h w ->I m e ds h ->∃ ex a' w',K.toQ c₀ n ex a' w'/\Arrives P (lone (fb.at a (.code b:: .inLoop b::k)) cs w) fb k cs ex a' w':=by
   intro m
   induction m using Nat.strongRecOn with
   | _ m ihm=>
    intro e ds h w a ha hw hI
    obtain ⟨ex,a₁,w₁,hq,L8⟩:=ih _ e ds h w a hc ha hw (hr m e ds h hI) fb (.inLoop b::k) cs
    cases ex with
    | normal=>
     obtain ⟨e',ds',h',hf,gP,hq⟩:=hq
     obtain ⟨h',gP,m',CK,hI'⟩:=hq _ _ gP
     obtain ⟨e₂,a₂,w₂,hq₂,afc⟩:=ihm m' CK e' ds' h' w₁ a₁ hf gP hI'
     exact ⟨e₂,a₂,w₂,hq₂,.of_steps (Steps.trans L8 (.one step_inLoop)) afc⟩
    | exit id=>exact ⟨.exit id,a₁,w₁,hq,.pass (x:=.inLoop b) rfl (fun _ _=> .inl (by simp)) L8⟩
    | goto l=>exact hq.elim
    | ret=>exact ⟨.ret,a₁,w₁,hq,.pass (x:=.inLoop b) rfl (fun _ _=> .inl (by simp)) L8⟩
    | panic ch=>exact ⟨.panic ch,a₁,w₁,hq,.pass (x:=.inLoop b) rfl (fun _ _=> .inl (by simp)) L8⟩
    | outgrown=>exact hq.elim
  obtain ⟨ex,a',w',hq,L8⟩:=key m e ds h w a ha hw hI
  exact ⟨ex,a',w',hq,.of_steps (.one step_loop) L8⟩
 | rangeFunc=>exact fun K e ds h w a hc=>by simp [eo] at hc
 | scope=>exact fun K e ds h w a hc=>by simp [eo] at hc
 | label=>exact fun K e ds h w a hc=>by simp [eo] at hc
 | goto=>exact fun K e ds h w a hc=>by simp [eo] at hc
 | refuse=>exact fun K e ds h w a hc=>by simp [eo] at hc
end Vc

import Derived.Calls
import Derived.Defers
import Derived.Tactics
import Derived.WalkKit
import Derived.Laws.IdiomCopy
import Derived.Deep.AppendSrc
import Derived.Laws.AppendOwn
import Derived.Great.BuildSlice
import Derived.Laws.Small
import Derived.Laws.Cover3
import Derived.Laws.Pointers
import Derived.Laws.StructEq
import Derived.Laws.BytesArg
import Derived.MapKept
import Derived.Lib.ConvBytes
import Derived.Laws.RangeString
import Derived.Laws.MakeOwn
import Derived.OrdersHeld
set_option linter.all false
namespace Vc
open Go
theorem nn:(∀ {α:Type} (a:α) (l m:List α),a::l++m=a::(l++m))/\∀ {α:Type} (l:List α),[]++l=l:=⟨fun _ _ _=>rfl,fun _=>rfl⟩
theorem ln:(∀ {α:Type} (a:α) (l:List α),(a::l).length=l.length+1)/\∀ {α:Type},([]:List α).length=0:=⟨fun _ _=>rfl,rfl⟩
def lap {α:Type}{l m:List α}:(l++m).length=l.length+m.length:=List.length_append
def mn:(∀ {α:Type} (a b:α) (l:List α),(a∈b::l)=(a=b\/a∈l))/\(∀ {α:Type} (a:α),(a∈([]:List α))=False)/\∀ p:Prop,(p\/False)=p:=by simp
def gq {α:Type}{l:List α}{i:Nat}(h:i<l.length):l[i]?=some l[i]:=List.getElem?_eq_getElem h
def dq {α:Type}{l:List α}{i:Nat}(h:i<l.length):l.drop i=l[i]::l.drop (i+1):=List.drop_eq_getElem_cons h
def tC {α:Type}{a b:α}{l:List α}(h:a∈l):a∈b::l:=List.mem_cons_of_mem _ h
def gm {α:Type}{l:List α}{n:Nat}(h:n<l.length):l[n]∈l:=List.getElem_mem h
def lQ {α:Type}{a b:α}{l:List α}(h:a∈b::l):a=b\/a∈l:=List.mem_cons.1 h
def xY {α:Type}{a:α}{l m:List α}(h:a∈l++m):a∈l\/a∈m:=List.mem_append.1 h
def uV {α:Type}{a:α}{l m:List α}(h:a∈l\/a∈m):a∈l++m:=List.mem_append.2 h
abbrev dx:=Nat ->Value
def upd (e:dx)(d:Nat)(v:Value):dx:=fun t=>if t=d then v else e t
def cI (e:dx)(d:Option Nat)(v:Value):dx:=match d with | some d=>upd e d v | none=>e
def ev (e:dx):Operand ->Value
 | .tmp t=>e t
 | .const v=>v
 | .global g=> .pointer (some ⟨g,0,none⟩)
 | .func f=> .func (.func f) #[] #[]
def Fr (n:Nat)(a:Act)(e:dx)(ds:List Deferred):Prop:=
 a.tmps.size=n/\a.defers=ds/\∀ t,a.tmps.getD t undef=e t
def Fr.eval {n a e ds}(h:Fr n a e ds)(x:Operand):a.eval x=ev e x:=by
 cases x<;>simp [Act.eval,ev,h.2.2]
def Fr.put {n a e ds}(h:Fr n a e ds){d:Option Nat}(hd:∀ k,d=some k ->k<n)(v:Value):
 Fr n (a.put d v) (cI e d v) ds:=by
 cases d with
 | none=>exact h
 | some d=>
  have hd:=hd d rfl
  refine ⟨by simp [Act.put,h.1],h.2.1,fun t=> ?_⟩
  simp only [Act.put,cI,upd]
  by_cases ht:t=d
  ·subst ht;simp [Array.getD_eq_getD_getElem?,h.1,hd]
  ·have:=h.2.2 t
   rw [if_neg ht,<- this]
   simp [Array.getD_eq_getD_getElem?,Ne.symm ht]
structure Kont where
 nrm:dx ->List Deferred ->World ->Prop
 exi:Nat ->dx ->List Deferred ->World ->Prop
 ret:dx ->List Deferred ->World ->Prop
 pan:List PanicEntry ->dx ->List Deferred ->World ->Prop
def Kont.toQ (n:Nat)(K:Kont):Exit ->Act ->World ->Prop
 | .normal,a,w=>∃ e ds,Fr n a e ds/\K.nrm e ds w
 | .exit id,a,w=>∃ e ds,Fr n a e ds/\K.exi id e ds w
 | .ret,a,w=>∃ e ds,Fr n a e ds/\K.ret e ds w
 | .panic ch,a,w=>∃ e ds,Fr n a e ds/\K.pan ch e ds w
 | .goto _,_,_=>False
 | .outgrown,_,_=>True
def Fr.uniq {n a e ds e' ds'}(h:Fr n a e ds)(h':Fr n a e' ds'):e=e'/\ds=ds':=
 ⟨funext fun t=>(h.2.2 t).symm.trans (h'.2.2 t),h.2.1.symm.trans h'.2.1⟩
def Bi (v:Value)(k:Addr ->Prop):Prop:=match v with | .pointer (some a)=>k a | _=>False
def C2 (v:Value)(k:Bool ->Prop):Prop:=match v with | .bool b=>k b | _=>False
def YZ (v:Value)(k:IntKind ->Int ->Prop):Prop:=match v with | .int t n=>k t n | _=>False
def Y0 (v:Value)(k:ByteArray ->Prop):Prop:=match v with | .string s=>k s | _=>False
def xSl (v:Value)(k:Option Addr ->Nat ->Nat ->Prop):Prop:=match v with | .slice a l c=>k a l c | _=>False
def adl (v:Value)(i:Nat)(k:Value ->Prop):Prop:=match v with | .tuple vs=>(match vs[i]? with | some x=>k x | none=>False) | _=>False
def ea {α:Type}(o:Option α)(k:α ->Prop):Prop:=match o with | some a=>k a | none=>False
def xFn (v:Value)(k:FuncId ->List Value ->List Value ->Prop):Prop:=match v with | .func (.func f) first cap=>k f first.toList cap.toList | _=>False
theorem PL (a k):Bi (.pointer (some a)) k=k a:=rfl
attribute [simp] PL
theorem Kv (b k):C2 (.bool b) k=k b:=rfl
attribute [simp] Kv
theorem VC (t n k):YZ (.int t n) k=k t n:=rfl
attribute [simp] VC
theorem HN (s k):Y0 (.string s) k=k s:=rfl
attribute [simp] HN
theorem PM (a l c k):xSl (.slice a l c) k=k a l c:=rfl
attribute [simp] PM
theorem C3 {α:Type}(a:α)(k):ea (some a) k=k a:=rfl
attribute [simp] C3
theorem VA (f a c k):xFn (.func (.func f) a c) k=k f a.toList c.toList:=rfl
attribute [simp] VA
def DW:TypeDesc ->Bool | .struct _ | .array _ _=>true | _=>false
def tk (P:Program)(t:TypeId):Option (Bool×Nat×Value):=
 match P.info? t,P.underlying t with
 | some i,some d=>match i.zero with | some z=>some (DW d,i.size,z) | none=>none
 | _,_=>none
def cG (P:Program)(t:TypeId)(i:Nat):Option Nat:=
 match P.underlying t with
 | some (.struct fs)=>match fs[i]? with
  | some f=>match P.info? f.type with | some inf=>if inf.size=0 then none else some f.offset | none=>none
  | none=>none
 | _=>none
def df (P:Program)(t:TypeId):Option Nat:=
 match P.underlying t with | some (.slice e)=>(P.info? e).map (·.size) | _=>none
def cL (P:Program)(t:TypeId):Bool:=match P.underlying t with | some .string=>true | _=>false
def dP (P:Program)(t:TypeId):Bool:=match P.underlying t with | some (.slice _)=>true | _=>false
def rI (P:Program)(t:TypeId):Option IntKind:=match P.underlying t with | some (.int k)=>some k | _=>none
def du (P:Program)(f:FuncId):Bool:=match P.funcs[f]? with | some fn=>fn.body.isSome && !(fn.name== "runtime.NumGoroutine") | none=>false
def oN (w:World)(a:Addr):Nat ->Nat ->Option (List Value)
 | _,0=>some []
 | i,n+1=>match w.cell? (a.add i) with
  | some v=>(oN w a (i+1) n).map (v:: ·)
  | none=>none
def ag7 (t:TypeId)(cs:Array Value)(w:World)(k:Value ->World ->Prop):Prop:=
 k (.pointer (some ⟨w.heap.size,0,none⟩)) (w.alloc (.cells cs t))
def VE (a:Addr)(vs:List Value)(w:World)(k:World ->Prop):Prop:=
 a.spot=none/\(∀ v∈vs,v.oneCell'=true)/\(∀ j,j<vs.length ->(w.cell? ⟨a.block,a.off+j,none⟩).isSome=true/\w.frozen? ⟨a.block,a.off+j,none⟩=false)/\
  k (w.setCells a.block a.off vs)
def aad (P:Program)(f:FuncId)(args:List Value)(w:World)(k:Value ->World ->Prop)(pan:List PanicEntry ->World ->Prop):Prop:=
 du P f=true/\Calls P f args.toArray w fun
  | .returned v,w'=>k v w'
  | .panicked ch,w'=>pan ch w'
  | .outgrown,_=>False
def fx (op:BinOp)(k:IntKind)(x y:Int):Option Value:=
 match op with
 | .add=>some (.int k (k.wrap (x+y)))
 | .sub=>some (.int k (k.wrap (x - y)))
 | .mul=>some (.int k (k.wrap (x*y)))
 | .eql=>some (.bool (decide (x=y)))
 | .neq=>some (.bool (!decide (x=y)))
 | .lss=>some (.bool (x<y))
 | .leq=>some (.bool (x<=y))
 | .gtr=>some (.bool (x>y))
 | .geq=>some (.bool (x>=y))
 | _=>none
def upon (P:Program)(K:Kont)(e:dx)(ds:List Deferred)(next:Value ->List Deferred ->World ->Prop):Result Next ->Prop
 | .ok (.value v) w=>next v ds w
 | .ok .skip w=>next undef ds w
 | .ok (.defer d) w=>next undef (d::ds) w
 | .ok (.enter f args) w=>Calls P f args w fun
  | .returned v,w'=>next v ds w'
  | .panicked ch,w'=>K.pan ch e ds w'
  | .outgrown,_=>False
 | .halt (.panic v) w=>K.pan [{v,recovered:=false}] e ds w
 | _=>False
def aac (P:Program)(op:BinOp)(t:TypeId)(x y:Operand)(e:dx)(w:World)(k:Value ->World ->Prop):Prop:=
 ∃ v,(do eqGuard op t x y (ev e x) (ev e y);binOp op t (ev e x) (ev e y):Sem Value).run P w=.ok v w/\k v w
def Hy (op:BinOp)(x y:Value):Option Value:=
 match x,y with
 | .int i a,.int j b=>if i=j then fx op i a b else none
 | .string a,.string b=>match op with
  | .eql=>some (.bool (decide (a=b)))
  | .neq=>some (.bool (!decide (a=b)))
  | .lss=>some (.bool (Op.bytesLess a.toList b.toList))
  | _=>none
 | _,_=>none
def ag5 (P:Program)(op:BinOp)(t:TypeId)(x y:Operand)(e:dx)(w:World)(k:Value ->World ->Prop):Prop:=
 match Hy op (ev e x) (ev e y) with
 | some v=>k v w
 | none=>aac P op t x y e w k
def vOp (P:Program)(K:Kont)(o:Oper)(e:dx)(ds:List Deferred)(w:World)(next:Value ->List Deferred ->World ->Prop):Prop:=
 match o.op with
 | .move x | .assign x=>next (ev e x) ds w
 | .pick c a b=>C2 (ev e c) fun t=>next (if t=true then ev e a else ev e b) ds w
 | .box t x=>ag7 t (ev e x).cells w fun v w'=>next v ds w'
 | .load t x=>ea (tk P t) fun (g,n,_)=>Bi (ev e x) fun a=>
  if g=true then ea (oN w a 0 n) fun cs=>next (.agg cs.toArray) ds w else ea (w.cell? a) fun v=>next v ds w
 | .store t x y=>ea (tk P t) fun (_,n,_)=>Bi (ev e x) fun a=>(ev e y).cells.toList.length=n/\VE a (ev e y).cells.toList w fun w'=>next undef ds w'
 | .nilCheck x=>Bi (ev e x) fun a=>next (.pointer (some a)) ds w
 | .fieldAddr t x i=>ea (cG P t i) fun k=>Bi (ev e x) fun a=>next (.pointer (some (a.add k))) ds w
 | .indexAddr t x i=>ea (df P t) fun sz=>xSl (ev e x) fun a len _=>YZ (ev e i) fun _ n=>
  (0<=n/\n<len)/\ea a fun a=>next (.pointer (some (a.add (n.toNat*sz)))) ds w
 | .binOp op t x y _=>ag5 P op t x y e w fun v w'=>next v ds w'
 | .unOp .not _ x=>C2 (ev e x) fun b=>next (.bool !b) ds w
 | .extract x i=>adl (ev e x) i fun v=>next v ds w
 | .build t parts=>ea (P.built t (parts.toList.map fun (i,x)=>(i,ev e x))) fun cells=>next (.agg cells) ds w
 | .call {callee:=.value f,args,..}=>xFn (ev e f) fun g first cap=>
  aad P g (first++args.toList.map (ev e)++cap) w (fun v w'=>next v ds w') (fun ch w'=>K.pan ch e ds w')
 | .call {callee:=.builtin .len,args,argTypes}=>match args.toList,argTypes.toList with
  | [x],[t]=>if cL P t=true then Y0 (ev e x) fun s=>next (.int .i64 s.size) ds w
   else dP P t=true/\xSl (ev e x) fun _ n _=>next (.int .i64 n) ds w
  | _,_=>False
 | _=>upon P K e ds next ((execOp (ev e) o).run P w)
def eB (ops:List Oper)(e:dx)(g:Option (Nat×Bool)):Bool:=
 match g with
 | none=>true
 | some (j,b)=>match (ops[j]?).bind (·.dst) with
  | some t=>match e t with | .bool c=>c==b | _=>false
  | none=>false
def wC (n:Nat)(l:List Oper):Bool:=l.all fun o=>match o.dst with | some d=>d<n | none=>true
def mB {P:Program}{t:TypeId}{g n z}(h:tk P t=some (g,n,z)):∃ i d,P.info? t=some i/\P.underlying t=some d/\i.zero=some z/\DW d=g/\i.size=n:=by
 unfold tk at h
 split at h
 ·rename_i i d hi hd
  split at h
  ·rename_i z' hz
   simp only [Option.some.injEq,Prod.mk.injEq] at h
   exact ⟨i,d,hi,hd,by rw [hz,h.2.2],h.1,h.2.1⟩
  ·cases h
 ·cases h
def cJ {α:Type}{o:Option α}{k:α ->Prop}:ea o k ->∃ a,o=some a/\k a:=by
 cases o with
 | none=>exact fun h=>h.elim
 | some a=>exact fun h=>⟨a,rfl,h⟩
def qG {v:Value}{k:Addr ->Prop}:Bi v k ->∃ a,v=.pointer (some a)/\k a:=by
 unfold Bi;split
 ·exact fun h=>⟨_,rfl,h⟩
 ·exact fun h=>h.elim
def wj {v:Value}{k:Bool ->Prop}:C2 v k ->∃ a,v=.bool a/\k a:=by
 unfold C2;split
 ·exact fun h=>⟨_,rfl,h⟩
 ·exact fun h=>h.elim
def VB {v:Value}{k:IntKind ->Int ->Prop}:YZ v k ->∃ t n,v=.int t n/\k t n:=by
 unfold YZ;split
 ·exact fun h=>⟨_,_,rfl,h⟩
 ·exact fun h=>h.elim
def VF {v:Value}{k:ByteArray ->Prop}:Y0 v k ->∃ a,v=.string a/\k a:=by
 unfold Y0;split
 ·exact fun h=>⟨_,rfl,h⟩
 ·exact fun h=>h.elim
def MT {v:Value}{k:Option Addr ->Nat ->Nat ->Prop}:xSl v k ->∃ a l c,v=.slice a l c/\k a l c:=by
 unfold xSl;split
 ·exact fun h=>⟨_,_,_,rfl,h⟩
 ·exact fun h=>h.elim
def MR {v:Value}{k:FuncId ->List Value ->List Value ->Prop}:xFn v k ->∃ f a c,v=.func (.func f) a c/\k f a.toList c.toList:=by
 unfold xFn;split
 ·exact fun h=>⟨_,_,_,rfl,h⟩
 ·exact fun h=>h.elim
def VG {v:Value}{i:Nat}{k:Value ->Prop}:adl v i k ->∃ vs x,v=.tuple vs/\vs[i]?=some x/\k x:=by
 unfold adl;split
 ·rename_i vs
  split
  ·rename_i x hx;exact fun h=>⟨_,x,rfl,hx,h⟩
  ·exact fun h=>h.elim
 ·exact fun h=>h.elim
def je {w:World}{a:Addr}:∀ (n i:Nat) (cs:List Value),oN w a i n=some cs ->cs.length=n/\∀ j v,cs[j]?=some v ->w.cell? (a.add (i+j))=some v:=by
 intro n
 induction n with
 | zero=>intro i cs h;simp [oN] at h;subst h;simp
 | succ n ih=>
  intro i cs h
  unfold oN at h
  split at h
  ·rename_i v hv
   simp only [Option.map_eq_some_iff] at h
   obtain ⟨cs',h',rfl⟩:=h
   obtain ⟨hl,hc⟩:=ih _ _ h'
   refine ⟨by simp [hl],?_⟩
   intro j u hj
   cases j with
   | zero=>simp at hj;subst hj;exact hv
   | succ j=>
    have:=hc j u (by simpa using hj)
    rw [show i+(j+1)=i+1+j from by omega]
    exact this
  ·cases h
theorem jO {P:Program}{t:TypeId}{d:TypeDesc}(h:P.underlying t=some d)(w:World):(isAgg t).run P w=.ok (DW d) w:=by
 unfold isAgg
 simp only [Sem.run_bind,run_underlying h,Result.andThen_ok]
 cases d<;>rfl
theorem sj {P:Program}{op:BinOp}{k:IntKind}{a b:Int}{v:Value}(h:fx op k a b=some v)(t:TypeId)(w:World):
 (binOp op t (.int k a) (.int k b)).run P w=.ok v w:=by
 cases op<;>simp [fx] at h<;>subst h<;>simp [binOp,Op.intArith,Op.intCmp,bne]<;>rfl
def cU {P:Program}{op:BinOp}{t:TypeId}{x y:Operand}{a b:Value}(h1:∀ c,a≠ .agg c)(h2:a≠ .nilIface)(w:World):(eqGuard op t x y a b).run P w=.ok () w:=by
 unfold eqGuard
 cases op<;>simp<;>(cases a<;>first | (exact absurd rfl h2) | (exact absurd rfl (h1 _)) | simp)
theorem tm (a b:ByteArray):(a.toList==b.toList)=decide (a=b):=by
 rw [Bool.eq_iff_iff,beq_iff_eq,decide_eq_true_iff,ByteArray.toList_eq,ByteArray.toList_eq]
 constructor
 ·intro h
  cases a;cases b
  simp only [ByteArray.mk.injEq]
  exact Array.toList_inj.1 h
 ·rintro rfl;rfl
def CX {P:Program}{K:Kont}{o:Oper}{e:dx}{ds:List Deferred}{w:World}{next:Value ->List Deferred ->World ->Prop}
 (h:vOp P K o e ds w next):upon P K e ds next ((execOp (ev e) o).run P w):=by
 unfold vOp at h
 split at h
 ·rename_i x ec;simp only [execOp,ec];exact h
 ·rename_i x ec;simp only [execOp,ec];exact h
 ·rename_i c a b ec
  obtain ⟨t,ht,h⟩:=wj h
  simp only [execOp,ec,ht]
  simpa [asBool,upon] using h
 ·rename_i t x ec
  simp only [execOp,ec,Instr.box,newVar,newRow]
  simpa [upon,ag7] using h
 ·rename_i t x ec
  obtain ⟨⟨g,n,z⟩,uu,h⟩:=cJ h
  obtain ⟨i,d,hi,hd,hz,hg,hn⟩:=mB uu
  obtain ⟨a,ha,h⟩:=qG h
  simp only [execOp,ec,Instr.loadAt,ha,Instr.sureAddr,loadVar]
  cases g with
  | true=>
   simp only [if_true] at h
   obtain ⟨cs,gC,h⟩:=cJ h
   obtain ⟨hl,hc⟩:=je _ _ _ gC
   have:=run_loadCells_list (P:=P) (w:=w) a cs (fun j v hj=>by simpa using hc j v hj)
   rw [hl] at this
   simp [jO hd,hg,Go.sizeOf,typeInfo,hi,hn,this,upon]
   exact h
  | false=>
   simp only [Bool.false_eq_true,if_false] at h
   obtain ⟨v,hv,h⟩:=cJ h
   simp [jO hd,hg,hv,upon]
   exact h
 ·rename_i t x y ec
  obtain ⟨⟨g,n,z⟩,uu,h⟩:=cJ h
  obtain ⟨i,d,hi,hd,hz,hg,hn⟩:=mB uu
  obtain ⟨a,ha,A3,ED,h1,xT,h⟩:=qG h
  obtain ⟨b,off,sp⟩:=a
  simp only at ED
  subst ED
  simp only [execOp,ec,Instr.storeAt,ha,Instr.sureAddr,storeVar]
  have qZ:=run_storeCells_cells (P:=P) b off (ev e y).cells.toList 0 w (fun j hj=>by simpa using (xT j hj).1) (fun j hj=>by simpa using (xT j hj).2) h1
  have pt:(ev e y).cells.size=n:=by simpa using A3
  simp [Go.sizeOf,typeInfo,hi,hn,pt,qZ,upon]
  exact h
 ·rename_i x ec
  obtain ⟨a,ha,h⟩:=qG h
  simp only [execOp,ec,ha]
  exact h
 ·rename_i t x i ec
  obtain ⟨k,hk,h⟩:=cJ h
  obtain ⟨a,ha,h⟩:=qG h
  unfold cG at hk
  split at hk
  ·rename_i fs SI
   split at hk
   ·rename_i f hf
    split at hk
    ·rename_i inf xi
     split at hk
     ·cases hk
     ·rename_i ed
      simp only [Option.some.injEq] at hk
      subst hk
      simp only [execOp,ec,ha,Instr.fieldAt]
      simp [run_underlying SI,hf,Instr.sureAddr,fieldPlace,Go.sizeOf,typeInfo,xi,ed,upon]
      exact h
    ·cases hk
   ·cases hk
  ·cases hk
 ·rename_i t x i ec
  obtain ⟨sz,hk,h⟩:=cJ h
  obtain ⟨a,len,cap,ha,h⟩:=MT h
  obtain ⟨k,n,hn,hb,h⟩:=VB h
  obtain ⟨a,rfl,h⟩:=cJ h
  unfold df at hk
  split at hk
  ·rename_i el SE
   simp only [Option.map_eq_some_iff] at hk
   obtain ⟨inf,xi,rfl⟩:=hk
   simp only [execOp,ec,ha,hn,Instr.indexAt]
   simp [asIntOf,run_underlying SE,hb,Go.sizeOf,typeInfo,xi,upon]
   exact h
  ·cases hk
 ·rename_i op t x y _ ec
  simp only [execOp,ec]
  unfold ag5 at h
  have gen:aac P op t x y e w (fun v w'=>next v ds w') ->upon P K e ds next (((do
   let a<- (do eqGuard op t x y (ev e x) (ev e y);binOp op t (ev e x) (ev e y):Sem Value)
   pure (.value a)):Sem Next).run P w):=by
   rintro ⟨v,hv,hk⟩
   rw [Sem.run_bind,hv]
   exact hk
  split at h
  ·rename_i v hv
   refine gen ⟨v,?_,h⟩
   unfold Hy at hv
   split at hv
   ·rename_i i a j b hx hy
    split at hv
    ·rename_i zp
     subst zp
     rw [hx,hy]
     simp [cU,sj hv]
    ·cases hv
   ·rename_i a b hx hy
    rw [hx,hy]
    split at hv<;>first | (cases hv;done) | (injection hv with hv;subst hv;simp [cU,binOp,Op.stringOp,tm])
   ·cases hv
  ·exact gen h
 ·rename_i t x ec
  obtain ⟨b,hb,h⟩:=wj h
  simp only [execOp,ec,hb,Op.unary]
  exact h
 ·rename_i x i ec
  obtain ⟨vs,v,hv,hi,h⟩:=VG h
  simp only [execOp,ec,hv,Instr.extract,hi]
  exact h
 ·rename_i t parts ec
  obtain ⟨cells,hc,h⟩:=cJ h
  simp only [execOp,ec]
  have:=run_build (P:=P) w t (parts.map fun (i,x)=>(i,ev e x)) cells (by simpa using hc)
  rw [Sem.run_bind,this]
  exact h
 ·rename_i f args _ ec
  obtain ⟨g,first,cap,hf,hb,h⟩:=MR h
  simp only [execOp,ec,resolve,Deferred.ofValue,hf]
  simp only [du] at hb
  split at hb
  ·rename_i fn SH
   simp only [Bool.and_eq_true,Bool.not_eq_true',Option.isSome_iff_exists] at hb
   obtain ⟨⟨c,SB⟩,uq⟩:=hb
   have e1:(first.toList++args.toList.map (ev e)++cap.toList).toArray=first++args.map (ev e)++cap:=by
    apply Array.toList_inj.1
    simp
   rw [e1] at h
   have alg:¬ fn.name= "runtime.NumGoroutine":=by simpa using uq
   simp only [invoke,callFunc,Sem.run_bind,Sem.run_pure,Result.andThen_ok,run_program,SH]
   rw [if_neg (by simp [uq])]
   simp only [SB,Option.isNone_some,Bool.false_eq_true,if_false]
   exact h
  ·cases hb
 ·rename_i args argTypes ec
  split at h
  ·rename_i x t hx ht
   have nT:args= #[x]:=by apply Array.toList_inj.1;simpa using hx
   have Jv:argTypes= #[t]:=by apply Array.toList_inj.1;simpa using ht
   subst nT Jv
   simp only [execOp,ec,resolve,invoke,builtin]
   split at h
   ·rename_i hs
    unfold cL at hs
    split at hs
    ·rename_i hu
     obtain ⟨s,hs,h⟩:=VF h
     simp [Builtin.len_,run_underlying hu,hs,goInt,upon]
     exact h
    ·cases hs
   ·obtain ⟨hs,h⟩:=h
    unfold dP at hs
    split at hs
    ·rename_i el hu
     obtain ⟨a,l,c,hs,h⟩:=MT h
     simp [Builtin.len_,run_underlying hu,hs,goInt,upon]
     exact h
    ·cases hs
  ·exact h.elim
 ·exact h
def qE {n a e ds}(h:Fr n a e ds)(ops:List Oper)(sV:wC n ops=true)(o:Oper):
 Region.wanted o (yielded ops.toArray a.tmps)=eB ops e o.guard:=by
 unfold Region.wanted eB
 cases hg:o.guard with
 | none=>rfl
 | some p=>
  obtain ⟨j,b⟩:=p
  simp only [yielded,List.getElem?_toArray]
  cases hj:(ops[j]?).bind (·.dst) with
  | none=>simp
  | some t=>
   have aL:t<a.tmps.size:=by
    cases OC:ops[j]? with
    | none=>simp [OC] at hj
    | some oj=>
     simp [OC] at hj
     have:=List.all_eq_true.1 sV oj (List.mem_of_getElem? OC)
     simp [hj] at this
     rw [h.1];exact this
   have hv:=h.2.2 t
   simp only [Option.bind_some]
   rw [Array.getD_eq_getD_getElem?] at hv
   rw [Array.getElem?_eq_getElem aL] at hv ⊢
   simp at hv
   rw [hv]
   cases e t<;>simp
def mE (args:List Value):dx:=fun t=>args.getD t undef
def fr0 (args:Array Value)(n:Nat)(h:args.size<=n):
 Fr n {tmps:=args++Array.replicate (n - args.size) undef,defers:=[]} (mE args.toList) []:=by
 refine ⟨by simp;omega,rfl,fun t=> ?_⟩
 simp only [mE,Array.getD_eq_getD_getElem?,List.getD_eq_getElem?_getD]
 by_cases ht:t<args.size
 ·rw [Array.getElem?_append_left ht];simp
 ·rw [Array.getElem?_append_right (by omega)]
  have h2:args.toList[t]?=none:=by simp;omega
  rw [h2]
  by_cases h3:t - args.size<n - args.size
  ·simp [h3]
  ·simp [h3]
abbrev aR:=Nat ->Option (List Value)
abbrev Tm:=Nat ->Option TypeId
def aG (T T':Tm):Prop:=∀ b t,T b=some t ->T' b=some t
def Tm.add (T:Tm)(b:Nat)(t:TypeId):Tm:=fun k=>if k=b then some t else T k
structure Sh where
 N:Tm
 M:aR
 L:List (Nat×List Value)
 R:List (Value×TypeId×Nat×List Value)
def aN (M:aR)(a:Addr):Option Value:=if a.spot.isSome then none else (M a.block).bind (·[a.off]?)
def eE:List (Nat×List Value) ->Addr ->Option (Option Value)
 | [],_=>none
 | (b,cs)::l,a=>if a.block=b then some (if a.spot.isSome then none else cs[a.off]?) else eE l a
def Sh.cell (h:Sh)(a:Addr):Option Value:=match aN h.M a with | some v=>some v | none=>(eE h.L a).getD none
def pR:Option Value ->Option (List Value) ->Option (List Value) | some v,some l=>some (v::l) | _,_=>none
def Sh.cells (h:Sh)(a:Addr):Nat ->Nat ->Option (List Value)
 | _,0=>some []
 | i,n+1=>pR (h.cell (a.add i)) (h.cells a (i+1) n)
def VJ (w:World)(b:Nat)(cs:List Value):Prop:=∃ t,w.heap[b]?=some (.cells cs.toArray t (0,0))
def Pfx (c c':List Value):Prop:=c'=[]\/∃ v r,c=v::r/\∀ k n,v≠ .int k n
def pF (M:aR)(w:World):Prop:=∀ b c,M b=some c ->∃ t f,∃ c',w.heap[b]?=some (.cells (c++c').toArray t f)/\Pfx c c'
def ym (w:World)(v:Value)(e:TypeId)(sz:Nat)(xs:List Value)(o:Option Nat):Prop:=
 (v=.slice none 0 0/\xs=[]/\o=none)\/
 (∃ g n cap junk,v=.slice (some ⟨g,0,none⟩) n cap/\w.heap[g]?=some (.cells (xs++junk).toArray e (0,0))/\xs.length=n*sz/\(xs++junk).length=cap*sz/\n<=cap/\o=some g)\/
 (sz=0/\∃ g es clock,v=.map (some g)/\w.heap[g]?=some (.map es clock)/\es.toList.flatMap (fun x=>[x.key,x.val])=xs/\o=some g)\/
 (sz=0/\∃ g s pos,v=.pointer (some ⟨g,0,none⟩)/\w.heap[g]?=some (.stringIter s pos)/\xs=[.string s,.int .i64 (pos:Nat)]/\o=some g)
structure Ctx where
 w0:World
 M0:aR
 U:List Nat
structure Hp (c:Ctx) (h:Sh) (w:World) (bs:List (Option Nat)):Prop where
 typ:∀ b t,h.N b=some t ->b<w.heap.size/\(b∈h.L.map (·.1) ->∃ cs f,w.heap[b]?=some (.cells cs t f))
 holds:pF h.M w
 blk:∀ b cs,(b,cs)∈h.L ->VJ w b cs
 rows:h.R.length=bs.length/\∀ (i:Nat) (v:Value) (e:TypeId) (sz:Nat) (xs:List Value) (o:Option Nat),h.R[i]?=some (v,e,sz,xs) ->bs[i]?=some o ->ym w v e sz xs o
 nodup:(h.L.map (·.1)++bs.filterMap id).Nodup
 apart:∀ b,b∈h.L.map (·.1)++bs.filterMap id ->h.M b=none/\(b∈c.U\/c.w0.heap.size<=b)
 os:w.os=c.w0.os
 tape:w.tape=c.w0.tape
 output:w.output=c.w0.output
 size:c.w0.heap.size<=w.heap.size
 old:∀ b,b<c.w0.heap.size ->b∉c.U ->w.heap[b]?=c.w0.heap[b]?
 mem:∀ b,b<c.w0.heap.size ->b∉c.U ->h.M b=c.M0 b
 le:∀ b x,c.M0 b=some x ->h.M b=some x
def Is (c:Ctx)(h:Sh)(w:World):Prop:=∃ bs,Hp c h w bs
def pF.cell {M w a v}(h:pF M w)(hc:aN M a=some v):w.cell? a=some v:=by
 unfold aN at hc
 split at hc
 ·cases hc
 ·rename_i hs
  obtain ⟨cs,hb,hv⟩:=Option.bind_eq_some_iff.1 hc
  obtain ⟨t,f,c',hw,_⟩:=h _ _ hb
  unfold World.cell?
  rw [hw]
  simp only [hs]
  have aL:=(List.getElem?_eq_some_iff.1 hv).1
  have:(cs++c')[a.off]?=some v:=by rw [List.getElem?_append_left aL];exact hv
  simpa using this
def OP {L:List (Nat×List Value)}{a:Addr}{o}(h:eE L a=some o):∃ cs,(a.block,cs)∈L/\o=(if a.spot.isSome then none else cs[a.off]?):=by
 induction L with
 | nil=>cases h
 | cons p l ih=>
  obtain ⟨b,cs⟩:=p
  unfold eE at h
  split at h
  ·rename_i hb
   injection h with h
   exact ⟨cs,by simp [hb],h.symm⟩
  ·obtain ⟨cs',hm,ho⟩:=ih h
   exact ⟨cs',tC hm,ho⟩
def Hp.cell {c h w bs a v}(hi:Hp c h w bs)(hc:h.cell a=some v):w.cell? a=some v:=by
 unfold Sh.cell at hc
 split at hc
 ·rename_i u hu
  injection hc with hc;subst hc
  exact hi.holds.cell hu
 ·cases hl:eE h.L a with
  | none=>rw [hl] at hc;cases hc
  | some o=>
   rw [hl] at hc
   simp only [Option.getD_some] at hc
   subst hc
   obtain ⟨cs,hm,hv⟩:=OP hl
   split at hv
   ·cases hv
   ·rename_i hs
    obtain ⟨t,hw⟩:=hi.blk _ _ hm
    unfold World.cell?
    rw [hw]
    simp only [hs]
    simpa using hv.symm
def Hp.cells {c h w bs a}(hi:Hp c h w bs):∀ n i cs,h.cells a i n=some cs ->oN w a i n=some cs:=by
 intro n
 induction n with
 | zero=>intro i cs hc;exact hc
 | succ n ih=>
  intro i cs hc
  unfold Sh.cells pR at hc
  unfold oN
  split at hc
  ·rename_i v l hv hl
   injection hc with hc;subst hc
   rw [hi.cell hv,ih _ _ hl];rfl
  ·cases hc
def cu {w:World}{o:Obj}{k:Nat}(h:k<w.heap.size):(w.alloc o).heap[k]?=w.heap[k]?:=by
 show (w.heap.push o)[k]?=_
 rw [Array.getElem?_push,if_neg (by omega)]
def fJ {w:World}{o:Obj}:(w.alloc o).heap[w.heap.size]?=some o:=by
 show (w.heap.push o)[w.heap.size]?=_
 simp
def VJ.lt {w b cs}(h:VJ w b cs):b<w.heap.size:=by
 obtain ⟨t,ht⟩:=h
 exact (Array.getElem?_eq_some_iff.1 ht).1
def VJ.alloc {w b cs o}(h:VJ w b cs):VJ (w.alloc o) b cs:=by
 have:=h.lt
 obtain ⟨t,ht⟩:=h
 exact ⟨t,by rw [cu this];exact ht⟩
def pF.lt {M w b c}(h:pF M w)(hb:M b=some c):b<w.heap.size:=by
 obtain ⟨t,f,_,ht,_⟩:=h _ _ hb
 exact (Array.getElem?_eq_some_iff.1 ht).1
def fL {w:World}{g:Nat}{o:Obj}(h:w.heap[g]?=some o):g<w.heap.size:=(Array.getElem?_eq_some_iff.1 h).1
def ym.alloc {w v e sz xs o ob}(h:ym w v e sz xs o):ym (w.alloc ob) v e sz xs o:=by
 rcases h with h | ⟨g,n,cap,junk,h1,h2,h3⟩ | ⟨h0,g,es,clock,h1,h2,h3⟩ | ⟨h0,g,s,pos,h1,h2,h3⟩
 ·exact .inl h
 ·exact .inr (.inl ⟨g,n,cap,junk,h1,by rw [cu (fL h2)];exact h2,h3⟩)
 ·exact .inr (.inr (.inl ⟨h0,g,es,clock,h1,by rw [cu (fL h2)];exact h2,h3⟩))
 ·exact .inr (.inr (.inr ⟨h0,g,s,pos,h1,by rw [cu (fL h2)];exact h2,h3⟩))
def ym.lt {w v e sz xs g}(h:ym w v e sz xs (some g)):g<w.heap.size:=by
 rcases h with ⟨_,_,h⟩ | ⟨g',n,cap,junk,_,h2,_,_,_,h3⟩ | ⟨_,g',es,clock,_,h2,_,h3⟩ | ⟨_,g',s,pos,_,h2,_,h3⟩
 ·cases h
 ·injection h3 with h3;subst h3;exact fL h2
 ·injection h3 with h3;subst h3;exact fL h2
 ·injection h3 with h3;subst h3;exact fL h2
def Hp.own_lt {c h w bs b}(hi:Hp c h w bs)(hb:b∈h.L.map (·.1)++bs.filterMap id):b<w.heap.size:=by
 rcases xY hb with hb | hb
 ·obtain ⟨⟨b',cs⟩,hm,rfl⟩:=List.mem_map.1 hb
  exact (hi.blk _ _ hm).lt
 ·obtain ⟨o,ho,hs⟩:=List.mem_filterMap.1 hb
  simp only [id] at hs
  subst hs
  obtain ⟨i,DO⟩:=List.getElem?_of_mem ho
  have aL:i<h.R.length:=by rw [hi.rows.1];exact (List.getElem?_eq_some_iff.1 DO).1
  obtain ⟨⟨v,e,sz,xs⟩,hr⟩:∃ p,h.R[i]?=some p:=⟨_,gq aL⟩
  exact (hi.rows.2 i v e sz xs _ hr DO).lt
def Hp.alloc {c h w bs t}(hi:Hp c h w bs)(cs:List Value):
 Hp c {h with N:=h.N.add w.heap.size t,L:=(w.heap.size,cs)::h.L} (w.alloc (.cells cs.toArray t)) bs where
 typ:=fun b u hu=>by
  have XY:Tm.add h.N w.heap.size t b=some u:=hu
  clear hu
  unfold Tm.add at XY
  have hu:=XY
  clear XY
  simp only [List.map_cons,List.mem_cons]
  split at hu
  ·rename_i hbs
   subst hbs
   injection hu with hu;subst hu
   exact ⟨by simp,fun _=>⟨_,_,fJ⟩⟩
  ·rename_i cm
   obtain ⟨aL,hc⟩:=hi.typ b u hu
   refine ⟨by simp;omega,fun hb=> ?_⟩
   rcases hb with hb | hb
   ·exact (cm hb).elim
   ·obtain ⟨cs',f,hc⟩:=hc hb
    exact ⟨cs',f,by rw [cu (fL hc)];exact hc⟩
 holds:=fun b x hb=>by
  have:=hi.holds.lt hb
  obtain ⟨t,f,ht⟩:=hi.holds _ _ hb
  exact ⟨t,f,by rw [cu this];exact ht⟩
 blk:=fun b x hb=>by
  rcases lQ hb with hb | hb
  ·injection hb with h1 h2;subst h1 h2;exact ⟨t,fJ⟩
  ·exact (hi.blk _ _ hb).alloc
 rows:=⟨hi.rows.1,fun i v e sz xs o h1 h2=>(hi.rows.2 i v e sz xs o h1 h2).alloc⟩
 nodup:=by
  simp only [List.map_cons,List.cons_append,List.nodup_cons]
  exact ⟨fun hm=>by have:=hi.own_lt hm;omega,hi.nodup⟩
 apart:=fun b hb=>by
  simp only [List.map_cons,List.cons_append,List.mem_cons] at hb
  rcases hb with hb | hb
  ·subst hb
   refine ⟨?_,.inr hi.size⟩
   cases hM:h.M w.heap.size with
   | none=>rfl
   | some x=>have:=hi.holds.lt hM;omega
  ·exact hi.apart b hb
 os:=hi.os
 tape:=hi.tape
 output:=hi.output
 size:=Nat.le_trans hi.size (by simp)
 old:=fun b hb hu=>by rw [cu (Nat.lt_of_lt_of_le hb hi.size)];exact hi.old b hb hu
 mem:=hi.mem
 le:=hi.le
def sX:List (Nat×List Value) ->Nat ->Nat ->Value ->List (Nat×List Value)
 | [],_,_,_=>[]
 | (b,cs)::l,k,i,v=>if k=b then (b,cs.set i v)::l else (b,cs)::sX l k i v
def rh (L:List (Nat×List Value))(k i v):(sX L k i v).map (·.1)=L.map (·.1):=by
 induction L with
 | nil=>rfl
 | cons p l ih=>
  obtain ⟨b,cs⟩:=p
  unfold sX
  split
  ·rfl
  ·simp [ih]
def Ty {L:List (Nat×List Value)}{k i v b cs}(h:(b,cs)∈sX L k i v)(hn:(L.map (·.1)).Nodup):
 (b≠k/\(b,cs)∈L)\/(b=k/\∃ cs0,(b,cs0)∈L/\cs=cs0.set i v):=by
 induction L with
 | nil=>cases h
 | cons p l ih=>
  obtain ⟨b',cs'⟩:=p
  simp only [List.map_cons,List.nodup_cons] at hn
  unfold sX at h
  split at h
  ·rename_i hk
   subst hk
   rcases lQ h with h' | h'
   ·injection h' with h1 h2
    subst h1 h2
    exact .inr ⟨rfl,cs',by simp,rfl⟩
   ·refine .inl ⟨?_,by simp [h']⟩
    rintro rfl
    exact hn.1 (List.mem_map.2 ⟨(b,cs),h',rfl⟩)
  ·rename_i hk
   rcases lQ h with h | h
   ·injection h with h1 h2
    subst h1 h2
    exact .inl ⟨fun h=>hk h.symm,by simp⟩
   ·rcases ih h hn.2 with ⟨h1,h2⟩ | ⟨h1,cs0,h2,h3⟩
    ·exact .inl ⟨h1,by simp [h2]⟩
    ·exact .inr ⟨h1,cs0,by simp [h2],h3⟩
def Hd {w:World}{b i:Nat}{cs:List Value}{v:Value}(h:VJ w b cs):VJ (w.setCell ⟨b,i,none⟩ v) b (cs.set i v):=by
 obtain ⟨t,ht⟩:=h
 refine ⟨t,?_⟩
 simp only [World.setCell,Array.getElem?_modify,ht]
 simp
def gx {w:World}{b k i:Nat}{v:Value}(h:b≠k):(w.setCell ⟨k,i,none⟩ v).heap[b]?=w.heap[b]?:=by
 simp only [World.setCell,Array.getElem?_modify]
 rw [if_neg (Ne.symm h)]
def ym.keep {w w' v e sz xs o}(h:ym w v e sz xs o)(hk:∀ g,o=some g ->w'.heap[g]?=w.heap[g]?):ym w' v e sz xs o:=by
 rcases h with h | ⟨g,n,cap,junk,h1,ht,h3,h4,h5,h6⟩ | ⟨h0,g,es,clock,h1,ht,h3,h6⟩ | ⟨h0,g,s,pos,h1,ht,h3,h6⟩
 ·exact .inl h
 ·exact .inr (.inl ⟨g,n,cap,junk,h1,by rw [hk g h6];exact ht,h3,h4,h5,h6⟩)
 ·exact .inr (.inr (.inl ⟨h0,g,es,clock,h1,by rw [hk g h6];exact ht,h3,h6⟩))
 ·exact .inr (.inr (.inr ⟨h0,g,s,pos,h1,by rw [hk g h6];exact ht,h3,h6⟩))
def ym.other {w v e sz xs o k i u}(h:ym w v e sz xs o)(hk:o≠some k):ym (w.setCell ⟨k,i,none⟩ u) v e sz xs o:=by
 rcases h with h | ⟨g,n,cap,junk,h1,ht,h3,h4,h5,h6⟩ | ⟨h0,g,es,clock,h1,ht,h3,h6⟩ | ⟨h0,g,s,pos,h1,ht,h3,h6⟩
 ·exact .inl h
 ·refine .inr (.inl ⟨g,n,cap,junk,h1,?_,h3,h4,h5,h6⟩)
  rw [gx (by rintro rfl;exact hk h6)];exact ht
 ·refine .inr (.inr (.inl ⟨h0,g,es,clock,h1,?_,h3,h6⟩))
  rw [gx (by rintro rfl;exact hk h6)];exact ht
 ·refine .inr (.inr (.inr ⟨h0,g,s,pos,h1,?_,h3,h6⟩))
  rw [gx (by rintro rfl;exact hk h6)];exact ht
theorem Hp.allocMap {c h w bs t}(hi:Hp c h w bs):
 Hp c {h with R:=(.map (some w.heap.size),t,0,[])::h.R} (w.alloc (.map #[] 0)) (some w.heap.size::bs) where
 typ:=fun b u hu=>by
  obtain ⟨aL,hc⟩:=hi.typ b u hu
  refine ⟨by simp;omega,fun hb=> ?_⟩
  obtain ⟨cs',f,hc⟩:=hc hb
  exact ⟨cs',f,by rw [cu (fL hc)];exact hc⟩
 holds:=fun b x hb=>by
  have:=hi.holds.lt hb
  obtain ⟨t,f,ht⟩:=hi.holds _ _ hb
  exact ⟨t,f,by rw [cu this];exact ht⟩
 blk:=fun b x hb=>(hi.blk _ _ hb).alloc
 rows:=⟨by simp [hi.rows.1],fun i v e sz xs o h1 h2=>by
  cases i with
  | zero=>
   simp at h1 h2
   obtain ⟨rfl,rfl,rfl,rfl⟩:=h1
   subst h2
   exact .inr (.inr (.inl ⟨rfl,_,#[],0,rfl,fJ,rfl,rfl⟩))
  | succ i=>exact (hi.rows.2 i v e sz xs o (by simpa using h1) (by simpa using h2)).alloc⟩
 nodup:=by
  have hp:(h.L.map (·.1)++w.heap.size::bs.filterMap id).Perm (w.heap.size::(h.L.map (·.1)++bs.filterMap id)):=List.perm_middle
  rw [List.filterMap_cons]
  simp only [id]
  exact hp.nodup_iff.2 (List.nodup_cons.2 ⟨fun hm=>by have:=hi.own_lt hm;omega,hi.nodup⟩)
 apart:=fun b hb=>by
  rw [List.filterMap_cons] at hb
  simp only [id,List.mem_append,List.mem_cons] at hb
  rcases hb with hb | hb | hb
  ·exact hi.apart b (uV (.inl hb))
  ·subst hb
   refine ⟨?_,.inr hi.size⟩
   cases hm:h.M w.heap.size with
   | none=>rfl
   | some x=>have:=hi.holds.lt hm;omega
  ·exact hi.apart b (uV (.inr hb))
 os:=hi.os
 tape:=hi.tape
 output:=hi.output
 size:=by simp;have:=hi.size;omega
 old:=fun b hb hu=>by rw [cu (by have:=hi.size;omega)];exact hi.old b hb hu
 mem:=hi.mem
 le:=hi.le
theorem Hp.allocIter {c h w bs t}(hi:Hp c h w bs)(s:ByteArray):
 Hp c {h with R:=(.pointer (some ⟨w.heap.size,0,none⟩),t,0,[.string s,.int .i64 ((0:Nat):Int)])::h.R} (w.alloc (.stringIter s 0)) (some w.heap.size::bs) where
 typ:=fun b u hu=>by
  obtain ⟨aL,hc⟩:=hi.typ b u hu
  refine ⟨by simp;omega,fun hb=> ?_⟩
  obtain ⟨cs',f,hc⟩:=hc hb
  exact ⟨cs',f,by rw [cu (fL hc)];exact hc⟩
 holds:=fun b x hb=>by
  have:=hi.holds.lt hb
  obtain ⟨t,f,ht⟩:=hi.holds _ _ hb
  exact ⟨t,f,by rw [cu this];exact ht⟩
 blk:=fun b x hb=>(hi.blk _ _ hb).alloc
 rows:=⟨by simp [hi.rows.1],fun i v e sz xs o h1 h2=>by
  cases i with
  | zero=>
   simp at h1 h2
   obtain ⟨rfl,rfl,rfl,rfl⟩:=h1
   subst h2
   exact .inr (.inr (.inr ⟨rfl,_,s,0,rfl,fJ,rfl,rfl⟩))
  | succ i=>exact (hi.rows.2 i v e sz xs o (by simpa using h1) (by simpa using h2)).alloc⟩
 nodup:=by
  have hp:(h.L.map (·.1)++w.heap.size::bs.filterMap id).Perm (w.heap.size::(h.L.map (·.1)++bs.filterMap id)):=List.perm_middle
  rw [List.filterMap_cons]
  simp only [id]
  exact hp.nodup_iff.2 (List.nodup_cons.2 ⟨fun hm=>by have:=hi.own_lt hm;omega,hi.nodup⟩)
 apart:=fun b hb=>by
  rw [List.filterMap_cons] at hb
  simp only [id,List.mem_append,List.mem_cons] at hb
  rcases hb with hb | hb | hb
  ·exact hi.apart b (uV (.inl hb))
  ·subst hb
   refine ⟨?_,.inr hi.size⟩
   cases hm:h.M w.heap.size with
   | none=>rfl
   | some x=>have:=hi.holds.lt hm;omega
  ·exact hi.apart b (uV (.inr hb))
 os:=hi.os
 tape:=hi.tape
 output:=hi.output
 size:=by simp;have:=hi.size;omega
 old:=fun b hb hu=>by rw [cu (by have:=hi.size;omega)];exact hi.old b hb hu
 mem:=hi.mem
 le:=hi.le
def Hp.store {c h w bs k i v}(hi:Hp c h w bs)(hk:k∈h.L.map (·.1)):
 Hp c {h with L:=sX h.L k i v} (w.setCell ⟨k,i,none⟩ v) bs:=by
 have jo:=List.nodup_append.1 hi.nodup
 have iC:=hi.apart k (by simp only [List.mem_append];exact .inl hk)
 exact
 {typ:=fun b u hu=>by
   obtain ⟨aL,hc⟩:=hi.typ b u hu
   refine ⟨by simpa [World.setCell] using aL,fun hb=> ?_⟩
   have hb:b∈(sX h.L k i v).map (·.1):=hb
   rw [rh] at hb
   obtain ⟨cs',f,hc⟩:=hc hb
   by_cases fp:b=k
   ·subst fp
    exact ⟨_,f,by simp only [World.setCell,Array.getElem?_modify,hc];rfl⟩
   ·exact ⟨cs',f,by rw [gx fp];exact hc⟩
  holds:=fun b x hb=>by
   obtain ⟨t,f,ht⟩:=hi.holds _ _ hb
   refine ⟨t,f,?_⟩
   rw [gx (by rintro rfl;rw [iC.1] at hb;cases hb)];exact ht
  blk:=fun b x hb=>by
   rcases Ty hb jo.1 with ⟨h1,h2⟩ | ⟨h1,cs0,h2,h3⟩
   ·obtain ⟨t,ht⟩:=hi.blk _ _ h2
    exact ⟨t,by rw [gx h1];exact ht⟩
   ·subst h1 h3
    exact Hd (hi.blk _ _ h2)
  rows:=⟨hi.rows.1,fun j v e sz xs o h1 h2=>(hi.rows.2 j v e sz xs o h1 h2).other (by
   rintro rfl
   have hm:k∈bs.filterMap id:=List.mem_filterMap.2 ⟨some k,List.mem_of_getElem? h2,rfl⟩
   exact jo.2.2 k hk k hm rfl)⟩
  nodup:=by
   show ((sX h.L k i v).map (·.1)++bs.filterMap id).Nodup
   rw [rh];exact hi.nodup
  apart:=fun b hb=>by
   have hb:b∈(sX h.L k i v).map (·.1)++bs.filterMap id:=hb
   rw [rh] at hb;exact hi.apart b hb
  os:=hi.os
  tape:=hi.tape
  output:=hi.output
  size:=by simpa [World.setCell] using hi.size
  old:=fun b hb hu=>by
   rw [gx ?_]
   ·exact hi.old b hb hu
   ·rintro rfl
    rcases iC.2 with h1 | h1
    ·exact hu h1
    ·omega
  mem:=hi.mem
  le:=hi.le}
def aR.add (M:aR)(b:Nat)(cs:List Value):aR:=fun k=>if k=b then some cs else M k
def Hp.freeze {c h w bs b cs L}(hi:Hp c h w bs)(hL:h.L=(b,cs)::L):
 Hp c {h with M:=h.M.add b cs,L:=L} w bs:=by
 have jo:=hi.nodup
 rw [hL] at jo
 simp only [List.map_cons,List.cons_append,List.nodup_cons] at jo
 have hbM:=(hi.apart b (by rw [hL];simp)).1
 have hbU:=(hi.apart b (by rw [hL];simp)).2
 exact
 {typ:=fun k u hu=>⟨(hi.typ k u hu).1,fun hk=>(hi.typ k u hu).2 (by rw [hL];simp only [List.map_cons,List.mem_cons];exact .inr hk)⟩
  holds:=fun k x hk=>by
   have lr:aR.add h.M b cs k=some x:=hk
   clear hk
   unfold aR.add at lr
   split at lr
   ·rename_i P0
    subst P0
    injection lr with lr;subst lr
    obtain ⟨t,ht⟩:=hi.blk k cs (by rw [hL];simp)
    exact ⟨t,_,[],by simpa using ht,.inl rfl⟩
   ·exact hi.holds _ _ lr
  blk:=fun k x hk=>hi.blk k x (by rw [hL];simp [hk])
  rows:=hi.rows
  nodup:=jo.2
  apart:=fun k hk=>by
   have h1:=hi.apart k (by rw [hL];simp only [List.map_cons,List.cons_append,List.mem_cons];exact .inr hk)
   refine ⟨?_,h1.2⟩
   show aR.add h.M b cs k=none
   unfold aR.add
   rw [if_neg]
   ·exact h1.1
   ·rintro rfl;exact jo.1 hk
  os:=hi.os
  tape:=hi.tape
  output:=hi.output
  size:=hi.size
  old:=hi.old
  mem:=fun k hk hu=>by
   show aR.add h.M b cs k=_
   unfold aR.add
   rw [if_neg]
   ·exact hi.mem k hk hu
   ·rintro rfl
    rcases hbU with h1 | h1
    ·exact hu h1
    ·omega
  le:=fun k x hk=>by
   show aR.add h.M b cs k=_
   unfold aR.add
   rw [if_neg]
   ·exact hi.le k x hk
   ·rintro rfl
    have:=hi.le k x hk
    rw [hbM] at this;cases this}
def Hp.extT {c h w bs t}(hi:Hp c h w bs):aG h.N (h.N.add w.heap.size t):=by
 intro b u hu
 have:=(hi.typ b u hu).1
 unfold Tm.add
 rw [if_neg (by omega)];exact hu
def Hp.retyp {c N N' M L R w bs}(hi:Hp c ⟨N,M,L,R⟩ w bs)(h:∀ b t,N' b=some t ->b<w.heap.size/\(b∈L.map (·.1) ->∃ cs f,w.heap[b]?=some (.cells cs t f))):Hp c ⟨N',M,L,R⟩ w bs:=
 {typ:=h
  holds:=hi.holds
  blk:=hi.blk
  rows:=hi.rows
  nodup:=hi.nodup
  apart:=hi.apart
  os:=hi.os
  tape:=hi.tape
  output:=hi.output
  size:=hi.size
  old:=hi.old
  mem:=hi.mem
  le:=hi.le}
def Hp.untype {c N N' M L R w bs}(hi:Hp c ⟨N,M,L,R⟩ w bs)(h:∀ b t,N' b=some t ->N b=some t):Hp c ⟨N',M,L,R⟩ w bs:=
 {typ:=fun b u hu=>hi.typ b u (h b u hu)
  holds:=hi.holds
  blk:=hi.blk
  rows:=hi.rows
  nodup:=hi.nodup
  apart:=hi.apart
  os:=hi.os
  tape:=hi.tape
  output:=hi.output
  size:=hi.size
  old:=hi.old
  mem:=hi.mem
  le:=hi.le}
def Hp.drop {c h w bs b cs L}(hi:Hp c h w bs)(hL:h.L=(b,cs)::L):Hp c {h with L:=L} w bs:=by
 have jo:=hi.nodup
 rw [hL] at jo
 simp only [List.map_cons,List.cons_append,List.nodup_cons] at jo
 exact
 {typ:=fun k u hu=>⟨(hi.typ k u hu).1,fun hk=>(hi.typ k u hu).2 (by rw [hL];simp only [List.map_cons,List.mem_cons];exact .inr hk)⟩
  holds:=hi.holds
  blk:=fun k x hk=>hi.blk k x (by rw [hL];simp [hk])
  rows:=hi.rows
  nodup:=jo.2
  apart:=fun k hk=>hi.apart k (by rw [hL];simp only [List.map_cons,List.cons_append,List.mem_cons];exact .inr hk)
  os:=hi.os
  tape:=hi.tape
  output:=hi.output
  size:=hi.size
  old:=hi.old
  mem:=hi.mem
  le:=hi.le}
def Kd {P:Program}{w:World}{v:Value}{e:TypeId}{sz:Nat}{xs:List Value}{o:Option Nat}(hr:ym w v e sz xs o)
 {t tx ty:TypeId} {i:TypeInfo} {z x:Value} {m:Nat} {news:List Value} (ht:P.underlying t=some (.slice e)) (hi:P.info? e=some i) (hz:i.zero=some z) (ed:i.size=sz)
 (rH:z.cells.size=sz) (dK:0<sz) (hs:Src P sz tx x m news w) (hb:xs.length+news.length<=4398046511104) (FT:i.bytes<=24*i.size):
 ∃ v' w' o',(Builtin.append_ #[t,tx] ty #[v,x]).run P w=.ok v' w'/\ym w' v' e sz (xs++news) o'/\w.grownBy w' o/\(o'=o\/∃ g,o'=some g/\w.heap.size<=g):=by
 subst ed
 have hm:news.length=m*i.size:=hs.newsLen
 have grow:∀ (base:Option Addr) (n cap:Nat),xs.length=n*i.size ->(Builtin.firstCells i.size n (.slice base n cap)).run P w.drew=.ok xs.toArray w.drew ->cap<n+m ->
  ∃ v' w' o',(Builtin.append_ #[t,tx] ty #[.slice base n cap,x]).run P w=.ok v' w'/\ym w' v' e i.size (xs++news) o'/\w.grownBy w' o/\(o'=o\/∃ g,o'=some g/\w.heap.size<=g):=by
  intro base n cap hn ab9 hg
  have FZ:n+m<=4398046511104:=by
   have h1:(n+m)*1<=(n+m)*i.size:=Nat.mul_le_mul_left _ dK
   have h2:(n+m)*i.size=n*i.size+m*i.size:=Nat.add_mul ..
   omega
  have mi:=nextslicecap_le hg
  have mm:=run_append_grow_src (P:=P) w t tx ty e i z ht hi hz base n cap xs ab9 x m news hs hg (by omega) (by
   have h2:(n+m)*i.size=n*i.size+m*i.size:=Nat.add_mul ..
   calc Builtin.nextslicecap (n+m) cap*i.bytes<=(2*(n+m))*(24*i.size):=Nat.mul_le_mul mi FT
    _=48*((n+m)*i.size):=by rw [Nat.mul_comm 2,Nat.mul_assoc,<- Nat.mul_assoc 2 24,Nat.mul_left_comm]
    _<=281474976710656:=by omega)
  refine ⟨_,_,some w.heap.size,mm,.inr (.inl ⟨w.heap.size,n+m,_,(Builtin.zeroCells z.cells (grownCap w (n+m) cap e - (n+m))).toList,rfl,?_,?_,?_,grownCap_ge _ _ _ _,rfl⟩),?_,.inr ⟨_,rfl,Nat.le_refl _⟩⟩
  ·have:=@fJ w.drew (.cells ((xs++news).toArray++Builtin.zeroCells z.cells (grownCap w (n+m) cap e - (n+m))) e)
   rw [show w.drew.heap.size=w.heap.size from rfl] at this
   rw [this]
   congr 2
   apply Array.toList_inj.1
   simp
  ·rw [List.length_append,hn,hm,Nat.add_mul]
  ·have PX:=grownCap_ge w (n+m) cap e
   rw [List.length_append,List.length_append,hn,hm,Array.length_toList,size_zeroCells,rH,<- Nat.add_mul,<- Nat.add_mul]
   congr 1
   omega
  ·exact ⟨rfl,rfl,rfl,by simp,fun k hk _=>cu (w:=w.drew) hk⟩
 rcases hr with ⟨rfl,rfl,rfl⟩ | ⟨g,n,cap,junk,rfl,hg,hn,hc,cX,rfl⟩ | ⟨h0,_⟩ | ⟨h0,_⟩
 ·by_cases h0:m=0
  ·subst h0
   have:news=[]:=by simpa using hm
   subst this
   refine ⟨.slice none 0 0,w,none,?_,.inl ⟨rfl,rfl,rfl⟩,⟨rfl,rfl,rfl,Nat.le_refl _,fun _ _ _=>rfl⟩,.inl rfl⟩
   rcases hs.kind with ⟨e',hk⟩ | hk<;>simp [Builtin.append_,run_underlying ht,run_underlying hk,Go.sizeOf,typeInfo,hi,hs.len,hs.cells]
  ·exact grow none 0 0 (by simp) (run_firstCells_none w.drew _ _ _ _) (by omega)
 ·by_cases SX:n+m<=cap
  ·have ed:xs.length+news.length<=(xs++junk).length:=by
    rw [hc,hn,hm,<- Nat.add_mul];exact Nat.mul_le_mul_right _ SX
   have qZ:=run_storeCells_at P g (n*i.size) e news 0 (xs++junk).toArray w hg (by rw [<- hn];simpa using ed) hs.one
   simp only [Nat.add_zero] at qZ
   have akB:(xs++junk).toArray.toList.take (n*i.size)++news++(xs++junk).toArray.toList.drop (n*i.size+news.length)=xs++news++junk.drop news.length:=by
    rw [<- hn]
    simp [List.drop_append]
   rw [akB] at qZ
   refine ⟨.slice (some ⟨g,0,none⟩) (n+m) cap,w.setRow g (xs++news++junk.drop news.length).toArray,some g,?_,.inr (.inl ⟨g,n+m,cap,junk.drop news.length,rfl,?_,?_,?_,SX,rfl⟩),?_,.inl rfl⟩
   ·rcases hs.kind with ⟨e',hk⟩ | hk<;>simp [Builtin.append_,run_underlying ht,run_underlying hk,Go.sizeOf,typeInfo,hi,hs.len,SX,hs.cells,Addr.add_lit,qZ]
   ·exact setRow_heap w g _ _ e (0,0) hg
   ·rw [List.length_append,hn,hm,Nat.add_mul]
   ·rw [<- hc]
    simp only [List.length_append,List.length_drop] at ed ⊢
    omega
   ·exact ⟨rfl,rfl,rfl,by simp,fun k _ hk=>setRow_other w g k _ (by rintro rfl;exact hk rfl)⟩
  ·refine grow (some ⟨g,0,none⟩) n cap hn ?_ (by omega)
   refine run_firstCells_some w.drew i.size n ⟨g,0,none⟩ n cap xs hn ?_
   intro j u hj
   rw [World.cell?_drew]
   have aL:j<xs.length:=(List.getElem?_eq_some_iff.1 hj).1
   have:w.cell? ((⟨g,0,none⟩:Addr).add j)=(xs++junk)[j]?:=by
    by_cases h0:j=0
    ·subst h0;simp [Addr.add,World.cell?,hg]
    ·simp [Addr.add,h0,World.cell?,hg]
   rw [this,List.getElem?_append_left aL];exact hj
 ·omega
 ·omega
def HH (c a b:Value):Option Value:=match c with | .bool t=>some (if t=true then a else b) | _=>none
def Vi (v:Value):Option Value:=match v with | .pointer (some a)=>some (.pointer (some a)) | _=>none
def wg (k:Option Nat)(v:Value):Option Value:=match k,v with | some k,.pointer (some a)=>some (.pointer (some (a.add k))) | _,_=>none
def PC (sz:Option Nat)(x i:Value):Option Value:=
 match sz,x,i with
 | some sz,.slice (some a) len _,.int _ n=>if 0<=n/\n<len then some (.pointer (some (a.add (n.toNat*sz)))) else none
 | _,_,_=>none
def sE (s:ByteArray)(k:Nat):UInt8:=s.data.toList.getD k 0
def vAt (str:Bool)(x i:Value):Option Value:=
 match str,x,i with
 | true,.string s,.int _ n=>if 0<=n/\n<s.size then some (.int .u8 (sE s n.toNat).toNat) else none
 | _,_,_=>none
def Vk (v:Value):Option Value:=match v with | .bool t=>some (.bool !t) | _=>none
def YR (v:Value):Option Value:=match v with | .int k n=>some (.int k (k.wrap (0 - n))) | _=>none
def PB (v:Value)(i:Nat):Option Value:=match v with | .tuple vs=>vs[i]? | _=>none
def PD (str sl:Bool)(v:Value):Option Value:=
 match str,v with
 | true,.string s=>some (.int .i64 s.size)
 | false,.slice _ n _=>if sl=true then some (.int .i64 n) else none
 | _,_=>none
def YM (sl:Bool)(v:Value):Option Value:=match v with
 | .slice _ _ n=>if sl=true then some (.int .i64 n) else none
 | _=>none
def HB (k:Option IntKind)(v:Value):Option Value:=match k,v with | some k,.int _ n=>some (.int k (k.wrap n)) | _,_=>none
def Es (b:Bool)(t:TypeId)(v:Value):Option Value:=if b=true then some (.iface t v) else none
def CW (str:Bool)(x:Value)(lo hi:Option Value):Option Value:=
 match str,x,lo,hi with
 | true,.string s,some (.int _ l),some (.int _ h)=>if 0<=l/\l<=h/\h<=s.size then some (.string (s.extract l.toNat h.toNat)) else none
 | true,.string s,some (.int _ l),none=>if 0<=l/\l<=s.size then some (.string (s.extract l.toNat s.size)) else none
 | true,.string s,none,some (.int _ h)=>if 0<=h/\h<=s.size then some (.string (s.extract 0 h.toNat)) else none
 | _,_,_,_=>none
def kG (a:Option Addr)(cap l sz:Nat):Option Addr:=if cap=l then a else a.map (·.add (l*sz))
def CV (sz:Option Nat)(x:Value)(lo hi:Option Value):Option Value:=
 match sz,x,lo,hi with
 | some sz,.slice a _ cap,some (.int _ l),some (.int _ h)=>if 0<=l/\l<=h/\h<=cap then some (.slice (kG a cap l.toNat sz) (h.toNat - l.toNat) (cap - l.toNat)) else none
 | some sz,.slice a n cap,some (.int _ l),none=>if 0<=l/\l<=n/\n<=cap then some (.slice (kG a cap l.toNat sz) (n - l.toNat) (cap - l.toNat)) else none
 | some sz,.slice a _ cap,none,some (.int _ h)=>if 0<=h/\h<=cap then some (.slice (kG a cap 0 sz) h.toNat cap) else none
 | _,_,_,_=>none
def px (z:List Value):Nat ->List Value ->List Value
 | _,[]=>z
 | i,v::vs=>px (z.set i v) (i+1) vs
def bt (P:Program)(t:TypeId):Option (List Value×List (Nat×Nat)):=
 match P.info? t,P.underlying t with
 | some it,some (.struct fields)=>
  match it.zero,fields.toList.mapM (fun f=>(P.info? f.type).map fun i=>(f.offset,i.size)) with
  | some z,some pl=>some (z.cells.toList,pl)
  | _,_=>none
 | _,_=>none
def nR (pl:List (Nat×Nat)):List Value ->List (Nat×List Value) ->Option (List Value)
 | z,[]=>some z
 | z,(i,vs)::rest=>
  match pl[i]? with
  | some (off,size)=>if vs.length=size/\off+vs.length<=z.length then nR pl (px z off vs) rest else none
  | none=>none
def vY (o:Option (List Value×List (Nat×Nat)))(parts:List (Nat×List Value)):Option Value:=
 match o with
 | some (z,pl)=>(nR pl z parts).map fun cs=> .agg cs.toArray
 | none=>none
def HI (sz:Nat)(z:List Value)(len:Nat)(parts:List (Nat×List Value)):Option (List Value):=
 nR ((List.range len).map fun i=>(i*sz,sz)) ((List.range len).flatMap fun _=>z) parts
def Ok (vs:List Value)(off:Nat):∀ (z:Array Value) (i:Nat),
 ((vs.zipIdx i).foldl (fun cs x=>cs.setIfInBounds (off+x.2) x.1) z)=(px z.toList (off+i) vs).toArray:=by
 induction vs with
 | nil=>intro z i;simp [px]
 | cons v vs ih=>
  intro z i
  simp only [List.zipIdx_cons,List.foldl_cons,px]
  rw [ih]
  simp [Nat.add_assoc]
def BV {pl:List (Nat×Nat)}{place:Nat ->Option (Nat×Nat)}(tA:∀ i p,pl[i]?=some p ->place i=some p):
 ∀ (parts:List (Nat×Value)) (z cs:List Value),nR pl z (parts.map fun x=>(x.1,x.2.cells.toList))=some cs ->Instr.fill place z.toArray parts=some cs.toArray:=by
 intro parts
 induction parts with
 | nil=>intro z cs h;simp [nR] at h;simp [Instr.fill,h]
 | cons p rest ih=>
  obtain ⟨i,v⟩:=p
  intro z cs h
  simp only [List.map_cons,nR] at h
  split at h
  ·rename_i off size hp
   split at h
   ·rename_i hc
    have h1:v.cells.size=size:=by simpa using hc.1
    simp only [Instr.fill,tA _ _ hp]
    rw [if_neg]
    ·have hf:=Ok v.cells.toList off z.toArray 0
     have:=ih _ _ h
     rw [<- this]
     congr 1
     simp only [Nat.add_zero] at hf
     rw [<- hf,<- Array.foldl_toList,Array.toList_zipIdx]
    ·have:=hc.2
     simp only [Array.length_toList,h1] at this
     simp [h1]
     omega
   ·cases h
  ·cases h
def Iv {P:Program}{t:TypeId}{parts:List (Nat×Value)}{v:Value}(h:vY (bt P t) (parts.map fun x=>(x.1,x.2.cells.toList))=some v):
 ∃ cs:List Value,v=.agg cs.toArray/\P.built t parts=some cs.toArray:=by
 unfold vY at h
 split at h
 ·rename_i z pl hb
  obtain ⟨cs,gC,rfl⟩:=Option.map_eq_some_iff.1 h
  refine ⟨cs,rfl,?_⟩
  unfold bt at hb
  split at hb
  ·rename_i it fields PY hu
   split at hb
   ·rename_i z' pl' hz tA
    injection hb with hb
    injection hb with fO dO
    subst fO dO
    unfold Program.built
    rw [PY,hu]
    simp only [hz,tA]
    have:=BV (pl:=pl') (place:=(pl'.toArray[·]?)) (fun i p hp=>by simpa using hp) parts _ _ gC
    simpa using this
   ·cases hb
  ·cases hb
 ·cases h
def HO (z:Array Value)(hz:0<z.size):∀ len,((Array.range (len*z.size)).map (z[· % z.size]!))=((List.range len).flatMap fun _=>z.toList).toArray:=by
 intro len
 apply Array.toList_inj.1
 simp only [Array.toList_map,Array.toList_range]
 induction len with
 | zero=>simp
 | succ n ih=>
  rw [Nat.succ_mul,List.range_add,List.map_append,ih,List.range_succ,List.flatMap_append]
  congr 1
  simp only [List.map_map,List.flatMap_cons,List.flatMap_nil,List.append_nil]
  apply List.ext_getElem
  ·simp
  ·intro i h1 h2
   simp only [List.getElem_map,List.getElem_range,Function.comp]
   simp only [List.length_map,List.length_range] at h1
   rw [Nat.mul_add_mod_self_right,Nat.mod_eq_of_lt h1]
   simp [h1]
def dY (P:Program)(t:TypeId):Option (TypeId×Nat×List Value):=
 match P.underlying t with
 | some (.slice e)=>match P.info? e with
  | some ie=>match ie.zero with
   | some z=>if z.cells.size=ie.size/\0<ie.size then some (e,ie.size,z.cells.toList) else none
   | none=>none
  | none=>none
 | _=>none
def jG {P:Program}{t e sz z}(h:dY P t=some (e,sz,z)):∃ ie zv,P.underlying t=some (.slice e)/\P.info? e=some ie/\ie.zero=some zv/\ie.size=sz/\0<sz/\zv.cells.toList=z/\zv.cells.size=sz:=by
 unfold dY at h
 split at h
 ·rename_i e' hu
  split at h
  ·rename_i ie hi
   split at h
   ·rename_i zv hz
    split at h
    ·rename_i hs
     injection h with h
     injection h with h1 h2
     injection h2 with h2 h3
     subst h1 h2 h3
     exact ⟨ie,zv,hu,hi,hz,rfl,hs.2,rfl,hs.1⟩
    ·cases h
   ·cases h
  ·cases h
 ·cases h
def yA {P:Program}{t e sz z len}{parts:List (Nat×Value)}{cs:List Value}(ht:dY P t=some (e,sz,z))(bu:len*sz<=16777216)
 (h:HI sz z len (parts.map fun x=>(x.1,x.2.cells.toList))=some cs) (w:World):
 (Instr.buildSlice t len parts.toArray).run P w=.ok (.slice (some ⟨w.heap.size,0,none⟩) len len) (w.alloc (.cells cs.toArray e)):=by
 obtain ⟨ie,zv,hu,hi,hz,rfl,dK,rfl,ed⟩:=jG ht
 have hf:Instr.fill (fun i=>some (i*ie.size,ie.size)) ((Array.range (len*ie.size)).map (zv.cells[· % zv.cells.size]!)) parts.toArray.toList=some cs.toArray:=by
  have hzz:=HO zv.cells (by omega) len
  rw [ed] at hzz
  rw [ed,hzz]
  unfold HI at h
  refine BV (place:=fun i=>some (i*ie.size,ie.size)) ?_ parts _ _ h
  intro i p hp
  simp only [List.getElem?_map,Option.map_eq_some_iff] at hp
  obtain ⟨a,ha,rfl⟩:=hp
  have:=List.getElem?_eq_some_iff.1 ha
  obtain ⟨h1,h2⟩:=this
  simp at h2
  rw [h2]
 rcases Nat.eq_zero_or_pos len with h0 | h0
 ·subst h0
  have hf0:Instr.fill (fun i=>some (i*ie.size,ie.size)) #[] parts=some cs.toArray:=by
   have:(Array.range (0*ie.size)).map (zv.cells[· % zv.cells.size]!)= #[]:=by simp [Array.range]
   rw [this] at hf;simpa using hf
  have e0:∀ f:Nat ->Value,Array.map f (Array.range 0)= #[]:=fun f=>by apply Array.ext';simp
  simp [Instr.buildSlice,run_underlying hu,e0,Go.sizeOf,typeInfo,hi,hf0,newRow]
 ·refine run_buildSlice w t e len _ cs.toArray ie zv hu hi hz (by omega) ?_ hf
  have:=Nat.mul_pos h0 dK;omega
def wP (L:List (Nat×List Value))(k:Nat):Nat ->List Value ->List (Nat×List Value)
 | _,[]=>L
 | i,v::vs=>wP (sX L k i v) k (i+1) vs
def Hp.storeN {c k}(vs:List Value):∀ (i:Nat) {h:Sh} {w:World} {bs},Hp c h w bs ->k∈h.L.map (·.1) ->Hp c {h with L:=wP h.L k i vs} (w.setCells k i vs) bs:=by
 induction vs with
 | nil=>intro i h w bs hi _;exact hi
 | cons v vs ih=>
  intro i h w bs hi hk
  exact ih (i+1) (hi.store hk) (by show k∈(sX h.L k i v).map (·.1);rw [rh];exact hk)
def Wf (h:Sh):Prop:=(h.L.map (·.1)).Nodup/\∀ b∈h.L.map (·.1),h.M b=none
def Hp.wf {c h w bs}(hi:Hp c h w bs):Wf h:=
 ⟨(List.nodup_append.1 hi.nodup).1,fun b hb=>(hi.apart b (by simp only [List.mem_append];exact .inl hb)).1⟩
def Hp.append {c h w w' bs j v e sz xs ys v' o o'}(hi:Hp c h w bs)(_hj:h.R[j]?=some (v,e,sz,xs))(ho:bs[j]?=some o)
 (hr:ym w' v' e sz ys o') (hg:w.grownBy w' o) (hn:o'=o\/∃ g,o'=some g/\w.heap.size<=g):
 Hp c {h with R:=h.R.set j (v',e,sz,ys)} w' (bs.set j o'):=by
 have ZB:j<bs.length:=(List.getElem?_eq_some_iff.1 ho).1
 have jo:=List.nodup_append.1 hi.nodup
 have hom:∀ g,o=some g ->g∈bs.filterMap id:=fun g B9=>List.mem_filterMap.2 ⟨some g,by subst B9;exact List.mem_of_getElem? ho,rfl⟩
 have FW:∀ b,b<w.heap.size ->o≠some b ->w'.heap[b]?=w.heap[b]?:=fun b hb cm=>hg.block b hb (fun he=>cm he.symm)
 -- the blocks behind the append
 have pr:∀ b,b∈(bs.set j o').filterMap id ->b∈bs.filterMap id\/w.heap.size<=b:=by
  intro b hb
  obtain ⟨x,hx,xm⟩:=List.mem_filterMap.1 hb
  simp only [id] at xm
  subst xm
  rcases List.mem_or_eq_of_mem_set hx with hx | hx
  ·exact .inl (List.mem_filterMap.2 ⟨_,hx,rfl⟩)
  ·rcases hn with hn | ⟨g,B9,hgw⟩
   ·exact .inl (hom b (by rw [<- hn,<- hx]))
   ·rw [<- hx] at B9;injection B9 with B9;subst B9;exact .inr hgw
 have alh:((bs.set j o').filterMap id).Nodup:=by
  have h2:=jo.2.1
  have aL:∀ b,b∈bs.filterMap id ->b<w.heap.size:=fun b hb=>hi.own_lt (by simp only [List.mem_append];exact .inr hb)
  rw [List.set_eq_take_append_cons_drop,if_pos ZB]
  have ED:bs=bs.take j++o::bs.drop (j+1):=by
   have:=List.getElem?_eq_some_iff.1 ho
   obtain ⟨h1,h3⟩:=this
   conv=>lhs;rw [<- List.take_append_drop j bs,dq h1,h3]
  rw [ED] at h2 aL
  rcases hn with rfl | ⟨g,rfl,hgw⟩
  ·exact h2
  ·rw [List.filterMap_append,List.nodup_append] at h2 ⊢
   have iD:∀ b,b∈(bs.drop (j+1)).filterMap id ->b∈(o::bs.drop (j+1)).filterMap id:=by
    intro b hb
    rw [List.filterMap_cons]
    cases o with
    | none=>exact hb
    | some q=>exact tC hb
   refine ⟨h2.1,?_,?_⟩
   ·rw [List.filterMap_cons]
    simp only [id,List.nodup_cons]
    constructor
    ·intro hm
     have:=aL g (by rw [List.filterMap_append,List.mem_append];exact .inr (iD g hm))
     omega
    ·have:=h2.2.1
     rw [List.filterMap_cons] at this
     simp only [id] at this
     split at this
     ·exact this
     ·exact (List.nodup_cons.1 this).2
   ·intro a ha b hb
    rw [List.filterMap_cons] at hb
    simp only [id,List.mem_cons] at hb
    rcases hb with rfl | hb
    ·have:=aL a (by rw [List.filterMap_append,List.mem_append];exact .inl ha)
     omega
    ·exact h2.2.2 a ha b (iD b hb)
 exact
 {typ:=fun b u hu=>by
   obtain ⟨aL,hc⟩:=hi.typ b u hu
   refine ⟨Nat.lt_of_lt_of_le aL hg.size,fun hb=> ?_⟩
   obtain ⟨cs',f,hc⟩:=hc hb
   refine ⟨cs',f,?_⟩
   rw [FW b (fL hc) ?_]
   ·exact hc
   ·intro he
    exact jo.2.2 b hb b (hom b he) rfl
  holds:=fun b x hb=>by
   obtain ⟨t,f,ht⟩:=hi.holds _ _ hb
   refine ⟨t,f,?_⟩
   rw [FW b (hi.holds.lt hb) ?_]
   ·exact ht
   ·intro he
    have:=(hi.apart b (by simp only [List.mem_append];exact .inr (hom b he))).1
    rw [hb] at this;cases this
  blk:=fun b x hb=>by
   have hk:b∈h.L.map (·.1):=List.mem_map.2 ⟨(b,x),hb,rfl⟩
   obtain ⟨t,ht⟩:=hi.blk _ _ hb
   refine ⟨t,?_⟩
   rw [FW b (fL ht) ?_]
   ·exact ht
   ·intro he
    exact jo.2.2 b hk b (hom b he) rfl
  rows:=by
   refine ⟨by simp [hi.rows.1],?_⟩
   intro k u e2 sz2 zs q h1 h2
   by_cases hkj:j=k
   ·subst hkj
    rw [List.getElem?_set_self (by rw [hi.rows.1];exact ZB)] at h1
    rw [List.getElem?_set_self ZB] at h2
    simp only [Option.some.injEq,Prod.mk.injEq] at h1 h2
    obtain ⟨rfl,rfl,rfl,rfl⟩:=h1
    subst h2
    exact hr
   ·rw [List.getElem?_set_ne hkj] at h1 h2
    have bN:=hi.rows.2 k u e2 sz2 zs q h1 h2
    refine bN.keep fun g hq=> ?_
    subst hq
    refine FW g bN.lt ?_
    intro he
    subst he
    -- two rows would own one block
    have h3:=jo.2.1
    have:∀ (l:List (Option Nat)),(l.filterMap id).Nodup ->∀ (a b:Nat),l[a]?=some (some g) ->l[b]?=some (some g) ->a=b:=by
     intro l
     induction l with
     | nil=>intro _ a b ha;simp at ha
     | cons x l ih=>
      intro hl a b ha hb
      cases a with
      | zero=>
       cases b with
       | zero=>rfl
       | succ b=>
        simp at ha hb
        subst ha
        rw [List.filterMap_cons] at hl
        simp only [id,List.nodup_cons] at hl
        exact (hl.1 (List.mem_filterMap.2 ⟨some g,List.mem_of_getElem? hb,rfl⟩)).elim
      | succ a=>
       cases b with
       | zero=>
        simp at ha hb
        subst hb
        rw [List.filterMap_cons] at hl
        simp only [id,List.nodup_cons] at hl
        exact (hl.1 (List.mem_filterMap.2 ⟨some g,List.mem_of_getElem? ha,rfl⟩)).elim
       | succ b=>
        simp at ha hb
        rw [List.filterMap_cons] at hl
        simp only [id] at hl
        split at hl
        ·rw [ih hl a b ha hb]
        ·rw [ih (List.nodup_cons.1 hl).2 a b ha hb]
    exact hkj (this bs h3 j k ho h2)
  nodup:=by
   rw [List.nodup_append]
   refine ⟨jo.1,alh,?_⟩
   intro a ha b hb
   rcases pr b hb with hb | hb
   ·exact jo.2.2 a ha b hb
   ·have:=hi.own_lt (b:=a) (by simp only [List.mem_append];exact .inl ha)
    omega
  apart:=fun b hb=>by
   rcases xY hb with hb | hb
   ·exact hi.apart b (by simp only [List.mem_append];exact .inl hb)
   ·rcases pr b hb with hb | hb
    ·exact hi.apart b (by simp only [List.mem_append];exact .inr hb)
    ·refine ⟨?_,.inr (Nat.le_trans hi.size hb)⟩
     cases hM:h.M b with
     | none=>rfl
     | some x=>have:=hi.holds.lt hM;omega
  os:=hg.os.trans hi.os
  tape:=hg.tape.trans hi.tape
  output:=hg.output.trans hi.output
  size:=Nat.le_trans hi.size hg.size
  old:=fun b hb hu=>by
   rw [FW b (Nat.lt_of_lt_of_le hb hi.size) ?_]
   ·exact hi.old b hb hu
   ·intro he
    rcases (hi.apart b (by simp only [List.mem_append];exact .inr (hom b he))).2 with h1 | h1
    ·exact hu h1
    ·omega
  mem:=hi.mem
  le:=hi.le}
def uv (P:Program)(t:TypeId):Bool:=match P.underlying t with | some .bool=>true | _=>false
def zJ (P:Program)(t:TypeId):Bool:=match P.underlying t with | some (.pointer _)=>true | _=>false
def CU (op:BinOp)(k:IntKind)(x y:Int):Option Value:=
 match op with
 | .and=>some (.int k (k.wrap (BitVec.ofInt k.bits x &&& BitVec.ofInt k.bits y).toNat))
 | .or=>some (.int k (k.wrap (BitVec.ofInt k.bits x ||| BitVec.ofInt k.bits y).toNat))
 | .xor=>some (.int k (k.wrap (BitVec.ofInt k.bits x ^^^ BitVec.ofInt k.bits y).toNat))
 | .quo=>if y=0 then none else some (.int k (k.wrap (x.tdiv y)))
 | .rem=>if y=0 then none else some (.int k (x.tmod y))
 | .shl=>if 0<=y then some (.int k (k.wrap (x*2 ^ (min y.toNat k.bits)))) else none
 | .shr=>if 0<=y then some (.int k (x.fdiv (2 ^ (min y.toNat k.bits)))) else none
 | _=>none
def Gl (P:Program)(t:TypeId):Option Nat:=match P.underlying t with | some .bool=>some 0 | some (.int _)=>some 1 | some .string=>some 2 | _=>none
def UG (P:Program):Nat ->List Field ->Option (List Nat)
 | _,[]=>some []
 | i,f::r=>if f.name≠ "_"/\f.offset=i then match Gl P f.type,UG P (i+1) r with | some k,some l=>some (k::l) | _,_=>none else none
def Hh (P:Program)(t:TypeId):Option (List Nat):=
 if P.stoodInHeld t=false/\P.eqGuardType P.depth t=false then match P.underlying t with | some (.struct fs)=>UG P 0 fs.toList | _=>none else none
def Zc:Nat ->Value ->Value ->Option Bool
 | 0,.bool a,.bool b=>some (decide (a=b))
 | 1,.int i a,.int j b=>if i=j then some (decide (a=b)) else none
 | 2,.string a,.string b=>some (decide (a=b))
 | _,_,_=>none
def IV:List Nat ->List Value ->List Value ->Option Bool
 | [],_,_=>some true
 | k::ks,x::xs,y::ys=>match Zc k x y with
  | some true=>IV ks xs ys
  | some false=>some false
  | none=>none
 | _,_,_=>none
def Vm (op:BinOp)(k:IntKind)(x y:Int):Option Value:=
 match op with
 | .shl=>if 0<=y then some (.int k (k.wrap (x*2 ^ (min y.toNat k.bits)))) else none
 | .shr=>if 0<=y then some (.int k (x.fdiv (2 ^ (min y.toNat k.bits)))) else none
 | _=>none
def Hz (P:Program)(op:BinOp)(t:TypeId)(x y:Value):Option Value:=
 match x,y with
 | .int i a,.int j b=>if i=j then CU op i a b else Vm op i a b
 | .string a,.string b=>match op with
  | .add=>if a.size+b.size<=9223372036854775807 then some (.string (a++b)) else none
  | .lss=>some (.bool (Op.bytesLess a.data.toList b.data.toList))
  | .gtr=>some (.bool (!(Op.bytesLess a.data.toList b.data.toList || a.data.toList==b.data.toList)))
  | _=>none
 | .bool a,.bool b=>match op with
  | .eql=>if uv P t=true then some (.bool (a==b)) else none
  | .neq=>if uv P t=true then some (.bool (!(a==b))) else none
  | _=>none
 | .slice a _ _,.slice none 0 0=>match op with
  | .eql=>if dP P t=true then some (.bool a.isNone) else none
  | .neq=>if dP P t=true then some (.bool (!a.isNone)) else none
  | _=>none
 | .pointer a,.pointer none=>match op with
  | .eql=>if zJ P t=true then some (.bool a.isNone) else none
  | .neq=>if zJ P t=true then some (.bool (!a.isNone)) else none
  | _=>none
 | .agg a,.agg b=>match op with
  | .eql=>match Hh P t with | some ks=>(IV ks a.toList b.toList).map .bool | none=>none
  | .neq=>match Hh P t with | some ks=>(IV ks a.toList b.toList).map fun r=> .bool (!r) | none=>none
  | _=>none
 | _,_=>none
def iX (P:Program)(op:BinOp)(t:TypeId)(x y:Value):Option Value:=
 match Hy op x y with
 | some v=>some v
 | none=>Hz P op t x y
def Uq {P:Program}{op:BinOp}{t:TypeId}{X Y:Operand}{x y v:Value}(hv:Hy op x y=some v)(w:World):
 (do eqGuard op t X Y x y;binOp op t x y:Sem Value).run P w=.ok v w:=by
 unfold Hy at hv
 split at hv
 ·rename_i i a j b
  split at hv
  ·rename_i zp
   subst zp
   simp [cU,sj hv]
  ·cases hv
 ·rename_i a b
  split at hv<;>first | (cases hv;done) | (injection hv with hv;subst hv;simp [cU,binOp,Op.stringOp,tm])
 ·cases hv
def Mo {P:Program}{d:Nat}{t:TypeId}{k:Nat}{x y:Value}{b:Bool}(hk:Gl P t=some k)(h:Zc k x y=some b)(w:World):(Op.equalIn (d+1) t x y).run P w=.ok b w:=by
 unfold Gl at hk
 split at hk
 ·rename_i hu
  injection hk with hk;subst hk
  cases x<;>cases y<;>simp only [Zc,reduceCtorEq] at h
  injection h with h;subst h
  rw [run_equalIn_bool' w d t _ _ hu]
  rename_i a b
  cases a<;>cases b<;>rfl
 ·rename_i kk hu
  injection hk with hk;subst hk
  cases x<;>cases y<;>simp only [Zc,reduceCtorEq] at h
  split at h
  ·rename_i zp
   injection h with h;subst h zp
   rw [run_equalIn_int w d t _ _ _ _ hu]
   rfl
  ·cases h
 ·rename_i hu
  injection hk with hk;subst hk
  cases x<;>cases y<;>simp only [Zc,reduceCtorEq] at h
  injection h with h;subst h
  rw [run_equalIn_string w d t _ _ hu,tm]
 ·cases hk
def CD {P:Program}{t:TypeId}{k off:Nat}{xs:Array Value}{x:Value}(hk:Gl P t=some k)(hx:xs[off]?=some x)(w:World):(part t xs off).run P w=.ok x w:=by
 unfold Gl at hk
 split at hk
 ·rename_i hu;simp [part,isAgg,run_underlying hu,hx]
 ·rename_i kk hu;simp [part,isAgg,run_underlying hu,hx]
 ·rename_i hu;simp [part,isAgg,run_underlying hu,hx]
 ·cases hk
theorem uF {P:Program}{d:Nat}{xs ys:Array Value}:∀ (fs:List Field) (i:Nat) (ks:List Nat) (b:Bool),UG P i fs=some ks ->IV ks (xs.toList.drop i) (ys.toList.drop i)=some b ->∀ w,(Op.eqFields (d+1) xs ys fs).run P w=.ok b w
 | [],i,ks,b,h1,h2,w=>by
  simp only [UG,Option.some.injEq] at h1;subst h1
  simp only [IV,Option.some.injEq] at h2;subst h2
  rfl
 | f::fs,i,ks,b,h1,h2,w=>by
  simp only [UG] at h1
  split at h1
  ·rename_i hc
   obtain ⟨uq,af3⟩:=hc
   split at h1
   ·rename_i k l hk hl
    injection h1 with h1;subst h1
    cases hx:xs.toList.drop i with
    | nil=>rw [hx] at h2;simp [IV] at h2
    | cons x xr=>
     cases hy:ys.toList.drop i with
     | nil=>rw [hx,hy] at h2;simp [IV] at h2
     | cons y yr=>
      rw [hx,hy] at h2
      have hxi:xs[f.offset]?=some x:=by
       have:=congrArg (·[0]?) hx
       rw [af3];simpa using this
      have hyi:ys[f.offset]?=some y:=by
       have:=congrArg (·[0]?) hy
       rw [af3];simpa using this
      have VV:xs.toList.drop (i+1)=xr:=by
       have:=congrArg List.tail hx
       simpa [List.tail_drop] using this
      have hyr:ys.toList.drop (i+1)=yr:=by
       have:=congrArg List.tail hy
       simpa [List.tail_drop] using this
      have ih:=uF (P:=P) (d:=d) (xs:=xs) (ys:=ys) fs (i+1) l
      rw [VV,hyr] at ih
      rw [Op.eqFields,if_pos uq]
      simp only [Sem.run_bind,CD hk hxi,Result.andThen_ok,CD hk hyi]
      simp only [IV] at h2
      split at h2
      ·rename_i hv
       rw [Mo hk hv]
       simp only [Result.andThen_ok,Bool.not_true,Bool.false_eq_true,if_false]
       exact ih b hl h2 w
      ·rename_i hv
       injection h2 with h2;subst h2
       rw [Mo hk hv]
       simp only [Result.andThen_ok,Bool.not_false,if_true]
       rfl
      ·cases h2
   ·cases h1
  ·cases h1
def Mp {P:Program}{t:TypeId}{ks:List Nat}{xs ys:Array Value}{b:Bool}(hs:Hh P t=some ks)(he:IV ks xs.toList ys.toList=some b)(w:World):
 P.eqGuardType P.depth t=false/\(Op.equalIn 10000 t (.agg xs) (.agg ys)).run P w=.ok b w:=by
 unfold Hh at hs
 split at hs
 ·rename_i hc
  split at hs
  ·rename_i fs hu
   have hf:P.fieldsOf t=fs:=by unfold Program.fieldsOf;rw [hu]
   refine ⟨hc.2,?_⟩
   rw [run_equalIn_struct w 9999 t xs ys (by rw [hf];exact hu) hc.1,hf]
   exact uF fs.toList 0 ks b hs (by simpa using he) w
  ·cases hs
 ·cases hs
def Ur {P:Program}{op:BinOp}{t:TypeId}{X Y:Operand}{x y v:Value}(hv:Hz P op t x y=some v)(w:World):
 (do eqGuard op t X Y x y;binOp op t x y:Sem Value).run P w=.ok v w:=by
 unfold Hz at hv
 split at hv
 ·rename_i i a j b
  split at hv
  ·rename_i zp
   subst zp
   unfold CU at hv
   split at hv
   ·injection hv with hv;subst hv;simp [cU,binOp,Op.intBits]
   ·injection hv with hv;subst hv;simp [cU,binOp,Op.intBits]
   ·injection hv with hv;subst hv;simp [cU,binOp,Op.intBits]
   ·split at hv
    ·cases hv
    ·rename_i h0
     injection hv with hv;subst hv;simp [cU,binOp,Op.intDiv,h0]
   ·split at hv
    ·cases hv
    ·rename_i h0
     injection hv with hv;subst hv;simp [cU,binOp,Op.intDiv,h0]
   ·split at hv
    ·rename_i h0
     have h0:¬ b<0:=by omega
     injection hv with hv;subst hv;simp [cU,binOp,Op.shift,h0]
    ·cases hv
   ·split at hv
    ·rename_i h0
     have h0:¬ b<0:=by omega
     injection hv with hv;subst hv;simp [cU,binOp,Op.shift,h0]
    ·cases hv
   ·cases hv
  ·unfold Vm at hv
   split at hv
   ·split at hv
    ·rename_i h0
     have h0:¬ b<0:=by omega
     injection hv with hv;subst hv;simp [cU,binOp,Op.shift,h0]
    ·cases hv
   ·split at hv
    ·rename_i h0
     have h0:¬ b<0:=by omega
     injection hv with hv;subst hv;simp [cU,binOp,Op.shift,h0]
    ·cases hv
   ·cases hv
 ·rename_i a b
  split at hv
  ·split at hv
   ·rename_i hb
    injection hv with hv;subst hv
    have:¬ (((a.size+b.size:Nat):Int)>IntKind.i64.max):=by
     have:IntKind.i64.max=9223372036854775807:=by decide
     omega
    have h2:(eqGuard .add t X Y (.string a) (.string b)).run P w=.ok () w:=cU (by simp) (by simp) w
    simp only [Sem.run_bind,h2,Result.andThen_ok,binOp,Op.stringOp]
    rw [if_neg this]
    rfl
   ·cases hv
  ·injection hv with hv;subst hv
   simp [cU,binOp,Op.stringOp,ByteArray.toList_eq]
  ·injection hv with hv;subst hv
   simp [cU,binOp,Op.stringOp,ByteArray.toList_eq]
  ·cases hv
 ·rename_i a b
  split at hv<;>first | (cases hv;done) | skip
  all_goals
   split at hv<;>first | (cases hv;done) | skip
   rename_i hb
   injection hv with hv;subst hv
   unfold uv at hb
   split at hb
   ·rename_i hu
    simp [cU,binOp,run_equal_bool w t a b hu]
   ·cases hb
 ·rename_i a l c
  split at hv<;>first | (cases hv;done) | skip
  all_goals
   split at hv<;>first | (cases hv;done) | skip
   rename_i hb
   injection hv with hv;subst hv
   unfold dP at hb
   split at hb
   ·rename_i e hu
    simp [cU,binOp,run_equal_slice_nil w t e a l c hu]
   ·cases hb
 ·rename_i a
  split at hv<;>first | (cases hv;done) | skip
  all_goals
   split at hv<;>first | (cases hv;done) | skip
   rename_i hb
   injection hv with hv;subst hv
   unfold zJ at hb
   split at hb
   ·rename_i e hu
    have hp:P.underlying t=some (.pointer (P.pointee t)):=by unfold Program.pointee;rw [hu]
    simp [cU,binOp,run_equal_pointer_nil w t a hp]
   ·cases hb
 ·rename_i a b
  split at hv
  ·split at hv
   ·rename_i ks hs
    obtain ⟨r,hr,rfl⟩:=Option.map_eq_some_iff.1 hv
    obtain ⟨hg,hq⟩:=Mp hs hr w
    have h1:(eqGuard .eql t X Y (.agg a) (.agg b)).run P w=.ok () w:=run_eqGuard_agg w .eql t X Y a b hg
    simp only [Sem.run_bind,h1,Result.andThen_ok,run_eql_struct w,hq]
   ·cases hv
  ·split at hv
   ·rename_i ks hs
    obtain ⟨r,hr,rfl⟩:=Option.map_eq_some_iff.1 hv
    obtain ⟨hg,hq⟩:=Mp hs hr w
    have h1:(eqGuard .neq t X Y (.agg a) (.agg b)).run P w=.ok () w:=run_eqGuard_agg w .neq t X Y a b hg
    simp only [Sem.run_bind,h1,Result.andThen_ok,run_neq_struct w,hq]
   ·cases hv
  ·cases hv
 ·cases hv
def G9 {P:Program}{op:BinOp}{t:TypeId}{X Y:Operand}{x y v:Value}(hv:iX P op t x y=some v)(w:World):
 (do eqGuard op t X Y x y;binOp op t x y:Sem Value).run P w=.ok v w:=by
 unfold iX at hv
 split at hv
 ·rename_i u hu
  injection hv with hv;subst hv
  exact Uq hu w
 ·exact Ur hv w
def cvT (P:Program)(src t:TypeId):Option IntKind:=if (P.underlying src).isSome=true then rI P t else none
def qD (h:Sh)(t:Option (Bool×Nat×Value))(v:Value):Option Value:=
 match t,v with
 | some (false,_,_),.pointer (some a)=>h.cell a
 | some (true,n,_),.pointer (some a)=>(h.cells a 0 n).map fun cs=> .agg cs.toArray
 | _,_=>none
def LP (P:Program)(src t:TypeId):Bool:=match P.underlying src,P.underlying t with
 | some (.slice e),some .string=>(match P.underlying e with | some (.int .u8)=>true | _=>false)
 | _,_=>false
def D2:List Value ->Option (List Int)
 | []=>some []
 | .int .u8 n::l=>(D2 l).map (n:: ·)
 | _::_=>none
def ade (h:Sh):Value ->Option Value
 | .slice none _ _=>some (.string ByteArray.empty)
 | .slice (some ⟨b,o,none⟩) n _=>(h.cells ⟨b,o,none⟩ 0 n).bind fun cs=>(D2 cs).map fun xs=> .string (strOfNums xs)
 | _=>none
def vZ (P:Program)(h:Sh)(src t:TypeId)(v:Value):Option Value:=match v with
 | .int k n=>HB (cvT P src t) (.int k n)
 | .slice a n c=>if LP P src t=true then ade h (.slice a n c) else none
 | _=>none
def fdP (P:Program)(t:TypeId)(i:Nat):Option (Bool×Nat×Nat):=
 match P.underlying t with
 | some (.struct fs)=>match fs[i]? with
  | some f=>match P.info? f.type,P.underlying f.type with
   | some inf,some d=>some (DW d,f.offset,inf.size)
   | _,_=>none
  | none=>none
 | _=>none
def vFd (k:Option (Bool×Nat×Nat))(v:Value):Option Value:=match k,v with
 | some (true,o,n),.agg cs=>some (.agg (cs.extract o (o+n)))
 | some (false,o,_),.agg cs=>cs[o]?
 | _,_=>none
def ac8 {P:Program}{t:TypeId}{i:Nat}{x v:Value}(h:vFd (fdP P t i) x=some v)(w:World):(Instr.field t x i).run P w=.ok v w:=by
 unfold vFd at h
 split at h
 ·rename_i o n cs hk
  injection h with h;subst h
  unfold fdP at hk
  split at hk
  ·rename_i fs SI
   split at hk
   ·rename_i f hf
    split at hk
    ·rename_i inf d xi hd
     injection hk with hk
     simp only [Prod.mk.injEq] at hk
     obtain ⟨h1,rfl,rfl⟩:=hk
     simp [Instr.field,run_underlying SI,hf,part,asAgg,jO hd,h1,Go.sizeOf,typeInfo,xi]
    ·cases hk
   ·cases hk
  ·cases hk
 ·rename_i o n cs hk
  unfold fdP at hk
  split at hk
  ·rename_i fs SI
   split at hk
   ·rename_i f hf
    split at hk
    ·rename_i inf d xi hd
     injection hk with hk
     simp only [Prod.mk.injEq] at hk
     obtain ⟨h1,rfl,rfl⟩:=hk
     simp [Instr.field,run_underlying SI,hf,part,asAgg,jO hd,h1,h]
    ·cases hk
   ·cases hk
  ·cases hk
 ·cases h
def VL (P:Program)(src t:TypeId):Nat:=match P.underlying src,P.underlying t with
 | some .string,some (.slice e)=>(match P.underlying e with | some (.int .u8)=>1 | _=>0)
 | some (.slice e),some (.slice _)=>if src=t then (match P.underlying e with | some (.int .u8)=>2 | _=>0) else 0
 | _,_=>0
def pv (P:Program)(e:dx)(h:Sh):Op ->Option Value
 | .move x | .assign x=>some (ev e x)
 | .pick c a b=>HH (ev e c) (ev e a) (ev e b)
 | .nilCheck x=>Vi (ev e x)
 | .fieldAddr t x i=>wg (cG P t i) (ev e x)
 | .indexAddr t x i=>PC (df P t) (ev e x) (ev e i)
 | .index t x i=>vAt (cL P t) (ev e x) (ev e i)
 | .binOp op t x y _=>iX P op t (ev e x) (ev e y)
 | .unOp .not _ x=>Vk (ev e x)
 | .unOp .neg _ x=>YR (ev e x)
 | .extract x i=>PB (ev e x) i
 | .build t parts=>vY (bt P t) (parts.toList.map fun x=>(x.1,(ev e x.2).cells.toList))
 | .convert src t x=>vZ P h src t (ev e x)
 | .makeInterface t x=>Es (P.concrete t) t (ev e x)
 | .makeFunc fn a b=>some (.func fn (a.map (ev e)) (b.map (ev e)))
 | .slice t x lo hi none=>if cL P t=true then CW true (ev e x) (lo.map (ev e)) (hi.map (ev e)) else CV (df P t) (ev e x) (lo.map (ev e)) (hi.map (ev e))
 | .load t x=>qD h (tk P t) (ev e x)
 | .field t x i=>vFd (fdP P t i) (ev e x)
 | .call {callee:=.builtin .len,args,argTypes}=>match args.toList,argTypes.toList with
  | [x],[t]=>PD (cL P t) (dP P t) (ev e x)
  | _,_=>none
 | .call {callee:=.builtin .cap,args,argTypes}=>match args.toList,argTypes.toList with
  | [x],[t]=>YM (dP P t) (ev e x)
  | _,_=>none
 | _=>none
def xq {P:Program}{src t:TypeId}{v u:Value}(h:HB (cvT P src t) v=some u)(w:World):(convert src t v).run P w=.ok u w:=by
 unfold HB at h
 split at h
 ·rename_i k q n hk
  injection h with h;subst h
  unfold cvT at hk
  split at hk
  rotate_left
  ·cases hk
  rename_i hs
  unfold rI at hk
  split at hk
  ·rename_i k' hu
   injection hk with hk;subst hk
   obtain ⟨d,hd⟩:=Option.isSome_iff_exists.1 hs
   simp [convert,run_underlying hd,run_underlying hu,Conv.intToInt]
  ·cases hk
 ·cases h
theorem wR:∀ {cs:List Value} {xs:List Int},D2 cs=some xs ->cs=xs.map (Value.int .u8)
 | [],xs,h=>by injection h with h;subst h;rfl
 | v::l,xs,h=>by
  unfold D2 at h
  split at h
  ·cases ‹_::_=[]›
  ·rename_i n l' he
   injection he with h1 h2
   subst h1 h2
   obtain ⟨ys,hy,rfl⟩:=Option.map_eq_some_iff.1 h
   rw [List.map_cons,<- wR hy]
  ·cases h
def QI {P:Program}{src t:TypeId}(h:LP P src t=true):∃ e,P.underlying src=some (.slice e)/\P.underlying e=some (.int .u8)/\P.underlying t=some .string:=by
 unfold LP at h
 split at h
 ·rename_i e h1 h2
  split at h
  ·rename_i h3;exact ⟨e,h1,h3,h2⟩
  ·cases h
 ·cases h
def A8 {P:Program}{t:TypeId}{x i v:Value}(h:vAt (cL P t) x i=some v)(w:World):(Instr.index t x i).run P w=.ok v w:=by
 unfold vAt at h
 split at h
 ·rename_i s k n hs
  split at h
  ·rename_i hb
   injection h with h;subst h
   unfold cL at hs
   split at hs
   ·rename_i hu
    have aL:n.toNat<s.size:=by omega
    have fD:n.toNat<s.data.size:=aL
    simp only [Instr.index,asIntOf,Sem.run_bind,Sem.run_pure,Result.andThen_ok,run_underlying hu,hb.1,if_true]
    have he:s[n.toNat]?=some (sE s n.toNat):=by
     rw [getElem?_pos s n.toNat aL]
     congr 1
     simp only [sE,List.getD_eq_getElem?_getD]
     rw [gq (by simpa using fD)]
     rfl
    rw [he]
    rfl
   ·cases hs
  ·cases h
 ·cases h
def OK (P:Program):Op ->Bool | .load _ _=>true | .convert src t _=>LP P src t | _=>false
def Cx {P:Program}{o:Oper}{e:dx}{h:Sh}{v:Value}(hv:pv P e h o.op=some v){c:Ctx}{w:World}(hw:OK P o.op=true ->Is c h w):
 (execOp (ev e) o).run P w=.ok (.value v) w:=by
 unfold pv at hv
 split at hv
 ·rename_i x ec;injection hv with hv;subst hv;simp only [execOp,ec];rfl
 ·rename_i x ec;injection hv with hv;subst hv;simp only [execOp,ec];rfl
 ·rename_i cc a b ec
  unfold HH at hv
  split at hv
  ·rename_i t ht
   injection hv with hv;subst hv
   simp [execOp,ec,ht,asBool]
  ·cases hv
 ·rename_i x ec
  unfold Vi at hv
  split at hv
  ·rename_i a ha
   injection hv with hv;subst hv
   simp [execOp,ec,ha]
  ·cases hv
 ·rename_i t x i ec
  unfold wg at hv
  split at hv
  ·rename_i k a hk ha
   injection hv with hv;subst hv
   unfold cG at hk
   split at hk
   ·rename_i fs SI
    split at hk
    ·rename_i f hf
     split at hk
     ·rename_i inf xi
      split at hk
      ·cases hk
      ·rename_i ed
       simp only [Option.some.injEq] at hk
       subst hk
       simp only [execOp,ec,ha,Instr.fieldAt]
       simp [run_underlying SI,hf,Instr.sureAddr,fieldPlace,Go.sizeOf,typeInfo,xi,ed]
     ·cases hk
    ·cases hk
   ·cases hk
  ·cases hv
 ·rename_i t x i ec
  unfold PC at hv
  split at hv
  ·rename_i sz a len cap k n hk ha hi
   split at hv
   ·rename_i hb
    injection hv with hv;subst hv
    unfold df at hk
    split at hk
    ·rename_i el SE
     simp only [Option.map_eq_some_iff] at hk
     obtain ⟨inf,xi,rfl⟩:=hk
     simp only [execOp,ec,ha,hi,Instr.indexAt]
     simp [asIntOf,run_underlying SE,hb,Go.sizeOf,typeInfo,xi]
    ·cases hk
   ·cases hv
  ·cases hv
 ·rename_i t x i ec
  simp only [execOp,ec,Sem.run_bind,A8 hv]
  rfl
 ·rename_i op t x y _ ec
  simp only [execOp,ec]
  have:=G9 (X:=x) (Y:=y) hv w
  rw [Sem.run_bind,this]
  rfl
 ·rename_i t x ec
  unfold Vk at hv
  split at hv
  ·rename_i b hb
   injection hv with hv;subst hv
   simp [execOp,ec,hb,Op.unary]
  ·cases hv
 ·rename_i t x ec
  unfold YR at hv
  split at hv
  ·rename_i k n hb
   injection hv with hv;subst hv
   simp [execOp,ec,hb,Op.unary,Op.intArith]
  ·cases hv
 ·rename_i x i ec
  unfold PB at hv
  split at hv
  ·rename_i vs hx
   simp [execOp,ec,hx,Instr.extract,hv]
  ·cases hv
 ·rename_i t parts ec
  obtain ⟨cs,rfl,hb⟩:=Iv (P:=P) (t:=t) (parts:=parts.toList.map fun x=>(x.1,ev e x.2)) (by rw [List.map_map];exact hv)
  simp only [execOp,ec]
  have:=run_build (P:=P) w t (parts.map fun (i,x)=>(i,ev e x)) cs.toArray (by simpa using hb)
  rw [Sem.run_bind,this]
  rfl
 ·rename_i src t x ec
  have lz:(convert src t (ev e x)).run P w=.ok v w:=by
   unfold vZ at hv
   split at hv
   ·rename_i k n hx
    rw [hx];exact xq hv w
   ·rename_i a n c hx
    rw [hx]
    split at hv
    ·rename_i hb
     obtain ⟨el,hs,he,hd⟩:=QI hb
     unfold ade at hv
     split at hv
     ·rename_i n' c' zA
      injection zA with h1 h2 h3
      subst h1
      injection hv with hv
      subst hv
      exact run_convert_bytes_nil w src el hs he _ _ t hd
     ·rename_i b o n' c' zA
      injection zA with h1 h2 h3
      subst h1 h2 h3
      obtain ⟨cs,gC,hv⟩:=Option.bind_eq_some_iff.1 hv
      obtain ⟨xs,fq,rfl⟩:=Option.map_eq_some_iff.1 hv
      obtain ⟨bs,hi⟩:=hw (by rw [ec];exact hb)
      obtain ⟨hl,hc⟩:=je _ _ _ (hi.cells _ _ _ gC)
      have abJ:=wR fq
      refine run_convert_bytes_arg w src el hs he b o _ _ xs (by rw [<- hl,abJ,List.length_map]) ?_ t hd
      intro i Jl
      have h4:=hc i (Value.int .u8 (xs.getD i 0)) (by
       rw [abJ,List.getElem?_map]
       have:i<xs.length:=by rw [abJ,List.length_map] at hl;omega
       simp [List.getD_eq_getElem?_getD,gq this])
      have acf:(⟨b,o,none⟩:Addr).add i=⟨b,o+i,none⟩:=by unfold Addr.add;split<;>simp_all
      simp only [Nat.zero_add] at h4
      rw [acf] at h4
      exact h4
     ·cases hv
    ·cases hv
   ·cases hv
  simp only [execOp,ec,Sem.run_bind,lz]
  rfl
 ·rename_i t x ec
  unfold Es at hv
  split at hv
  ·rename_i hc
   injection hv with hv;subst hv
   simp only [execOp,ec,Sem.run_bind,run_makeInterface (P:=P) (w:=w) t (ev e x) hc]
   rfl
  ·cases hv
 ·rename_i fn a b ec
  injection hv with hv;subst hv
  simp only [execOp,ec,Instr.makeFunc];rfl
 ·rename_i t x lo hi ec
  have xg:(Instr.sliceAt t (ev e x) (lo.map (ev e)) (hi.map (ev e)) none).run P w=.ok v w:=by
   split at hv
   ·rename_i hs
    unfold cL at hs
    split at hs
    ·rename_i hu
     rw [run_sliceAt_string (w:=w) t _ _ _ _ hu]
     unfold CW at hv
     split at hv<;>first | (cases hv;done) | skip
     all_goals
      split at hv<;>first | (cases hv;done) | skip
      rename_i hb
      injection hv with hv;subst hv
     ·rename_i h1 h2 h3;rw [h1,h2,h3];exact run_slice_string (w:=w) t _ _ _ _ _ hu hb.1 hb.2.1 hb.2.2
     ·rename_i h1 h2 h3;rw [h1,h2,h3];exact run_slice_string_l (w:=w) t _ hu _ _ hb.1 hb.2
     ·rename_i h1 h2 h3;rw [h1,h2,h3];exact run_slice_string_h (w:=w) t _ hu _ _ hb.1 hb.2
    ·cases hs
   ·have SE:∀ {sz},df P t=some sz ->∃ el,P.underlying t=some (.slice el)/\P.underlying t=some (.slice (P.elem t))/\(∀ w,(Go.sizeOf (P.elem t)).run P w=.ok sz w):=by
     intro sz ed
     unfold df at ed
     split at ed
     ·rename_i el hu
      obtain ⟨inf,xi,rfl⟩:=Option.map_eq_some_iff.1 ed
      have he:P.elem t=el:=by unfold Program.elem;rw [hu]
      exact ⟨el,hu,by rw [he];exact hu,fun w=>by rw [he];simp [Go.sizeOf,typeInfo,xi]⟩
     ·cases ed
    unfold CV at hv
    split at hv<;>first | (cases hv;done) | skip
    all_goals
     split at hv<;>first | (cases hv;done) | skip
     rename_i hb
     injection hv with hv;subst hv
    ·rename_i h0 h1 h2 h3
     obtain ⟨el,hu,XY,ed⟩:=SE h0
     have bP:∀ x lo hi,(Instr.sliceAt t x lo hi none).run P w=(Instr.slice t x lo hi none).run P w:=fun x lo hi=>by simp [Instr.sliceAt,run_underlying hu]
     rw [h1,h2,h3,bP,run_slice_lh (w:=w) t _ _ _ XY _ _ _ _ hb.1 hb.2.1 hb.2.2,ed]
     simp only [Result.andThen_ok,sliced,kG]
    ·rename_i h0 h1 h2 h3
     obtain ⟨el,hu,XY,ed⟩:=SE h0
     have bP:∀ x lo hi,(Instr.sliceAt t x lo hi none).run P w=(Instr.slice t x lo hi none).run P w:=fun x lo hi=>by simp [Instr.sliceAt,run_underlying hu]
     rw [h1,h2,h3,bP,run_slice_l (w:=w) t _ _ _ XY _ _ hb.1 hb.2.1,ed]
     simp only [Result.andThen_ok,sliced,kG]
    ·rename_i h0 h1 h2 h3
     obtain ⟨el,hu,XY,ed⟩:=SE h0
     have bP:∀ x lo hi,(Instr.sliceAt t x lo hi none).run P w=(Instr.slice t x lo hi none).run P w:=fun x lo hi=>by simp [Instr.sliceAt,run_underlying hu]
     rw [h1,h2,h3,bP,run_slice_h (w:=w) t _ _ _ XY _ _ hb.1 hb.2,ed]
     simp only [Result.andThen_ok,sliced,kG,Nat.sub_zero]
  simp only [execOp,ec,Sem.run_bind,Option.map_none,xg]
  rfl
 ·rename_i t x ec
  obtain ⟨bs,hi⟩:=hw (by rw [ec];rfl)
  unfold qD at hv
  split at hv
  ·rename_i n z a uu ha
   obtain ⟨i,d,lO,hd,hz,hg,hn⟩:=mB uu
   simp only [execOp,ec,Instr.loadAt,ha,Instr.sureAddr,loadVar]
   simp [jO hd,hg,hi.cell hv]
  ·rename_i n z a uu ha
   obtain ⟨i,d,lO,hd,hz,hg,hn⟩:=mB uu
   obtain ⟨cs,gC,rfl⟩:=Option.map_eq_some_iff.1 hv
   obtain ⟨hl,hc⟩:=je _ _ _ (hi.cells _ _ _ gC)
   have:=run_loadCells_list (P:=P) (w:=w) a cs (fun j v hj=>by simpa using hc j v hj)
   rw [hl] at this
   simp only [execOp,ec,Instr.loadAt,ha,Instr.sureAddr,loadVar]
   simp [jO hd,hg,Go.sizeOf,typeInfo,lO,hn,this]
  ·cases hv
 ·rename_i t x i ec
  simp only [execOp,ec,Sem.run_bind,ac8 hv]
  rfl
 ·rename_i args argTypes ec
  split at hv
  ·rename_i x t hx ht
   have nT:args= #[x]:=by apply Array.toList_inj.1;simpa using hx
   have Jv:argTypes= #[t]:=by apply Array.toList_inj.1;simpa using ht
   subst nT Jv
   simp only [execOp,ec,resolve,invoke,builtin]
   unfold PD at hv
   split at hv
   ·rename_i s iQ nW
    injection hv with hv;subst hv
    unfold cL at iQ
    split at iQ
    ·rename_i hu
     simp [Builtin.len_,run_underlying hu,nW,goInt]
    ·cases iQ
   ·rename_i a n cp iQ nW
    split at hv
    ·rename_i F2
     injection hv with hv;subst hv
     unfold dP at F2
     split at F2
     ·rename_i el hu
      simp [Builtin.len_,run_underlying hu,nW,goInt]
     ·cases F2
    ·cases hv
   ·cases hv
  ·cases hv
 ·rename_i args argTypes ec
  split at hv
  ·rename_i x t hx ht
   have nT:args= #[x]:=by apply Array.toList_inj.1;simpa using hx
   have Jv:argTypes= #[t]:=by apply Array.toList_inj.1;simpa using ht
   subst nT Jv
   simp only [execOp,ec,resolve,invoke,builtin]
   unfold YM at hv
   split at hv
   ·rename_i a n cp nW
    split at hv
    ·rename_i F2
     injection hv with hv;subst hv
     unfold dP at F2
     split at F2
     ·rename_i el hu
      simp [Builtin.cap_,run_underlying hu,nW,goInt]
     ·cases F2
    ·cases hv
   ·cases hv
  ·cases hv
 ·cases hv
theorem uB {P:Program}{o:Oper}{e:dx}{h:Sh}{v:Value}(hv:pv P e h o.op=some v){c:Ctx}{w:World}(hw:Is c h w):
 (execOp (ev e) o).run P w=.ok (.value v) w:=Cx hv fun _=>hw
def fW (h h':Sh):Prop:=∀ a v,h.cell a=some v ->h'.cell a=some v
def fW.refl (h:Sh):fW h h:=fun _ _ hv=>hv
def fW.trans {a b c:Sh}(h:fW a b)(h':fW b c):fW a c:=fun x v hv=>h' x v (h x v hv)
def fW.cells {h h':Sh}(hs:fW h h'){a:Addr}:∀ {n i cs},h.cells a i n=some cs ->h'.cells a i n=some cs:=by
 intro n
 induction n with
 | zero=>intro i cs hc;exact hc
 | succ n ih=>
  intro i cs hc
  unfold Sh.cells pR at hc ⊢
  split at hc
  ·rename_i v l hv hl
   rw [hs _ _ hv,ih hl]
   exact hc
  ·cases hc
def Yg {P:Program}{e:dx}{h h':Sh}{op:Op}{v:Value}(hv:pv P e h op=some v)(hs:OK P op=true ->fW h h'):pv P e h' op=some v:=by
 unfold pv at hv ⊢
 split at hv<;>first | exact hv | skip
 ·unfold vZ at hv ⊢
  split at hv
  ·exact hv
  ·split at hv
   ·rename_i hb
    have hs:=hs hb
    rw [if_pos hb]
    unfold ade at hv ⊢
    split at hv
    ·exact hv
    ·obtain ⟨cs,gC,hv⟩:=Option.bind_eq_some_iff.1 hv
     rw [hs.cells gC]
     exact hv
    ·cases hv
   ·cases hv
  ·cases hv
 rename_i t x
 have hs:=hs rfl
 unfold qD at hv ⊢
 split at hv
 ·exact hs _ _ hv
 ·obtain ⟨cs,gC,rfl⟩:=Option.map_eq_some_iff.1 hv
  simp only [hs.cells gC,Option.map_some]
 ·cases hv
structure KontL where
 nrm:dx ->List Deferred ->Sh ->Prop
 exi:Nat ->dx ->List Deferred ->Sh ->Prop
 ret:dx ->List Deferred ->Sh ->Prop
 pan:List PanicEntry ->dx ->List Deferred ->Sh ->Prop
def bf (b:Nat):List (Nat×List Value) ->Prop
 | []=>True
 | (k,_)::l=>(b≠k/\k≠b)/\bf b l
theorem jb {b:Nat}:∀ {L:List (Nat×List Value)},b∉L.map (·.1) ->bf b L
 | [],_=>trivial
 | (k,_)::l,hb=>by
  simp only [List.map_cons,List.mem_cons,not_or] at hb
  exact ⟨⟨hb.1,Ne.symm hb.1⟩,jb hb.2⟩
def HM (cs:List Value)(h:Sh)(k:Nat ->Sh ->Prop):Prop:=
 ∀ b,h.M b=none ->bf b h.L ->k b {h with L:=(b,cs)::h.L}
def VD (t:TypeId)(cs:List Value)(h:Sh)(k:Nat ->Sh ->Prop):Prop:=
 ∀ b T,h.M b=none ->bf b h.L ->aG h.N T ->T b=some t ->k b {h with N:=T,L:=(b,cs)::h.L}
def Vx (P:Program)(f:FuncId)(args:List Value)(h:Sh)(k:Value ->Sh ->Prop)(pan:List PanicEntry ->Sh ->Prop):Prop:=
 du P f=true/\∀ c w,Is c h w ->Calls P f args.toArray w fun
  | .returned v,w'=>∃ h',Is c h' w'/\k v h'
  | .panicked ch,w'=>∃ h',Is c h' w'/\pan ch h'
  | .outgrown,_=>False
def ag4 (P:Program)(op:Sem Value)(h:Sh)(k:Value ->Prop):Prop:=
 ∃ v,(∀ c w,Is c h w ->op.run P w=.ok v w)/\k v
inductive Srcs (P:Program) (tx:TypeId) (sz:Nat) (h:Sh):Value ->List Value ->Prop
 | slice (a n c news e'):P.underlying tx=some (.slice e') ->h.cells a 0 (n*sz)=some news ->(∀ u∈news,u.oneCell'=true) ->Srcs P tx sz h (.slice (some a) n c) news
 | nil (c e'):P.underlying tx=some (.slice e') ->Srcs P tx sz h (.slice none 0 c) []
 | str (s):sz=1 ->P.underlying tx=some .string ->Srcs P tx sz h (.string s) (byteCells s)
def kz (P:Program)(t:TypeId):Bool:=match dY P t with
 | some (e,_,_)=>match P.info? e with | some i=>decide (i.bytes<=24*i.size) && decide (i.bytes<=4096) | none=>false
 | none=>false
def ag6 (P:Program)(t tx:TypeId)(x y:Value)(h:Sh)(k:Value ->Sh ->Prop):Prop:=
 ∃ e sz z n ik,dY P t=some (e,sz,z)/\kz P t=true/\P.underlying tx=some (.int ik)/\x=.slice none 0 0/\y=.int .i64 ((n:Nat):Int)/\0<n/\n<=4294967296/\
  ∀ a c zs,zs.length=n*sz ->n<=c ->k (.slice a n c) {h with R:=(.slice a n c,e,sz,zs)::h.R}
def MV (x:Value)(e:TypeId)(sz:Nat)(xs:List Value)(h:Sh)(L':List (Nat×List Value)):Prop:=
 (x=.slice none 0 0/\xs=[]/\L'=h.L)\/
 (∃ g n cap junk L1 L2,x=.slice (some ⟨g,0,none⟩) n cap/\h.N g=some e/\h.L=L1++(g,xs++junk)::L2/\L'=L1++L2/\xs.length=n*sz/\(xs++junk).length=cap*sz/\n<=cap)
def MO (P:Program)(t tx:TypeId)(x y:Value)(h:Sh)(k:Value ->Sh ->Prop):Prop:=ag6 P t tx x y h k\/
 ∃ e sz z news,dY P t=some (e,sz,z)/\kz P t=true/\Srcs P tx sz h y news/\
  ((∃ j xs,h.R[j]?=some (x,e,sz,xs)/\xs.length+news.length<=4398046511104/\∀ a m c,m*sz=xs.length+news.length ->k (.slice a m c) {h with R:=h.R.set j (.slice a m c,e,sz,xs++news)})\/
   (x=.slice none 0 0/\news.length<=4398046511104/\∀ a m c,m*sz=news.length ->k (.slice a m c) {h with R:=(.slice a m c,e,sz,news)::h.R})\/
   (∃ a n xs,x=.slice (some a) n n/\h.cells a 0 (n*sz)=some xs/\0<news.length/\xs.length+news.length<=4398046511104/\∀ a m c,m*sz=xs.length+news.length ->k (.slice a m c) {h with R:=(.slice a m c,e,sz,xs++news)::h.R})\/
   (∃ b o n c,x=.slice (some ⟨b,o,none⟩) n c/\n<=c/\news=[]/\k x h)\/
   (∃ a n xs,x=.slice (some a) n n/\h.cells a 0 (n*sz)=some xs/\0<news.length/\xs.length+news.length<=4398046511104/\∀ g m c junk,h.M g=none ->bf g h.L ->m*sz=xs.length+news.length ->m<=c ->(xs++news++junk).length=c*sz ->
    k (.slice (some ⟨g,0,none⟩) m c) {h with L:=(g,xs++news++junk)::h.L})\/
   (∃ xs L',MV x e sz xs h L'/\Srcs P tx sz {h with L:=L'} y news/\0<news.length/\xs.length+news.length<=4398046511104/\∀ N' g m c junk,aG h.N N' ->N' g=some e ->h.M g=none ->bf g L' ->m*sz=xs.length+news.length ->m<=c ->(xs++news++junk).length=c*sz ->
    k (.slice (some ⟨g,0,none⟩) m c) {h with N:=N',L:=(g,xs++news++junk)::L'}))
def JJ (P:Program)(t:TypeId):Option IntKind:=match P.underlying t with
 | some (.map kt _)=>match P.underlying kt with | some (.int K)=>some K | _=>none
 | _=>none
def lH (K:IntKind)(n:Int):List Value ->Bool
 | .int k a::_::r=>decide (k=K) && !decide (a=n) && lH K n r
 | []=>true
 | _=>false
def uy (K:IntKind)(n:Int):List Value ->Option Value
 | .int k a::v::r=>if k=K then (if a=n then some v else uy K n r) else none
 | _=>none
def HF (x y:Value):Option Value:=match x,y with
 | .int k a,.int k' b=>if k=k' then some (.int k (if b<a then b else a)) else none
 | _,_=>none
def Uu {P:Program}{x y v:Value}{w:World}(h:HF x y=some v):(Builtin.min2 x y).run P w=.ok v w:=by
 unfold HF at h
 split at h
 ·rename_i k a k' b
  split at h
  ·rename_i hk
   subst hk
   injection h with h
   subst h
   simp [Builtin.min2]
  ·cases h
 ·cases h
def HE (x y:Value):Option Value:=match x,y with
 | .int k a,.int k' b=>if k=k' then some (.int k (if b>a then b else a)) else none
 | _,_=>none
def Ut {P:Program}{x y v:Value}{w:World}(h:HE x y=some v):(Builtin.max2 x y).run P w=.ok v w:=by
 unfold HE at h
 split at h
 ·rename_i k a k' b
  split at h
  ·rename_i hk
   subst hk
   injection h with h
   subst h
   simp [Builtin.max2]
  ·cases h
 ·cases h
def xMk (l c:Value)(k:Nat ->Prop):Prop:=match l,c with
 | .int _ n,.int _ m=>n=m/\0<=n/\k n.toNat
 | _,_=>False
def YY (K:Option IntKind)(m k x:Value)(h:Sh)(next:Sh ->Prop):Prop:=match K,k,h.R with
 | some K,.int K' n,(.map (some g),t',sz,xs)::rest=>(m=.map (some g)/\K'=K/\sz=0/\lH K n xs=true)/\next {h with R:=(.map (some g),t',sz,xs++[.int K' n,x])::rest}
 | _,_,_=>False
def MS (K:Option IntKind)(m k:Value)(h:Sh)(next:Value ->Prop):Prop:=match K,k,h.R with
 | some K,.int K' n,(.map (some g),_,sz,xs)::_=>(m=.map (some g)/\K'=K/\sz=0)/\ea (uy K n xs) next
 | _,_,_=>False
theorem pW {K:IntKind}{n:Int}:∀ (es:List MapEntry) (xs:List Value) (i:Nat),es.flatMap (fun x=>[x.key,x.val])=xs ->lH K n xs=true ->Instr.findNow (.int K) (.int K n) es i=some none
 | [],xs,i,h,ha=>by simp [Instr.findNow]
 | e::es,xs,i,h,ha=>by
  subst h
  simp only [List.flatMap_cons,nn] at ha
  cases hk:e.key with
  | int k a=>
   rw [hk] at ha
   simp only [lH,Bool.and_eq_true,decide_eq_true_eq,Bool.not_eq_true',decide_eq_false_iff_not] at ha
   obtain ⟨⟨h1,h2⟩,h3⟩:=ha
   subst h1
   have cm:(n==a)=false:=by simp;exact fun h=>h2 h.symm
   simp only [Instr.findNow,hk,Instr.sameNow,if_true,cm]
   exact pW es _ _ rfl h3
  | _=>rw [hk] at ha;cases ha
theorem wF {K:IntKind}{n:Int}{u:Value}:∀ (es:List MapEntry) (xs:List Value) (i:Nat),es.flatMap (fun x=>[x.key,x.val])=xs ->uy K n xs=some u ->∃ j,Instr.findNow (.int K) (.int K n) es i=some (some (j,u))
 | [],xs,i,h,ha=>by subst h;cases ha
 | e::es,xs,i,h,ha=>by
  subst h
  simp only [List.flatMap_cons,nn] at ha
  cases hk:e.key with
  | int k a=>
   rw [hk] at ha
   simp only [uy] at ha
   split at ha
   ·rename_i h1
    subst h1
    split at ha
    ·rename_i h2
     subst h2
     injection ha with ha
     exact ⟨i,by simp [Instr.findNow,hk,Instr.sameNow,ha]⟩
    ·rename_i h2
     have cm:(n==a)=false:=by simp;exact fun h=>h2 h.symm
     obtain ⟨j,hj⟩:=wF es _ (i+1) rfl ha
     exact ⟨j,by simp only [Instr.findNow,hk,Instr.sameNow,if_true,cm];exact hj⟩
   ·cases ha
  | _=>rw [hk] at ha;cases ha
def zS {P:Program}{t:TypeId}{K:IntKind}(h:JJ P t=some K):∃ kt et,P.underlying t=some (.map kt et)/\P.underlying kt=some (.int K):=by
 unfold JJ at h
 split at h
 ·rename_i kt et hu
  split at h
  ·rename_i K' hk
   injection h with h
   exact ⟨kt,et,hu,by rw [hk,h]⟩
  ·cases h
 ·cases h
def Yw {P:Program}{t kt et:TypeId}{K:IntKind}{n:Int}{val:Value}{r:Nat}{w:World}{es:Array MapEntry}{clock:Nat}(hm:P.underlying t=some (.map kt et))(hk:P.underlying kt=some (.int K))(hb:w.heap[r]?=some (.map es clock))
 (hf:Instr.findNow (.int K) (.int K n) es.toList 0=some none):
 (Instr.mapUpdate t (.map (some r)) (.int K n) val).run P w=.ok () {w with heap:=w.heap.setIfInBounds r (.map (es.push {key:=.int K n,val:=val,born:=clock}) (clock+1))}:=by
 have hc:(Instr.checkKey false 10000 kt (.int K n)).run P w=.ok () w:=MapKept.run_checkKey (k:=.int K n) hk (by simp [MapKept.IsKey]) false 9999
 simp [Instr.mapUpdate,run_underlying hm,MapKept.run_getObj_map hb,hc,MapKept.run_findKey hk hf,MapKept.run_setObj_map _ hb,Result.andThen]
def Us {P:Program}{t kt et:TypeId}{K:IntKind}{n:Int}{u:Value}{r j:Nat}{w:World}{es:Array MapEntry}{clock:Nat}(hm:P.underlying t=some (.map kt et))(hk:P.underlying kt=some (.int K))(hb:w.heap[r]?=some (.map es clock))
 (hf:Instr.findNow (.int K) (.int K n) es.toList 0=some (some (j,u))):
 (Instr.lookup t (.map (some r)) (.int K n) false).run P w=.ok u w:=by
 have hc:(Instr.checkKey es.isEmpty 10000 kt (.int K n)).run P w=.ok () w:=MapKept.run_checkKey (k:=.int K n) hk (by simp [MapKept.IsKey]) _ 9999
 simp [Instr.lookup,run_underlying hm,MapKept.run_getObj_map hb,hc,MapKept.run_findKey hk hf,Result.andThen]
def vL:List (Nat×List Value) ->Nat ->Nat ->List Value ->Option (List (Nat×List Value))
 | [],_,_,_=>none
 | (b,cs)::l,k,i,vs=>if k=b then (if i+vs.length<=cs.length then some ((b,px cs i vs)::l) else none) else (vL l k i vs).map ((b,cs):: ·)
def JH (b:Nat)(l:List (Nat×List Value))(vs:List Value):∀ (i:Nat) (cs:List Value),wP ((b,cs)::l) b i vs=(b,px cs i vs)::l:=by
 induction vs with
 | nil=>intro i cs;rfl
 | cons v vs ih=>intro i cs;simp only [wP,sX,if_true,px];exact ih _ _
def JI (b:Nat)(k:Nat)(hb:k≠b)(cs:List Value)(vs:List Value):∀ (i:Nat) (l:List (Nat×List Value)),wP ((b,cs)::l) k i vs=(b,cs)::wP l k i vs:=by
 induction vs with
 | nil=>intro i l;rfl
 | cons v vs ih=>intro i l;simp only [wP,sX,if_neg hb];exact ih _ _
def OU {k i:Nat}{vs:List Value}:∀ {L L':List (Nat×List Value)},vL L k i vs=some L' ->L'=wP L k i vs/\∃ cs,(k,cs)∈L/\i+vs.length<=cs.length:=by
 intro L
 induction L with
 | nil=>intro L' h;cases h
 | cons p l ih=>
  obtain ⟨b,cs⟩:=p
  intro L' h
  unfold vL at h
  split at h
  ·rename_i hk
   subst hk
   split at h
   ·rename_i hl
    injection h with h
    subst h
    exact ⟨(JH _ _ _ _ _).symm,cs,by simp,hl⟩
   ·cases h
  ·rename_i hk
   obtain ⟨l',jL,rfl⟩:=Option.map_eq_some_iff.1 h
   obtain ⟨h1,cs',h2,h3⟩:=ih jL
   exact ⟨by rw [JI _ _ hk,h1],cs',tC h2,h3⟩
def MD (v:Value):Bool:=match v with | .iface _ _=>true | _=>false
def MQ (P:Program)(src t:TypeId)(x:Value)(h:Sh)(k:Value ->Sh ->Prop):Prop:=match VL P src t with
 | 1=>(match x with
  | .string s=>∀ b c junk,h.M b=none ->bf b h.L ->k (.slice (some ⟨b,0,none⟩) s.size c) {h with M:=h.M.add b (s.data.toList.map (fun b=>Value.int .u8 b.toNat)++junk)}
  | _=>False)
 | 2=>(match x,h.L with
  | .slice (some ⟨b,0,none⟩) n c,(b',cs)::L=>b=b'/\(bf b L ->k x {h with M:=h.M.add b cs,L:=L})
  | _,_=>False)
 | _=>ea (vZ P h src t x) fun v=>k v h
def adk (P:Program)(t:TypeId)(x:Value)(h:Sh)(k:Value ->Sh ->Prop):Prop:=cL P t=true/\(match x with
 | .string s=>∀ g,k (.pointer (some ⟨g,0,none⟩)) {h with R:=(.pointer (some ⟨g,0,none⟩),t,0,[.string s,.int .i64 ((0:Nat):Int)])::h.R}
 | _=>False)
def aaf (it:Value)(h:Sh)(k:Value ->Sh ->Prop):Prop:=match it,h.R with
 | .pointer (some ⟨g,0,none⟩),(.pointer (some ⟨g',0,none⟩),t,sz,[.string s,.int .i64 pos])::R=>(g=g'/\sz=0)/\
  (if pos.toNat<s.size then k (.tuple #[.bool true,.int .i64 pos,.int .i32 ((Utf8.decode s pos.toNat).1:Nat)]) {h with R:=(.pointer (some ⟨g,0,none⟩),t,0,[.string s,.int .i64 ((pos.toNat+(Utf8.decode s pos.toNat).2:Nat):Int)])::R}
   else k (.tuple #[.bool false]) h)
 | _,_=>False
theorem Hp.keepsBut {c N M L R w w' bs g}(hi:Hp c ⟨N,M,L,R⟩ w bs)(hgU:g∈c.U\/c.w0.heap.size<=g)(HU:M g=none)(Ly:g∉L.map (·.1))(hgR:g∉bs.filterMap id)
 (k1:w'.os=w.os) (k2:w'.tape=w.tape) (k3:w'.output=w.output) (k4:w.heap.size<=w'.heap.size) (k5:∀ b,b≠g ->b<w.heap.size ->w'.heap[b]?=w.heap[b]?):Hp c ⟨N,M,L,R⟩ w' bs where
 typ:=fun b u hu=>by
  obtain ⟨aL,hc⟩:=hi.typ b u hu
  refine ⟨by omega,fun hb=> ?_⟩
  obtain ⟨cs',f,hc⟩:=hc hb
  exact ⟨cs',f,by rw [k5 b (by rintro rfl;exact Ly hb) (fL hc)];exact hc⟩
 holds:=fun b x hb=>by
  have:=hi.holds.lt hb
  obtain ⟨t,f,ht⟩:=hi.holds _ _ hb
  exact ⟨t,f,by rw [k5 b (by rintro rfl;simp only [] at hb;rw [HU] at hb;cases hb) this];exact ht⟩
 blk:=fun b x hb=>by
  have h2:=hi.blk _ _ hb
  have hl:=h2.lt
  obtain ⟨t,ht⟩:=h2
  exact ⟨t,by rw [k5 b (by rintro rfl;exact Ly (List.mem_map.2 ⟨_,hb,rfl⟩)) hl];exact ht⟩
 rows:=⟨hi.rows.1,fun i v e sz xs o h1 h2=>(hi.rows.2 i v e sz xs o h1 h2).keep fun q hq=>by
  subst hq
  refine k5 q ?_ (hi.rows.2 i v e sz xs _ h1 h2).lt
  rintro rfl
  exact hgR (List.mem_filterMap.2 ⟨some q,List.mem_of_getElem? h2,rfl⟩)⟩
 nodup:=hi.nodup
 apart:=hi.apart
 os:=k1.trans hi.os
 tape:=k2.trans hi.tape
 output:=k3.trans hi.output
 size:=Nat.le_trans hi.size k4
 old:=fun b hb hu=>by
  rw [k5 b (by rintro rfl;rcases hgU with h | h;exact hu h;omega) (Nat.lt_of_lt_of_le hb hi.size)];exact hi.old b hb hu
 mem:=hi.mem
 le:=hi.le
theorem Hp.addM {c N M L R w bs g cs t f}(hi:Hp c ⟨N,M,L,R⟩ w bs)(hg:w.heap[g]?=some (.cells cs t f))(hU:g∈c.U\/c.w0.heap.size<=g)(hM:M g=none)(hL:g∉L.map (·.1))(hR:g∉bs.filterMap id):Hp c ⟨N,M.add g cs.toList,L,R⟩ w bs where
 typ:=hi.typ
 holds:=fun b x hb=>by
  have lr:aR.add M g cs.toList b=some x:=hb
  clear hb
  unfold aR.add at lr
  split at lr
  ·rename_i P0
   subst P0
   injection lr with lr;subst lr
   exact ⟨t,f,[],by simpa using hg,.inl rfl⟩
  ·exact hi.holds _ _ lr
 blk:=hi.blk
 rows:=hi.rows
 nodup:=hi.nodup
 apart:=fun b hb=>by
  refine ⟨?_,(hi.apart b hb).2⟩
  show aR.add M g cs.toList b=none
  unfold aR.add
  rw [if_neg]
  ·exact (hi.apart b hb).1
  ·rintro rfl
   rcases xY hb with hb | hb
   ·exact hL hb
   ·exact hR hb
 os:=hi.os
 tape:=hi.tape
 output:=hi.output
 size:=hi.size
 old:=hi.old
 mem:=fun b hb hu=>by
  show aR.add M g cs.toList b=_
  unfold aR.add
  rw [if_neg]
  ·exact hi.mem b hb hu
  ·rintro rfl
   rcases hU with h | h
   ·exact hu h
   ·omega
 le:=fun b x hb=>by
  have h1:M b=some x:=hi.le b x hb
  show aR.add M g cs.toList b=some x
  unfold aR.add
  rw [if_neg]
  ·exact h1
  ·rintro rfl;rw [hM] at h1;cases h1
def aeF {P:Program}{src t:TypeId}(h:VL P src t=1):P.underlying src=some .string/\∃ el,P.underlying t=some (.slice el)/\P.underlying el=some (.int .u8):=by
 unfold VL at h
 split at h
 ·rename_i e h1 h2
  split at h
  ·rename_i h3;exact ⟨h1,e,h2,h3⟩
  ·cases h
 ·split at h
  ·split at h<;>cases h
  ·cases h
 ·cases h
def aeG {P:Program}{src t:TypeId}(h:VL P src t=2):src=t/\∃ el,P.underlying t=some (.slice el)/\P.underlying el=some (.int .u8):=by
 unfold VL at h
 split at h
 ·split at h<;>cases h
 ·rename_i e e' h1 h2
  split at h
  ·rename_i h3
   split at h
   ·rename_i h4
    subst h3
    exact ⟨rfl,e,h1,h4⟩
   ·cases h
  ·cases h
 ·cases h
def A9 {P:Program}{w:World}{g pos:Nat}{s:ByteArray}{ty:TypeId}(hg:w.heap[g]?=some (.stringIter s pos)):
 (Instr.next (.pointer (some ⟨g,0,none⟩)) true ty).run P w=if pos<s.size then .ok (.tuple #[.bool true,.int .i64 (pos:Int),.int .i32 ((Utf8.decode s pos).1:Nat)]) {w with heap:=w.heap.setIfInBounds g (.stringIter s (pos+(Utf8.decode s pos).2))} else .ok (.tuple #[.bool false]) w:=by
 by_cases hp:pos<s.size
 ·simp [Instr.next,getObj,setObj,Sem.run,hg,hp,Result.andThen,goInt]
 ·simp [Instr.next,getObj,Sem.run,hg,hp]
theorem Hp.grown {c h w bs w' cs t f}(hi:Hp c h w bs)(k1:w'.os=w.os)(k2:w'.tape=w.tape)(k3:w'.output=w.output)(k4:w'.heap.size=w.heap.size+1)(k5:∀ b,b<w.heap.size ->w'.heap[b]?=w.heap[b]?)(k6:w'.heap[w.heap.size]?=some (.cells cs t f)):
 Hp c {h with M:=h.M.add w.heap.size cs.toList} w' bs where
 typ:=fun b u hu=>by
  obtain ⟨aL,hc⟩:=hi.typ b u hu
  refine ⟨by omega,fun hb=> ?_⟩
  obtain ⟨cs',f,hc⟩:=hc hb
  exact ⟨cs',f,by rw [k5 b (fL hc)];exact hc⟩
 holds:=fun b x hb=>by
  have lr:aR.add h.M w.heap.size cs.toList b=some x:=hb
  clear hb
  unfold aR.add at lr
  split at lr
  ·rename_i P0
   subst P0
   injection lr with lr;subst lr
   exact ⟨t,f,[],by simpa using k6,.inl rfl⟩
  ·have:=hi.holds.lt lr
   obtain ⟨t,f,ht⟩:=hi.holds _ _ lr
   exact ⟨t,f,by rw [k5 b this];exact ht⟩
 blk:=fun b x hb=>by
  have h2:=hi.blk _ _ hb
  have hl:=h2.lt
  obtain ⟨t,ht⟩:=h2
  exact ⟨t,by rw [k5 b hl];exact ht⟩
 rows:=⟨hi.rows.1,fun i v e sz xs o h1 h2=>(hi.rows.2 i v e sz xs o h1 h2).keep fun q hq=>by
  subst hq
  exact k5 q (hi.rows.2 i v e sz xs _ h1 h2).lt⟩
 nodup:=hi.nodup
 apart:=fun b hb=>by
  have h1:=hi.apart b hb
  have aL:=hi.own_lt hb
  refine ⟨?_,h1.2⟩
  show aR.add h.M w.heap.size cs.toList b=none
  unfold aR.add
  rw [if_neg (by omega)]
  exact h1.1
 os:=k1.trans hi.os
 tape:=k2.trans hi.tape
 output:=k3.trans hi.output
 size:=by have:=hi.size;omega
 old:=fun b hb hu=>by rw [k5 b (Nat.lt_of_lt_of_le hb hi.size)];exact hi.old b hb hu
 mem:=fun b hb hu=>by
  have:=hi.size
  show aR.add h.M w.heap.size cs.toList b=_
  unfold aR.add
  rw [if_neg (by omega)]
  exact hi.mem b hb hu
 le:=fun b x hb=>by
  have h1:=hi.le b x hb
  have h2:=hi.holds.lt h1
  show aR.add h.M w.heap.size cs.toList b=some x
  unfold aR.add
  rw [if_neg (by omega)]
  exact h1
def HG (P:Program)(K:KontL)(o:Oper)(e:dx)(ds:List Deferred)(h:Sh)(next:Value ->List Deferred ->Sh ->Prop):Prop:=
 match o.op with
 | .box t x=>VD t (ev e x).cells.toList h fun b h'=>next (.pointer (some ⟨b,0,none⟩)) ds h'
 | .alloc t=>ea (tk P t) fun (_,_,z)=>VD t z.cells.toList h fun b h'=>next (.pointer (some ⟨b,0,none⟩)) ds h'
 | .buildSlice t n parts=>ea (dY P t) fun (_,sz,z)=>n*sz<=16777216/\
  ea (HI sz z n (parts.toList.map fun x=>(x.1,(ev e x.2).cells.toList))) fun cs=>HM cs h fun b h'=>next (.slice (some ⟨b,0,none⟩) n n) ds h'
 | .store t x y=>ea (tk P t) fun (_,n,_)=>Bi (ev e x) fun a=>
  ((ev e y).cells.toList.length=n/\a.spot=none/\(ev e y).cells.toList.all (·.oneCell')=true)/\
  ea (vL h.L a.block a.off (ev e y).cells.toList) fun L'=>next undef ds {h with L:=L'}
 | .call {callee:=.value f,args,..}=>xFn (ev e f) fun g first cap=>
  Vx P g (first++args.toList.map (ev e)++cap) h (fun v h'=>next v ds h') (fun ch h'=>K.pan ch e ds h')
 | .call {callee:=.builtin .append,args,argTypes}=>match args.toList,argTypes.toList with
  | [x,y],[t,tx]=>MO P t tx (ev e x) (ev e y) h fun v h'=>next v ds h'
  | _,_=>False
 | .defer {callee:=.value f,args,..}=>match ev e f with
  | .func fn first captured=>next undef ({target:=.fn fn captured,args:=first++args.map (ev e)}::ds) h
  | _=>False
 | .binOp op t x y _=>match iX P op t (ev e x) (ev e y) with
  | some v=>next v ds h
  | none=>ag4 P (do eqGuard op t x y (ev e x) (ev e y);binOp op t (ev e x) (ev e y)) h fun v=>next v ds h
 | .panic x=>MD (ev e x)=true/\K.pan [{v:=ev e x,recovered:=false}] e ds h
 | .call {callee:=.builtin .min,args,..}=>match args.toList with
  | [x,y]=>ea (HF (ev e x) (ev e y)) fun v=>next v ds h
  | _=>False
 | .call {callee:=.builtin .max,args,..}=>match args.toList with
  | [x,y]=>ea (HE (ev e x) (ev e y)) fun v=>next v ds h
  | _=>False
 | .makeSlice t l c=>ea (dY P t) fun (_,_,z)=>kz P t=true/\xMk (ev e l) (ev e c) fun n=>n<=4294967296/\
  HM ((List.range n).flatMap fun _=>z) h fun b h'=>next (.slice (some ⟨b,0,none⟩) n n) ds h'
 | .makeMap t none=>∀ g,next (.map (some g)) ds {h with R:=(.map (some g),t,0,[])::h.R}
 | .insert t m k x=>YY (JJ P t) (ev e m) (ev e k) (ev e x) h fun h'=>next undef ds h'
 | .lookup t m k false=>MS (JJ P t) (ev e m) (ev e k) h fun v=>next v ds h
 | .convert src t x=>MQ P src t (ev e x) h fun v h'=>next v ds h'
 | .range t x=>adk P t (ev e x) h fun v h'=>next v ds h'
 | .next it true=>aaf (ev e it) h fun v h'=>next v ds h'
 | op=>ea (pv P e h op) fun v=>next v ds h
def KontL.toK (K:KontL)(c:Ctx):Kont where
 nrm:=fun e ds w=>∃ h,Is c h w/\K.nrm e ds h
 exi:=fun i e ds w=>∃ h,Is c h w/\K.exi i e ds h
 ret:=fun e ds w=>∃ h,Is c h w/\K.ret e ds h
 pan:=fun ch e ds w=>∃ h,Is c h w/\K.pan ch e ds h
def Hp.addNil {c h w bs e sz}(hi:Hp c h w bs):Hp c {h with R:=(.slice none 0 0,e,sz,[])::h.R} w (none::bs) where
 typ:=hi.typ
 holds:=hi.holds
 blk:=hi.blk
 rows:=by
  refine ⟨by simp [hi.rows.1],?_⟩
  intro i v e sz xs o h1 h2
  cases i with
  | zero=>
   simp at h1 h2
   obtain ⟨rfl,rfl,rfl,rfl⟩:=h1
   subst h2
   exact .inl ⟨rfl,rfl,rfl⟩
  | succ i=>exact hi.rows.2 i v e sz xs o (by simpa using h1) (by simpa using h2)
 nodup:=hi.nodup
 apart:=hi.apart
 os:=hi.os
 tape:=hi.tape
 output:=hi.output
 size:=hi.size
 old:=hi.old
 mem:=hi.mem
 le:=hi.le
def Srcs.rows {P:Program}{tx sz h y news}(R':List (Value×TypeId×Nat×List Value))(hs:Srcs P tx sz h y news):Srcs P tx sz {h with R:=R'} y news:=by
 cases hs with
 | slice a n cc _ e' hu hc h1=>
  refine .slice a n cc _ e' hu ?_ h1
  have:∀ n i,Sh.cells {h with R:=R'} a i n=h.cells a i n:=by
   intro n
   induction n with
   | zero=>intro i;rfl
   | succ n ih=>intro i;unfold Sh.cells;rw [ih];rfl
  rw [this];exact hc
 | nil cc e' hu=>exact .nil cc e' hu
 | str s h1 hu=>exact .str s h1 hu
def Srcs.more {P:Program}{tx sz h y news el sz'}(hs:Srcs P tx sz h y news):Srcs P tx sz {h with R:=(Value.slice none 0 0,el,sz',[])::h.R} y news:=hs.rows _
def Srcs.src {P:Program}{tx sz h y news}(hs:Srcs P tx sz h y news){c w bs}(hi:Hp c h w bs):∃ m,Src P sz tx y m news w:=by
 cases hs with
 | slice a n cc _ e' hu hc h1=>
  obtain ⟨hl,hcc⟩:=je _ _ _ (hi.cells _ _ _ hc)
  exact ⟨n,Src.ofSlice w hu a n cc news hl (fun j u hj=>by simpa using hcc j u hj) h1⟩
 | nil cc e' hu=>exact ⟨0,Src.ofNil w hu cc⟩
 | str s h1 hu=>subst h1;exact ⟨s.size,Src.ofString w hu s⟩
def wu {P:Program}{t tx ty:TypeId}{e sz z}{c h w bs j v xs o y news}(ht:dY P t=some (e,sz,z))(ce:kz P t=true)(hs:Srcs P tx sz h y news)
 (hi:Hp c h w bs) (hj:h.R[j]?=some (v,e,sz,xs)) (ho:bs[j]?=some o) (hb:xs.length+news.length<=4398046511104):
 ∃ v' w' bs',(Builtin.append_ #[t,tx] ty #[v,y]).run P w=.ok v' w'/\Hp c {h with R:=h.R.set j (v',e,sz,xs++news)} w' bs'/\∀ g n k,v'=.slice (some ⟨g,0,none⟩) n k ->o=some g\/w.heap.size<=g:=by
 obtain ⟨m,Js⟩:=hs.src hi
 have FT:∃ i,P.info? e=some i/\i.bytes<=24*i.size/\i.bytes<=4096:=by
  unfold kz at ce
  rw [ht] at ce
  simp only [] at ce
  split at ce
  ·rename_i i wJ;exact ⟨i,wJ,by simpa using ce⟩
  ·cases ce
 obtain ⟨i,wJ,FT,hbz⟩:=FT
 obtain ⟨ie,zv,hu,DP,hz,ed,dK,pD,rH⟩:=jG ht
 rw [wJ] at DP
 injection DP with DP
 subst DP
 obtain ⟨v',w',o',hr,bN,hg,hn⟩:=Kd (P:=P) (t:=t) (tx:=tx) (ty:=ty) (hi.rows.2 j v e sz xs o hj ho) hu wJ hz ed rH dK Js hb FT
 refine ⟨v',w',_,hr,hi.append hj ho bN hg hn,fun g n k hv=> ?_⟩
 subst hv
 rcases bN with ⟨h,_⟩ | ⟨g',n',cap,junk,h,_,_,_,_,ho'⟩ | ⟨h0,_⟩ | ⟨h0,_⟩
 ·cases h
 ·cases h
  rcases hn with hn | ⟨g2,h2,PX⟩
  ·exact .inl (by rw [<- hn,ho'])
  ·rw [ho'] at h2;cases h2;exact .inr PX
 ·omega
 ·omega
def yw {P:Program}{t tx ty:TypeId}{e sz z}{c h w bs j v xs o y news}(ht:dY P t=some (e,sz,z))(ce:kz P t=true)(hs:Srcs P tx sz h y news)
 (hi:Hp c h w bs) (hj:h.R[j]?=some (v,e,sz,xs)) (ho:bs[j]?=some o) (hb:xs.length+news.length<=4398046511104):
 ∃ v' w' bs',(Builtin.append_ #[t,tx] ty #[v,y]).run P w=.ok v' w'/\Hp c {h with R:=h.R.set j (v',e,sz,xs++news)} w' bs':=by
 obtain ⟨v',w',bs',hr,hh,_⟩:=wu (ty:=ty) ht ce hs hi hj ho hb
 exact ⟨v',w',bs',hr,hh⟩
def ym.form {w:World}{v:Value}{e:TypeId}{sz:Nat}{xs:List Value}{o:Option Nat}(h:ym w v e sz xs o)(ed:0<sz):∃ a m c,v=.slice a m c/\m*sz=xs.length:=by
 rcases h with ⟨rfl,rfl,_⟩ | ⟨g,n,cap,junk,rfl,_,hn,_⟩ | ⟨h0,_⟩ | ⟨h0,_⟩
 ·exact ⟨none,0,0,rfl,by simp⟩
 ·exact ⟨_,n,cap,rfl,hn.symm⟩
 ·omega
 ·omega
def Hp.form {c:Ctx}{h:Sh}{w:World}{bs:List (Option Nat)}{j:Nat}{v:Value}{e:TypeId}{sz:Nat}{xs:List Value}(hi:Hp c h w bs)(hj:h.R[j]?=some (v,e,sz,xs))(ed:0<sz):∃ a m c,v=.slice a m c/\m*sz=xs.length:=by
 have aL:j<bs.length:=by rw [<- hi.rows.1];exact (List.getElem?_eq_some_iff.1 hj).1
 exact (hi.rows.2 j v e sz xs _ hj (gq aL)).form ed
def vQ {P:Program}(w:World)(t tx ty e:TypeId)(i:TypeInfo)(z:Value)(ik:IntKind)(ht:P.underlying t=some (.slice e))(hi:P.info? e=some i)(hz:i.zero=some z)(hk:P.underlying tx=some (.int ik))(n:Nat)
 (h0:0<n) (h1:n<=4294967296) (dK:0<i.size) (FT:i.bytes<=4096):
 (Builtin.append_ #[t,tx] ty #[.slice none 0 0,.int .i64 (n:Int)]).run P w=
  .ok (.slice (some ⟨w.heap.size,0,none⟩) n (grownCap w n 0 e))
   (w.drew.alloc (.cells (Builtin.zeroCells z.cells n++Builtin.zeroCells z.cells (grownCap w n 0 e - n)) e)):=by
 have hw:IntKind.i64.wrap (n:Int)=(n:Int):=wrap_small n (by omega) (by omega)
 have hn0:¬ (n<=0):=by omega
 have mi:=nextslicecap_le (need:=n) (old:=0) h0
 have h48:Builtin.nextslicecap n 0*i.bytes<=281474976710656:=by
  calc Builtin.nextslicecap n 0*i.bytes<=(2*n)*4096:=Nat.mul_le_mul mi FT
   _<=281474976710656:=by omega
 have ajN:¬ (281474976710656<Builtin.nextslicecap n 0*i.bytes):=by omega
 have ajO:¬ (281474976710656<(n:Int)*(i.bytes:Int)):=by
  have:n*i.bytes<=n*4096:=Nat.mul_le_mul_left _ FT
  have h3:((n*i.bytes:Nat):Int)=(n:Int)*(i.bytes:Int):=by push_cast;rfl
  omega
 have ajP:¬ (9223372036854775807<(n:Int)):=by omega
 have hnz:¬ (n*i.size=0):=by
  have:=Nat.mul_pos h0 dK
  omega
 have ali:¬ ((n:Int)<0):=by omega
 simp [Builtin.append_,run_underlying ht,run_underlying hk,Go.sizeOf,typeInfo,zeroValue,hi,hz,asIntOf,run_firstCells_none,hw,ajP,ajN,ajO,hnz,ali,Question.forced,newRow,grownCap,asInt]
 omega
def Dn {P:Program}{t tx ty:TypeId}{e sz z ik}{c h w bs n}(ht:dY P t=some (e,sz,z))(ce:kz P t=true)(hk:P.underlying tx=some (.int ik))
 (hi:Hp c h w bs) (h0:0<n) (h1:n<=4294967296):
 ∃ v' w' bs' zs cap,(Builtin.append_ #[t,tx] ty #[.slice none 0 0,.int .i64 ((n:Nat):Int)]).run P w=.ok v' w'/\zs.length=n*sz/\n<=cap/\(∃ a,v'=.slice a n cap)/\Hp c {h with R:=(v',e,sz,zs)::h.R} w' bs':=by
 have FT:∃ i,P.info? e=some i/\i.bytes<=24*i.size/\i.bytes<=4096:=by
  unfold kz at ce
  rw [ht] at ce
  simp only [] at ce
  split at ce
  ·rename_i i wJ;exact ⟨i,wJ,by simpa using ce⟩
  ·cases ce
 obtain ⟨i,wJ,FT,hbz⟩:=FT
 obtain ⟨ie,zv,hu,DP,hz,ed,xj,pD,rH⟩:=jG ht
 rw [wJ] at DP
 injection DP with DP
 subst DP
 subst ed
 have mm:=vQ (P:=P) w t tx ty e i zv ik hu wJ hz hk n h0 h1 xj hbz
 have pD:(Builtin.zeroCells zv.cells n).toList.length=n*i.size:=by rw [Array.length_toList,size_zeroCells,rH]
 have bN:ym (w.drew.alloc (.cells (Builtin.zeroCells zv.cells n++Builtin.zeroCells zv.cells (grownCap w n 0 e - n)) e)) (.slice (some ⟨w.heap.size,0,none⟩) n (grownCap w n 0 e)) e i.size (Builtin.zeroCells zv.cells n).toList (some w.heap.size):=by
  have PX:n<=grownCap w n 0 e:=grownCap_ge w n 0 e
  refine .inr (.inl ⟨w.heap.size,n,_,(Builtin.zeroCells zv.cells (grownCap w n 0 e - n)).toList,rfl,?_,pD,?_,PX,rfl⟩)
  ·have:=@fJ w.drew (.cells (Builtin.zeroCells zv.cells n++Builtin.zeroCells zv.cells (grownCap w n 0 e - n)) e)
   rw [show w.drew.heap.size=w.heap.size from rfl] at this
   rw [this]
   congr 2
   apply Array.toList_inj.1
   simp
  ·rw [List.length_append,pD,Array.length_toList,size_zeroCells,rH,<- Nat.add_mul]
   congr 1
   omega
 have vE:=hi.addNil (e:=e) (sz:=i.size)
 have ul:w.grownBy (w.drew.alloc (.cells (Builtin.zeroCells zv.cells n++Builtin.zeroCells zv.cells (grownCap w n 0 e - n)) e)) none:=⟨rfl,rfl,rfl,by simp,fun k hk _=>cu (w:=w.drew) hk⟩
 have:=vE.append (j:=0) (o:=none) rfl rfl bN ul (.inr ⟨_,rfl,Nat.le_refl _⟩)
 exact ⟨_,_,_,_,_,mm,pD,grownCap_ge w n 0 e,⟨_,rfl⟩,this⟩
def yu {P:Program}{t tx ty:TypeId}{e sz z}{c h w bs b o n cap y}(ht:dY P t=some (e,sz,z))(hs:Srcs P tx sz h y [])
 (hi:Hp c h w bs) (cX:n<=cap):(Builtin.append_ #[t,tx] ty #[.slice (some ⟨b,o,none⟩) n cap,y]).run P w=.ok (.slice (some ⟨b,o,none⟩) n cap) w:=by
 obtain ⟨m,Js⟩:=hs.src hi
 obtain ⟨i,zv,hu,wJ,hz,rfl,dK,pD,rH⟩:=jG ht
 have hm:0=m*i.size:=Js.newsLen
 obtain rfl:m=0:=by
  rcases Nat.mul_eq_zero.1 hm.symm with h | h
  ·exact h
  ·omega
 have:=run_append_room_src (P:=P) w t tx ty e i hu wJ b o n cap y 0 [] Js (by omega) (fun j hj=>by simp at hj) (fun j hj=>by simp at hj)
 simpa [World.setCells] using this
theorem ws {P:Program}{t tx ty:TypeId}{e sz z}{c h w bs a n xs y news}(ht:dY P t=some (e,sz,z))(ce:kz P t=true)(hs:Srcs P tx sz h y news)
 (hi:Hp c h w bs) (hx:h.cells a 0 (n*sz)=some xs) (dK:0<news.length) (hb:xs.length+news.length<=4398046511104):
 ∃ v' w' bs',(Builtin.append_ #[t,tx] ty #[.slice (some a) n n,y]).run P w=.ok v' w'/\Hp c {h with R:=(v',e,sz,xs++news)::h.R} w' bs'/\∃ m k,v'=.slice (some ⟨w.heap.size,0,none⟩) m k:=by
 obtain ⟨m,Js⟩:=hs.src hi
 have FT:∃ i,P.info? e=some i/\i.bytes<=24*i.size/\i.bytes<=4096:=by
  unfold kz at ce
  rw [ht] at ce
  simp only [] at ce
  split at ce
  ·rename_i i wJ;exact ⟨i,wJ,by simpa using ce⟩
  ·cases ce
 obtain ⟨i,wJ,FT,hbz⟩:=FT
 obtain ⟨ie,zv,hu,DP,hz,ed,xj,pD,rH⟩:=jG ht
 rw [wJ] at DP
 injection DP with DP
 subst DP
 subst ed
 obtain ⟨hl,hcc⟩:=je _ _ _ (hi.cells _ _ _ hx)
 have hm:news.length=m*i.size:=Js.newsLen
 have VS:0<m:=by
  rcases Nat.eq_zero_or_pos m with h0 | h0
  ·rw [h0] at hm;omega
  ·exact h0
 have FZ:n+m<=4398046511104:=by
  have h1:(n+m)*1<=(n+m)*i.size:=Nat.mul_le_mul_left _ xj
  have h2:(n+m)*i.size=n*i.size+m*i.size:=Nat.add_mul ..
  omega
 have hg:n<n+m:=by omega
 have mi:=nextslicecap_le hg
 have ab9:=run_firstCells_some (P:=P) w.drew i.size n a n n xs hl (fun j u hj=>by rw [World.cell?_drew];simpa using hcc j u hj)
 have mm:=run_append_grow_src (P:=P) w t tx ty e i _ hu wJ hz (some a) n n xs ab9 y m news Js hg (by omega) (by
  have h2:(n+m)*i.size=n*i.size+m*i.size:=Nat.add_mul ..
  calc Builtin.nextslicecap (n+m) n*i.bytes<=(2*(n+m))*(24*i.size):=Nat.mul_le_mul mi FT
   _=48*((n+m)*i.size):=by rw [Nat.mul_comm 2,Nat.mul_assoc,<- Nat.mul_assoc 2 24,Nat.mul_left_comm]
   _<=281474976710656:=by omega)
 have bN:ym (w.drew.alloc (.cells ((xs++news).toArray++Builtin.zeroCells zv.cells (grownCap w (n+m) n e - (n+m))) e)) (.slice (some ⟨w.heap.size,0,none⟩) (n+m) (grownCap w (n+m) n e)) e i.size (xs++news) (some w.heap.size):=by
  refine .inr (.inl ⟨w.heap.size,n+m,_,(Builtin.zeroCells zv.cells (grownCap w (n+m) n e - (n+m))).toList,rfl,?_,?_,?_,grownCap_ge _ _ _ _,rfl⟩)
  ·have:=@fJ w.drew (.cells ((xs++news).toArray++Builtin.zeroCells zv.cells (grownCap w (n+m) n e - (n+m))) e)
   rw [show w.drew.heap.size=w.heap.size from rfl] at this
   rw [this]
   congr 2
   apply Array.toList_inj.1
   simp
  ·rw [List.length_append,hl,hm,Nat.add_mul]
  ·have PX:=grownCap_ge w (n+m) n e
   rw [List.length_append,List.length_append,hl,hm,Array.length_toList,size_zeroCells,rH,<- Nat.add_mul,<- Nat.add_mul]
   congr 1
   omega
 have vE:=hi.addNil (e:=e) (sz:=i.size)
 have ul:w.grownBy (w.drew.alloc (.cells ((xs++news).toArray++Builtin.zeroCells zv.cells (grownCap w (n+m) n e - (n+m))) e)) none:=⟨rfl,rfl,rfl,by simp,fun k hk _=>cu (w:=w.drew) hk⟩
 have:=vE.append (j:=0) (o:=none) rfl rfl bN ul (.inr ⟨_,rfl,Nat.le_refl _⟩)
 exact ⟨_,_,_,mm,this,_,_,rfl⟩
def Hp.unrow {c N M L v e sz xs R w bs}(hi:Hp c ⟨N,M,L,(v,e,sz,xs)::R⟩ w bs)(ed:0<sz)(cm:0<xs.length)(nF:∀ g n k,v=.slice (some ⟨g,0,none⟩) n k ->N g=none\/N g=some e):
 ∃ g n cap junk bs',v=.slice (some ⟨g,0,none⟩) n cap/\M g=none/\bf g L/\n*sz=xs.length/\n<=cap/\(xs++junk).length=cap*sz/\w.heap[g]?=some (.cells (xs++junk).toArray e (0,0))/\Hp c ⟨N,M,(g,xs++junk)::L,R⟩ w bs':=by
 obtain ⟨bu,bN⟩:=hi.rows
 cases bs with
 | nil=>simp at bu
 | cons o bs=>
  have hr:=bN 0 v e sz xs o rfl rfl
  rcases hr with ⟨rfl,rfl,rfl⟩ | ⟨g,n,cap,junk,rfl,hg,hn,hc,cX,rfl⟩ | ⟨h0,_⟩ | ⟨h0,_⟩
  ·simp at cm
  ·have jo:=hi.nodup
   rw [List.filterMap_cons] at jo
   simp only [id] at jo
   have HU:=(hi.apart g (by simp)).1
   have ml:(L.map (·.1)++g::bs.filterMap id).Perm (g::(L.map (·.1)++bs.filterMap id)):=List.perm_middle
   have XK:=ml.nodup_iff.1 jo
   have Ly:g∉L.map (·.1):=fun h=>(List.nodup_cons.1 XK).1 (uV (.inl h))
   refine ⟨g,n,cap,junk,bs,rfl,HU,jb Ly,hn.symm,cX,hc,hg,?_⟩
   exact
   {typ:=fun b u hu=>⟨(hi.typ b u hu).1,fun hb=>by
     rcases lQ hb with hb | hb
     ·have h0:=nF g n cap rfl
      rw [show b=g from hb] at hu
      rw [show N g=some u from hu] at h0
      rcases h0 with h0 | h0
      ·cases h0
      ·cases h0;exact ⟨_,_,by rw [show b=g from hb];exact hg⟩
     ·exact (hi.typ b u hu).2 hb⟩
    holds:=hi.holds
    blk:=fun b cs hb=>by
     rcases lQ hb with hb | hb
     ·injection hb with h1 h2;subst h1 h2;exact ⟨e,hg⟩
     ·exact hi.blk b cs hb
    rows:=⟨by simpa using bu,fun i v e sz xs o h1 h2=>bN (i+1) v e sz xs o (by simpa using h1) (by simpa using h2)⟩
    nodup:=by simpa using XK
    apart:=fun b hb=>hi.apart b (by
     simp only [List.map_cons,List.cons_append,List.mem_cons,List.mem_append] at hb
     simp only [List.filterMap_cons,id,List.mem_append,List.mem_cons]
     rcases hb with hb | hb | hb
     ·exact .inr (.inl hb)
     ·exact .inl hb
     ·exact .inr (.inr hb))
    os:=hi.os
    tape:=hi.tape
    output:=hi.output
    size:=hi.size
    old:=hi.old
    mem:=hi.mem
    le:=hi.le}
  ·omega
  ·omega
def Hp.perm {c N M L L' R w bs}(hi:Hp c ⟨N,M,L,R⟩ w bs)(hp:L.Perm L'):Hp c ⟨N,M,L',R⟩ w bs:=
 {typ:=fun b u hu=>⟨(hi.typ b u hu).1,fun hb=>(hi.typ b u hu).2 ((hp.map _).mem_iff.2 hb)⟩
  holds:=hi.holds
  blk:=fun b cs hb=>hi.blk b cs (hp.mem_iff.2 hb)
  rows:=hi.rows
  nodup:=by
   have h1:(L.map (·.1)++bs.filterMap id).Perm (L'.map (·.1)++bs.filterMap id):=(hp.map _).append_right _
   exact h1.nodup_iff.1 hi.nodup
  apart:=fun b hb=>hi.apart b (by
   simp only [List.mem_append] at hb ⊢
   rcases hb with hb | hb
   ·exact .inl ((hp.map _).mem_iff.2 hb)
   ·exact .inr hb)
  os:=hi.os
  tape:=hi.tape
  output:=hi.output
  size:=hi.size
  old:=hi.old
  mem:=hi.mem
  le:=hi.le}
def Hp.rerow {c N M L R w bs g xs junk e sz n cap}(hi:Hp c ⟨N,M,(g,xs++junk)::L,R⟩ w bs)(hN:N g=some e)(hn:xs.length=n*sz)(hc:(xs++junk).length=cap*sz)(cX:n<=cap):
 Hp c ⟨N,M,L,(.slice (some ⟨g,0,none⟩) n cap,e,sz,xs)::R⟩ w (some g::bs):=by
 have ml:(L.map (·.1)++g::bs.filterMap id).Perm (g::(L.map (·.1)++bs.filterMap id)):=List.perm_middle
 exact
 {typ:=fun b u hu=>⟨(hi.typ b u hu).1,fun hb=>(hi.typ b u hu).2 (tC hb)⟩
  holds:=hi.holds
  blk:=fun b cs hb=>hi.blk b cs (tC hb)
  rows:=⟨by simpa using hi.rows.1,fun i v e' sz' xs' o h1 h2=>by
   cases i with
   | succ i=>exact hi.rows.2 i v e' sz' xs' o (by simpa using h1) (by simpa using h2)
   | zero=>
    simp only [List.getElem?_cons_zero,Option.some.injEq,Prod.mk.injEq] at h1 h2
    obtain ⟨rfl,rfl,rfl,rfl⟩:=h1
    subst h2
    obtain ⟨t,ht⟩:=hi.blk g (xs++junk) (by simp)
    obtain ⟨cs,f,EE⟩:=(hi.typ g e hN).2 (by simp)
    rw [ht] at EE
    cases EE
    exact .inr (.inl ⟨g,n,cap,junk,rfl,ht,hn,hc,cX,rfl⟩)⟩
  nodup:=by
   have:=ml.nodup_iff.2 (by simpa using hi.nodup)
   simpa [List.filterMap_cons] using this
  apart:=fun b hb=>hi.apart b (by
   simp only [List.filterMap_cons,id,List.mem_append,List.mem_cons] at hb
   simp only [List.map_cons,List.cons_append,List.mem_cons,List.mem_append]
   rcases hb with hb | hb | hb
   ·exact .inr (.inl hb)
   ·exact .inl hb
   ·exact .inr (.inr hb))
  os:=hi.os
  tape:=hi.tape
  output:=hi.output
  size:=hi.size
  old:=hi.old
  mem:=hi.mem
  le:=hi.le}
def Hp.retold {c N M L R w bs g cs e f}(hi:Hp c ⟨N,M,L,R⟩ w bs)(hg:w.heap[g]?=some (.cells cs e f)):Hp c ⟨N.add g e,M,L,R⟩ w bs:=
 hi.retyp fun b t hb=>by
  unfold Tm.add at hb
  split at hb
  ·rename_i h;subst h;cases hb;exact ⟨(Array.getElem?_eq_some_iff.1 hg).1,fun _=>⟨_,_,hg⟩⟩
  ·exact hi.typ b t hb
def Io {P:Program}{t tx ty:TypeId}{e sz z}{c N M L R w bs x y xs L' news}(ht:dY P t=some (e,sz,z))(ce:kz P t=true)(Ju:0<sz)
 (hi:Hp c ⟨N,M,L,R⟩ w bs) (zw:MV x e sz xs ⟨N,M,L,R⟩ L') (hs:Srcs P tx sz ⟨N,M,L',R⟩ y news) (dK:0<news.length) (hb:xs.length+news.length<=4398046511104):
 ∃ w' bs' N' g m cap junk,(Builtin.append_ #[t,tx] ty #[x,y]).run P w=.ok (.slice (some ⟨g,0,none⟩) m cap) w'/\aG N N'/\N' g=some e/\M g=none/\bf g L'/\m*sz=xs.length+news.length/\m<=cap/\(xs++news++junk).length=cap*sz/\Hp c ⟨N',M,(g,xs++news++junk)::L',R⟩ w' bs':=by
 have key:∀ (o:Option Nat) bs0,Hp c ⟨N,M,L',(x,e,sz,xs)::R⟩ w (o::bs0) ->(∀ g,o=some g ->N g=some e) ->
  ∃ w' bs' N' g m cap junk,(Builtin.append_ #[t,tx] ty #[x,y]).run P w=.ok (.slice (some ⟨g,0,none⟩) m cap) w'/\aG N N'/\N' g=some e/\M g=none/\bf g L'/\m*sz=xs.length+news.length/\m<=cap/\(xs++news++junk).length=cap*sz/\Hp c ⟨N',M,(g,xs++news++junk)::L',R⟩ w' bs':=by
  intro o bs0 vE hoN
  obtain ⟨v',w',bs',hr,hh,nF⟩:=wu (ty:=ty) ht ce (hs.rows ((x,e,sz,xs)::R)) vE (j:=0) rfl rfl hb
  have nH:∀ g n k,v'=.slice (some ⟨g,0,none⟩) n k ->N g=none\/N g=some e:=by
   intro g n k hv
   rcases nF g n k hv with h | h
   ·exact .inr (hoN g h)
   ·left
    cases hN:N g with
    | none=>rfl
    | some u=>have:=(vE.typ g u hN).1;omega
  obtain ⟨g,m,cap,junk,bs2,rfl,HU,Ly,hm,cX,hc,hg,hh2⟩:=Hp.unrow hh Ju (by rw [List.length_append];omega) nH
  refine ⟨w',bs2,N.add g e,g,m,cap,junk,hr,?_,by simp [Tm.add],HU,Ly,by rw [hm,List.length_append],cX,hc,hh2.retold hg⟩
  intro b u hu
  unfold Tm.add
  split
  ·rename_i h
   subst h
   rcases nH _ _ _ rfl with h | h
   ·rw [h] at hu;cases hu
   ·rw [<- hu,h]
  ·exact hu
 rcases zw with ⟨rfl,rfl,rfl⟩ | ⟨g,n,cap,junk,L1,L2,rfl,hN,hL,rfl,hn,hc,cX⟩
 ·exact key none bs hi.addNil (fun g h=>by cases h)
 ·simp only at hL hN
  subst hL
  exact key (some g) bs ((hi.perm List.perm_middle).rerow hN hn hc cX) (fun g' h=>by cases h;exact hN)
def AG {P:Program}{K:KontL}{o:Oper}{e:dx}{ds:List Deferred}{h:Sh}{next:Value ->List Deferred ->Sh ->Prop}
 (hv:HG P K o e ds h next) {c:Ctx} {w:World} (hw:Is c h w):
 upon P (K.toK c) e ds (fun v ds w'=>∃ h',Is c h' w'/\next v ds h') ((execOp (ev e) o).run P w):=by
 have val:∀ {v:Value},((execOp (ev e) o).run P w=.ok (.value v) w) ->next v ds h ->upon P (K.toK c) e ds (fun v ds w'=>∃ h',Is c h' w'/\next v ds h') ((execOp (ev e) o).run P w):=by
  intro v hr hn
  rw [hr]
  exact ⟨h,hw,hn⟩
 unfold HG at hv
 split at hv
 ·rename_i t x ec
  obtain ⟨bs,hi⟩:=hw
  have ku:=hi.alloc (t:=t) (ev e x).cells.toList
  simp only [Array.toArray_toList] at ku
  simp only [execOp,ec,Instr.box,newVar,newRow]
  have iC:=(List.nodup_cons.1 ku.wf.1).1
  have hn:=hv w.heap.size (h.N.add w.heap.size t) (ku.wf.2 _ (by simp)) (jb iC) hi.extT (by simp [Tm.add])
  simpa [upon] using ⟨_,⟨bs,ku⟩,hn⟩
 ·rename_i t ec
  obtain ⟨⟨g,n,z⟩,uu,hv⟩:=cJ hv
  obtain ⟨i,d,lO,hd,hz,hg,hn⟩:=mB uu
  obtain ⟨bs,hi⟩:=hw
  have ku:=hi.alloc (t:=t) z.cells.toList
  simp only [Array.toArray_toList] at ku
  simp only [execOp,ec,Instr.alloc,newVar,newRow]
  have iC:=(List.nodup_cons.1 ku.wf.1).1
  have hn:=hv w.heap.size (h.N.add w.heap.size t) (ku.wf.2 _ (by simp)) (jb iC) hi.extT (by simp [Tm.add])
  simpa [upon,zeroValue,typeInfo,lO,hz] using ⟨_,⟨bs,ku⟩,hn⟩
 ·rename_i t n parts ec
  obtain ⟨⟨el,sz,z⟩,ht,hb,hv⟩:=cJ hv
  obtain ⟨cs,gC,hv⟩:=cJ hv
  obtain ⟨bs,hi⟩:=hw
  have ku:=hi.alloc (t:=el) cs
  have hr:=yA (P:=P) (parts:=parts.toList.map fun x=>(x.1,ev e x.2)) ht hb (by rw [List.map_map];exact gC) w
  have hp:(parts.toList.map fun x=>(x.1,ev e x.2)).toArray=parts.map fun (i,x)=>(i,ev e x):=by
   apply Array.toList_inj.1
   simp
  rw [hp] at hr
  simp only [execOp,ec]
  rw [Sem.run_bind,hr]
  have iC:=(List.nodup_cons.1 ku.wf.1).1
  have hn:=hv w.heap.size (ku.wf.2 _ (by simp)) (jb iC)
  have ku:=ku.untype (N':=h.N) hi.extT
  exact ⟨_,⟨bs,ku⟩,hn⟩
 ·rename_i t x y ec
  obtain ⟨⟨g,n,z⟩,uu,hv⟩:=cJ hv
  obtain ⟨a,ha,⟨bu,ED,h1⟩,hv⟩:=qG hv
  obtain ⟨L',hL,hv⟩:=cJ hv
  obtain ⟨rfl,cs,hm,cX⟩:=OU hL
  obtain ⟨bs,hi⟩:=hw
  refine CX (K:=K.toK c) (o:=o) ?_
  unfold vOp;rw [ec];simp only []
  rw [uu,ha]
  simp only [ea,Bi,VE]
  refine ⟨bu,ED,List.all_eq_true.1 h1,?_,_,⟨bs,hi.storeN _ _ (List.mem_map.2 ⟨_,hm,rfl⟩)⟩,hv⟩
  intro j hj
  obtain ⟨t',ht'⟩:=hi.blk _ _ hm
  have hj2:a.off+j<cs.length:=by omega
  refine ⟨by simp [World.cell?,ht',hj2],by simp [World.frozen?,ht']⟩
 ·rename_i f args _ ec
  obtain ⟨g,first,cap,hf,hb,hv⟩:=MR hv
  refine CX (K:=K.toK c) (o:=o) ?_
  unfold vOp;rw [ec];simp only []
  rw [hf]
  simp only [xFn,aad]
  exact ⟨hb,hv c w hw⟩
 ·rename_i args argTypes ec
  split at hv
  ·rename_i x y t tx hx ht
   have nT:args= #[x,y]:=by apply Array.toList_inj.1;simpa using hx
   have Jv:argTypes= #[t,tx]:=by apply Array.toList_inj.1;simpa using ht
   subst nT Jv
   obtain ⟨bs,hi⟩:=hw
   have fin:∀ {v' w' h' bs'},(Builtin.append_ #[t,tx] o.type #[ev e x,ev e y]).run P w=.ok v' w' ->Hp c h' w' bs' ->next v' ds h' ->
    upon P (K.toK c) e ds (fun v ds w'=>∃ h',Is c h' w'/\next v ds h') ((execOp (ev e) o).run P w):=by
    intro v' w' h' bs' hr hh hn
    simp only [execOp,ec,resolve,invoke,builtin,Sem.run_bind,Sem.run_pure,Result.andThen_ok]
    have:(#[x,y].map (ev e))= #[ev e x,ev e y]:=by apply Array.toList_inj.1;simp
    rw [this,hr]
    exact ⟨h',⟨bs',hh⟩,hn⟩
   rcases hv with ⟨el,sz,z,n,ik,HZ,ce,hk,hx0,hy0,h0,h1,hv⟩ | ⟨el,sz,z,news,HZ,ce,hs,hv⟩
   ·obtain ⟨v',w',bs',zs,cap,hr,pD,PX,⟨a,rfl⟩,hh⟩:=Dn (ty:=o.type) HZ ce hk hi h0 h1
    rw [<- hx0,<- hy0] at hr
    exact fin hr hh (hv a cap zs pD PX)
   have Ju:0<sz:=by obtain ⟨_,_,_,_,_,_,h,_⟩:=jG HZ;exact h
   rcases hv with ⟨j,xs,hj,hb,hv⟩ | ⟨us,hb,hv⟩ | ⟨a,n,xs,hx,gC,dK,hb,hv⟩ | ⟨b,o',n,cc,hx,cX,us,hv⟩ | ⟨a,n,xs,hx,gC,dK,hb,hv⟩ | ⟨xs,L',zw,nW,dK,hb,hv⟩
   ·have ZB:j<bs.length:=by rw [<- hi.rows.1];exact (List.getElem?_eq_some_iff.1 hj).1
    obtain ⟨v',w',bs',hr,hh⟩:=yw (ty:=o.type) HZ ce hs hi hj (gq ZB) hb
    have AS:j<h.R.length:=(List.getElem?_eq_some_iff.1 hj).1
    obtain ⟨a,m,c,rfl,hm⟩:=hh.form (j:=j) (by show (h.R.set j _)[j]?=_;rw [List.getElem?_set_self AS]) Ju
    exact fin hr hh (hv a m c (by rw [hm,List.length_append]))
   ·have vE:=hi.addNil (e:=el) (sz:=sz)
    have zz:=hs.more (el:=el) (sz':=sz)
    obtain ⟨v',w',bs',hr,hh⟩:=yw (ty:=o.type) HZ ce zz vE (j:=0) rfl rfl (by simpa using hb)
    rw [<- us] at hr
    obtain ⟨a,m,c,rfl,hm⟩:=hh.form (j:=0) rfl Ju
    exact fin hr hh (hv a m c (by simpa using hm))
   ·obtain ⟨v',w',bs',hr,hh,_⟩:=ws (ty:=o.type) HZ ce hs hi gC dK hb
    rw [<- hx] at hr
    obtain ⟨a',m,c,rfl,hm⟩:=hh.form (j:=0) rfl Ju
    exact fin hr hh (hv a' m c (by rw [hm,List.length_append]))
   ·subst us
    have hr:=yu (ty:=o.type) HZ hs hi (b:=b) (o:=o') cX
    rw [<- hx] at hr
    exact fin hr hi hv
   ·obtain ⟨v',w',bs',hr,hh,m0,k0,rX⟩:=ws (ty:=o.type) HZ ce hs hi gC dK hb
    rw [<- hx] at hr
    obtain ⟨g,m,cap,junk,bs2,rfl,HU,Ly,hm,cX,hc,_,hh2⟩:=hh.unrow Ju (by rw [List.length_append];omega) (fun g n k hg=> .inl<| by
     rw [rX] at hg
     injection hg with hg
     injection hg with hg
     injection hg with hg
     show h.N g=none
     cases hN:h.N g with
     | none=>rfl
     | some u=>have:=(hi.typ g u hN).1;omega)
    exact fin hr hh2 (hv g m cap junk HU Ly (by rw [hm,List.length_append]) cX hc)
   ·obtain ⟨w',bs',N',g,m,cap,junk,hr,km,hg,HU,Ly,hm,cX,hc,hh⟩:=Io (ty:=o.type) HZ ce Ju hi zw nW dK hb
    exact fin hr hh (hv N' g m cap junk km hg HU Ly hm cX hc)
  ·exact hv.elim
 ·rename_i f args _ ec
  split at hv
  ·rename_i fn first captured hf
   simp only [execOp,ec,resolve,Deferred.ofValue,hf]
   exact ⟨h,hw,hv⟩
  ·exact hv.elim
 ·rename_i op t x y _ ec
  have gen:∀ v,((do eqGuard op t x y (ev e x) (ev e y);binOp op t (ev e x) (ev e y):Sem Value).run P w=.ok v w) ->next v ds h ->upon P (K.toK c) e ds (fun v ds w'=>∃ h',Is c h' w'/\next v ds h') ((execOp (ev e) o).run P w):=by
   intro v hr hn
   refine val ?_ hn
   simp only [execOp,ec]
   rw [Sem.run_bind,hr]
   rfl
  split at hv
  ·rename_i v j3
   exact gen v (G9 j3 w) hv
  ·obtain ⟨v,hr,hn⟩:=hv
   exact gen v (hr c w hw) hn
 ·rename_i x ec
  obtain ⟨hif,hv⟩:=hv
  unfold MD at hif
  split at hif
  ·rename_i t u hx
   rw [hx] at hv
   simp only [execOp,ec,hx]
   exact ⟨h,hw,hv⟩
  ·cases hif
 ·rename_i args _ ec
  split at hv
  ·rename_i x y hx
   have nT:args= #[x,y]:=by apply Array.toList_inj.1;simpa using hx
   subst nT
   obtain ⟨v,j3,hv⟩:=cJ hv
   refine val ?_ hv
   simp only [execOp,ec,resolve,invoke,builtin,Sem.run_bind,Sem.run_pure,Result.andThen_ok]
   have:(#[x,y].map (ev e))= #[ev e x,ev e y]:=by apply Array.toList_inj.1;simp
   rw [this]
   simp [Builtin.min_,Uu j3,Result.andThen]
  ·exact hv.elim
 ·rename_i args _ ec
  split at hv
  ·rename_i x y hx
   have nT:args= #[x,y]:=by apply Array.toList_inj.1;simpa using hx
   subst nT
   obtain ⟨v,j3,hv⟩:=cJ hv
   refine val ?_ hv
   simp only [execOp,ec,resolve,invoke,builtin,Sem.run_bind,Sem.run_pure,Result.andThen_ok]
   have:(#[x,y].map (ev e))= #[ev e x,ev e y]:=by apply Array.toList_inj.1;simp
   rw [this]
   simp [Builtin.max_,Ut j3,Result.andThen]
  ·exact hv.elim
 ·rename_i t l cc ec
  obtain ⟨⟨el,sz,z⟩,ht,ce,hv⟩:=cJ hv
  unfold xMk at hv
  split at hv
  ·rename_i kl n kc m hl hc
   obtain ⟨rfl,h0,hb,hv⟩:=hv
   obtain ⟨i,zv,hu,DP,hz,ed,dK,pD,rH⟩:=jG ht
   obtain ⟨bs,hi⟩:=hw
   have FT:(i.bytes:Int)<=4096:=by
    unfold kz at ce
    rw [ht] at ce
    simp only [DP,Bool.and_eq_true,decide_eq_true_eq] at ce
    omega
   have hnn:n<=4294967296:=by omega
   have h48:(i.bytes:Int)*n<=281474976710656:=by
    calc (i.bytes:Int)*n<=4096*n:=Int.mul_le_mul_of_nonneg_right FT h0
     _<=281474976710656:=by omega
   have hr:=run_make (P:=P) w t el i zv hu DP hz kl kc n n h0 (Int.le_refl _) h48 (by omega)
   have afV:madeCells zv.cells (n.toNat*i.size)=((List.range n.toNat).flatMap fun _=>z).toArray:=by
    have:=HO zv.cells (by omega) n.toNat
    rw [rH,pD] at this
    unfold madeCells
    rw [ed,rH];exact this
   rw [afV] at hr
   have ku:=hi.alloc (t:=el) ((List.range n.toNat).flatMap fun _=>z)
   simp only [execOp,ec,hl,hc]
   rw [Sem.run_bind,hr]
   have iC:=(List.nodup_cons.1 ku.wf.1).1
   have hn:=hv w.heap.size (ku.wf.2 _ (by simp)) (jb iC)
   have ku:=ku.untype (N':=h.N) hi.extT
   exact ⟨_,⟨bs,ku⟩,hn⟩
  ·exact hv.elim
 ·rename_i t ec
  obtain ⟨bs,hi⟩:=hw
  simp only [execOp,ec]
  exact ⟨_,⟨_,hi.allocMap (t:=t)⟩,hv w.heap.size⟩
 ·rename_i t m k x ec
  obtain ⟨bs,hi⟩:=hw
  unfold YY at hv
  split at hv
  ·rename_i K K' n g t' sz xs rest hK hk hR
   obtain ⟨⟨hvm,hKK,ed,Xq⟩,hv⟩:=hv
   subst hKK ed
   obtain ⟨kt,et,hm,hkt⟩:=zS hK
   obtain ⟨o,bs',rfl⟩:∃ o bs',bs=o::bs':=by
    have h1:=hi.rows.1
    rw [hR] at h1
    cases bs with
    | nil=>simp at h1
    | cons o bs'=>exact ⟨o,bs',rfl⟩
   have bN:=hi.rows.2 0 _ _ _ _ o (by rw [hR];rfl) rfl
   rcases bN with ⟨hx,_⟩ | ⟨_,_,_,_,hx,_⟩ | ⟨_,g',es,clock,hx,hb,Jk,rfl⟩ | ⟨_,_,_,_,hx,_⟩
   ·cases hx
   ·cases hx
   rotate_left
   ·cases hx
   injection hx with hx;injection hx with hx;subst hx
   have mm:=Yw (val:=ev e x) (n:=n) hm hkt hb (pW _ _ 0 Jk Xq)
   simp only [execOp,ec,hvm,hk]
   rw [Sem.run_bind,mm]
   have aL:=fL hb
   have OA:ym {w with heap:=w.heap.setIfInBounds g (.map (es.push {key:=.int K' n,val:=ev e x,born:=clock}) (clock+1))} (.map (some g)) t' 0 (xs++[.int K' n,ev e x]) (some g):=
    .inr (.inr (.inl ⟨rfl,g,_,_,rfl,by show (w.heap.setIfInBounds g _)[g]?=_;rw [Array.getElem?_setIfInBounds_self_of_lt aL],by rw [<- Jk];simp,rfl⟩))
   have ul:w.grownBy {w with heap:=w.heap.setIfInBounds g (.map (es.push {key:=.int K' n,val:=ev e x,born:=clock}) (clock+1))} (some g):=
    ⟨rfl,rfl,rfl,by simp,fun k hk cm=>by
     show (w.heap.setIfInBounds g _)[k]?=_
     rw [Array.getElem?_setIfInBounds_ne (by rintro rfl;exact cm rfl)]⟩
   have h2:=hi.append (j:=0) (o:=some g) (by rw [hR];rfl) rfl OA ul (.inl rfl)
   rw [hR] at h2
   exact ⟨_,⟨_,h2⟩,hv⟩
  ·exact hv.elim
 ·rename_i t m k ec
  unfold MS at hv
  split at hv
  ·rename_i K K' n g t' sz xs rest hK hk hR
   obtain ⟨⟨hvm,hKK,ed⟩,hv⟩:=hv
   obtain ⟨u,hu,nu⟩:=cJ hv
   subst hKK ed
   obtain ⟨kt,et,hm,hkt⟩:=zS hK
   obtain ⟨bs,hi⟩:=hw
   obtain ⟨o,bs',rfl⟩:∃ o bs',bs=o::bs':=by
    have h1:=hi.rows.1
    rw [hR] at h1
    cases bs with
    | nil=>simp at h1
    | cons o bs'=>exact ⟨o,bs',rfl⟩
   have bN:=hi.rows.2 0 _ _ _ _ o (by rw [hR];rfl) rfl
   rcases bN with ⟨hx,_⟩ | ⟨_,_,_,_,hx,_⟩ | ⟨_,g',es,clock,hx,hb,Jk,rfl⟩ | ⟨_,_,_,_,hx,_⟩
   ·cases hx
   ·cases hx
   rotate_left
   ·cases hx
   injection hx with hx;injection hx with hx;subst hx
   obtain ⟨j,hj⟩:=wF _ _ 0 Jk hu
   refine val ?_ nu
   simp only [execOp,ec,hvm,hk]
   rw [Sem.run_bind,Us hm hkt hb hj]
   rfl
  ·exact hv.elim
 ·rename_i src t x ec
  unfold MQ at hv
  split at hv
  ·rename_i hk
   split at hv
   ·rename_i s hx
    obtain ⟨hs,el,hd,he⟩:=aeF hk
    obtain ⟨bs,hi⟩:=hw
    have hr:=Lib.run_convert_string_bytes (P:=P) w src t el s hs hd he
    simp only [execOp,ec,hx]
    rw [Sem.run_bind,hr]
    have ku:=hi.grown (w':=Lib.bytesWorld w el s) (by simp [Lib.bytesWorld,World.freeze]<;>rfl) (by simp [Lib.bytesWorld,World.freeze]<;>rfl) (by simp [Lib.bytesWorld,World.freeze]<;>rfl) (Lib.bytesWorld_size w el s) (Lib.bytesWorld_at_old w el s) (Lib.bytesWorld_at_new w el s)
    have hnM:h.M w.heap.size=none:=by
     cases hm:h.M w.heap.size with
     | none=>rfl
     | some x=>have:=hi.holds.lt hm;omega
    have iC:bf w.heap.size h.L:=jb fun hm=>by have:=hi.own_lt (uV (.inl hm));omega
    have gC:(Lib.bytesCells w el s).toList=s.data.toList.map (fun b=>Value.int .u8 b.toNat)++(Array.replicate (grownCap w s.size 0 el - s.size) (Value.int .u8 0)).toList:=by simp [Lib.bytesCells]
    rw [gC] at ku
    exact ⟨_,⟨bs,ku⟩,hv _ _ _ hnM iC⟩
   ·exact hv.elim
  ·rename_i hk
   split at hv
   ·rename_i b n cc b' cs L hx hL
    obtain ⟨rfl,hv⟩:=hv
    obtain ⟨rfl,el,hd,he⟩:=aeG hk
    obtain ⟨bs,hi⟩:=hw
    obtain ⟨t',hb⟩:=hi.blk b cs (by rw [hL];simp)
    have iC:=hi.apart b (by rw [hL];simp)
    have jo:=hi.nodup
    rw [hL] at jo
    simp only [List.map_cons,List.cons_append,List.nodup_cons,List.mem_append,not_or] at jo
    have ku:=hi.drop hL
    have hsh:w.shape? b=some (t',cs.length):=by simp [World.shape?,hb]
    have mm:(convert src src (.slice (some ⟨b,0,none⟩) n cc)).run P w=.ok (.slice (some ⟨b,0,none⟩) n cc) (w.freeze ⟨b,cs.length,none⟩ 1):=by
     simp [convert,run_underlying hd,run_underlying he,markStringish,hsh]
    have VP:∀ k,(w.freeze ⟨b,cs.length,none⟩ 1).heap[k]?=if k=b then some (.cells cs.toArray t' (cs.length,cs.length+1)) else w.heap[k]?:=by
     intro k
     have aL:=fL hb
     unfold World.freeze
     rw [if_neg (by decide)]
     show (w.heap.modify b _)[k]?=_
     rw [Array.getElem?_modify]
     by_cases P0:k=b
     ·subst P0
      rw [if_pos rfl,if_pos rfl,hb]
      rfl
     ·rw [if_neg (Ne.symm P0),if_neg P0]
    simp only [execOp,ec,hx]
    rw [Sem.run_bind,mm]
    have SK:=ku.keepsBut (w':=w.freeze ⟨b,cs.length,none⟩ 1) iC.2 iC.1 jo.1.1 jo.1.2 rfl rfl rfl (by simp [World.freeze]) (fun k hk _=>by rw [VP,if_neg hk])
    have hi4:=SK.addM (by rw [VP,if_pos rfl]) iC.2 iC.1 jo.1.1 jo.1.2
    rw [<- hx]
    exact ⟨_,⟨bs,hi4⟩,hv (jb jo.1.1)⟩
   ·exact hv.elim
  ·obtain ⟨v,j3,hv⟩:=cJ hv
   exact val (uB (o:=o) (by rw [ec];exact j3) hw) hv
 ·rename_i t x ec
  obtain ⟨ht,hv⟩:=hv
  split at hv
  ·rename_i s hx
   unfold cL at ht
   split at ht
   ·rename_i hu
    obtain ⟨bs,hi⟩:=hw
    have hr:=run_range_string (P:=P) w t s hu
    simp only [execOp,ec,hx]
    rw [Sem.run_bind,hr]
    exact ⟨_,⟨_,hi.allocIter (t:=t) s⟩,hv w.heap.size⟩
   ·cases ht
  ·exact hv.elim
 ·rename_i it ec
  unfold aaf at hv
  split at hv
  ·rename_i g g' t sz s pos R hx hR
   obtain ⟨⟨rfl,rfl⟩,hv⟩:=hv
   obtain ⟨bs,hi⟩:=hw
   obtain ⟨q,bs',rfl⟩:∃ q bs',bs=q::bs':=by
    have h1:=hi.rows.1
    rw [hR] at h1
    cases bs with
    | nil=>simp at h1
    | cons q bs'=>exact ⟨q,bs',rfl⟩
   have bN:=hi.rows.2 0 _ _ _ _ q (by rw [hR];rfl) rfl
   rcases bN with ⟨hx,_⟩ | ⟨_,_,_,_,hx,_⟩ | ⟨_,_,_,_,hx,_⟩ | ⟨_,g',s',pos',zB,hb,Jk,rfl⟩
   ·cases hx
   ·cases hx
   ·cases hx
   injection zB with zB;injection zB with zB;injection zB with zB;subst zB
   injection Jk with e1 e2
   injection e1 with e1;subst e1
   injection e2 with e2
   injection e2 with _ e2;subst e2
   have mm:=A9 (P:=P) (ty:=o.type) hb
   simp only [Int.toNat_natCast] at hv
   simp only [execOp,ec,hx]
   rw [Sem.run_bind,mm]
   split
   ·rename_i aL
    rw [if_pos aL] at hv
    have VQ:=fL hb
    have OA:ym {w with heap:=w.heap.setIfInBounds g (.stringIter s (pos'+(Utf8.decode s pos').2))} (.pointer (some ⟨g,0,none⟩)) t 0 [.string s,.int .i64 ((pos'+(Utf8.decode s pos').2:Nat):Int)] (some g):=
     .inr (.inr (.inr ⟨rfl,g,s,_,rfl,by show (w.heap.setIfInBounds g _)[g]?=_;rw [Array.getElem?_setIfInBounds_self_of_lt VQ],rfl,rfl⟩))
    have ul:w.grownBy {w with heap:=w.heap.setIfInBounds g (.stringIter s (pos'+(Utf8.decode s pos').2))} (some g):=
     ⟨rfl,rfl,rfl,by simp,fun k hk cm=>by
      show (w.heap.setIfInBounds g _)[k]?=_
      rw [Array.getElem?_setIfInBounds_ne (by rintro rfl;exact cm rfl)]⟩
    have h2:=hi.append (j:=0) (o:=some g) (by rw [hR];rfl) rfl OA ul (.inl rfl)
    rw [hR] at h2
    exact ⟨_,⟨_,h2⟩,hv⟩
   ·rename_i aL
    rw [if_neg aL] at hv
    exact ⟨_,⟨_,hi⟩,hv⟩
  ·exact hv.elim
 ·obtain ⟨v,j3,hv⟩:=cJ hv
  exact val (uB j3 hw) hv
section
variable {P:Program} {ops:Array Oper} {Q:Exit ->Act ->World ->Prop} {md:Region.Mode} {S:(World ->Prop) ->Prop} {T:Nat ->Bool}
def kR (P:Program)(md:Region.Mode)(ops:Array Oper)(Q:Exit ->Act ->World ->Prop)(S:(World ->Prop) ->Prop)(T:Nat ->Bool):Nat ->Array Bool ->Act ->World ->Prop
 | 0,listed,a,w=>Region.ready md ops listed=[]/\Q .normal a w
 | fuel+1,listed,a,w=>
  (Region.ready md ops listed=[] ->Q .normal a w)/\
  ∀ i∈Region.ready md ops listed,wpOp P ops Q i (fun a' w'=>(T i=false ->∀ R,S R ->R w ->R w')/\kR P md ops Q S T fuel (listed.setIfInBounds i true) a' w') a w
theorem AN:∀ (fuel:Nat) (listed:Array Bool) (a:Act) (w:World),kR P md ops Q S T fuel listed a w ->wpAny P md ops Q fuel listed a w
 | 0,_,_,_,h=>h
 | fuel+1,_,_,_,h=>⟨h.1,fun i hi=>wpOp_mono (fun a' w' h'=>AN fuel _ a' w' h'.2) (h.2 i hi)⟩
theorem tt {S S':(World ->Prop) ->Prop}(h:∀ R,S R ->S' R):∀ (fuel:Nat) (listed:Array Bool) (a:Act) (w:World),kR P md ops Q S' T fuel listed a w ->kR P md ops Q S T fuel listed a w
 | 0,_,_,_,hw=>hw
 | fuel+1,_,_,_,hw=>⟨hw.1,fun i hi=>wpOp_mono (fun a' w' h'=>⟨fun ht R hR=>h'.1 ht R (h R hR),tt h fuel _ a' w' h'.2⟩) (hw.2 i hi)⟩
def Cld (md:Region.Mode)(ops:Array Oper)(listed:Array Bool):Prop:=∀ k ok,ops[k]?=some ok ->listed.getD k false=true ->∀ e∈ok.after,Region.binds md e=true ->listed.getD e.on false=true
def rT {l:Array Bool}{j k:Nat}(h:l.getD k false=true):(l.setIfInBounds j true).getD k false=true:=by
 by_cases SM:j=k
 ·subst SM
  rcases Nat.lt_or_ge j l.size with h' | h'
  ·simp [h']
  ·simp [Array.getElem?_eq_none h'] at h
 ·rw [getD_set_ne false SM];exact h
def Cld.set {listed:Array Bool}{j:Nat}(h:Cld md ops listed)(hj:j∈Region.ready md ops listed):Cld md ops (listed.setIfInBounds j true):=by
 intro k ok hk hl e he hb
 by_cases SM:j=k
 ·subst SM
  obtain ⟨_,oj,OC,xf⟩:=mem_ready.1 hj
  rw [hk] at OC;injection OC with OC;subst OC
  exact rT (xf e he hb)
 ·rw [getD_set_ne false SM] at hl
  exact rT (h k ok hk hl e he hb)
def uP {S':World ->Prop}{i:Nat}{oi:Oper}{v:Value}(hi:ops[i]?=some oi)(xk:∀ (j:Nat) (o:Oper) cs b,ops[j]?=some o ->o.op≠ .select cs b)
 (hT:(∀ w,S' w)\/(S S'/\∀ j oj,ops[j]?=some oj ->j≠i ->T j=true ->∃ e∈oj.after,Region.binds md e=true/\(e.on=i\/∃ o2,ops[e.on]?=some o2/\∃ e2∈o2.after,Region.binds md e2=true/\e2.on=i)))
 (hQ:∀ c a w,Q (.panic c) (a.put oi.dst v) w ->Q (.panic c) a w):
 ∀ (fuel:Nat) (listed:Array Bool) (a:Act) (w:World),Cld md ops listed ->
  (∀ j oj,ops[j]?=some oj ->j≠i ->listed.getD j true=false ->(∀ e∈oj.after,Region.binds md e=true ->e.on≠i) ->oi.apart ops oj=true) ->
  i∈Region.ready md ops listed ->YieldsIf P ops S' oi v a ->S' w ->
  kR P md ops Q S T fuel (listed.setIfInBounds i true) (a.put oi.dst v) w ->kR P md ops Q S T (fuel+1) listed a w:=by
 intro fuel
 induction fuel with
 | zero=>
  intro listed a w _ _ hr hy hS H
  refine ⟨fun h=>(by rw [h] at hr;cases hr),fun j hj=> ?_⟩
  by_cases xU:j=i
  ·subst xU;exact hy.wpOp hi hS ⟨fun _ _ _ h=>h,H⟩
  ·have:=ready_mono hj xU
   rw [H.1] at this
   cases this
 | succ fuel ih=>
  intro listed a w cK Zv hr hy hS H
  refine ⟨fun h=>(by rw [h] at hr;cases hr),fun j hj=> ?_⟩
  by_cases xU:j=i
  ·subst xU;exact hy.wpOp hi hS ⟨fun _ _ _ h=>h,H⟩
  ·have h1:=H.2 j (ready_mono hj xU)
   obtain ⟨afN,oj,OC,xf⟩:=mem_ready.1 hj
   have afZ:∀ e∈oj.after,Region.binds md e=true ->e.on≠i:=fun e he hb heq=>by
    have h1:=xf e he hb
    have h0:=(mem_ready.1 hr).1
    rw [heq] at h1
    rcases Nat.lt_or_ge i listed.size with h' | h'
    ·simp [h'] at h0 h1;rw [h0] at h1;cases h1
    ·simp [Array.getElem?_eq_none h'] at h1
   have h2:=wpOp_putIf OC (Zv j oj OC xU afN afZ) (fun cs b=>xk i oi cs b hi) (fun cs b=>xk j oj cs b OC) hQ hy h1
   have abO:∀ k ok,ops[k]?=some ok ->k≠i ->(listed.setIfInBounds j true).getD k true=false ->
    (∀ e∈ok.after,Region.binds md e=true ->e.on≠i) ->oi.apart ops ok=true:=fun k ok hk hki hun bj=>by
    refine Zv k ok hk hki ?_ bj
    by_cases SM:j=k
    ·subst SM;exact afN
    ·rw [getD_set_ne true SM] at hun;exact hun
   refine wpOp_mono (fun a' w' h3=>⟨h3.2.1,?_⟩) h2
   -- the world behind j meets S'
   have hTj:(∀ w,S' w)\/(S S'/\T j=false):=by
    rcases hT with h | ⟨h,hT⟩
    ·exact .inl h
    ·refine .inr ⟨h,?_⟩
     cases hTj:T j with
     | false=>rfl
     | true=>
      obtain ⟨e,he,hb,hon⟩:=hT j oj OC xU hTj
      rcases hon with hon | ⟨o2,ho2,e2,pC,dO,hon⟩
      ·exact absurd hon (afZ e he hb)
      ·have h1:=cK e.on o2 ho2 (xf e he hb) e2 pC dO
       have h0:=(mem_ready.1 hr).1
       rw [hon] at h1
       rcases Nat.lt_or_ge i listed.size with h' | h'
       ·simp [h'] at h0 h1;rw [h0] at h1;cases h1
       ·simp [Array.getElem?_eq_none h'] at h1
   have fh:S' w':=by
    rcases hTj with h | ⟨h,hf⟩
    ·exact h w'
    ·exact h3.2.1 hf S' h hS
   refine ih (listed.setIfInBounds j true) a' w' (cK.set hj) abO (ready_mono hr (Ne.symm xU)) h3.1 fh ?_
   rw [Array.setIfInBounds_comm _ _ xU]
   exact h3.2.2
end
inductive Sched where
 | done
 | no
 | take (i:Nat) (s:Sched)
 | eff (i:Nat) (t:Bool) (s alt:Sched)
 | effN (i:Nat) (t:Bool) (s alt:Sched)
def vI (P:Program)(ops:List Oper)(k:Nat):Bool:=match ops[k]? with | some o=>OK P o.op | none=>false
def fA (P:Program)(ops:List Oper)(j:Nat):Bool:=
 match ops[j]? with
 | none=>false
 | some oj=>(List.range ops.length).all fun k=>k==j || !(vI P ops k) || oj.after.any (fun e=>Region.binds .any e && (e.on==k || (match ops[e.on]? with | some o2=>o2.after.any (fun e2=>Region.binds .any e2 && e2.on==k) | none=>false)))
def uW (P:Program)(ops:List Oper):Nat ->Option (List Nat) ->Array Bool ->Bool ->Sched ->Bool
 | _,none,l,_,.done=>Region.ready .any ops.toArray l==[]
 | f+1,none,l,tl,.take i s=>(Region.ready .any ops.toArray l).contains i && Region.free .any ops.toArray l i && (!(vI P ops i) || !tl) && uW P ops f none (l.setIfInBounds i true) tl s
 | f+1,none,l,tl,.eff i t s alt=>match Region.ready .any ops.toArray l with
  | []=>false
  | j::r=>j==i && (!t || fA P ops i) && (t || !tl) && uW P ops f none (l.setIfInBounds i true) (tl || t) s && uW P ops f (some r) l tl alt
 | f+1,none,l,tl,.effN i t s alt=>match Region.ready .any ops.toArray l with
  | []=>false
  | j::r=>j==i && (!t || fA P ops i) && (t || !tl) && uW P ops f none (l.setIfInBounds i true) (tl || t) s && uW P ops f (some r) l tl alt
 | f,some (j::r),l,tl,.effN i t s alt=>j==i && (!t || fA P ops i) && (t || !tl) && uW P ops f none (l.setIfInBounds i true) (tl || t) s && uW P ops f (some r) l tl alt
 | f,some (j::r),l,tl,.eff i t s alt=>j==i && (!t || fA P ops i) && (t || !tl) && uW P ops f none (l.setIfInBounds i true) (tl || t) s && uW P ops f (some r) l tl alt
 | _,some [],_,_,.no=>true
 | _,_,_,_,_=>false
def okD (P:Program)(ops:List Oper)(s:Sched):Bool:=Region.noSelect ops.toArray && uW P ops ops.length none (Array.replicate ops.length false) false s
def Z1 (P:Program)(K:KontL)(ops:List Oper)(o:Oper)(e:dx)(ds:List Deferred)(h:Sh)(next:Value ->List Deferred ->Sh ->Prop):Prop:=
 if eB ops e o.guard=true then HG P K o e ds h next else next undef ds h
def vS (P:Program)(ops:List Oper)(K:KontL):Sh ->Sched ->dx ->List Deferred ->Sh ->Prop
 | _,.done,e,ds,h=>K.nrm e ds h
 | _,.no,_,_,_=>True
 | h0,.take i s,e,ds,h=>ea ops[i]? fun o=>if eB ops e o.guard=true then ea (pv P e h0 o.op) fun v=>vS P ops K h0 s (cI e o.dst v) ds h else vS P ops K h0 s (cI e o.dst undef) ds h
 | h0,.eff i t s alt,e,ds,h=>(ea ops[i]? fun o=>Z1 P K ops o e ds h fun v ds h'=>(t=false ->fW h0 h')/\vS P ops K h0 s (cI e o.dst v) ds h')/\vS P ops K h0 alt e ds h
 | h0,.effN i t s alt,e,ds,h=>(ea ops[i]? fun o=>Z1 P K ops o e ds h fun v ds h'=>∃ h1,fW h0 h1/\(t=false ->fW h1 h')/\vS P ops K h1 s (cI e o.dst v) ds h')/\vS P ops K h0 alt e ds h
def wm (pan:List PanicEntry ->dx ->List Deferred ->Sh ->Prop)(ops:List Oper):Prop:=
 ∀ o∈ops,∀ d,o.dst=some d ->∀ ch e v ds h,pan ch (upd e d v) ds h ->pan ch e ds h
def KontL.toQ (c:Ctx)(n:Nat)(K:KontL):Exit ->Act ->World ->Prop
 | .normal,a,w=>∃ e ds h,Fr n a e ds/\Is c h w/\K.nrm e ds h
 | .exit id,a,w=>∃ e ds h,Fr n a e ds/\Is c h w/\K.exi id e ds h
 | .ret,a,w=>∃ e ds h,Fr n a e ds/\Is c h w/\K.ret e ds h
 | .panic ch,a,w=>∃ e ds h,Fr n a e ds/\Is c h w/\K.pan ch e ds h
 | .goto _,_,_=>False
 | .outgrown,_,_=>False
def RY {n:Nat}{ops:List Oper}(sV:wC n ops=true){i:Nat}{o:Oper}(hi:ops[i]?=some o):∀ k,o.dst=some k ->k<n:=by
 intro k hk
 have:=List.all_eq_true.1 sV o (List.mem_of_getElem? hi)
 simpa [hk] using this
def ML {P:Program}{n:Nat}{c:Ctx}{ops:List Oper}(sV:wC n ops=true){K:KontL}{i:Nat}{o:Oper}(hi:ops[i]?=some o)
 {e:dx} {ds:List Deferred} {h:Sh} {w:World} {a:Act} {next:Value ->List Deferred ->Sh ->Prop}
 (ha:Fr n a e ds) (hw:Is c h w) (hv:Z1 P K ops o e ds h next):
 wpOp P ops.toArray (K.toQ c n) i (fun a' w'=>∃ v ds' h',Fr n a' (cI e o.dst v) ds'/\Is c h' w'/\next v ds' h') a w:=by
 have hd:=RY sV hi
 unfold wpOp
 simp only [List.getElem?_toArray,hi]
 rw [qE ha ops sV]
 unfold Z1 at hv
 by_cases OI:eB ops e o.guard=true
 ·rw [if_pos OI] at hv ⊢
  refine .inl ?_
  unfold Oper.wp
  have he:a.eval=ev e:=funext ha.eval
  rw [he]
  have hv:=AG hv hw
  generalize (execOp (ev e) o).run P w=res at hv ⊢
  unfold Oper.upon
  cases res with
  | halt hh w'=>
   cases hh<;>simp only [upon] at hv ⊢
   obtain ⟨h',gn,hv⟩:=hv
   exact ⟨e,ds,h',ha,gn,hv⟩
  | ok x w'=>
   cases x<;>simp only [upon] at hv ⊢
   case value v=>
    obtain ⟨h',gn,hv⟩:=hv
    exact ⟨v,ds,h',ha.put hd v,gn,hv⟩
   case skip=>
    obtain ⟨h',gn,hv⟩:=hv
    exact ⟨_,ds,h',ha.put hd _,gn,hv⟩
   case defer d=>
    obtain ⟨h',gn,hv⟩:=hv
    have h2:Fr n {a with defers:=d::a.defers} e (d::ds):=⟨ha.1,by simp [ha.2.1],ha.2.2⟩
    exact ⟨_,_,h',h2.put hd undef,gn,hv⟩
   case enter f args=>
    refine Calls.mono hv ?_
    intro en w'' hq
    cases en with
    | returned v=>
     obtain ⟨h',gn,hv⟩:=hq
     exact ⟨v,ds,h',ha.put hd v,gn,hv⟩
    | panicked ch=>
     obtain ⟨h',gn,hv⟩:=hq
     exact ⟨e,ds,h',ha,gn,hv⟩
    | outgrown=>exact hq.elim
 ·rw [if_neg OI] at hv ⊢
  exact ⟨_,ds,h,ha.put hd _,hw,hv⟩
def SS (c:Ctx)(h0:Sh)(w:World):Prop:=∃ h',Is c h' w/\fW h0 h'
def Hs {P:Program}{ops:List Oper}{i j:Nat}{oj:Oper}(hj:ops[j]?=some oj)(cm:j≠i)(ht:fA P ops j=true)(hl:vI P ops i=true):
 ∃ e∈oj.after,Region.binds .any e=true/\(e.on=i\/∃ o2,ops[e.on]?=some o2/\∃ e2∈o2.after,Region.binds .any e2=true/\e2.on=i):=by
 unfold fA at ht
 rw [hj] at ht
 simp only [List.all_eq_true,List.mem_range] at ht
 have aL:i<ops.length:=by
  unfold vI at hl
  split at hl
  ·rename_i o ho;exact (List.getElem?_eq_some_iff.1 ho).1
  ·cases hl
 have:=ht i aL
 simp only [hl,Bool.not_true,Bool.or_false,Bool.or_eq_true,beq_iff_eq] at this
 rcases this with h | h
 ·exact absurd h.symm cm
 ·obtain ⟨e,he,hb⟩:=Array.any_eq_true'.1 h
  simp only [Bool.and_eq_true,Bool.or_eq_true,beq_iff_eq] at hb
  refine ⟨e,he,hb.1,?_⟩
  rcases hb.2 with h | h
  ·exact .inl h
  ·split at h
   ·rename_i o2 ho2
    obtain ⟨e2,pC,dO⟩:=Array.any_eq_true'.1 h
    simp only [Bool.and_eq_true,beq_iff_eq] at dO
    exact .inr ⟨o2,ho2,e2,pC,dO⟩
   ·cases h
def VK (c:Ctx)(G:Sh ->Prop):(World ->Prop) ->Prop:=fun R=>∃ g,G g/\R=SS c g
theorem Vl {P:Program}{n:Nat}{c:Ctx}{ops:List Oper}(sV:wC n ops=true){K:KontL}(xk:Region.noSelect ops.toArray=true)(XQ:wm K.pan ops):
 ∀ (s:Sched) (h0:Sh) (G:Sh ->Prop) (f:Nat) (r:Option (List Nat)) (l:Array Bool) (tl:Bool) (e:dx) (ds:List Deferred) (h:Sh) (w:World) (a:Act),
  G h0 ->(∀ g,G g ->fW g h0) ->(Cld .any ops.toArray l/\∀ rs,r=some rs ->∀ j∈rs,j∈Region.ready .any ops.toArray l) ->uW P ops f r l tl s=true ->Fr n a e ds ->Is c h w ->(tl=false ->fW h0 h) ->vS P ops K h0 s e ds h ->
  match r with
  | none=>kR P .any ops.toArray (K.toQ c n) (VK c G) (fA P ops) f l a w
  | some r=>∀ j∈r,wpOp P ops.toArray (K.toQ c n) j (fun a' w'=>(fA P ops j=false ->∀ R,VK c G R ->R w ->R w')/\kR P .any ops.toArray (K.toQ c n) (VK c G) (fA P ops) f (l.setIfInBounds j true) a' w') a w:=by
 have SR:∀ (o:Oper),o∈ops ->∀ (ch) (a:Act) (v:Value) (w:World),K.toQ c n (.panic ch) (a.put o.dst v) w ->K.toQ c n (.panic ch) a w:=by
  intro o ho ch a v w hq
  obtain ⟨e',ds',h',hf,hw,hq⟩:=hq
  cases hd:o.dst with
  | none=>rw [hd] at hf;exact ⟨e',ds',h',hf,hw,hq⟩
  | some d=>
   rw [hd] at hf
   have hn:a.tmps.size=n:=by simpa [Act.put] using hf.1
   have h1:Fr n a (fun t=>a.tmps.getD t undef) a.defers:=⟨hn,rfl,fun _=>rfl⟩
   have h2:Fr n (a.put (some d) v) (upd (fun t=>a.tmps.getD t undef) d v) a.defers:=
    h1.put (d:=some d) (fun k hk=>by
     injection hk with hk;subst hk
     have:=List.all_eq_true.1 sV o ho
     simpa [hd] using this) v
   obtain ⟨he,uS⟩:=hf.uniq h2
   subst he uS
   exact ⟨_,_,h',h1,hw,XQ o ho d hd _ _ _ _ _ hq⟩
 -- one effect
 have one:∀ (h0:Sh) (G:Sh ->Prop) (_:∀ g,G g ->fW g h0) (i:Nat) (t:Bool) (s:Sched) (f:Nat) (l:Array Bool) (tl:Bool) (e:dx) (ds:List Deferred) (h:Sh) (w:World) (a:Act),
  (∀ (e:dx) (ds:List Deferred) (h:Sh) (w:World) (a:Act),Fr n a e ds ->Is c h w ->((tl || t)=false ->fW h0 h) ->vS P ops K h0 s e ds h ->
   kR P .any ops.toArray (K.toQ c n) (VK c G) (fA P ops) f (l.setIfInBounds i true) a w) ->
  (t=true ->fA P ops i=true) ->Fr n a e ds ->Is c h w ->
  (ea ops[i]? fun o=>Z1 P K ops o e ds h fun v ds h'=>(t=false ->fW h0 h')/\vS P ops K h0 s (cI e o.dst v) ds h') ->
  wpOp P ops.toArray (K.toQ c n) i (fun a' w'=>(fA P ops i=false ->∀ R,VK c G R ->R w ->R w')/\kR P .any ops.toArray (K.toQ c n) (VK c G) (fA P ops) f (l.setIfInBounds i true) a' w') a w:=by
  intro h0 G hG i t s f l tl e ds h w a ih ht ha hw hv
  obtain ⟨o,ho,hv⟩:=cJ hv
  refine wpOp_mono ?_ (ML sV ho ha hw hv)
  rintro a' w' ⟨v,ds',h',hf,gn,iD,hv⟩
  refine ⟨fun htf R hR _=> ?_,ih _ _ _ _ _ hf gn ?_ hv⟩
  ·obtain ⟨g,hg,rfl⟩:=hR
   exact ⟨h',gn,(hG g hg).trans (iD (by cases t with | false=>rfl | true=>rw [ht rfl] at htf;cases htf))⟩
  intro h2
  simp only [Bool.or_eq_false_iff] at h2
  exact iD h2.2
 have oneN:∀ (h0:Sh) (G:Sh ->Prop) (_:∀ g,G g ->fW g h0) (i:Nat) (t:Bool) (s:Sched) (f:Nat) (l:Array Bool) (tl:Bool) (e:dx) (ds:List Deferred) (h:Sh) (w:World) (a:Act),
  (∀ (h1:Sh),fW h0 h1 ->∀ (e:dx) (ds:List Deferred) (h:Sh) (w:World) (a:Act),Fr n a e ds ->Is c h w ->((tl || t)=false ->fW h1 h) ->vS P ops K h1 s e ds h ->
   kR P .any ops.toArray (K.toQ c n) (VK c G) (fA P ops) f (l.setIfInBounds i true) a w) ->
  (t=true ->fA P ops i=true) ->Fr n a e ds ->Is c h w ->
  (ea ops[i]? fun o=>Z1 P K ops o e ds h fun v ds h'=>∃ h1,fW h0 h1/\(t=false ->fW h1 h')/\vS P ops K h1 s (cI e o.dst v) ds h') ->
  wpOp P ops.toArray (K.toQ c n) i (fun a' w'=>(fA P ops i=false ->∀ R,VK c G R ->R w ->R w')/\kR P .any ops.toArray (K.toQ c n) (VK c G) (fA P ops) f (l.setIfInBounds i true) a' w') a w:=by
  intro h0 G hG i t s f l tl e ds h w a ih ht ha hw hv
  obtain ⟨o,ho,hv⟩:=cJ hv
  refine wpOp_mono ?_ (ML sV ho ha hw hv)
  rintro a' w' ⟨v,ds',h',hf,gn,h1,B3,iD,hv⟩
  refine ⟨fun htf R hR _=> ?_,ih h1 B3 _ _ _ _ _ hf gn ?_ hv⟩
  ·obtain ⟨g,hg,rfl⟩:=hR
   exact ⟨h',gn,((hG g hg).trans B3).trans (iD (by cases t with | false=>rfl | true=>rw [ht rfl] at htf;cases htf))⟩
  intro h2
  simp only [Bool.or_eq_false_iff] at h2
  exact iD h2.2
 intro s
 induction s with
 | done=>
  intro h0 G f r l tl e ds h w a PS hG cK ce ha hw iD hv
  cases r with
  | none=>
   have hr:Region.ready .any ops.toArray l=[]:=by simpa [uW] using ce
   have hq:K.toQ c n .normal a w:=⟨e,ds,h,ha,hw,hv⟩
   cases f with
   | zero=>exact ⟨hr,hq⟩
   | succ f=>exact ⟨fun _=>hq,by rw [hr];simp⟩
  | some r=>cases f<;>cases r<;>simp [uW] at ce
 | no=>
  intro h0 G f r l tl e ds h w a PS hG cK ce ha hw iD hv
  cases r with
  | none=>cases f<;>simp [uW] at ce
  | some r=>
   cases r with
   | nil=>intro j hj;simp at hj
   | cons j r=>cases f<;>simp [uW] at ce
 | take i s ih=>
  intro h0 G f r l tl e ds h w a PS hG cK ce ha hw iD hv
  cases r with
  | some r=>cases f<;>cases r<;>simp [uW] at ce
  | none=>
   cases f with
   | zero=>simp [uW] at ce
   | succ f=>
    simp only [uW,Bool.and_eq_true,Bool.or_eq_true,Bool.not_eq_true'] at ce
    obtain ⟨⟨⟨hr,hf⟩,hld⟩,ce⟩:=ce
    obtain ⟨o,ho,hv⟩:=cJ hv
    have hi:ops.toArray[i]?=some o:=by simpa using ho
    have he:a.eval=ev e:=funext ha.eval
    have XZ:Region.wanted o (yielded ops.toArray a.tmps)=eB ops e o.guard:=qE ha ops sV o
    have Zz:vI P ops i=OK P o.op:=by unfold vI;rw [ho]
    have cont:∀ v,vS P ops K h0 s (cI e o.dst v) ds h ->(∀ S',(∀ w,S' w ->SS c h0 w)\/OK P o.op=false ->YieldsIf P ops.toArray S' o v a) ->
     kR P .any ops.toArray (K.toQ c n) (VK c G) (fA P ops) (f+1) l a w:=by
     intro v hv hy
     have Cc:=ih h0 G f none (l.setIfInBounds i true) tl (cI e o.dst v) ds h w (a.put o.dst v) PS hG ⟨cK.1.set (by simpa using hr),fun _ h=>by cases h⟩ ce (ha.put (RY sV ho) v) hw iD hv
     simp only [] at Cc
     cases hl:OK P o.op with
     | false=>
      exact uP (S':=fun _=>True) hi (Region.noSelect_spec xk) (.inl fun _=>trivial) (fun ch a w=>SR o (List.mem_of_getElem? ho) ch a v w)
       f l a w cK.1 (Region.free_spec hi hf) (by simpa using hr) (hy _ (.inr hl)) trivial Cc
     | true=>
      have DS:tl=false:=by
       rcases hld with h | h
       ·rw [Zz,hl] at h;cases h
       ·exact h
      refine uP (S':=SS c h0) hi (Region.noSelect_spec xk) (.inr ⟨⟨h0,PS,rfl⟩,fun j oj hj cm ht=>by simpa using Hs (by simpa using hj) cm ht (by rw [Zz];exact hl)⟩)
       (fun ch a w=>SR o (List.mem_of_getElem? ho) ch a v w) f l a w cK.1 (Region.free_spec hi hf) (by simpa using hr) (hy _ (.inl fun _ h=>h)) ⟨h,hw,iD DS⟩ Cc
    by_cases OI:eB ops e o.guard=true
    ·rw [if_pos OI] at hv
     obtain ⟨v,hpv,hv⟩:=cJ hv
     refine cont v hv fun S' fh=> .inl ⟨by rw [XZ];exact OI,fun w hSw=> ?_⟩
     rw [he]
     rcases fh with fh | fh
     ·obtain ⟨h',gn,zz⟩:=fh w hSw
      exact uB (Yg hpv fun _=>zz) gn
     ·exact Cx (c:=c) hpv fun hl=>by rw [fh] at hl;cases hl
    ·rw [if_neg OI] at hv
     refine cont undef hv fun S' _=> .inr ⟨by rw [XZ];simpa using OI,rfl⟩
 | eff i t s alt ihs iha=>
  intro h0 G f r l tl e ds h w a PS hG cK ce ha hw iD hv
  obtain ⟨j3,nu⟩:=hv
  cases r with
  | none=>
   cases f with
   | zero=>simp [uW] at ce
   | succ f=>
    simp only [uW] at ce
    split at ce
    ·cases ce
    ·rename_i j r hr
     simp only [Bool.and_eq_true,beq_iff_eq] at ce
     obtain ⟨⟨⟨⟨xU,ht⟩,DS⟩,Jp⟩,pu⟩:=ce
     replace ht:t=true ->fA P ops i=true:=fun h=>by rw [h] at ht;simpa using ht
     subst xU
     have hjr:j∈Region.ready .any ops.toArray l:=by rw [hr];simp
     have Jq:∀ rs,some r=some rs ->∀ k∈rs,k∈Region.ready .any ops.toArray l:=fun rs h k hk=>by injection h with h;subst h;rw [hr];exact tC hk
     have h1:=one h0 G hG j t s f l tl e ds h w a (fun e ds h w a hf hw hs hv=>ihs h0 G f none _ _ e ds h w a PS hG ⟨cK.1.set hjr,fun _ h=>by cases h⟩ Jp hf hw hs hv) ht ha hw j3
     have h2:=iha h0 G f (some r) l tl e ds h w a PS hG ⟨cK.1,Jq⟩ pu ha hw iD nu
     refine ⟨fun h0=>absurd (hr ▸ h0) (by simp),fun k hk=> ?_⟩
     rw [hr] at hk
     rcases lQ hk with rfl | hk
     ·exact h1
     ·exact h2 k hk
  | some r=>
   cases r with
   | nil=>cases f<;>simp [uW] at ce
   | cons j r=>
    have jf:(j==i && (!t || fA P ops i) && (t || !tl) && uW P ops f none (l.setIfInBounds i true) (tl || t) s && uW P ops f (some r) l tl alt)=true:=by
     cases f<;>exact ce
    simp only [Bool.and_eq_true,beq_iff_eq] at jf
    obtain ⟨⟨⟨⟨xU,ht⟩,DS⟩,Jp⟩,pu⟩:=jf
    replace ht:t=true ->fA P ops i=true:=fun h=>by rw [h] at ht;simpa using ht
    subst xU
    have hjr:j∈Region.ready .any ops.toArray l:=cK.2 _ rfl j (by simp)
    have Jq:∀ rs,some r=some rs ->∀ k∈rs,k∈Region.ready .any ops.toArray l:=fun rs h k hk=>by injection h with h;subst h;exact cK.2 _ rfl k (tC hk)
    have h1:=one h0 G hG j t s f l tl e ds h w a (fun e ds h w a hf hw hs hv=>ihs h0 G f none _ _ e ds h w a PS hG ⟨cK.1.set hjr,fun _ h=>by cases h⟩ Jp hf hw hs hv) ht ha hw j3
    have h2:=iha h0 G f (some r) l tl e ds h w a PS hG ⟨cK.1,Jq⟩ pu ha hw iD nu
    intro k hk
    rcases lQ hk with rfl | hk
    ·exact h1
    ·exact h2 k hk
 | effN i t s alt ihs iha=>
  intro h0 G f r l tl e ds h w a PS hG cK ce ha hw iD hv
  obtain ⟨j3,nu⟩:=hv
  cases r with
  | none=>
   cases f with
   | zero=>simp [uW] at ce
   | succ f=>
    simp only [uW] at ce
    split at ce
    ·cases ce
    ·rename_i j r hr
     simp only [Bool.and_eq_true,beq_iff_eq] at ce
     obtain ⟨⟨⟨⟨xU,ht⟩,DS⟩,Jp⟩,pu⟩:=ce
     replace ht:t=true ->fA P ops i=true:=fun h=>by rw [h] at ht;simpa using ht
     subst xU
     have hjr:j∈Region.ready .any ops.toArray l:=by rw [hr];simp
     have Jq:∀ rs,some r=some rs ->∀ k∈rs,k∈Region.ready .any ops.toArray l:=fun rs h k hk=>by injection h with h;subst h;rw [hr];exact tC hk
     have h1:=oneN h0 G hG j t s f l tl e ds h w a (fun g1 B3 e ds h w a hf hw hs hv=>tt (fun R hR=>by obtain ⟨g,hg,hR⟩:=hR;exact ⟨g,.inl hg,hR⟩) _ _ _ _ (ihs g1 (fun g=>G g\/g=g1) f none _ _ e ds h w a (.inr rfl) (fun g hg=>by rcases hg with hg | rfl;exact (hG g hg).trans B3;exact fW.refl _) ⟨cK.1.set hjr,fun _ h=>by cases h⟩ Jp hf hw hs hv)) ht ha hw j3
     have h2:=iha h0 G f (some r) l tl e ds h w a PS hG ⟨cK.1,Jq⟩ pu ha hw iD nu
     refine ⟨fun h0=>absurd (hr ▸ h0) (by simp),fun k hk=> ?_⟩
     rw [hr] at hk
     rcases lQ hk with rfl | hk
     ·exact h1
     ·exact h2 k hk
  | some r=>
   cases r with
   | nil=>cases f<;>simp [uW] at ce
   | cons j r=>
    have jf:(j==i && (!t || fA P ops i) && (t || !tl) && uW P ops f none (l.setIfInBounds i true) (tl || t) s && uW P ops f (some r) l tl alt)=true:=by
     cases f<;>exact ce
    simp only [Bool.and_eq_true,beq_iff_eq] at jf
    obtain ⟨⟨⟨⟨xU,ht⟩,DS⟩,Jp⟩,pu⟩:=jf
    replace ht:t=true ->fA P ops i=true:=fun h=>by rw [h] at ht;simpa using ht
    subst xU
    have hjr:j∈Region.ready .any ops.toArray l:=cK.2 _ rfl j (by simp)
    have Jq:∀ rs,some r=some rs ->∀ k∈rs,k∈Region.ready .any ops.toArray l:=fun rs h k hk=>by injection h with h;subst h;exact cK.2 _ rfl k (tC hk)
    have h1:=oneN h0 G hG j t s f l tl e ds h w a (fun g1 B3 e ds h w a hf hw hs hv=>tt (fun R hR=>by obtain ⟨g,hg,hR⟩:=hR;exact ⟨g,.inl hg,hR⟩) _ _ _ _ (ihs g1 (fun g=>G g\/g=g1) f none _ _ e ds h w a (.inr rfl) (fun g hg=>by rcases hg with hg | rfl;exact (hG g hg).trans B3;exact fW.refl _) ⟨cK.1.set hjr,fun _ h=>by cases h⟩ Jp hf hw hs hv)) ht ha hw j3
    have h2:=iha h0 G f (some r) l tl e ds h w a PS hG ⟨cK.1,Jq⟩ pu ha hw iD nu
    intro k hk
    rcases lQ hk with rfl | hk
    ·exact h1
    ·exact h2 k hk
def mq:Op ->Bool
 | .move _ | .assign _ | .pick _ _ _ | .nilCheck _ | .fieldAddr _ _ _ | .indexAddr _ _ _ | .index _ _ _ | .binOp _ _ _ _ _ | .unOp _ _ _ | .extract _ _ | .build _ _ | .convert _ _ _ | .makeInterface _ _ | .makeFunc _ _ _ | .slice _ _ _ _ _ | .load _ _ | .field _ _ _=>true
 | .call c=>match c.callee with | .builtin .len=>true | .builtin .cap=>true | _=>false
 | _=>false
def ol (o:Oper):Bool:=o.guard.isSome && mq o.op
def j9 (P:Program)(ops:List Oper)(K:KontL):List Oper ->dx ->List Deferred ->Sh ->Prop
 | [],e,ds,h=>K.nrm e ds h
 | o::r,e,ds,h=>
  if ol o=true then ea (if eB ops e o.guard=true then pv P e h o.op else some undef) fun v=>j9 P ops K r (cI e o.dst v) ds h
  else if eB ops e o.guard=true then HG P K o e ds h (fun v ds h=>j9 P ops K r (cI e o.dst v) ds h)
  else j9 P ops K r (cI e o.dst undef) ds h
def JF (dr:List (Nat×Sched))(id:Nat):Sched:=match dr with | []=> .no | (j,s)::r=>if j=id then s else JF r id
def eu (P:Program)(n:Nat)(dr:List (Nat×Sched)):Code ->Bool
 | .skip | .exit _ | .ret=>true
 | .region id ops d=>wC n ops.toList && (!d || okD P ops.toList (JF dr id))
 | .seq a b | .cond _ a b=>eu P n dr a && eu P n dr b
 | .block _ b | .loop b=>eu P n dr b
 | _=>false
def uN (P:Program)(dr:List (Nat×Sched))(id:Nat)(ops:List Oper)(d:Bool)(K:KontL)(e:dx)(ds:List Deferred)(h:Sh):Prop:=
 if d=true then wm K.pan ops/\(∃ h0,fW h0 h/\vS P ops K h0 (JF dr id) e ds h) else j9 P ops K ops e ds h
def cq (h:Sh)(k:Sh ->Prop):Prop:=∀ c w,Is c h w ->∃ h',Is c h' w/\k h'
def VW (P:Program)(dr:List (Nat×Sched)):Code ->KontL ->dx ->List Deferred ->Sh ->Prop
 | .skip,K=>K.nrm
 | .region id ops d,K=>uN P dr id ops.toList d K
 | .seq a b,K=>VW P dr a {K with nrm:=VW P dr b K}
 | .cond c a b,K=>fun e ds h=>C2 (ev e c) fun t=>if t=true then VW P dr a K e ds h else VW P dr b K e ds h
 | .block id b,K=>VW P dr b {K with exi:=fun i=>if i=id then K.nrm else K.exi i}
 | .loop b,K=>fun e ds h=>∃ (I:Nat ->dx ->List Deferred ->Sh ->Prop),(cq h fun h=>∃ m,I m e ds h)/\
  ∀ m e ds h,I m e ds h ->VW P dr b {K with nrm:=fun e ds h=>cq h fun h=>∃ m',m'<m/\I m' e ds h} e ds h
 | .exit id,K=>K.exi id
 | .ret,K=>K.ret
 | _,_=>fun _ _ _=>False
def Is.drawn {c h w}(hw:Is c h w):Is c h {w with drawn:=w.drawn+1}:=by
 obtain ⟨bs,hi⟩:=hw
 exact ⟨bs,
  {typ:=hi.typ
   holds:=hi.holds
   blk:=hi.blk
   rows:=hi.rows
   nodup:=hi.nodup
   apart:=hi.apart
   os:=hi.os
   tape:=hi.tape
   output:=hi.output
   size:=hi.size
   old:=hi.old
   mem:=hi.mem
   le:=hi.le}⟩
def JU {P:Program}{n:Nat}{c:Ctx}{ops:List Oper}(sV:wC n ops=true){K:KontL}:∀ (l:List Oper) (_:wC n l=true) (e:dx) (ds:List Deferred) (h:Sh) (w:World) (a:Act),
 Fr n a e ds ->Is c h w ->j9 P ops K l e ds h ->wpList P ops.toArray (K.toQ c n) l a w:=by
 intro l
 induction l with
 | nil=>
  intro _ e ds h w a ha hw hv
  exact ⟨e,ds,h,ha,hw,hv⟩
 | cons o r ih=>
  intro hl e ds h w a ha hw hv
  simp only [wC,List.all_cons,Bool.and_eq_true] at hl
  have hd:∀ k,o.dst=some k ->k<n:=by
   intro k hk
   have:=hl.1
   simp [hk] at this
   exact this
  have ih:=ih hl.2
  unfold j9 at hv
  unfold wpList
  rw [qE ha ops sV]
  by_cases hpg:ol o=true
  ·rw [if_pos hpg] at hv
   obtain ⟨v,j3,hv⟩:=cJ hv
   by_cases OI:eB ops e o.guard=true
   ·rw [if_pos OI] at j3 ⊢
    refine .inl ?_
    unfold Oper.wp
    have he:a.eval=ev e:=funext ha.eval
    rw [he,uB j3 hw]
    exact ih _ _ _ _ _ (ha.put hd v) hw hv
   ·rw [if_neg OI] at j3 ⊢
    injection j3 with j3
    subst j3
    exact ih _ _ _ _ _ (ha.put hd _) hw hv
  rw [if_neg hpg] at hv
  by_cases OI:eB ops e o.guard=true
  ·rw [if_pos OI] at hv ⊢
   refine .inl ?_
   unfold Oper.wp
   have he:a.eval=ev e:=funext ha.eval
   rw [he]
   have hv:=AG hv hw
   generalize (execOp (ev e) o).run P w=res at hv ⊢
   unfold Oper.upon
   cases res with
   | halt hh w'=>
    cases hh<;>simp only [upon] at hv ⊢
    obtain ⟨h',gn,hv⟩:=hv
    exact ⟨e,ds,h',ha,gn,hv⟩
   | ok x w'=>
    cases x<;>simp only [upon] at hv ⊢
    case value v=>
     obtain ⟨h',gn,hv⟩:=hv
     exact ih _ _ _ _ _ (ha.put hd v) gn hv
    case skip=>
     obtain ⟨h',gn,hv⟩:=hv
     exact ih _ _ _ _ _ (ha.put hd _) gn hv
    case defer d=>
     obtain ⟨h',gn,hv⟩:=hv
     refine ih _ _ _ _ _ ?_ gn hv
     have h2:Fr n {a with defers:=d::a.defers} e (d::ds):=⟨ha.1,by simp [ha.2.1],ha.2.2⟩
     exact h2.put hd undef
    case enter f args=>
     refine Calls.mono hv ?_
     intro en w'' hq
     cases en with
     | returned v=>
      obtain ⟨h',gn,hv⟩:=hq
      exact ih _ _ _ _ _ (ha.put hd v) gn hv
     | panicked ch=>
      obtain ⟨h',gn,hv⟩:=hq
      exact ⟨e,ds,h',ha,gn,hv⟩
     | outgrown=>exact hq.elim
  ·rw [if_neg OI] at hv ⊢
   exact ih _ _ _ _ _ (ha.put hd _) hw hv
def jR {P:Program}{n:Nat}{c₀:Ctx}{dr:List (Nat×Sched)}(hm:P.follows .mixedOrders=true):∀ (c:Code) (K:KontL) (e:dx) (ds:List Deferred) (h:Sh) (w:World) (a:Act),eu P n dr c=true ->
 Fr n a e ds ->Is c₀ h w ->VW P dr c K e ds h ->c.wp P (K.toQ c₀ n) a w:=by
 intro c
 induction c with
 | skip=>exact fun K e ds h w a _ ha hw hv=>wp_skip ⟨e,ds,h,ha,hw,hv⟩
 | ret=>exact fun K e ds h w a _ ha hw hv=>wp_ret ⟨e,ds,h,ha,hw,hv⟩
 | exit id=>exact fun K e ds h w a _ ha hw hv=>wp_exit ⟨e,ds,h,ha,hw,hv⟩
 | region id ops d=>
  intro K e ds h w a hc ha hw hv
  simp only [eu,Bool.and_eq_true] at hc
  obtain ⟨ce,B6⟩:=hc
  have hv:uN P dr id ops.toList d K e ds h:=hv
  unfold uN at hv
  cases d with
  | false=>
   simp only [Bool.false_eq_true,if_false] at hv
   refine wp_region_list ?_
   have:=JU ce ops.toList ce e ds h w a ha hw hv
   simpa using this
  | true=>
   simp only [if_true] at hv
   simp only [Bool.not_true,Bool.false_or,okD,Bool.and_eq_true] at B6
   obtain ⟨hp,h0,iD,hv⟩:=hv
   have:=Vl (P:=P) (c:=c₀) ce (by simpa using B6.1) hp (JF dr id) h0 (fun g=>g=h0) ops.toList.length none (Array.replicate ops.toList.length false) false e ds h _ a rfl (fun g hg=>by rw [hg];exact fW.refl _) ⟨fun k ok hk hl=>(by simp [Array.getElem?_replicate] at hl;split at hl<;>cases hl),fun _ h=>(by cases h)⟩ B6.2 ha hw.drawn (fun _=>iD) hv
   simp only [Array.toArray_toList,Array.length_toList] at this
   exact wp_region_any hm (AN _ _ _ _ this)
 | seq x y ihx ihy=>
  intro K e ds h w a hc ha hw hv
  simp only [eu,Bool.and_eq_true] at hc
  refine wp_seq (wp_mono (ihx _ e ds h w a hc.1 ha hw hv) ?_)
  intro ex a' w' hq
  cases ex with
  | normal=>
   obtain ⟨e',ds',h',hf,gn,hq⟩:=hq
   exact ihy K e' ds' h' w' a' hc.2 hf gn hq
  | _=>exact hq
 | cond c x y ihx ihy=>
  intro K e ds h w a hc ha hw hv
  simp only [eu,Bool.and_eq_true] at hc
  obtain ⟨t,Zt,hv⟩:=wj hv
  refine wp_cond_split (t:=t) (by rw [ha.eval];exact Zt) ?_ ?_
  ·rintro rfl;exact ihx K e ds h w a hc.1 ha hw (by simpa using hv)
  ·rintro rfl;exact ihy K e ds h w a hc.2 ha hw (by simpa using hv)
 | block id b ih=>
  intro K e ds h w a hc ha hw hv
  refine wp_block (wp_mono (ih _ e ds h w a hc ha hw hv) ?_)
  intro ex a' w' hq
  cases ex with
  | exit i=>
   obtain ⟨e',ds',h',hf,gn,hq⟩:=hq
   simp only [Exit.inBlock]
   by_cases hi:i=id
   ·simp only [hi,if_true] at hq ⊢;exact ⟨e',ds',h',hf,gn,hq⟩
   ·simp only [hi,if_false] at hq ⊢;exact ⟨e',ds',h',hf,gn,hq⟩
  | _=>exact hq
 | loop b ih=>
  intro K e ds h w a hc ha hw hv
  obtain ⟨I,cK,hr⟩:=hv
  obtain ⟨h,hw,m,hI⟩:=cK _ _ hw
  intro fb k cs
  have key:∀ m e ds h w a,Fr n a e ds ->Is c₀ h w ->I m e ds h ->∃ ex a' w',K.toQ c₀ n ex a' w'/\Arrives P (lone (fb.at a (.code b:: .inLoop b::k)) cs w) fb k cs ex a' w':=by
   intro m
   induction m using Nat.strongRecOn with
   | _ m ihm=>
    intro e ds h w a ha hw hI
    obtain ⟨ex,a₁,w₁,hq,Oo⟩:=ih _ e ds h w a hc ha hw (hr m e ds h hI) fb (.inLoop b::k) cs
    cases ex with
    | normal=>
     obtain ⟨e',ds',h',hf,gn,hq⟩:=hq
     obtain ⟨h',gn,m',DR,hI'⟩:=hq _ _ gn
     obtain ⟨e₂,a₂,w₂,hq₂,aff⟩:=ihm m' DR e' ds' h' w₁ a₁ hf gn hI'
     exact ⟨e₂,a₂,w₂,hq₂,.of_steps (Steps.trans Oo (.one step_inLoop)) aff⟩
    | exit id=>exact ⟨.exit id,a₁,w₁,hq,.pass (x:=.inLoop b) rfl (fun _ _=> .inl (by simp)) Oo⟩
    | goto l=>exact hq.elim
    | ret=>exact ⟨.ret,a₁,w₁,hq,.pass (x:=.inLoop b) rfl (fun _ _=> .inl (by simp)) Oo⟩
    | panic ch=>exact ⟨.panic ch,a₁,w₁,hq,.pass (x:=.inLoop b) rfl (fun _ _=> .inl (by simp)) Oo⟩
    | outgrown=>exact hq.elim
  obtain ⟨ex,a',w',hq,Oo⟩:=key m e ds h w a ha hw hI
  exact ⟨ex,a',w',hq,.of_steps (.one step_loop) Oo⟩
 | rangeFunc=>exact fun K e ds h w a hc=>by simp [eu] at hc
 | scope=>exact fun K e ds h w a hc=>by simp [eu] at hc
 | label=>exact fun K e ds h w a hc=>by simp [eu] at hc
 | goto=>exact fun K e ds h w a hc=>by simp [eu] at hc
 | refuse=>exact fun K e ds h w a hc=>by simp [eu] at hc
end Vc

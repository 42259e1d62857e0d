import Derived.Calls
import Derived.Defers
import Derived.Tactics
import Derived.WalkKit
import Derived.Laws.IdiomCopy
import Derived.Deep.AppendSrc
import Derived.Laws.AppendOwn
import Derived.Great.BuildSlice
import Derived.Laws.Small
import Derived.Laws.Cover3
import Derived.Laws.Pointers
import Derived.Laws.StructEq
import Derived.Laws.BytesArg
import Derived.MapKept
import Derived.Lib.ConvBytes
import Derived.Laws.RangeString
import Derived.Laws.MakeOwn
import Derived.OrdersHeld
set_option linter.all false
namespace Vc
open Go
theorem nn:(∀ {α:Type} (a:α) (l m:List α),a::l++m=a::(l++m))/\∀ {α:Type} (l:List α),[]++l=l:=⟨fun _ _ _=>rfl,fun _=>rfl⟩
theorem ln:(∀ {α:Type} (a:α) (l:List α),(a::l).length=l.length+1)/\∀ {α:Type},([]:List α).length=0:=⟨fun _ _=>rfl,rfl⟩
theorem lap {α:Type}{l m:List α}:(l++m).length=l.length+m.length:=List.length_append
theorem mn:(∀ {α:Type} (a b:α) (l:List α),(a∈b::l)=(a=b\/a∈l))/\(∀ {α:Type} (a:α),(a∈([]:List α))=False)/\∀ p:Prop,(p\/False)=p:=by simp
theorem gq {α:Type}{l:List α}{i:Nat}(h:i<l.length):l[i]?=some l[i]:=List.getElem?_eq_getElem h
theorem dq {α:Type}{l:List α}{i:Nat}(h:i<l.length):l.drop i=l[i]::l.drop (i+1):=List.drop_eq_getElem_cons h
theorem wU {α:Type}{a b:α}{l:List α}(h:a∈l):a∈b::l:=List.mem_cons_of_mem _ h
theorem gm {α:Type}{l:List α}{n:Nat}(h:n<l.length):l[n]∈l:=List.getElem_mem h
theorem mY {α:Type}{a b:α}{l:List α}(h:a∈b::l):a=b\/a∈l:=List.mem_cons.1 h
theorem wZ {α:Type}{a:α}{l m:List α}(h:a∈l++m):a∈l\/a∈m:=List.mem_append.1 h
theorem sJ {α:Type}{a:α}{l m:List α}(h:a∈l\/a∈m):a∈l++m:=List.mem_append.2 h
abbrev dp:=Nat ->Value
def upd (e:dp)(d:Nat)(v:Value):dp:=fun t=>if t=d then v else e t
def cI (e:dp)(d:Option Nat)(v:Value):dp:=match d with | some d=>upd e d v | none=>e
def ev (e:dp):Operand ->Value
 | .tmp t=>e t
 | .const v=>v
 | .global g=> .pointer (some ⟨g,0,none⟩)
 | .func f=> .func (.func f) #[] #[]
def Fr (n:Nat)(a:Act)(e:dp)(ds:List Deferred):Prop:=
 a.tmps.size=n/\a.defers=ds/\∀ t,a.tmps.getD t undef=e t
theorem Fr.eval {n a e ds}(h:Fr n a e ds)(x:Operand):a.eval x=ev e x:=by
 cases x<;>simp [Act.eval,ev,h.2.2]
theorem Fr.put {n a e ds}(h:Fr n a e ds){d:Option Nat}(hd:∀ k,d=some k ->k<n)(v:Value):
 Fr n (a.put d v) (cI e d v) ds:=by
 cases d with
 | none=>exact h
 | some d=>
  have hd:=hd d rfl
  refine ⟨by simp [Act.put,h.1],h.2.1,fun t=> ?_⟩
  simp only [Act.put,cI,upd]
  by_cases ht:t=d
  ·subst ht;simp [Array.getD_eq_getD_getElem?,h.1,hd]
  ·have:=h.2.2 t
   rw [if_neg ht,<- this]
   simp [Array.getD_eq_getD_getElem?,Ne.symm ht]
structure Kont where
 nrm:dp ->List Deferred ->World ->Prop
 exi:Nat ->dp ->List Deferred ->World ->Prop
 ret:dp ->List Deferred ->World ->Prop
 pan:List PanicEntry ->dp ->List Deferred ->World ->Prop
def Kont.toQ (n:Nat)(K:Kont):Exit ->Act ->World ->Prop
 | .normal,a,w=>∃ e ds,Fr n a e ds/\K.nrm e ds w
 | .exit id,a,w=>∃ e ds,Fr n a e ds/\K.exi id e ds w
 | .ret,a,w=>∃ e ds,Fr n a e ds/\K.ret e ds w
 | .panic ch,a,w=>∃ e ds,Fr n a e ds/\K.pan ch e ds w
 | .goto _,_,_=>False
 | .outgrown,_,_=>True
theorem Fr.uniq {n a e ds e' ds'}(h:Fr n a e ds)(h':Fr n a e' ds'):e=e'/\ds=ds':=
 ⟨funext fun t=>(h.2.2 t).symm.trans (h'.2.2 t),h.2.1.symm.trans h'.2.1⟩
def AH (v:Value)(k:Addr ->Prop):Prop:=match v with | .pointer (some a)=>k a | _=>False
def Bu (v:Value)(k:Bool ->Prop):Prop:=match v with | .bool b=>k b | _=>False
def VH (v:Value)(k:IntKind ->Int ->Prop):Prop:=match v with | .int t n=>k t n | _=>False
def W6 (v:Value)(k:ByteArray ->Prop):Prop:=match v with | .string s=>k s | _=>False
def xSl (v:Value)(k:Option Addr ->Nat ->Nat ->Prop):Prop:=match v with | .slice a l c=>k a l c | _=>False
def aba (v:Value)(i:Nat)(k:Value ->Prop):Prop:=match v with | .tuple vs=>(match vs[i]? with | some x=>k x | none=>False) | _=>False
def dU {α:Type}(o:Option α)(k:α ->Prop):Prop:=match o with | some a=>k a | none=>False
def xFn (v:Value)(k:FuncId ->List Value ->List Value ->Prop):Prop:=match v with | .func (.func f) first cap=>k f first.toList cap.toList | _=>False
theorem OO (a k):AH (.pointer (some a)) k=k a:=rfl
attribute [simp] OO
theorem HS (b k):Bu (.bool b) k=k b:=rfl
attribute [simp] HS
theorem Qh (t n k):VH (.int t n) k=k t n:=rfl
attribute [simp] Qh
theorem GE (s k):W6 (.string s) k=k s:=rfl
attribute [simp] GE
theorem Mv (a l c k):xSl (.slice a l c) k=k a l c:=rfl
attribute [simp] Mv
theorem Cp {α:Type}(a:α)(k):dU (some a) k=k a:=rfl
attribute [simp] Cp
theorem QJ (f a c k):xFn (.func (.func f) a c) k=k f a.toList c.toList:=rfl
attribute [simp] QJ
def DO:TypeDesc ->Bool | .struct _ | .array _ _=>true | _=>false
def tk (P:Program)(t:TypeId):Option (Bool×Nat×Value):=
 match P.info? t,P.underlying t with
 | some i,some d=>match i.zero with | some z=>some (DO d,i.size,z) | none=>none
 | _,_=>none
def cC (P:Program)(t:TypeId)(i:Nat):Option Nat:=
 match P.underlying t with
 | some (.struct fs)=>match fs[i]? with
  | some f=>match P.info? f.type with | some inf=>if inf.size=0 then none else some f.offset | none=>none
  | none=>none
 | _=>none
def cS (P:Program)(t:TypeId):Option Nat:=
 match P.underlying t with | some (.slice e)=>(P.info? e).map (·.size) | _=>none
def cF (P:Program)(t:TypeId):Bool:=match P.underlying t with | some .string=>true | _=>false
def dH (P:Program)(t:TypeId):Bool:=match P.underlying t with | some (.slice _)=>true | _=>false
def rB (P:Program)(t:TypeId):Option IntKind:=match P.underlying t with | some (.int k)=>some k | _=>none
def dm (P:Program)(f:FuncId):Bool:=match P.funcs[f]? with | some fn=>fn.body.isSome && !(fn.name== "runtime.NumGoroutine") | none=>false
def oF (w:World)(a:Addr):Nat ->Nat ->Option (List Value)
 | _,0=>some []
 | i,n+1=>match w.cell? (a.add i) with
  | some v=>(oF w a (i+1) n).map (v:: ·)
  | none=>none
def adw (t:TypeId)(cs:Array Value)(w:World)(k:Value ->World ->Prop):Prop:=
 k (.pointer (some ⟨w.heap.size,0,none⟩)) (w.alloc (.cells cs t))
def S3 (a:Addr)(vs:List Value)(w:World)(k:World ->Prop):Prop:=
 a.spot=none/\(∀ v∈vs,v.oneCell'=true)/\(∀ j,j<vs.length ->(w.cell? ⟨a.block,a.off+j,none⟩).isSome=true/\w.frozen? ⟨a.block,a.off+j,none⟩=false)/\
  k (w.setCells a.block a.off vs)
def Zg (P:Program)(f:FuncId)(args:List Value)(w:World)(k:Value ->World ->Prop)(pan:List PanicEntry ->World ->Prop):Prop:=
 dm P f=true/\Calls P f args.toArray w fun
  | .returned v,w'=>k v w'
  | .panicked ch,w'=>pan ch w'
  | .outgrown,_=>False
def fW (op:BinOp)(k:IntKind)(x y:Int):Option Value:=
 match op with
 | .add=>some (.int k (k.wrap (x+y)))
 | .sub=>some (.int k (k.wrap (x - y)))
 | .mul=>some (.int k (k.wrap (x*y)))
 | .eql=>some (.bool (decide (x=y)))
 | .neq=>some (.bool (!decide (x=y)))
 | .lss=>some (.bool (x<y))
 | .leq=>some (.bool (x<=y))
 | .gtr=>some (.bool (x>y))
 | .geq=>some (.bool (x>=y))
 | _=>none
def upon (P:Program)(K:Kont)(e:dp)(ds:List Deferred)(next:Value ->List Deferred ->World ->Prop):Result Next ->Prop
 | .ok (.value v) w=>next v ds w
 | .ok .skip w=>next undef ds w
 | .ok (.defer d) w=>next undef (d::ds) w
 | .ok (.enter f args) w=>Calls P f args w fun
  | .returned v,w'=>next v ds w'
  | .panicked ch,w'=>K.pan ch e ds w'
  | .outgrown,_=>False
 | .halt (.panic v) w=>K.pan [{v,recovered:=false}] e ds w
 | _=>False
def YL (P:Program)(op:BinOp)(t:TypeId)(x y:Operand)(e:dp)(w:World)(k:Value ->World ->Prop):Prop:=
 ∃ v,(do eqGuard op t x y (ev e x) (ev e y);binOp op t (ev e x) (ev e y):Sem Value).run P w=.ok v w/\k v w
def Ef (op:BinOp)(x y:Value):Option Value:=
 match x,y with
 | .int i a,.int j b=>if i=j then fW op i a b else none
 | .string a,.string b=>match op with
  | .eql=>some (.bool (decide (a=b)))
  | .neq=>some (.bool (!decide (a=b)))
  | .lss=>some (.bool (Op.bytesLess a.toList b.toList))
  | _=>none
 | _,_=>none
def aeA (P:Program)(op:BinOp)(t:TypeId)(x y:Operand)(e:dp)(w:World)(k:Value ->World ->Prop):Prop:=
 match Ef op (ev e x) (ev e y) with
 | some v=>k v w
 | none=>YL P op t x y e w k
def vOp (P:Program)(K:Kont)(o:Oper)(e:dp)(ds:List Deferred)(w:World)(next:Value ->List Deferred ->World ->Prop):Prop:=
 match o.op with
 | .move x | .assign x=>next (ev e x) ds w
 | .pick c a b=>Bu (ev e c) fun t=>next (if t=true then ev e a else ev e b) ds w
 | .box t x=>adw t (ev e x).cells w fun v w'=>next v ds w'
 | .load t x=>dU (tk P t) fun (g,n,_)=>AH (ev e x) fun a=>
  if g=true then dU (oF w a 0 n) fun cs=>next (.agg cs.toArray) ds w else dU (w.cell? a) fun v=>next v ds w
 | .store t x y=>dU (tk P t) fun (_,n,_)=>AH (ev e x) fun a=>(ev e y).cells.toList.length=n/\S3 a (ev e y).cells.toList w fun w'=>next undef ds w'
 | .nilCheck x=>AH (ev e x) fun a=>next (.pointer (some a)) ds w
 | .fieldAddr t x i=>dU (cC P t i) fun k=>AH (ev e x) fun a=>next (.pointer (some (a.add k))) ds w
 | .indexAddr t x i=>dU (cS P t) fun sz=>xSl (ev e x) fun a len _=>VH (ev e i) fun _ n=>
  (0<=n/\n<len)/\dU a fun a=>next (.pointer (some (a.add (n.toNat*sz)))) ds w
 | .binOp op t x y _=>aeA P op t x y e w fun v w'=>next v ds w'
 | .unOp .not _ x=>Bu (ev e x) fun b=>next (.bool !b) ds w
 | .extract x i=>aba (ev e x) i fun v=>next v ds w
 | .build t parts=>dU (P.built t (parts.toList.map fun (i,x)=>(i,ev e x))) fun cells=>next (.agg cells) ds w
 | .call {callee:=.value f,args,..}=>xFn (ev e f) fun g first cap=>
  Zg P g (first++args.toList.map (ev e)++cap) w (fun v w'=>next v ds w') (fun ch w'=>K.pan ch e ds w')
 | .call {callee:=.builtin .len,args,argTypes}=>match args.toList,argTypes.toList with
  | [x],[t]=>if cF P t=true then W6 (ev e x) fun s=>next (.int .i64 s.size) ds w
   else dH P t=true/\xSl (ev e x) fun _ n _=>next (.int .i64 n) ds w
  | _,_=>False
 | _=>upon P K e ds next ((execOp (ev e) o).run P w)
def ew (ops:List Oper)(e:dp)(g:Option (Nat×Bool)):Bool:=
 match g with
 | none=>true
 | some (j,b)=>match (ops[j]?).bind (·.dst) with
  | some t=>match e t with | .bool c=>c==b | _=>false
  | none=>false
def wy (n:Nat)(l:List Oper):Bool:=l.all fun o=>match o.dst with | some d=>d<n | none=>true
theorem lY {P:Program}{t:TypeId}{g n z}(h:tk P t=some (g,n,z)):∃ i d,P.info? t=some i/\P.underlying t=some d/\i.zero=some z/\DO d=g/\i.size=n:=by
 unfold tk at h
 split at h
 ·rename_i i d hi hd
  split at h
  ·rename_i z' hz
   simp only [Option.some.injEq,Prod.mk.injEq] at h
   exact ⟨i,d,hi,hd,by rw [hz,h.2.2],h.1,h.2.1⟩
  ·cases h
 ·cases h
theorem cE {α:Type}{o:Option α}{k:α ->Prop}:dU o k ->∃ a,o=some a/\k a:=by
 cases o with
 | none=>exact fun h=>h.elim
 | some a=>exact fun h=>⟨a,rfl,h⟩
theorem pH {v:Value}{k:Addr ->Prop}:AH v k ->∃ a,v=.pointer (some a)/\k a:=by
 unfold AH;split
 ·exact fun h=>⟨_,rfl,h⟩
 ·exact fun h=>h.elim
theorem uZ {v:Value}{k:Bool ->Prop}:Bu v k ->∃ a,v=.bool a/\k a:=by
 unfold Bu;split
 ·exact fun h=>⟨_,rfl,h⟩
 ·exact fun h=>h.elim
theorem SI {v:Value}{k:IntKind ->Int ->Prop}:VH v k ->∃ t n,v=.int t n/\k t n:=by
 unfold VH;split
 ·exact fun h=>⟨_,_,rfl,h⟩
 ·exact fun h=>h.elim
theorem Px {v:Value}{k:ByteArray ->Prop}:W6 v k ->∃ a,v=.string a/\k a:=by
 unfold W6;split
 ·exact fun h=>⟨_,rfl,h⟩
 ·exact fun h=>h.elim
theorem K3 {v:Value}{k:Option Addr ->Nat ->Nat ->Prop}:xSl v k ->∃ a l c,v=.slice a l c/\k a l c:=by
 unfold xSl;split
 ·exact fun h=>⟨_,_,_,rfl,h⟩
 ·exact fun h=>h.elim
theorem Kj {v:Value}{k:FuncId ->List Value ->List Value ->Prop}:xFn v k ->∃ f a c,v=.func (.func f) a c/\k f a.toList c.toList:=by
 unfold xFn;split
 ·exact fun h=>⟨_,_,_,rfl,h⟩
 ·exact fun h=>h.elim
theorem Ss {v:Value}{i:Nat}{k:Value ->Prop}:aba v i k ->∃ vs x,v=.tuple vs/\vs[i]?=some x/\k x:=by
 unfold aba;split
 ·rename_i vs
  split
  ·rename_i x hx;exact fun h=>⟨_,x,rfl,hx,h⟩
  ·exact fun h=>h.elim
 ·exact fun h=>h.elim
theorem iS {w:World}{a:Addr}:∀ (n i:Nat) (cs:List Value),oF w a i n=some cs ->cs.length=n/\∀ j v,cs[j]?=some v ->w.cell? (a.add (i+j))=some v:=by
 intro n
 induction n with
 | zero=>intro i cs h;simp [oF] at h;subst h;simp
 | succ n ih=>
  intro i cs h
  unfold oF at h
  split at h
  ·rename_i v hv
   simp only [Option.map_eq_some_iff] at h
   obtain ⟨cs',h',rfl⟩:=h
   obtain ⟨hl,hc⟩:=ih _ _ h'
   refine ⟨by simp [hl],?_⟩
   intro j u hj
   cases j with
   | zero=>simp at hj;subst hj;exact hv
   | succ j=>
    have:=hc j u (by simpa using hj)
    rw [show i+(j+1)=i+1+j from by omega]
    exact this
  ·cases h
theorem jL {P:Program}{t:TypeId}{d:TypeDesc}(h:P.underlying t=some d)(w:World):(isAgg t).run P w=.ok (DO d) w:=by
 unfold isAgg
 simp only [Sem.run_bind,run_underlying h,Result.andThen_ok]
 cases d<;>rfl
theorem rO {P:Program}{op:BinOp}{k:IntKind}{a b:Int}{v:Value}(h:fW op k a b=some v)(t:TypeId)(w:World):
 (binOp op t (.int k a) (.int k b)).run P w=.ok v w:=by
 cases op<;>simp [fW] at h<;>subst h<;>simp [binOp,Op.intArith,Op.intCmp,bne]<;>rfl
theorem cQ {P:Program}{op:BinOp}{t:TypeId}{x y:Operand}{a b:Value}(h1:∀ c,a≠ .agg c)(h2:a≠ .nilIface)(w:World):(eqGuard op t x y a b).run P w=.ok () w:=by
 unfold eqGuard
 cases op<;>simp<;>(cases a<;>first | (exact absurd rfl h2) | (exact absurd rfl (h1 _)) | simp)
theorem sX (a b:ByteArray):(a.toList==b.toList)=decide (a=b):=by
 rw [Bool.eq_iff_iff,beq_iff_eq,decide_eq_true_iff,ByteArray.toList_eq,ByteArray.toList_eq]
 constructor
 ·intro h
  cases a;cases b
  simp only [ByteArray.mk.injEq]
  exact Array.toList_inj.1 h
 ·rintro rfl;rfl
theorem Cu {P:Program}{K:Kont}{o:Oper}{e:dp}{ds:List Deferred}{w:World}{next:Value ->List Deferred ->World ->Prop}
 (h:vOp P K o e ds w next):upon P K e ds next ((execOp (ev e) o).run P w):=by
 unfold vOp at h
 split at h
 ·rename_i x dZ;simp only [execOp,dZ];exact h
 ·rename_i x dZ;simp only [execOp,dZ];exact h
 ·rename_i c a b dZ
  obtain ⟨t,ht,h⟩:=uZ h
  simp only [execOp,dZ,ht]
  simpa [asBool,upon] using h
 ·rename_i t x dZ
  simp only [execOp,dZ,Instr.box,newVar,newRow]
  simpa [upon,adw] using h
 ·rename_i t x dZ
  obtain ⟨⟨g,n,z⟩,tX,h⟩:=cE h
  obtain ⟨i,d,hi,hd,hz,hg,hn⟩:=lY tX
  obtain ⟨a,ha,h⟩:=pH h
  simp only [execOp,dZ,Instr.loadAt,ha,Instr.sureAddr,loadVar]
  cases g with
  | true=>
   simp only [if_true] at h
   obtain ⟨cs,fS,h⟩:=cE h
   obtain ⟨hl,hc⟩:=iS _ _ _ fS
   have:=run_loadCells_list (P:=P) (w:=w) a cs (fun j v hj=>by simpa using hc j v hj)
   rw [hl] at this
   simp [jL hd,hg,Go.sizeOf,typeInfo,hi,hn,this,upon]
   exact h
  | false=>
   simp only [Bool.false_eq_true,if_false] at h
   obtain ⟨v,hv,h⟩:=cE h
   simp [jL hd,hg,hv,upon]
   exact h
 ·rename_i t x y dZ
  obtain ⟨⟨g,n,z⟩,tX,h⟩:=cE h
  obtain ⟨i,d,hi,hd,hz,hg,hn⟩:=lY tX
  obtain ⟨a,ha,Bl,DW,h1,xB,h⟩:=pH h
  obtain ⟨b,off,sp⟩:=a
  simp only at DW
  subst DW
  simp only [execOp,dZ,Instr.storeAt,ha,Instr.sureAddr,storeVar]
  have qL:=run_storeCells_cells (P:=P) b off (ev e y).cells.toList 0 w (fun j hj=>by simpa using (xB j hj).1) (fun j hj=>by simpa using (xB j hj).2) h1
  have pi:(ev e y).cells.size=n:=by simpa using Bl
  simp [Go.sizeOf,typeInfo,hi,hn,pi,qL,upon]
  exact h
 ·rename_i x dZ
  obtain ⟨a,ha,h⟩:=pH h
  simp only [execOp,dZ,ha]
  exact h
 ·rename_i t x i dZ
  obtain ⟨k,hk,h⟩:=cE h
  obtain ⟨a,ha,h⟩:=pH h
  unfold cC at hk
  split at hk
  ·rename_i fs Ti
   split at hk
   ·rename_i f hf
    split at hk
    ·rename_i inf wP
     split at hk
     ·cases hk
     ·rename_i dS
      simp only [Option.some.injEq] at hk
      subst hk
      simp only [execOp,dZ,ha,Instr.fieldAt]
      simp [run_underlying Ti,hf,Instr.sureAddr,fieldPlace,Go.sizeOf,typeInfo,wP,dS,upon]
      exact h
    ·cases hk
   ·cases hk
  ·cases hk
 ·rename_i t x i dZ
  obtain ⟨sz,hk,h⟩:=cE h
  obtain ⟨a,len,cap,ha,h⟩:=K3 h
  obtain ⟨k,n,hn,hb,h⟩:=SI h
  obtain ⟨a,rfl,h⟩:=cE h
  unfold cS at hk
  split at hk
  ·rename_i el Vk
   simp only [Option.map_eq_some_iff] at hk
   obtain ⟨inf,wP,rfl⟩:=hk
   simp only [execOp,dZ,ha,hn,Instr.indexAt]
   simp [asIntOf,run_underlying Vk,hb,Go.sizeOf,typeInfo,wP,upon]
   exact h
  ·cases hk
 ·rename_i op t x y _ dZ
  simp only [execOp,dZ]
  unfold aeA at h
  have gen:YL P op t x y e w (fun v w'=>next v ds w') ->upon P K e ds next (((do
   let a<- (do eqGuard op t x y (ev e x) (ev e y);binOp op t (ev e x) (ev e y):Sem Value)
   pure (.value a)):Sem Next).run P w):=by
   rintro ⟨v,hv,hk⟩
   rw [Sem.run_bind,hv]
   exact hk
  split at h
  ·rename_i v hv
   refine gen ⟨v,?_,h⟩
   unfold Ef at hv
   split at hv
   ·rename_i i a j b hx hy
    split at hv
    ·rename_i wO
     subst wO
     rw [hx,hy]
     simp [cQ,rO hv]
    ·cases hv
   ·rename_i a b hx hy
    rw [hx,hy]
    split at hv<;>first | (cases hv;done) | (injection hv with hv;subst hv;simp [cQ,binOp,Op.stringOp,sX])
   ·cases hv
  ·exact gen h
 ·rename_i t x dZ
  obtain ⟨b,hb,h⟩:=uZ h
  simp only [execOp,dZ,hb,Op.unary]
  exact h
 ·rename_i x i dZ
  obtain ⟨vs,v,hv,hi,h⟩:=Ss h
  simp only [execOp,dZ,hv,Instr.extract,hi]
  exact h
 ·rename_i t parts dZ
  obtain ⟨cells,hc,h⟩:=cE h
  simp only [execOp,dZ]
  have:=run_build (P:=P) w t (parts.map fun (i,x)=>(i,ev e x)) cells (by simpa using hc)
  rw [Sem.run_bind,this]
  exact h
 ·rename_i f args _ dZ
  obtain ⟨g,first,cap,hf,hb,h⟩:=Kj h
  simp only [execOp,dZ,resolve,Deferred.ofValue,hf]
  simp only [dm] at hb
  split at hb
  ·rename_i fn RM
   simp only [Bool.and_eq_true,Bool.not_eq_true',Option.isSome_iff_exists] at hb
   obtain ⟨⟨c,UT⟩,tK⟩:=hb
   have e1:(first.toList++args.toList.map (ev e)++cap.toList).toArray=first++args.map (ev e)++cap:=by
    apply Array.toList_inj.1
    simp
   rw [e1] at h
   have aib:¬ fn.name= "runtime.NumGoroutine":=by simpa using tK
   simp only [invoke,callFunc,Sem.run_bind,Sem.run_pure,Result.andThen_ok,run_program,RM]
   rw [if_neg (by simp [tK])]
   simp only [UT,Option.isNone_some,Bool.false_eq_true,if_false]
   exact h
  ·cases hb
 ·rename_i args argTypes dZ
  split at h
  ·rename_i x t hx ht
   have nS:args= #[x]:=by apply Array.toList_inj.1;simpa using hx
   have Jm:argTypes= #[t]:=by apply Array.toList_inj.1;simpa using ht
   subst nS Jm
   simp only [execOp,dZ,resolve,invoke,builtin]
   split at h
   ·rename_i hs
    unfold cF at hs
    split at hs
    ·rename_i hu
     obtain ⟨s,hs,h⟩:=Px h
     simp [Builtin.len_,run_underlying hu,hs,goInt,upon]
     exact h
    ·cases hs
   ·obtain ⟨hs,h⟩:=h
    unfold dH at hs
    split at hs
    ·rename_i el hu
     obtain ⟨a,l,c,hs,h⟩:=K3 h
     simp [Builtin.len_,run_underlying hu,hs,goInt,upon]
     exact h
    ·cases hs
  ·exact h.elim
 ·exact h
theorem pA {n a e ds}(h:Fr n a e ds)(ops:List Oper)(sZ:wy n ops=true)(o:Oper):
 Region.wanted o (yielded ops.toArray a.tmps)=ew ops e o.guard:=by
 unfold Region.wanted ew
 cases hg:o.guard with
 | none=>rfl
 | some p=>
  obtain ⟨j,b⟩:=p
  simp only [yielded,List.getElem?_toArray]
  cases hj:(ops[j]?).bind (·.dst) with
  | none=>simp
  | some t=>
   have aL:t<a.tmps.size:=by
    cases NI:ops[j]? with
    | none=>simp [NI] at hj
    | some oj=>
     simp [NI] at hj
     have:=List.all_eq_true.1 sZ oj (List.mem_of_getElem? NI)
     simp [hj] at this
     rw [h.1];exact this
   have hv:=h.2.2 t
   simp only [Option.bind_some]
   rw [Array.getD_eq_getD_getElem?] at hv
   rw [Array.getElem?_eq_getElem aL] at hv ⊢
   simp at hv
   rw [hv]
   cases e t<;>simp
def mz (args:List Value):dp:=fun t=>args.getD t undef
theorem fr0 (args:Array Value)(n:Nat)(h:args.size<=n):
 Fr n {tmps:=args++Array.replicate (n - args.size) undef,defers:=[]} (mz args.toList) []:=by
 refine ⟨by simp;omega,rfl,fun t=> ?_⟩
 simp only [mz,Array.getD_eq_getD_getElem?,List.getD_eq_getElem?_getD]
 by_cases ht:t<args.size
 ·rw [Array.getElem?_append_left ht];simp
 ·rw [Array.getElem?_append_right (by omega)]
  have h2:args.toList[t]?=none:=by simp;omega
  rw [h2]
  by_cases h3:t - args.size<n - args.size
  ·simp [h3]
  ·simp [h3]
abbrev aS:=Nat ->Option (List Value)
abbrev Tm:=Nat ->Option TypeId
def aF (T T':Tm):Prop:=∀ b t,T b=some t ->T' b=some t
def Tm.add (T:Tm)(b:Nat)(t:TypeId):Tm:=fun k=>if k=b then some t else T k
structure Sh where
 N:Tm
 M:aS
 L:List (Nat×List Value)
 R:List (Value×TypeId×Nat×List Value)
def aN (M:aS)(a:Addr):Option Value:=if a.spot.isSome then none else (M a.block).bind (·[a.off]?)
def eD:List (Nat×List Value) ->Addr ->Option (Option Value)
 | [],_=>none
 | (b,cs)::l,a=>if a.block=b then some (if a.spot.isSome then none else cs[a.off]?) else eD l a
def Sh.cell (h:Sh)(a:Addr):Option Value:=match aN h.M a with | some v=>some v | none=>(eD h.L a).getD none
def qB:Option Value ->Option (List Value) ->Option (List Value) | some v,some l=>some (v::l) | _,_=>none
def Sh.cells (h:Sh)(a:Addr):Nat ->Nat ->Option (List Value)
 | _,0=>some []
 | i,n+1=>qB (h.cell (a.add i)) (h.cells a (i+1) n)
def Vp (w:World)(b:Nat)(cs:List Value):Prop:=∃ t,w.heap[b]?=some (.cells cs.toArray t (0,0))
def Pfx (c c':List Value):Prop:=c'=[]\/∃ v r,c=v::r/\∀ k n,v≠ .int k n
def qu (M:aS)(w:World):Prop:=∀ b c,M b=some c ->∃ t f,∃ c',w.heap[b]?=some (.cells (c++c').toArray t f)/\Pfx c c'
def zq (w:World)(v:Value)(e:TypeId)(sz:Nat)(xs:List Value)(o:Option Nat):Prop:=
 (v=.slice none 0 0/\xs=[]/\o=none)\/
 (∃ g n cap junk,v=.slice (some ⟨g,0,none⟩) n cap/\w.heap[g]?=some (.cells (xs++junk).toArray e (0,0))/\xs.length=n*sz/\(xs++junk).length=cap*sz/\n<=cap/\o=some g)\/
 (sz=0/\∃ g es clock,v=.map (some g)/\w.heap[g]?=some (.map es clock)/\es.toList.flatMap (fun x=>[x.key,x.val])=xs/\o=some g)\/
 (sz=0/\∃ g s pos,v=.pointer (some ⟨g,0,none⟩)/\w.heap[g]?=some (.stringIter s pos)/\xs=[.string s,.int .i64 (pos:Nat)]/\o=some g)
structure Ctx where
 w0:World
 M0:aS
 U:List Nat
structure Hp (c:Ctx) (h:Sh) (w:World) (bs:List (Option Nat)):Prop where
 typ:∀ b t,h.N b=some t ->b<w.heap.size/\(b∈h.L.map (·.1) ->∃ cs f,w.heap[b]?=some (.cells cs t f))
 holds:qu h.M w
 blk:∀ b cs,(b,cs)∈h.L ->Vp w b cs
 rows:h.R.length=bs.length/\∀ (i:Nat) (v:Value) (e:TypeId) (sz:Nat) (xs:List Value) (o:Option Nat),h.R[i]?=some (v,e,sz,xs) ->bs[i]?=some o ->zq w v e sz xs o
 nodup:(h.L.map (·.1)++bs.filterMap id).Nodup
 apart:∀ b,b∈h.L.map (·.1)++bs.filterMap id ->h.M b=none/\(b∈c.U\/c.w0.heap.size<=b)
 os:w.os=c.w0.os
 tape:w.tape=c.w0.tape
 output:w.output=c.w0.output
 size:c.w0.heap.size<=w.heap.size
 old:∀ b,b<c.w0.heap.size ->b∉c.U ->w.heap[b]?=c.w0.heap[b]?
 mem:∀ b,b<c.w0.heap.size ->b∉c.U ->h.M b=c.M0 b
 le:∀ b x,c.M0 b=some x ->h.M b=some x
def Is (c:Ctx)(h:Sh)(w:World):Prop:=∃ bs,Hp c h w bs
theorem qu.cell {M w a v}(h:qu M w)(hc:aN M a=some v):w.cell? a=some v:=by
 unfold aN at hc
 split at hc
 ·cases hc
 ·rename_i hs
  obtain ⟨cs,hb,hv⟩:=Option.bind_eq_some_iff.1 hc
  obtain ⟨t,f,c',hw,_⟩:=h _ _ hb
  unfold World.cell?
  rw [hw]
  simp only [hs]
  have aL:=(List.getElem?_eq_some_iff.1 hv).1
  have:(cs++c')[a.off]?=some v:=by rw [List.getElem?_append_left aL];exact hv
  simpa using this
theorem Nf {L:List (Nat×List Value)}{a:Addr}{o}(h:eD L a=some o):∃ cs,(a.block,cs)∈L/\o=(if a.spot.isSome then none else cs[a.off]?):=by
 induction L with
 | nil=>cases h
 | cons p l ih=>
  obtain ⟨b,cs⟩:=p
  unfold eD at h
  split at h
  ·rename_i hb
   injection h with h
   exact ⟨cs,by simp [hb],h.symm⟩
  ·obtain ⟨cs',hm,ho⟩:=ih h
   exact ⟨cs',wU hm,ho⟩
theorem Hp.cell {c h w bs a v}(hi:Hp c h w bs)(hc:h.cell a=some v):w.cell? a=some v:=by
 unfold Sh.cell at hc
 split at hc
 ·rename_i u hu
  injection hc with hc;subst hc
  exact hi.holds.cell hu
 ·cases hl:eD h.L a with
  | none=>rw [hl] at hc;cases hc
  | some o=>
   rw [hl] at hc
   simp only [Option.getD_some] at hc
   subst hc
   obtain ⟨cs,hm,hv⟩:=Nf hl
   split at hv
   ·cases hv
   ·rename_i hs
    obtain ⟨t,hw⟩:=hi.blk _ _ hm
    unfold World.cell?
    rw [hw]
    simp only [hs]
    simpa using hv.symm
theorem Hp.cells {c h w bs a}(hi:Hp c h w bs):∀ n i cs,h.cells a i n=some cs ->oF w a i n=some cs:=by
 intro n
 induction n with
 | zero=>intro i cs hc;exact hc
 | succ n ih=>
  intro i cs hc
  unfold Sh.cells qB at hc
  unfold oF
  split at hc
  ·rename_i v l hv hl
   injection hc with hc;subst hc
   rw [hi.cell hv,ih _ _ hl];rfl
  ·cases hc
theorem cj {w:World}{o:Obj}{k:Nat}(h:k<w.heap.size):(w.alloc o).heap[k]?=w.heap[k]?:=by
 show (w.heap.push o)[k]?=_
 rw [Array.getElem?_push,if_neg (by omega)]
theorem fA {w:World}{o:Obj}:(w.alloc o).heap[w.heap.size]?=some o:=by
 show (w.heap.push o)[w.heap.size]?=_
 simp
theorem Vp.lt {w b cs}(h:Vp w b cs):b<w.heap.size:=by
 obtain ⟨t,ht⟩:=h
 exact (Array.getElem?_eq_some_iff.1 ht).1
theorem Vp.alloc {w b cs o}(h:Vp w b cs):Vp (w.alloc o) b cs:=by
 have:=h.lt
 obtain ⟨t,ht⟩:=h
 exact ⟨t,by rw [cj this];exact ht⟩
theorem qu.lt {M w b c}(h:qu M w)(hb:M b=some c):b<w.heap.size:=by
 obtain ⟨t,f,_,ht,_⟩:=h _ _ hb
 exact (Array.getElem?_eq_some_iff.1 ht).1
theorem fD {w:World}{g:Nat}{o:Obj}(h:w.heap[g]?=some o):g<w.heap.size:=(Array.getElem?_eq_some_iff.1 h).1
theorem zq.alloc {w v e sz xs o ob}(h:zq w v e sz xs o):zq (w.alloc ob) v e sz xs o:=by
 rcases h with h | ⟨g,n,cap,junk,h1,h2,h3⟩ | ⟨h0,g,es,clock,h1,h2,h3⟩ | ⟨h0,g,s,pos,h1,h2,h3⟩
 ·exact .inl h
 ·exact .inr (.inl ⟨g,n,cap,junk,h1,by rw [cj (fD h2)];exact h2,h3⟩)
 ·exact .inr (.inr (.inl ⟨h0,g,es,clock,h1,by rw [cj (fD h2)];exact h2,h3⟩))
 ·exact .inr (.inr (.inr ⟨h0,g,s,pos,h1,by rw [cj (fD h2)];exact h2,h3⟩))
theorem zq.lt {w v e sz xs g}(h:zq w v e sz xs (some g)):g<w.heap.size:=by
 rcases h with ⟨_,_,h⟩ | ⟨g',n,cap,junk,_,h2,_,_,_,h3⟩ | ⟨_,g',es,clock,_,h2,_,h3⟩ | ⟨_,g',s,pos,_,h2,_,h3⟩
 ·cases h
 ·injection h3 with h3;subst h3;exact fD h2
 ·injection h3 with h3;subst h3;exact fD h2
 ·injection h3 with h3;subst h3;exact fD h2
theorem Hp.own_lt {c h w bs b}(hi:Hp c h w bs)(hb:b∈h.L.map (·.1)++bs.filterMap id):b<w.heap.size:=by
 rcases wZ hb with hb | hb
 ·obtain ⟨⟨b',cs⟩,hm,rfl⟩:=List.mem_map.1 hb
  exact (hi.blk _ _ hm).lt
 ·obtain ⟨o,ho,hs⟩:=List.mem_filterMap.1 hb
  simp only [id] at hs
  subst hs
  obtain ⟨i,DC⟩:=List.getElem?_of_mem ho
  have aL:i<h.R.length:=by rw [hi.rows.1];exact (List.getElem?_eq_some_iff.1 DC).1
  obtain ⟨⟨v,e,sz,xs⟩,hr⟩:∃ p,h.R[i]?=some p:=⟨_,gq aL⟩
  exact (hi.rows.2 i v e sz xs _ hr DC).lt
theorem Hp.alloc {c h w bs t}(hi:Hp c h w bs)(cs:List Value):
 Hp c {h with N:=h.N.add w.heap.size t,L:=(w.heap.size,cs)::h.L} (w.alloc (.cells cs.toArray t)) bs where
 typ:=fun b u hu=>by
  have Wi:Tm.add h.N w.heap.size t b=some u:=hu
  clear hu
  unfold Tm.add at Wi
  have hu:=Wi
  clear Wi
  simp only [List.map_cons,List.mem_cons]
  split at hu
  ·rename_i Z1
   subst Z1
   injection hu with hu;subst hu
   exact ⟨by simp,fun _=>⟨_,_,fA⟩⟩
  ·rename_i cu
   obtain ⟨aL,hc⟩:=hi.typ b u hu
   refine ⟨by simp;omega,fun hb=> ?_⟩
   rcases hb with hb | hb
   ·exact (cu hb).elim
   ·obtain ⟨cs',f,hc⟩:=hc hb
    exact ⟨cs',f,by rw [cj (fD hc)];exact hc⟩
 holds:=fun b x hb=>by
  have:=hi.holds.lt hb
  obtain ⟨t,f,ht⟩:=hi.holds _ _ hb
  exact ⟨t,f,by rw [cj this];exact ht⟩
 blk:=fun b x hb=>by
  rcases mY hb with hb | hb
  ·injection hb with h1 h2;subst h1 h2;exact ⟨t,fA⟩
  ·exact (hi.blk _ _ hb).alloc
 rows:=⟨hi.rows.1,fun i v e sz xs o h1 h2=>(hi.rows.2 i v e sz xs o h1 h2).alloc⟩
 nodup:=by
  simp only [List.map_cons,List.cons_append,List.nodup_cons]
  exact ⟨fun hm=>by have:=hi.own_lt hm;omega,hi.nodup⟩
 apart:=fun b hb=>by
  simp only [List.map_cons,List.cons_append,List.mem_cons] at hb
  rcases hb with hb | hb
  ·subst hb
   refine ⟨?_,.inr hi.size⟩
   cases hM:h.M w.heap.size with
   | none=>rfl
   | some x=>have:=hi.holds.lt hM;omega
  ·exact hi.apart b hb
 os:=hi.os
 tape:=hi.tape
 output:=hi.output
 size:=Nat.le_trans hi.size (by simp)
 old:=fun b hb hu=>by rw [cj (Nat.lt_of_lt_of_le hb hi.size)];exact hi.old b hb hu
 mem:=hi.mem
 le:=hi.le
def sI:List (Nat×List Value) ->Nat ->Nat ->Value ->List (Nat×List Value)
 | [],_,_,_=>[]
 | (b,cs)::l,k,i,v=>if k=b then (b,cs.set i v)::l else (b,cs)::sI l k i v
theorem qY (L:List (Nat×List Value))(k i v):(sI L k i v).map (·.1)=L.map (·.1):=by
 induction L with
 | nil=>rfl
 | cons p l ih=>
  obtain ⟨b,cs⟩:=p
  unfold sI
  split
  ·rfl
  ·simp [ih]
theorem TV {L:List (Nat×List Value)}{k i v b cs}(h:(b,cs)∈sI L k i v)(hn:(L.map (·.1)).Nodup):
 (b≠k/\(b,cs)∈L)\/(b=k/\∃ cs0,(b,cs0)∈L/\cs=cs0.set i v):=by
 induction L with
 | nil=>cases h
 | cons p l ih=>
  obtain ⟨b',cs'⟩:=p
  simp only [List.map_cons,List.nodup_cons] at hn
  unfold sI at h
  split at h
  ·rename_i hk
   subst hk
   rcases mY h with h' | h'
   ·injection h' with h1 h2
    subst h1 h2
    exact .inr ⟨rfl,cs',by simp,rfl⟩
   ·refine .inl ⟨?_,by simp [h']⟩
    rintro rfl
    exact hn.1 (List.mem_map.2 ⟨(b,cs),h',rfl⟩)
  ·rename_i hk
   rcases mY h with h | h
   ·injection h with h1 h2
    subst h1 h2
    exact .inl ⟨fun h=>hk h.symm,by simp⟩
   ·rcases ih h hn.2 with ⟨h1,h2⟩ | ⟨h1,cs0,h2,h3⟩
    ·exact .inl ⟨h1,by simp [h2]⟩
    ·exact .inr ⟨h1,cs0,by simp [h2],h3⟩
theorem Hl {w:World}{b i:Nat}{cs:List Value}{v:Value}(h:Vp w b cs):Vp (w.setCell ⟨b,i,none⟩ v) b (cs.set i v):=by
 obtain ⟨t,ht⟩:=h
 refine ⟨t,?_⟩
 simp only [World.setCell,Array.getElem?_modify,ht]
 simp
theorem fU {w:World}{b k i:Nat}{v:Value}(h:b≠k):(w.setCell ⟨k,i,none⟩ v).heap[b]?=w.heap[b]?:=by
 simp only [World.setCell,Array.getElem?_modify]
 rw [if_neg (Ne.symm h)]
theorem zq.keep {w w' v e sz xs o}(h:zq w v e sz xs o)(hk:∀ g,o=some g ->w'.heap[g]?=w.heap[g]?):zq w' v e sz xs o:=by
 rcases h with h | ⟨g,n,cap,junk,h1,ht,h3,h4,h5,h6⟩ | ⟨h0,g,es,clock,h1,ht,h3,h6⟩ | ⟨h0,g,s,pos,h1,ht,h3,h6⟩
 ·exact .inl h
 ·exact .inr (.inl ⟨g,n,cap,junk,h1,by rw [hk g h6];exact ht,h3,h4,h5,h6⟩)
 ·exact .inr (.inr (.inl ⟨h0,g,es,clock,h1,by rw [hk g h6];exact ht,h3,h6⟩))
 ·exact .inr (.inr (.inr ⟨h0,g,s,pos,h1,by rw [hk g h6];exact ht,h3,h6⟩))
theorem zq.other {w v e sz xs o k i u}(h:zq w v e sz xs o)(hk:o≠some k):zq (w.setCell ⟨k,i,none⟩ u) v e sz xs o:=by
 rcases h with h | ⟨g,n,cap,junk,h1,ht,h3,h4,h5,h6⟩ | ⟨h0,g,es,clock,h1,ht,h3,h6⟩ | ⟨h0,g,s,pos,h1,ht,h3,h6⟩
 ·exact .inl h
 ·refine .inr (.inl ⟨g,n,cap,junk,h1,?_,h3,h4,h5,h6⟩)
  rw [fU (by rintro rfl;exact hk h6)];exact ht
 ·refine .inr (.inr (.inl ⟨h0,g,es,clock,h1,?_,h3,h6⟩))
  rw [fU (by rintro rfl;exact hk h6)];exact ht
 ·refine .inr (.inr (.inr ⟨h0,g,s,pos,h1,?_,h3,h6⟩))
  rw [fU (by rintro rfl;exact hk h6)];exact ht
theorem Hp.allocMap {c h w bs t}(hi:Hp c h w bs):
 Hp c {h with R:=(.map (some w.heap.size),t,0,[])::h.R} (w.alloc (.map #[] 0)) (some w.heap.size::bs) where
 typ:=fun b u hu=>by
  obtain ⟨aL,hc⟩:=hi.typ b u hu
  refine ⟨by simp;omega,fun hb=> ?_⟩
  obtain ⟨cs',f,hc⟩:=hc hb
  exact ⟨cs',f,by rw [cj (fD hc)];exact hc⟩
 holds:=fun b x hb=>by
  have:=hi.holds.lt hb
  obtain ⟨t,f,ht⟩:=hi.holds _ _ hb
  exact ⟨t,f,by rw [cj this];exact ht⟩
 blk:=fun b x hb=>(hi.blk _ _ hb).alloc
 rows:=⟨by simp [hi.rows.1],fun i v e sz xs o h1 h2=>by
  cases i with
  | zero=>
   simp at h1 h2
   obtain ⟨rfl,rfl,rfl,rfl⟩:=h1
   subst h2
   exact .inr (.inr (.inl ⟨rfl,_,#[],0,rfl,fA,rfl,rfl⟩))
  | succ i=>exact (hi.rows.2 i v e sz xs o (by simpa using h1) (by simpa using h2)).alloc⟩
 nodup:=by
  have hp:(h.L.map (·.1)++w.heap.size::bs.filterMap id).Perm (w.heap.size::(h.L.map (·.1)++bs.filterMap id)):=List.perm_middle
  rw [List.filterMap_cons]
  simp only [id]
  exact hp.nodup_iff.2 (List.nodup_cons.2 ⟨fun hm=>by have:=hi.own_lt hm;omega,hi.nodup⟩)
 apart:=fun b hb=>by
  rw [List.filterMap_cons] at hb
  simp only [id,List.mem_append,List.mem_cons] at hb
  rcases hb with hb | hb | hb
  ·exact hi.apart b (sJ (.inl hb))
  ·subst hb
   refine ⟨?_,.inr hi.size⟩
   cases hm:h.M w.heap.size with
   | none=>rfl
   | some x=>have:=hi.holds.lt hm;omega
  ·exact hi.apart b (sJ (.inr hb))
 os:=hi.os
 tape:=hi.tape
 output:=hi.output
 size:=by simp;have:=hi.size;omega
 old:=fun b hb hu=>by rw [cj (by have:=hi.size;omega)];exact hi.old b hb hu
 mem:=hi.mem
 le:=hi.le
theorem Hp.allocIter {c h w bs t}(hi:Hp c h w bs)(s:ByteArray):
 Hp c {h with R:=(.pointer (some ⟨w.heap.size,0,none⟩),t,0,[.string s,.int .i64 ((0:Nat):Int)])::h.R} (w.alloc (.stringIter s 0)) (some w.heap.size::bs) where
 typ:=fun b u hu=>by
  obtain ⟨aL,hc⟩:=hi.typ b u hu
  refine ⟨by simp;omega,fun hb=> ?_⟩
  obtain ⟨cs',f,hc⟩:=hc hb
  exact ⟨cs',f,by rw [cj (fD hc)];exact hc⟩
 holds:=fun b x hb=>by
  have:=hi.holds.lt hb
  obtain ⟨t,f,ht⟩:=hi.holds _ _ hb
  exact ⟨t,f,by rw [cj this];exact ht⟩
 blk:=fun b x hb=>(hi.blk _ _ hb).alloc
 rows:=⟨by simp [hi.rows.1],fun i v e sz xs o h1 h2=>by
  cases i with
  | zero=>
   simp at h1 h2
   obtain ⟨rfl,rfl,rfl,rfl⟩:=h1
   subst h2
   exact .inr (.inr (.inr ⟨rfl,_,s,0,rfl,fA,rfl,rfl⟩))
  | succ i=>exact (hi.rows.2 i v e sz xs o (by simpa using h1) (by simpa using h2)).alloc⟩
 nodup:=by
  have hp:(h.L.map (·.1)++w.heap.size::bs.filterMap id).Perm (w.heap.size::(h.L.map (·.1)++bs.filterMap id)):=List.perm_middle
  rw [List.filterMap_cons]
  simp only [id]
  exact hp.nodup_iff.2 (List.nodup_cons.2 ⟨fun hm=>by have:=hi.own_lt hm;omega,hi.nodup⟩)
 apart:=fun b hb=>by
  rw [List.filterMap_cons] at hb
  simp only [id,List.mem_append,List.mem_cons] at hb
  rcases hb with hb | hb | hb
  ·exact hi.apart b (sJ (.inl hb))
  ·subst hb
   refine ⟨?_,.inr hi.size⟩
   cases hm:h.M w.heap.size with
   | none=>rfl
   | some x=>have:=hi.holds.lt hm;omega
  ·exact hi.apart b (sJ (.inr hb))
 os:=hi.os
 tape:=hi.tape
 output:=hi.output
 size:=by simp;have:=hi.size;omega
 old:=fun b hb hu=>by rw [cj (by have:=hi.size;omega)];exact hi.old b hb hu
 mem:=hi.mem
 le:=hi.le
theorem Hp.store {c h w bs k i v}(hi:Hp c h w bs)(hk:k∈h.L.map (·.1)):
 Hp c {h with L:=sI h.L k i v} (w.setCell ⟨k,i,none⟩ v) bs:=by
 have jj:=List.nodup_append.1 hi.nodup
 have im:=hi.apart k (by simp only [List.mem_append];exact .inl hk)
 exact
 {typ:=fun b u hu=>by
   obtain ⟨aL,hc⟩:=hi.typ b u hu
   refine ⟨by simpa [World.setCell] using aL,fun hb=> ?_⟩
   have hb:b∈(sI h.L k i v).map (·.1):=hb
   rw [qY] at hb
   obtain ⟨cs',f,hc⟩:=hc hb
   by_cases eZ:b=k
   ·subst eZ
    exact ⟨_,f,by simp only [World.setCell,Array.getElem?_modify,hc];rfl⟩
   ·exact ⟨cs',f,by rw [fU eZ];exact hc⟩
  holds:=fun b x hb=>by
   obtain ⟨t,f,ht⟩:=hi.holds _ _ hb
   refine ⟨t,f,?_⟩
   rw [fU (by rintro rfl;rw [im.1] at hb;cases hb)];exact ht
  blk:=fun b x hb=>by
   rcases TV hb jj.1 with ⟨h1,h2⟩ | ⟨h1,cs0,h2,h3⟩
   ·obtain ⟨t,ht⟩:=hi.blk _ _ h2
    exact ⟨t,by rw [fU h1];exact ht⟩
   ·subst h1 h3
    exact Hl (hi.blk _ _ h2)
  rows:=⟨hi.rows.1,fun j v e sz xs o h1 h2=>(hi.rows.2 j v e sz xs o h1 h2).other (by
   rintro rfl
   have hm:k∈bs.filterMap id:=List.mem_filterMap.2 ⟨some k,List.mem_of_getElem? h2,rfl⟩
   exact jj.2.2 k hk k hm rfl)⟩
  nodup:=by
   show ((sI h.L k i v).map (·.1)++bs.filterMap id).Nodup
   rw [qY];exact hi.nodup
  apart:=fun b hb=>by
   have hb:b∈(sI h.L k i v).map (·.1)++bs.filterMap id:=hb
   rw [qY] at hb;exact hi.apart b hb
  os:=hi.os
  tape:=hi.tape
  output:=hi.output
  size:=by simpa [World.setCell] using hi.size
  old:=fun b hb hu=>by
   rw [fU ?_]
   ·exact hi.old b hb hu
   ·rintro rfl
    rcases im.2 with h1 | h1
    ·exact hu h1
    ·omega
  mem:=hi.mem
  le:=hi.le}
def aS.add (M:aS)(b:Nat)(cs:List Value):aS:=fun k=>if k=b then some cs else M k
theorem Hp.freeze {c h w bs b cs L}(hi:Hp c h w bs)(hL:h.L=(b,cs)::L):
 Hp c {h with M:=h.M.add b cs,L:=L} w bs:=by
 have jj:=hi.nodup
 rw [hL] at jj
 simp only [List.map_cons,List.cons_append,List.nodup_cons] at jj
 have hbM:=(hi.apart b (by rw [hL];simp)).1
 have hbU:=(hi.apart b (by rw [hL];simp)).2
 exact
 {typ:=fun k u hu=>⟨(hi.typ k u hu).1,fun hk=>(hi.typ k u hu).2 (by rw [hL];simp only [List.map_cons,List.mem_cons];exact .inr hk)⟩
  holds:=fun k x hk=>by
   have lh:aS.add h.M b cs k=some x:=hk
   clear hk
   unfold aS.add at lh
   split at lh
   ·rename_i Pq
    subst Pq
    injection lh with lh;subst lh
    obtain ⟨t,ht⟩:=hi.blk k cs (by rw [hL];simp)
    exact ⟨t,_,[],by simpa using ht,.inl rfl⟩
   ·exact hi.holds _ _ lh
  blk:=fun k x hk=>hi.blk k x (by rw [hL];simp [hk])
  rows:=hi.rows
  nodup:=jj.2
  apart:=fun k hk=>by
   have h1:=hi.apart k (by rw [hL];simp only [List.map_cons,List.cons_append,List.mem_cons];exact .inr hk)
   refine ⟨?_,h1.2⟩
   show aS.add h.M b cs k=none
   unfold aS.add
   rw [if_neg]
   ·exact h1.1
   ·rintro rfl;exact jj.1 hk
  os:=hi.os
  tape:=hi.tape
  output:=hi.output
  size:=hi.size
  old:=hi.old
  mem:=fun k hk hu=>by
   show aS.add h.M b cs k=_
   unfold aS.add
   rw [if_neg]
   ·exact hi.mem k hk hu
   ·rintro rfl
    rcases hbU with h1 | h1
    ·exact hu h1
    ·omega
  le:=fun k x hk=>by
   show aS.add h.M b cs k=_
   unfold aS.add
   rw [if_neg]
   ·exact hi.le k x hk
   ·rintro rfl
    have:=hi.le k x hk
    rw [hbM] at this;cases this}
theorem Hp.extT {c h w bs t}(hi:Hp c h w bs):aF h.N (h.N.add w.heap.size t):=by
 intro b u hu
 have:=(hi.typ b u hu).1
 unfold Tm.add
 rw [if_neg (by omega)];exact hu
theorem Hp.retyp {c N N' M L R w bs}(hi:Hp c ⟨N,M,L,R⟩ w bs)(h:∀ b t,N' b=some t ->b<w.heap.size/\(b∈L.map (·.1) ->∃ cs f,w.heap[b]?=some (.cells cs t f))):Hp c ⟨N',M,L,R⟩ w bs:=
 {typ:=h
  holds:=hi.holds
  blk:=hi.blk
  rows:=hi.rows
  nodup:=hi.nodup
  apart:=hi.apart
  os:=hi.os
  tape:=hi.tape
  output:=hi.output
  size:=hi.size
  old:=hi.old
  mem:=hi.mem
  le:=hi.le}
theorem Hp.untype {c N N' M L R w bs}(hi:Hp c ⟨N,M,L,R⟩ w bs)(h:∀ b t,N' b=some t ->N b=some t):Hp c ⟨N',M,L,R⟩ w bs:=
 {typ:=fun b u hu=>hi.typ b u (h b u hu)
  holds:=hi.holds
  blk:=hi.blk
  rows:=hi.rows
  nodup:=hi.nodup
  apart:=hi.apart
  os:=hi.os
  tape:=hi.tape
  output:=hi.output
  size:=hi.size
  old:=hi.old
  mem:=hi.mem
  le:=hi.le}
theorem Hp.drop {c h w bs b cs L}(hi:Hp c h w bs)(hL:h.L=(b,cs)::L):Hp c {h with L:=L} w bs:=by
 have jj:=hi.nodup
 rw [hL] at jj
 simp only [List.map_cons,List.cons_append,List.nodup_cons] at jj
 exact
 {typ:=fun k u hu=>⟨(hi.typ k u hu).1,fun hk=>(hi.typ k u hu).2 (by rw [hL];simp only [List.map_cons,List.mem_cons];exact .inr hk)⟩
  holds:=hi.holds
  blk:=fun k x hk=>hi.blk k x (by rw [hL];simp [hk])
  rows:=hi.rows
  nodup:=jj.2
  apart:=fun k hk=>hi.apart k (by rw [hL];simp only [List.map_cons,List.cons_append,List.mem_cons];exact .inr hk)
  os:=hi.os
  tape:=hi.tape
  output:=hi.output
  size:=hi.size
  old:=hi.old
  mem:=hi.mem
  le:=hi.le}
theorem IE {P:Program}{w:World}{v:Value}{e:TypeId}{sz:Nat}{xs:List Value}{o:Option Nat}(hr:zq w v e sz xs o)
 {t tx ty:TypeId} {i:TypeInfo} {z x:Value} {m:Nat} {news:List Value} (ht:P.underlying t=some (.slice e)) (hi:P.info? e=some i) (hz:i.zero=some z) (dS:i.size=sz)
 (xg:z.cells.size=sz) (dO:0<sz) (hs:Src P sz tx x m news w) (hb:xs.length+news.length<=4398046511104) (GG:i.bytes<=24*i.size):
 ∃ v' w' o',(Builtin.append_ #[t,tx] ty #[v,x]).run P w=.ok v' w'/\zq w' v' e sz (xs++news) o'/\w.grownBy w' o/\(o'=o\/∃ g,o'=some g/\w.heap.size<=g):=by
 subst dS
 have hm:news.length=m*i.size:=hs.newsLen
 have grow:∀ (base:Option Addr) (n cap:Nat),xs.length=n*i.size ->(Builtin.firstCells i.size n (.slice base n cap)).run P w.drew=.ok xs.toArray w.drew ->cap<n+m ->
  ∃ v' w' o',(Builtin.append_ #[t,tx] ty #[.slice base n cap,x]).run P w=.ok v' w'/\zq w' v' e i.size (xs++news) o'/\w.grownBy w' o/\(o'=o\/∃ g,o'=some g/\w.heap.size<=g):=by
  intro base n cap hn acm hg
  have GI:n+m<=4398046511104:=by
   have h1:(n+m)*1<=(n+m)*i.size:=Nat.mul_le_mul_left _ dO
   have h2:(n+m)*i.size=n*i.size+m*i.size:=Nat.add_mul ..
   omega
  have lS:=nextslicecap_le hg
  have lU:=run_append_grow_src (P:=P) w t tx ty e i z ht hi hz base n cap xs acm x m news hs hg (by omega) (by
   have h2:(n+m)*i.size=n*i.size+m*i.size:=Nat.add_mul ..
   calc Builtin.nextslicecap (n+m) cap*i.bytes<=(2*(n+m))*(24*i.size):=Nat.mul_le_mul lS GG
    _=48*((n+m)*i.size):=by rw [Nat.mul_comm 2,Nat.mul_assoc,<- Nat.mul_assoc 2 24,Nat.mul_left_comm]
    _<=281474976710656:=by omega)
  refine ⟨_,_,some w.heap.size,lU,.inr (.inl ⟨w.heap.size,n+m,_,(Builtin.zeroCells z.cells (grownCap w (n+m) cap e - (n+m))).toList,rfl,?_,?_,?_,grownCap_ge _ _ _ _,rfl⟩),?_,.inr ⟨_,rfl,Nat.le_refl _⟩⟩
  ·have:=@fA w.drew (.cells ((xs++news).toArray++Builtin.zeroCells z.cells (grownCap w (n+m) cap e - (n+m))) e)
   rw [show w.drew.heap.size=w.heap.size from rfl] at this
   rw [this]
   congr 2
   apply Array.toList_inj.1
   simp
  ·rw [List.length_append,hn,hm,Nat.add_mul]
  ·have Pn:=grownCap_ge w (n+m) cap e
   rw [List.length_append,List.length_append,hn,hm,Array.length_toList,size_zeroCells,xg,<- Nat.add_mul,<- Nat.add_mul]
   congr 1
   omega
  ·exact ⟨rfl,rfl,rfl,by simp,fun k hk _=>cj (w:=w.drew) hk⟩
 rcases hr with ⟨rfl,rfl,rfl⟩ | ⟨g,n,cap,junk,rfl,hg,hn,hc,di,rfl⟩ | ⟨h0,_⟩ | ⟨h0,_⟩
 ·by_cases h0:m=0
  ·subst h0
   have:news=[]:=by simpa using hm
   subst this
   refine ⟨.slice none 0 0,w,none,?_,.inl ⟨rfl,rfl,rfl⟩,⟨rfl,rfl,rfl,Nat.le_refl _,fun _ _ _=>rfl⟩,.inl rfl⟩
   rcases hs.kind with ⟨e',hk⟩ | hk<;>simp [Builtin.append_,run_underlying ht,run_underlying hk,Go.sizeOf,typeInfo,hi,hs.len,hs.cells]
  ·exact grow none 0 0 (by simp) (run_firstCells_none w.drew _ _ _ _) (by omega)
 ·by_cases PI:n+m<=cap
  ·have dS:xs.length+news.length<=(xs++junk).length:=by
    rw [hc,hn,hm,<- Nat.add_mul];exact Nat.mul_le_mul_right _ PI
   have qL:=run_storeCells_at P g (n*i.size) e news 0 (xs++junk).toArray w hg (by rw [<- hn];simpa using dS) hs.one
   simp only [Nat.add_zero] at qL
   have aiV:(xs++junk).toArray.toList.take (n*i.size)++news++(xs++junk).toArray.toList.drop (n*i.size+news.length)=xs++news++junk.drop news.length:=by
    rw [<- hn]
    simp [List.drop_append]
   rw [aiV] at qL
   refine ⟨.slice (some ⟨g,0,none⟩) (n+m) cap,w.setRow g (xs++news++junk.drop news.length).toArray,some g,?_,.inr (.inl ⟨g,n+m,cap,junk.drop news.length,rfl,?_,?_,?_,PI,rfl⟩),?_,.inl rfl⟩
   ·rcases hs.kind with ⟨e',hk⟩ | hk<;>simp [Builtin.append_,run_underlying ht,run_underlying hk,Go.sizeOf,typeInfo,hi,hs.len,PI,hs.cells,Addr.add_lit,qL]
   ·exact setRow_heap w g _ _ e (0,0) hg
   ·rw [List.length_append,hn,hm,Nat.add_mul]
   ·rw [<- hc]
    simp only [List.length_append,List.length_drop] at dS ⊢
    omega
   ·exact ⟨rfl,rfl,rfl,by simp,fun k _ hk=>setRow_other w g k _ (by rintro rfl;exact hk rfl)⟩
  ·refine grow (some ⟨g,0,none⟩) n cap hn ?_ (by omega)
   refine run_firstCells_some w.drew i.size n ⟨g,0,none⟩ n cap xs hn ?_
   intro j u hj
   rw [World.cell?_drew]
   have aL:j<xs.length:=(List.getElem?_eq_some_iff.1 hj).1
   have:w.cell? ((⟨g,0,none⟩:Addr).add j)=(xs++junk)[j]?:=by
    by_cases h0:j=0
    ·subst h0;simp [Addr.add,World.cell?,hg]
    ·simp [Addr.add,h0,World.cell?,hg]
   rw [this,List.getElem?_append_left aL];exact hj
 ·omega
 ·omega
def Ea (c a b:Value):Option Value:=match c with | .bool t=>some (if t=true then a else b) | _=>none
def Q7 (v:Value):Option Value:=match v with | .pointer (some a)=>some (.pointer (some a)) | _=>none
def vd (k:Option Nat)(v:Value):Option Value:=match k,v with | some k,.pointer (some a)=>some (.pointer (some (a.add k))) | _,_=>none
def Nk (sz:Option Nat)(x i:Value):Option Value:=
 match sz,x,i with
 | some sz,.slice (some a) len _,.int _ n=>if 0<=n/\n<len then some (.pointer (some (a.add (n.toNat*sz)))) else none
 | _,_,_=>none
def s4 (s:ByteArray)(k:Nat):UInt8:=s.data.toList.getD k 0
def vAt (str:Bool)(x i:Value):Option Value:=
 match str,x,i with
 | true,.string s,.int _ n=>if 0<=n/\n<s.size then some (.int .u8 (s4 s n.toNat).toNat) else none
 | _,_,_=>none
def Sv (v:Value):Option Value:=match v with | .bool t=>some (.bool !t) | _=>none
def WE (v:Value):Option Value:=match v with | .int k n=>some (.int k (k.wrap (0 - n))) | _=>none
def NA (v:Value)(i:Nat):Option Value:=match v with | .tuple vs=>vs[i]? | _=>none
def Mt (str sl:Bool)(v:Value):Option Value:=
 match str,v with
 | true,.string s=>some (.int .i64 s.size)
 | false,.slice _ n _=>if sl=true then some (.int .i64 n) else none
 | _,_=>none
def Wo (sl:Bool)(v:Value):Option Value:=match v with
 | .slice _ _ n=>if sl=true then some (.int .i64 n) else none
 | _=>none
def EA (k:Option IntKind)(v:Value):Option Value:=match k,v with | some k,.int _ n=>some (.int k (k.wrap n)) | _,_=>none
def Dv (b:Bool)(t:TypeId)(v:Value):Option Value:=if b=true then some (.iface t v) else none
def BJ (str:Bool)(x:Value)(lo hi:Option Value):Option Value:=
 match str,x,lo,hi with
 | true,.string s,some (.int _ l),some (.int _ h)=>if 0<=l/\l<=h/\h<=s.size then some (.string (s.extract l.toNat h.toNat)) else none
 | true,.string s,some (.int _ l),none=>if 0<=l/\l<=s.size then some (.string (s.extract l.toNat s.size)) else none
 | true,.string s,none,some (.int _ h)=>if 0<=h/\h<=s.size then some (.string (s.extract 0 h.toNat)) else none
 | _,_,_,_=>none
def kF (a:Option Addr)(cap l sz:Nat):Option Addr:=if cap=l then a else a.map (·.add (l*sz))
def Bz (sz:Option Nat)(x:Value)(lo hi:Option Value):Option Value:=
 match sz,x,lo,hi with
 | some sz,.slice a _ cap,some (.int _ l),some (.int _ h)=>if 0<=l/\l<=h/\h<=cap then some (.slice (kF a cap l.toNat sz) (h.toNat - l.toNat) (cap - l.toNat)) else none
 | some sz,.slice a n cap,some (.int _ l),none=>if 0<=l/\l<=n/\n<=cap then some (.slice (kF a cap l.toNat sz) (n - l.toNat) (cap - l.toNat)) else none
 | some sz,.slice a _ cap,none,some (.int _ h)=>if 0<=h/\h<=cap then some (.slice (kF a cap 0 sz) h.toNat cap) else none
 | _,_,_,_=>none
def pj (z:List Value):Nat ->List Value ->List Value
 | _,[]=>z
 | i,v::vs=>pj (z.set i v) (i+1) vs
def bt (P:Program)(t:TypeId):Option (List Value×List (Nat×Nat)):=
 match P.info? t,P.underlying t with
 | some it,some (.struct fields)=>
  match it.zero,fields.toList.mapM (fun f=>(P.info? f.type).map fun i=>(f.offset,i.size)) with
  | some z,some pl=>some (z.cells.toList,pl)
  | _,_=>none
 | _,_=>none
def nF (pl:List (Nat×Nat)):List Value ->List (Nat×List Value) ->Option (List Value)
 | z,[]=>some z
 | z,(i,vs)::rest=>
  match pl[i]? with
  | some (off,size)=>if vs.length=size/\off+vs.length<=z.length then nF pl (pj z off vs) rest else none
  | none=>none
def uX (o:Option (List Value×List (Nat×Nat)))(parts:List (Nat×List Value)):Option Value:=
 match o with
 | some (z,pl)=>(nF pl z parts).map fun cs=> .agg cs.toArray
 | none=>none
def E7 (sz:Nat)(z:List Value)(len:Nat)(parts:List (Nat×List Value)):Option (List Value):=
 nF ((List.range len).map fun i=>(i*sz,sz)) ((List.range len).flatMap fun _=>z) parts
theorem Od (vs:List Value)(off:Nat):∀ (z:Array Value) (i:Nat),
 ((vs.zipIdx i).foldl (fun cs x=>cs.setIfInBounds (off+x.2) x.1) z)=(pj z.toList (off+i) vs).toArray:=by
 induction vs with
 | nil=>intro z i;simp [pj]
 | cons v vs ih=>
  intro z i
  simp only [List.zipIdx_cons,List.foldl_cons,pj]
  rw [ih]
  simp [Nat.add_assoc]
theorem BI {pl:List (Nat×Nat)}{place:Nat ->Option (Nat×Nat)}(s9:∀ i p,pl[i]?=some p ->place i=some p):
 ∀ (parts:List (Nat×Value)) (z cs:List Value),nF pl z (parts.map fun x=>(x.1,x.2.cells.toList))=some cs ->Instr.fill place z.toArray parts=some cs.toArray:=by
 intro parts
 induction parts with
 | nil=>intro z cs h;simp [nF] at h;simp [Instr.fill,h]
 | cons p rest ih=>
  obtain ⟨i,v⟩:=p
  intro z cs h
  simp only [List.map_cons,nF] at h
  split at h
  ·rename_i off size hp
   split at h
   ·rename_i hc
    have h1:v.cells.size=size:=by simpa using hc.1
    simp only [Instr.fill,s9 _ _ hp]
    rw [if_neg]
    ·have hf:=Od v.cells.toList off z.toArray 0
     have:=ih _ _ h
     rw [<- this]
     congr 1
     simp only [Nat.add_zero] at hf
     rw [<- hf,<- Array.foldl_toList,Array.toList_zipIdx]
    ·have:=hc.2
     simp only [Array.length_toList,h1] at this
     simp [h1]
     omega
   ·cases h
  ·cases h
theorem II {P:Program}{t:TypeId}{parts:List (Nat×Value)}{v:Value}(h:uX (bt P t) (parts.map fun x=>(x.1,x.2.cells.toList))=some v):
 ∃ cs:List Value,v=.agg cs.toArray/\P.built t parts=some cs.toArray:=by
 unfold uX at h
 split at h
 ·rename_i z pl hb
  obtain ⟨cs,fS,rfl⟩:=Option.map_eq_some_iff.1 h
  refine ⟨cs,rfl,?_⟩
  unfold bt at hb
  split at hb
  ·rename_i it fields Pt hu
   split at hb
   ·rename_i z' pl' hz s9
    injection hb with hb
    injection hb with fx dN
    subst fx dN
    unfold Program.built
    rw [Pt,hu]
    simp only [hz,s9]
    have:=BI (pl:=pl') (place:=(pl'.toArray[·]?)) (fun i p hp=>by simpa using hp) parts _ _ fS
    simpa using this
   ·cases hb
  ·cases hb
 ·cases h
theorem GU (z:Array Value)(hz:0<z.size):∀ len,((Array.range (len*z.size)).map (z[· % z.size]!))=((List.range len).flatMap fun _=>z.toList).toArray:=by
 intro len
 apply Array.toList_inj.1
 simp only [Array.toList_map,Array.toList_range]
 induction len with
 | zero=>simp
 | succ n ih=>
  rw [Nat.succ_mul,List.range_add,List.map_append,ih,List.range_succ,List.flatMap_append]
  congr 1
  simp only [List.map_map,List.flatMap_cons,List.flatMap_nil,List.append_nil]
  apply List.ext_getElem
  ·simp
  ·intro i h1 h2
   simp only [List.getElem_map,List.getElem_range,Function.comp]
   simp only [List.length_map,List.length_range] at h1
   rw [Nat.mul_add_mod_self_right,Nat.mod_eq_of_lt h1]
   simp [h1]
def dR (P:Program)(t:TypeId):Option (TypeId×Nat×List Value):=
 match P.underlying t with
 | some (.slice e)=>match P.info? e with
  | some ie=>match ie.zero with
   | some z=>if z.cells.size=ie.size/\0<ie.size then some (e,ie.size,z.cells.toList) else none
   | none=>none
  | none=>none
 | _=>none
theorem js {P:Program}{t e sz z}(h:dR P t=some (e,sz,z)):∃ ie zv,P.underlying t=some (.slice e)/\P.info? e=some ie/\ie.zero=some zv/\ie.size=sz/\0<sz/\zv.cells.toList=z/\zv.cells.size=sz:=by
 unfold dR at h
 split at h
 ·rename_i e' hu
  split at h
  ·rename_i ie hi
   split at h
   ·rename_i zv hz
    split at h
    ·rename_i hs
     injection h with h
     injection h with h1 h2
     injection h2 with h2 h3
     subst h1 h2 h3
     exact ⟨ie,zv,hu,hi,hz,rfl,hs.2,rfl,hs.1⟩
    ·cases h
   ·cases h
  ·cases h
 ·cases h
theorem xQ {P:Program}{t e sz z len}{parts:List (Nat×Value)}{cs:List Value}(ht:dR P t=some (e,sz,z))(bq:len*sz<=16777216)
 (h:E7 sz z len (parts.map fun x=>(x.1,x.2.cells.toList))=some cs) (w:World):
 (Instr.buildSlice t len parts.toArray).run P w=.ok (.slice (some ⟨w.heap.size,0,none⟩) len len) (w.alloc (.cells cs.toArray e)):=by
 obtain ⟨ie,zv,hu,hi,hz,rfl,dO,rfl,dS⟩:=js ht
 have hf:Instr.fill (fun i=>some (i*ie.size,ie.size)) ((Array.range (len*ie.size)).map (zv.cells[· % zv.cells.size]!)) parts.toArray.toList=some cs.toArray:=by
  have hzz:=GU zv.cells (by omega) len
  rw [dS] at hzz
  rw [dS,hzz]
  unfold E7 at h
  refine BI (place:=fun i=>some (i*ie.size,ie.size)) ?_ parts _ _ h
  intro i p hp
  simp only [List.getElem?_map,Option.map_eq_some_iff] at hp
  obtain ⟨a,ha,rfl⟩:=hp
  have:=List.getElem?_eq_some_iff.1 ha
  obtain ⟨h1,h2⟩:=this
  simp at h2
  rw [h2]
 rcases Nat.eq_zero_or_pos len with h0 | h0
 ·subst h0
  have hf0:Instr.fill (fun i=>some (i*ie.size,ie.size)) #[] parts=some cs.toArray:=by
   have:(Array.range (0*ie.size)).map (zv.cells[· % zv.cells.size]!)= #[]:=by simp [Array.range]
   rw [this] at hf;simpa using hf
  have e0:∀ f:Nat ->Value,Array.map f (Array.range 0)= #[]:=fun f=>by apply Array.ext';simp
  simp [Instr.buildSlice,run_underlying hu,e0,Go.sizeOf,typeInfo,hi,hf0,newRow]
 ·refine run_buildSlice w t e len _ cs.toArray ie zv hu hi hz (by omega) ?_ hf
  have:=Nat.mul_pos h0 dO;omega
def vE (L:List (Nat×List Value))(k:Nat):Nat ->List Value ->List (Nat×List Value)
 | _,[]=>L
 | i,v::vs=>vE (sI L k i v) k (i+1) vs
theorem Hp.storeN {c k}(vs:List Value):∀ (i:Nat) {h:Sh} {w:World} {bs},Hp c h w bs ->k∈h.L.map (·.1) ->Hp c {h with L:=vE h.L k i vs} (w.setCells k i vs) bs:=by
 induction vs with
 | nil=>intro i h w bs hi _;exact hi
 | cons v vs ih=>
  intro i h w bs hi hk
  exact ih (i+1) (hi.store hk) (by show k∈(sI h.L k i v).map (·.1);rw [qY];exact hk)
def Wf (h:Sh):Prop:=(h.L.map (·.1)).Nodup/\∀ b∈h.L.map (·.1),h.M b=none
theorem Hp.wf {c h w bs}(hi:Hp c h w bs):Wf h:=
 ⟨(List.nodup_append.1 hi.nodup).1,fun b hb=>(hi.apart b (by simp only [List.mem_append];exact .inl hb)).1⟩
theorem Hp.append {c h w w' bs j v e sz xs ys v' o o'}(hi:Hp c h w bs)(_hj:h.R[j]?=some (v,e,sz,xs))(ho:bs[j]?=some o)
 (hr:zq w' v' e sz ys o') (hg:w.grownBy w' o) (hn:o'=o\/∃ g,o'=some g/\w.heap.size<=g):
 Hp c {h with R:=h.R.set j (v',e,sz,ys)} w' (bs.set j o'):=by
 have Zd:j<bs.length:=(List.getElem?_eq_some_iff.1 ho).1
 have jj:=List.nodup_append.1 hi.nodup
 have hom:∀ g,o=some g ->g∈bs.filterMap id:=fun g BN=>List.mem_filterMap.2 ⟨some g,by subst BN;exact List.mem_of_getElem? ho,rfl⟩
 have FB:∀ b,b<w.heap.size ->o≠some b ->w'.heap[b]?=w.heap[b]?:=fun b hb cu=>hg.block b hb (fun he=>cu he.symm)
 -- the blocks behind the append
 have mQ:∀ b,b∈(bs.set j o').filterMap id ->b∈bs.filterMap id\/w.heap.size<=b:=by
  intro b hb
  obtain ⟨x,hx,wV⟩:=List.mem_filterMap.1 hb
  simp only [id] at wV
  subst wV
  rcases List.mem_or_eq_of_mem_set hx with hx | hx
  ·exact .inl (List.mem_filterMap.2 ⟨_,hx,rfl⟩)
  ·rcases hn with hn | ⟨g,BN,hgw⟩
   ·exact .inl (hom b (by rw [<- hn,<- hx]))
   ·rw [<- hx] at BN;injection BN with BN;subst BN;exact .inr hgw
 have aj4:((bs.set j o').filterMap id).Nodup:=by
  have h2:=jj.2.1
  have aL:∀ b,b∈bs.filterMap id ->b<w.heap.size:=fun b hb=>hi.own_lt (by simp only [List.mem_append];exact .inr hb)
  rw [List.set_eq_take_append_cons_drop,if_pos Zd]
  have DW:bs=bs.take j++o::bs.drop (j+1):=by
   have:=List.getElem?_eq_some_iff.1 ho
   obtain ⟨h1,h3⟩:=this
   conv=>lhs;rw [<- List.take_append_drop j bs,dq h1,h3]
  rw [DW] at h2 aL
  rcases hn with rfl | ⟨g,rfl,hgw⟩
  ·exact h2
  ·rw [List.filterMap_append,List.nodup_append] at h2 ⊢
   have jP:∀ b,b∈(bs.drop (j+1)).filterMap id ->b∈(o::bs.drop (j+1)).filterMap id:=by
    intro b hb
    rw [List.filterMap_cons]
    cases o with
    | none=>exact hb
    | some q=>exact wU hb
   refine ⟨h2.1,?_,?_⟩
   ·rw [List.filterMap_cons]
    simp only [id,List.nodup_cons]
    constructor
    ·intro hm
     have:=aL g (by rw [List.filterMap_append,List.mem_append];exact .inr (jP g hm))
     omega
    ·have:=h2.2.1
     rw [List.filterMap_cons] at this
     simp only [id] at this
     split at this
     ·exact this
     ·exact (List.nodup_cons.1 this).2
   ·intro a ha b hb
    rw [List.filterMap_cons] at hb
    simp only [id,List.mem_cons] at hb
    rcases hb with rfl | hb
    ·have:=aL a (by rw [List.filterMap_append,List.mem_append];exact .inl ha)
     omega
    ·exact h2.2.2 a ha b (jP b hb)
 exact
 {typ:=fun b u hu=>by
   obtain ⟨aL,hc⟩:=hi.typ b u hu
   refine ⟨Nat.lt_of_lt_of_le aL hg.size,fun hb=> ?_⟩
   obtain ⟨cs',f,hc⟩:=hc hb
   refine ⟨cs',f,?_⟩
   rw [FB b (fD hc) ?_]
   ·exact hc
   ·intro he
    exact jj.2.2 b hb b (hom b he) rfl
  holds:=fun b x hb=>by
   obtain ⟨t,f,ht⟩:=hi.holds _ _ hb
   refine ⟨t,f,?_⟩
   rw [FB b (hi.holds.lt hb) ?_]
   ·exact ht
   ·intro he
    have:=(hi.apart b (by simp only [List.mem_append];exact .inr (hom b he))).1
    rw [hb] at this;cases this
  blk:=fun b x hb=>by
   have hk:b∈h.L.map (·.1):=List.mem_map.2 ⟨(b,x),hb,rfl⟩
   obtain ⟨t,ht⟩:=hi.blk _ _ hb
   refine ⟨t,?_⟩
   rw [FB b (fD ht) ?_]
   ·exact ht
   ·intro he
    exact jj.2.2 b hk b (hom b he) rfl
  rows:=by
   refine ⟨by simp [hi.rows.1],?_⟩
   intro k u e2 sz2 zs q h1 h2
   by_cases hkj:j=k
   ·subst hkj
    rw [List.getElem?_set_self (by rw [hi.rows.1];exact Zd)] at h1
    rw [List.getElem?_set_self Zd] at h2
    simp only [Option.some.injEq,Prod.mk.injEq] at h1 h2
    obtain ⟨rfl,rfl,rfl,rfl⟩:=h1
    subst h2
    exact hr
   ·rw [List.getElem?_set_ne hkj] at h1 h2
    have bP:=hi.rows.2 k u e2 sz2 zs q h1 h2
    refine bP.keep fun g hq=> ?_
    subst hq
    refine FB g bP.lt ?_
    intro he
    subst he
    -- two rows would own one block
    have h3:=jj.2.1
    have:∀ (l:List (Option Nat)),(l.filterMap id).Nodup ->∀ (a b:Nat),l[a]?=some (some g) ->l[b]?=some (some g) ->a=b:=by
     intro l
     induction l with
     | nil=>intro _ a b ha;simp at ha
     | cons x l ih=>
      intro hl a b ha hb
      cases a with
      | zero=>
       cases b with
       | zero=>rfl
       | succ b=>
        simp at ha hb
        subst ha
        rw [List.filterMap_cons] at hl
        simp only [id,List.nodup_cons] at hl
        exact (hl.1 (List.mem_filterMap.2 ⟨some g,List.mem_of_getElem? hb,rfl⟩)).elim
      | succ a=>
       cases b with
       | zero=>
        simp at ha hb
        subst hb
        rw [List.filterMap_cons] at hl
        simp only [id,List.nodup_cons] at hl
        exact (hl.1 (List.mem_filterMap.2 ⟨some g,List.mem_of_getElem? ha,rfl⟩)).elim
       | succ b=>
        simp at ha hb
        rw [List.filterMap_cons] at hl
        simp only [id] at hl
        split at hl
        ·rw [ih hl a b ha hb]
        ·rw [ih (List.nodup_cons.1 hl).2 a b ha hb]
    exact hkj (this bs h3 j k ho h2)
  nodup:=by
   rw [List.nodup_append]
   refine ⟨jj.1,aj4,?_⟩
   intro a ha b hb
   rcases mQ b hb with hb | hb
   ·exact jj.2.2 a ha b hb
   ·have:=hi.own_lt (b:=a) (by simp only [List.mem_append];exact .inl ha)
    omega
  apart:=fun b hb=>by
   rcases wZ hb with hb | hb
   ·exact hi.apart b (by simp only [List.mem_append];exact .inl hb)
   ·rcases mQ b hb with hb | hb
    ·exact hi.apart b (by simp only [List.mem_append];exact .inr hb)
    ·refine ⟨?_,.inr (Nat.le_trans hi.size hb)⟩
     cases hM:h.M b with
     | none=>rfl
     | some x=>have:=hi.holds.lt hM;omega
  os:=hg.os.trans hi.os
  tape:=hg.tape.trans hi.tape
  output:=hg.output.trans hi.output
  size:=Nat.le_trans hi.size hg.size
  old:=fun b hb hu=>by
   rw [FB b (Nat.lt_of_lt_of_le hb hi.size) ?_]
   ·exact hi.old b hb hu
   ·intro he
    rcases (hi.apart b (by simp only [List.mem_append];exact .inr (hom b he))).2 with h1 | h1
    ·exact hu h1
    ·omega
  mem:=hi.mem
  le:=hi.le}
def tm (P:Program)(t:TypeId):Bool:=match P.underlying t with | some .bool=>true | _=>false
def zp (P:Program)(t:TypeId):Bool:=match P.underlying t with | some (.pointer _)=>true | _=>false
def BT (op:BinOp)(k:IntKind)(x y:Int):Option Value:=
 match op with
 | .and=>some (.int k (k.wrap (BitVec.ofInt k.bits x &&& BitVec.ofInt k.bits y).toNat))
 | .or=>some (.int k (k.wrap (BitVec.ofInt k.bits x ||| BitVec.ofInt k.bits y).toNat))
 | .xor=>some (.int k (k.wrap (BitVec.ofInt k.bits x ^^^ BitVec.ofInt k.bits y).toNat))
 | .quo=>if y=0 then none else some (.int k (k.wrap (x.tdiv y)))
 | .rem=>if y=0 then none else some (.int k (x.tmod y))
 | .shl=>if 0<=y then some (.int k (k.wrap (x*2 ^ (min y.toNat k.bits)))) else none
 | .shr=>if 0<=y then some (.int k (x.fdiv (2 ^ (min y.toNat k.bits)))) else none
 | _=>none
def EY (P:Program)(t:TypeId):Option Nat:=match P.underlying t with | some .bool=>some 0 | some (.int _)=>some 1 | some .string=>some 2 | _=>none
def Uv (P:Program):Nat ->List Field ->Option (List Nat)
 | _,[]=>some []
 | i,f::r=>if f.name≠ "_"/\f.offset=i then match EY P f.type,Uv P (i+1) r with | some k,some l=>some (k::l) | _,_=>none else none
def Fz (P:Program)(t:TypeId):Option (List Nat):=
 if P.stoodInHeld t=false/\P.eqGuardType P.depth t=false then match P.underlying t with | some (.struct fs)=>Uv P 0 fs.toList | _=>none else none
def YG:Nat ->Value ->Value ->Option Bool
 | 0,.bool a,.bool b=>some (decide (a=b))
 | 1,.int i a,.int j b=>if i=j then some (decide (a=b)) else none
 | 2,.string a,.string b=>some (decide (a=b))
 | _,_,_=>none
def HW:List Nat ->List Value ->List Value ->Option Bool
 | [],_,_=>some true
 | k::ks,x::xs,y::ys=>match YG k x y with
  | some true=>HW ks xs ys
  | some false=>some false
  | none=>none
 | _,_,_=>none
def UC (op:BinOp)(k:IntKind)(x y:Int):Option Value:=
 match op with
 | .shl=>if 0<=y then some (.int k (k.wrap (x*2 ^ (min y.toNat k.bits)))) else none
 | .shr=>if 0<=y then some (.int k (x.fdiv (2 ^ (min y.toNat k.bits)))) else none
 | _=>none
def D7 (P:Program)(op:BinOp)(t:TypeId)(x y:Value):Option Value:=
 match x,y with
 | .int i a,.int j b=>if i=j then BT op i a b else UC op i a b
 | .string a,.string b=>match op with
  | .add=>if a.size+b.size<=9223372036854775807 then some (.string (a++b)) else none
  | .lss=>some (.bool (Op.bytesLess a.data.toList b.data.toList))
  | .gtr=>some (.bool (!(Op.bytesLess a.data.toList b.data.toList || a.data.toList==b.data.toList)))
  | _=>none
 | .bool a,.bool b=>match op with
  | .eql=>if tm P t=true then some (.bool (a==b)) else none
  | .neq=>if tm P t=true then some (.bool (!(a==b))) else none
  | _=>none
 | .slice a _ _,.slice none 0 0=>match op with
  | .eql=>if dH P t=true then some (.bool a.isNone) else none
  | .neq=>if dH P t=true then some (.bool (!a.isNone)) else none
  | _=>none
 | .pointer a,.pointer none=>match op with
  | .eql=>if zp P t=true then some (.bool a.isNone) else none
  | .neq=>if zp P t=true then some (.bool (!a.isNone)) else none
  | _=>none
 | .agg a,.agg b=>match op with
  | .eql=>match Fz P t with | some ks=>(HW ks a.toList b.toList).map .bool | none=>none
  | .neq=>match Fz P t with | some ks=>(HW ks a.toList b.toList).map fun r=> .bool (!r) | none=>none
  | _=>none
 | _,_=>none
def iD (P:Program)(op:BinOp)(t:TypeId)(x y:Value):Option Value:=
 match Ef op x y with
 | some v=>some v
 | none=>D7 P op t x y
theorem TZ {P:Program}{op:BinOp}{t:TypeId}{X Y:Operand}{x y v:Value}(hv:Ef op x y=some v)(w:World):
 (do eqGuard op t X Y x y;binOp op t x y:Sem Value).run P w=.ok v w:=by
 unfold Ef at hv
 split at hv
 ·rename_i i a j b
  split at hv
  ·rename_i wO
   subst wO
   simp [cQ,rO hv]
  ·cases hv
 ·rename_i a b
  split at hv<;>first | (cases hv;done) | (injection hv with hv;subst hv;simp [cQ,binOp,Op.stringOp,sX])
 ·cases hv
theorem Ki {P:Program}{d:Nat}{t:TypeId}{k:Nat}{x y:Value}{b:Bool}(hk:EY P t=some k)(h:YG k x y=some b)(w:World):(Op.equalIn (d+1) t x y).run P w=.ok b w:=by
 unfold EY at hk
 split at hk
 ·rename_i hu
  injection hk with hk;subst hk
  cases x<;>cases y<;>simp only [YG,reduceCtorEq] at h
  injection h with h;subst h
  rw [run_equalIn_bool' w d t _ _ hu]
  rename_i a b
  cases a<;>cases b<;>rfl
 ·rename_i kk hu
  injection hk with hk;subst hk
  cases x<;>cases y<;>simp only [YG,reduceCtorEq] at h
  split at h
  ·rename_i wO
   injection h with h;subst h wO
   rw [run_equalIn_int w d t _ _ _ _ hu]
   rfl
  ·cases h
 ·rename_i hu
  injection hk with hk;subst hk
  cases x<;>cases y<;>simp only [YG,reduceCtorEq] at h
  injection h with h;subst h
  rw [run_equalIn_string w d t _ _ hu,sX]
 ·cases hk
theorem Bn {P:Program}{t:TypeId}{k off:Nat}{xs:Array Value}{x:Value}(hk:EY P t=some k)(hx:xs[off]?=some x)(w:World):(part t xs off).run P w=.ok x w:=by
 unfold EY at hk
 split at hk
 ·rename_i hu;simp [part,isAgg,run_underlying hu,hx]
 ·rename_i kk hu;simp [part,isAgg,run_underlying hu,hx]
 ·rename_i hu;simp [part,isAgg,run_underlying hu,hx]
 ·cases hk
theorem tT {P:Program}{d:Nat}{xs ys:Array Value}:∀ (fs:List Field) (i:Nat) (ks:List Nat) (b:Bool),Uv P i fs=some ks ->HW ks (xs.toList.drop i) (ys.toList.drop i)=some b ->∀ w,(Op.eqFields (d+1) xs ys fs).run P w=.ok b w
 | [],i,ks,b,h1,h2,w=>by
  simp only [Uv,Option.some.injEq] at h1;subst h1
  simp only [HW,Option.some.injEq] at h2;subst h2
  rfl
 | f::fs,i,ks,b,h1,h2,w=>by
  simp only [Uv] at h1
  split at h1
  ·rename_i hc
   obtain ⟨tK,af3⟩:=hc
   split at h1
   ·rename_i k l hk hl
    injection h1 with h1;subst h1
    cases hx:xs.toList.drop i with
    | nil=>rw [hx] at h2;simp [HW] at h2
    | cons x xr=>
     cases hy:ys.toList.drop i with
     | nil=>rw [hx,hy] at h2;simp [HW] at h2
     | cons y yr=>
      rw [hx,hy] at h2
      have hxi:xs[f.offset]?=some x:=by
       have:=congrArg (·[0]?) hx
       rw [af3];simpa using this
      have hyi:ys[f.offset]?=some y:=by
       have:=congrArg (·[0]?) hy
       rw [af3];simpa using this
      have hxr:xs.toList.drop (i+1)=xr:=by
       have:=congrArg List.tail hx
       simpa [List.tail_drop] using this
      have ZS:ys.toList.drop (i+1)=yr:=by
       have:=congrArg List.tail hy
       simpa [List.tail_drop] using this
      have ih:=tT (P:=P) (d:=d) (xs:=xs) (ys:=ys) fs (i+1) l
      rw [hxr,ZS] at ih
      rw [Op.eqFields,if_pos tK]
      simp only [Sem.run_bind,Bn hk hxi,Result.andThen_ok,Bn hk hyi]
      simp only [HW] at h2
      split at h2
      ·rename_i hv
       rw [Ki hk hv]
       simp only [Result.andThen_ok,Bool.not_true,Bool.false_eq_true,if_false]
       exact ih b hl h2 w
      ·rename_i hv
       injection h2 with h2;subst h2
       rw [Ki hk hv]
       simp only [Result.andThen_ok,Bool.not_false,if_true]
       rfl
      ·cases h2
   ·cases h1
  ·cases h1
theorem Kc {P:Program}{t:TypeId}{ks:List Nat}{xs ys:Array Value}{b:Bool}(hs:Fz P t=some ks)(he:HW ks xs.toList ys.toList=some b)(w:World):
 P.eqGuardType P.depth t=false/\(Op.equalIn 10000 t (.agg xs) (.agg ys)).run P w=.ok b w:=by
 unfold Fz at hs
 split at hs
 ·rename_i hc
  split at hs
  ·rename_i fs hu
   have hf:P.fieldsOf t=fs:=by unfold Program.fieldsOf;rw [hu]
   refine ⟨hc.2,?_⟩
   rw [run_equalIn_struct w 9999 t xs ys (by rw [hf];exact hu) hc.1,hf]
   exact tT fs.toList 0 ks b hs (by simpa using he) w
  ·cases hs
 ·cases hs
theorem Rc {P:Program}{op:BinOp}{t:TypeId}{X Y:Operand}{x y v:Value}(hv:D7 P op t x y=some v)(w:World):
 (do eqGuard op t X Y x y;binOp op t x y:Sem Value).run P w=.ok v w:=by
 unfold D7 at hv
 split at hv
 ·rename_i i a j b
  split at hv
  ·rename_i wO
   subst wO
   unfold BT at hv
   split at hv
   ·injection hv with hv;subst hv;simp [cQ,binOp,Op.intBits]
   ·injection hv with hv;subst hv;simp [cQ,binOp,Op.intBits]
   ·injection hv with hv;subst hv;simp [cQ,binOp,Op.intBits]
   ·split at hv
    ·cases hv
    ·rename_i h0
     injection hv with hv;subst hv;simp [cQ,binOp,Op.intDiv,h0]
   ·split at hv
    ·cases hv
    ·rename_i h0
     injection hv with hv;subst hv;simp [cQ,binOp,Op.intDiv,h0]
   ·split at hv
    ·rename_i h0
     have h0:¬ b<0:=by omega
     injection hv with hv;subst hv;simp [cQ,binOp,Op.shift,h0]
    ·cases hv
   ·split at hv
    ·rename_i h0
     have h0:¬ b<0:=by omega
     injection hv with hv;subst hv;simp [cQ,binOp,Op.shift,h0]
    ·cases hv
   ·cases hv
  ·unfold UC at hv
   split at hv
   ·split at hv
    ·rename_i h0
     have h0:¬ b<0:=by omega
     injection hv with hv;subst hv;simp [cQ,binOp,Op.shift,h0]
    ·cases hv
   ·split at hv
    ·rename_i h0
     have h0:¬ b<0:=by omega
     injection hv with hv;subst hv;simp [cQ,binOp,Op.shift,h0]
    ·cases hv
   ·cases hv
 ·rename_i a b
  split at hv
  ·split at hv
   ·rename_i hb
    injection hv with hv;subst hv
    have:¬ (((a.size+b.size:Nat):Int)>IntKind.i64.max):=by
     have:IntKind.i64.max=9223372036854775807:=by decide
     omega
    have h2:(eqGuard .add t X Y (.string a) (.string b)).run P w=.ok () w:=cQ (by simp) (by simp) w
    simp only [Sem.run_bind,h2,Result.andThen_ok,binOp,Op.stringOp]
    rw [if_neg this]
    rfl
   ·cases hv
  ·injection hv with hv;subst hv
   simp [cQ,binOp,Op.stringOp,ByteArray.toList_eq]
  ·injection hv with hv;subst hv
   simp [cQ,binOp,Op.stringOp,ByteArray.toList_eq]
  ·cases hv
 ·rename_i a b
  split at hv<;>first | (cases hv;done) | skip
  all_goals
   split at hv<;>first | (cases hv;done) | skip
   rename_i hb
   injection hv with hv;subst hv
   unfold tm at hb
   split at hb
   ·rename_i hu
    simp [cQ,binOp,run_equal_bool w t a b hu]
   ·cases hb
 ·rename_i a l c
  split at hv<;>first | (cases hv;done) | skip
  all_goals
   split at hv<;>first | (cases hv;done) | skip
   rename_i hb
   injection hv with hv;subst hv
   unfold dH at hb
   split at hb
   ·rename_i e hu
    simp [cQ,binOp,run_equal_slice_nil w t e a l c hu]
   ·cases hb
 ·rename_i a
  split at hv<;>first | (cases hv;done) | skip
  all_goals
   split at hv<;>first | (cases hv;done) | skip
   rename_i hb
   injection hv with hv;subst hv
   unfold zp at hb
   split at hb
   ·rename_i e hu
    have hp:P.underlying t=some (.pointer (P.pointee t)):=by unfold Program.pointee;rw [hu]
    simp [cQ,binOp,run_equal_pointer_nil w t a hp]
   ·cases hb
 ·rename_i a b
  split at hv
  ·split at hv
   ·rename_i ks hs
    obtain ⟨r,hr,rfl⟩:=Option.map_eq_some_iff.1 hv
    obtain ⟨hg,hq⟩:=Kc hs hr w
    have h1:(eqGuard .eql t X Y (.agg a) (.agg b)).run P w=.ok () w:=run_eqGuard_agg w .eql t X Y a b hg
    simp only [Sem.run_bind,h1,Result.andThen_ok,run_eql_struct w,hq]
   ·cases hv
  ·split at hv
   ·rename_i ks hs
    obtain ⟨r,hr,rfl⟩:=Option.map_eq_some_iff.1 hv
    obtain ⟨hg,hq⟩:=Kc hs hr w
    have h1:(eqGuard .neq t X Y (.agg a) (.agg b)).run P w=.ok () w:=run_eqGuard_agg w .neq t X Y a b hg
    simp only [Sem.run_bind,h1,Result.andThen_ok,run_neq_struct w,hq]
   ·cases hv
  ·cases hv
 ·cases hv
theorem G0 {P:Program}{op:BinOp}{t:TypeId}{X Y:Operand}{x y v:Value}(hv:iD P op t x y=some v)(w:World):
 (do eqGuard op t X Y x y;binOp op t x y:Sem Value).run P w=.ok v w:=by
 unfold iD at hv
 split at hv
 ·rename_i u hu
  injection hv with hv;subst hv
  exact TZ hu w
 ·exact Rc hv w
def cvT (P:Program)(src t:TypeId):Option IntKind:=if (P.underlying src).isSome=true then rB P t else none
def pF (h:Sh)(t:Option (Bool×Nat×Value))(v:Value):Option Value:=
 match t,v with
 | some (false,_,_),.pointer (some a)=>h.cell a
 | some (true,n,_),.pointer (some a)=>(h.cells a 0 n).map fun cs=> .agg cs.toArray
 | _,_=>none
def K7 (P:Program)(src t:TypeId):Bool:=match P.underlying src,P.underlying t with
 | some (.slice e),some .string=>(match P.underlying e with | some (.int .u8)=>true | _=>false)
 | _,_=>false
def CW:List Value ->Option (List Int)
 | []=>some []
 | .int .u8 n::l=>(CW l).map (n:: ·)
 | _::_=>none
def aan (h:Sh):Value ->Option Value
 | .slice none _ _=>some (.string ByteArray.empty)
 | .slice (some ⟨b,o,none⟩) n _=>(h.cells ⟨b,o,none⟩ 0 n).bind fun cs=>(CW cs).map fun xs=> .string (strOfNums xs)
 | _=>none
def vp (P:Program)(h:Sh)(src t:TypeId)(v:Value):Option Value:=match v with
 | .int k n=>EA (cvT P src t) (.int k n)
 | .slice a n c=>if K7 P src t=true then aan h (.slice a n c) else none
 | _=>none
def fdP (P:Program)(t:TypeId)(i:Nat):Option (Bool×Nat×Nat):=
 match P.underlying t with
 | some (.struct fs)=>match fs[i]? with
  | some f=>match P.info? f.type,P.underlying f.type with
   | some inf,some d=>some (DO d,f.offset,inf.size)
   | _,_=>none
  | none=>none
 | _=>none
def vFd (k:Option (Bool×Nat×Nat))(v:Value):Option Value:=match k,v with
 | some (true,o,n),.agg cs=>some (.agg (cs.extract o (o+n)))
 | some (false,o,_),.agg cs=>cs[o]?
 | _,_=>none
theorem ZK {P:Program}{t:TypeId}{i:Nat}{x v:Value}(h:vFd (fdP P t i) x=some v)(w:World):(Instr.field t x i).run P w=.ok v w:=by
 unfold vFd at h
 split at h
 ·rename_i o n cs hk
  injection h with h;subst h
  unfold fdP at hk
  split at hk
  ·rename_i fs Ti
   split at hk
   ·rename_i f hf
    split at hk
    ·rename_i inf d wP hd
     injection hk with hk
     simp only [Prod.mk.injEq] at hk
     obtain ⟨h1,rfl,rfl⟩:=hk
     simp [Instr.field,run_underlying Ti,hf,part,asAgg,jL hd,h1,Go.sizeOf,typeInfo,wP]
    ·cases hk
   ·cases hk
  ·cases hk
 ·rename_i o n cs hk
  unfold fdP at hk
  split at hk
  ·rename_i fs Ti
   split at hk
   ·rename_i f hf
    split at hk
    ·rename_i inf d wP hd
     injection hk with hk
     simp only [Prod.mk.injEq] at hk
     obtain ⟨h1,rfl,rfl⟩:=hk
     simp [Instr.field,run_underlying Ti,hf,part,asAgg,jL hd,h1,h]
    ·cases hk
   ·cases hk
  ·cases hk
 ·cases h
def Vq (P:Program)(src t:TypeId):Nat:=match P.underlying src,P.underlying t with
 | some .string,some (.slice e)=>(match P.underlying e with | some (.int .u8)=>1 | _=>0)
 | some (.slice e),some (.slice _)=>if src=t then (match P.underlying e with | some (.int .u8)=>2 | _=>0) else 0
 | _,_=>0
def pv (P:Program)(e:dp)(h:Sh):Op ->Option Value
 | .move x | .assign x=>some (ev e x)
 | .pick c a b=>Ea (ev e c) (ev e a) (ev e b)
 | .nilCheck x=>Q7 (ev e x)
 | .fieldAddr t x i=>vd (cC P t i) (ev e x)
 | .indexAddr t x i=>Nk (cS P t) (ev e x) (ev e i)
 | .index t x i=>vAt (cF P t) (ev e x) (ev e i)
 | .binOp op t x y _=>iD P op t (ev e x) (ev e y)
 | .unOp .not _ x=>Sv (ev e x)
 | .unOp .neg _ x=>WE (ev e x)
 | .extract x i=>NA (ev e x) i
 | .build t parts=>uX (bt P t) (parts.toList.map fun x=>(x.1,(ev e x.2).cells.toList))
 | .convert src t x=>vp P h src t (ev e x)
 | .makeInterface t x=>Dv (P.concrete t) t (ev e x)
 | .makeFunc fn a b=>some (.func fn (a.map (ev e)) (b.map (ev e)))
 | .slice t x lo hi none=>if cF P t=true then BJ true (ev e x) (lo.map (ev e)) (hi.map (ev e)) else Bz (cS P t) (ev e x) (lo.map (ev e)) (hi.map (ev e))
 | .load t x=>pF h (tk P t) (ev e x)
 | .field t x i=>vFd (fdP P t i) (ev e x)
 | .call {callee:=.builtin .len,args,argTypes}=>match args.toList,argTypes.toList with
  | [x],[t]=>Mt (cF P t) (dH P t) (ev e x)
  | _,_=>none
 | .call {callee:=.builtin .cap,args,argTypes}=>match args.toList,argTypes.toList with
  | [x],[t]=>Wo (dH P t) (ev e x)
  | _,_=>none
 | _=>none
theorem wT {P:Program}{src t:TypeId}{v u:Value}(h:EA (cvT P src t) v=some u)(w:World):(convert src t v).run P w=.ok u w:=by
 unfold EA at h
 split at h
 ·rename_i k q n hk
  injection h with h;subst h
  unfold cvT at hk
  split at hk
  rotate_left
  ·cases hk
  rename_i hs
  unfold rB at hk
  split at hk
  ·rename_i k' hu
   injection hk with hk;subst hk
   obtain ⟨d,hd⟩:=Option.isSome_iff_exists.1 hs
   simp [convert,run_underlying hd,run_underlying hu,Conv.intToInt]
  ·cases hk
 ·cases h
theorem vI:∀ {cs:List Value} {xs:List Int},CW cs=some xs ->cs=xs.map (Value.int .u8)
 | [],xs,h=>by injection h with h;subst h;rfl
 | v::l,xs,h=>by
  unfold CW at h
  split at h
  ·cases ‹_::_=[]›
  ·rename_i n l' he
   injection he with h1 h2
   subst h1 h2
   obtain ⟨ys,hy,rfl⟩:=Option.map_eq_some_iff.1 h
   rw [List.map_cons,<- vI hy]
  ·cases h
theorem UE {P:Program}{src t:TypeId}(h:K7 P src t=true):∃ e,P.underlying src=some (.slice e)/\P.underlying e=some (.int .u8)/\P.underlying t=some .string:=by
 unfold K7 at h
 split at h
 ·rename_i e h1 h2
  split at h
  ·rename_i h3;exact ⟨e,h1,h3,h2⟩
  ·cases h
 ·cases h
theorem As {P:Program}{t:TypeId}{x i v:Value}(h:vAt (cF P t) x i=some v)(w:World):(Instr.index t x i).run P w=.ok v w:=by
 unfold vAt at h
 split at h
 ·rename_i s k n hs
  split at h
  ·rename_i hb
   injection h with h;subst h
   unfold cF at hs
   split at hs
   ·rename_i hu
    have aL:n.toNat<s.size:=by omega
    have fp:n.toNat<s.data.size:=aL
    simp only [Instr.index,asIntOf,Sem.run_bind,Sem.run_pure,Result.andThen_ok,run_underlying hu,hb.1,if_true]
    have he:s[n.toNat]?=some (s4 s n.toNat):=by
     rw [getElem?_pos s n.toNat aL]
     congr 1
     simp only [s4,List.getD_eq_getElem?_getD]
     rw [gq (by simpa using fp)]
     rfl
    rw [he]
    rfl
   ·cases hs
  ·cases h
 ·cases h
def NJ (P:Program):Op ->Bool | .load _ _=>true | .convert src t _=>K7 P src t | _=>false
theorem B9 {P:Program}{o:Oper}{e:dp}{h:Sh}{v:Value}(hv:pv P e h o.op=some v){c:Ctx}{w:World}(hw:NJ P o.op=true ->Is c h w):
 (execOp (ev e) o).run P w=.ok (.value v) w:=by
 unfold pv at hv
 split at hv
 ·rename_i x dZ;injection hv with hv;subst hv;simp only [execOp,dZ];rfl
 ·rename_i x dZ;injection hv with hv;subst hv;simp only [execOp,dZ];rfl
 ·rename_i cc a b dZ
  unfold Ea at hv
  split at hv
  ·rename_i t ht
   injection hv with hv;subst hv
   simp [execOp,dZ,ht,asBool]
  ·cases hv
 ·rename_i x dZ
  unfold Q7 at hv
  split at hv
  ·rename_i a ha
   injection hv with hv;subst hv
   simp [execOp,dZ,ha]
  ·cases hv
 ·rename_i t x i dZ
  unfold vd at hv
  split at hv
  ·rename_i k a hk ha
   injection hv with hv;subst hv
   unfold cC at hk
   split at hk
   ·rename_i fs Ti
    split at hk
    ·rename_i f hf
     split at hk
     ·rename_i inf wP
      split at hk
      ·cases hk
      ·rename_i dS
       simp only [Option.some.injEq] at hk
       subst hk
       simp only [execOp,dZ,ha,Instr.fieldAt]
       simp [run_underlying Ti,hf,Instr.sureAddr,fieldPlace,Go.sizeOf,typeInfo,wP,dS]
     ·cases hk
    ·cases hk
   ·cases hk
  ·cases hv
 ·rename_i t x i dZ
  unfold Nk at hv
  split at hv
  ·rename_i sz a len cap k n hk ha hi
   split at hv
   ·rename_i hb
    injection hv with hv;subst hv
    unfold cS at hk
    split at hk
    ·rename_i el Vk
     simp only [Option.map_eq_some_iff] at hk
     obtain ⟨inf,wP,rfl⟩:=hk
     simp only [execOp,dZ,ha,hi,Instr.indexAt]
     simp [asIntOf,run_underlying Vk,hb,Go.sizeOf,typeInfo,wP]
    ·cases hk
   ·cases hv
  ·cases hv
 ·rename_i t x i dZ
  simp only [execOp,dZ,Sem.run_bind,As hv]
  rfl
 ·rename_i op t x y _ dZ
  simp only [execOp,dZ]
  have:=G0 (X:=x) (Y:=y) hv w
  rw [Sem.run_bind,this]
  rfl
 ·rename_i t x dZ
  unfold Sv at hv
  split at hv
  ·rename_i b hb
   injection hv with hv;subst hv
   simp [execOp,dZ,hb,Op.unary]
  ·cases hv
 ·rename_i t x dZ
  unfold WE at hv
  split at hv
  ·rename_i k n hb
   injection hv with hv;subst hv
   simp [execOp,dZ,hb,Op.unary,Op.intArith]
  ·cases hv
 ·rename_i x i dZ
  unfold NA at hv
  split at hv
  ·rename_i vs hx
   simp [execOp,dZ,hx,Instr.extract,hv]
  ·cases hv
 ·rename_i t parts dZ
  obtain ⟨cs,rfl,hb⟩:=II (P:=P) (t:=t) (parts:=parts.toList.map fun x=>(x.1,ev e x.2)) (by rw [List.map_map];exact hv)
  simp only [execOp,dZ]
  have:=run_build (P:=P) w t (parts.map fun (i,x)=>(i,ev e x)) cs.toArray (by simpa using hb)
  rw [Sem.run_bind,this]
  rfl
 ·rename_i src t x dZ
  have lk:(convert src t (ev e x)).run P w=.ok v w:=by
   unfold vp at hv
   split at hv
   ·rename_i k n hx
    rw [hx];exact wT hv w
   ·rename_i a n c hx
    rw [hx]
    split at hv
    ·rename_i hb
     obtain ⟨el,hs,he,hd⟩:=UE hb
     unfold aan at hv
     split at hv
     ·rename_i n' c' yL
      injection yL with h1 h2 h3
      subst h1
      injection hv with hv
      subst hv
      exact run_convert_bytes_nil w src el hs he _ _ t hd
     ·rename_i b o n' c' yL
      injection yL with h1 h2 h3
      subst h1 h2 h3
      obtain ⟨cs,fS,hv⟩:=Option.bind_eq_some_iff.1 hv
      obtain ⟨xs,fM,rfl⟩:=Option.map_eq_some_iff.1 hv
      obtain ⟨bs,hi⟩:=hw (by rw [dZ];exact hb)
      obtain ⟨hl,hc⟩:=iS _ _ _ (hi.cells _ _ _ fS)
      have abL:=vI fM
      refine run_convert_bytes_arg w src el hs he b o _ _ xs (by rw [<- hl,abL,List.length_map]) ?_ t hd
      intro i D5
      have h4:=hc i (Value.int .u8 (xs.getD i 0)) (by
       rw [abL,List.getElem?_map]
       have:i<xs.length:=by rw [abL,List.length_map] at hl;omega
       simp [List.getD_eq_getElem?_getD,gq this])
      have aaf:(⟨b,o,none⟩:Addr).add i=⟨b,o+i,none⟩:=by unfold Addr.add;split<;>simp_all
      simp only [Nat.zero_add] at h4
      rw [aaf] at h4
      exact h4
     ·cases hv
    ·cases hv
   ·cases hv
  simp only [execOp,dZ,Sem.run_bind,lk]
  rfl
 ·rename_i t x dZ
  unfold Dv at hv
  split at hv
  ·rename_i hc
   injection hv with hv;subst hv
   simp only [execOp,dZ,Sem.run_bind,run_makeInterface (P:=P) (w:=w) t (ev e x) hc]
   rfl
  ·cases hv
 ·rename_i fn a b dZ
  injection hv with hv;subst hv
  simp only [execOp,dZ,Instr.makeFunc];rfl
 ·rename_i t x lo hi dZ
  have wN:(Instr.sliceAt t (ev e x) (lo.map (ev e)) (hi.map (ev e)) none).run P w=.ok v w:=by
   split at hv
   ·rename_i hs
    unfold cF at hs
    split at hs
    ·rename_i hu
     rw [run_sliceAt_string (w:=w) t _ _ _ _ hu]
     unfold BJ at hv
     split at hv<;>first | (cases hv;done) | skip
     all_goals
      split at hv<;>first | (cases hv;done) | skip
      rename_i hb
      injection hv with hv;subst hv
     ·rename_i h1 h2 h3;rw [h1,h2,h3];exact run_slice_string (w:=w) t _ _ _ _ _ hu hb.1 hb.2.1 hb.2.2
     ·rename_i h1 h2 h3;rw [h1,h2,h3];exact run_slice_string_l (w:=w) t _ hu _ _ hb.1 hb.2
     ·rename_i h1 h2 h3;rw [h1,h2,h3];exact run_slice_string_h (w:=w) t _ hu _ _ hb.1 hb.2
    ·cases hs
   ·have Vk:∀ {sz},cS P t=some sz ->∃ el,P.underlying t=some (.slice el)/\P.underlying t=some (.slice (P.elem t))/\(∀ w,(Go.sizeOf (P.elem t)).run P w=.ok sz w):=by
     intro sz dS
     unfold cS at dS
     split at dS
     ·rename_i el hu
      obtain ⟨inf,wP,rfl⟩:=Option.map_eq_some_iff.1 dS
      have he:P.elem t=el:=by unfold Program.elem;rw [hu]
      exact ⟨el,hu,by rw [he];exact hu,fun w=>by rw [he];simp [Go.sizeOf,typeInfo,wP]⟩
     ·cases dS
    unfold Bz at hv
    split at hv<;>first | (cases hv;done) | skip
    all_goals
     split at hv<;>first | (cases hv;done) | skip
     rename_i hb
     injection hv with hv;subst hv
    ·rename_i h0 h1 h2 h3
     obtain ⟨el,hu,Wi,dS⟩:=Vk h0
     have bQ:∀ x lo hi,(Instr.sliceAt t x lo hi none).run P w=(Instr.slice t x lo hi none).run P w:=fun x lo hi=>by simp [Instr.sliceAt,run_underlying hu]
     rw [h1,h2,h3,bQ,run_slice_lh (w:=w) t _ _ _ Wi _ _ _ _ hb.1 hb.2.1 hb.2.2,dS]
     simp only [Result.andThen_ok,sliced,kF]
    ·rename_i h0 h1 h2 h3
     obtain ⟨el,hu,Wi,dS⟩:=Vk h0
     have bQ:∀ x lo hi,(Instr.sliceAt t x lo hi none).run P w=(Instr.slice t x lo hi none).run P w:=fun x lo hi=>by simp [Instr.sliceAt,run_underlying hu]
     rw [h1,h2,h3,bQ,run_slice_l (w:=w) t _ _ _ Wi _ _ hb.1 hb.2.1,dS]
     simp only [Result.andThen_ok,sliced,kF]
    ·rename_i h0 h1 h2 h3
     obtain ⟨el,hu,Wi,dS⟩:=Vk h0
     have bQ:∀ x lo hi,(Instr.sliceAt t x lo hi none).run P w=(Instr.slice t x lo hi none).run P w:=fun x lo hi=>by simp [Instr.sliceAt,run_underlying hu]
     rw [h1,h2,h3,bQ,run_slice_h (w:=w) t _ _ _ Wi _ _ hb.1 hb.2,dS]
     simp only [Result.andThen_ok,sliced,kF,Nat.sub_zero]
  simp only [execOp,dZ,Sem.run_bind,Option.map_none,wN]
  rfl
 ·rename_i t x dZ
  obtain ⟨bs,hi⟩:=hw (by rw [dZ];rfl)
  unfold pF at hv
  split at hv
  ·rename_i n z a tX ha
   obtain ⟨i,d,lm,hd,hz,hg,hn⟩:=lY tX
   simp only [execOp,dZ,Instr.loadAt,ha,Instr.sureAddr,loadVar]
   simp [jL hd,hg,hi.cell hv]
  ·rename_i n z a tX ha
   obtain ⟨i,d,lm,hd,hz,hg,hn⟩:=lY tX
   obtain ⟨cs,fS,rfl⟩:=Option.map_eq_some_iff.1 hv
   obtain ⟨hl,hc⟩:=iS _ _ _ (hi.cells _ _ _ fS)
   have:=run_loadCells_list (P:=P) (w:=w) a cs (fun j v hj=>by simpa using hc j v hj)
   rw [hl] at this
   simp only [execOp,dZ,Instr.loadAt,ha,Instr.sureAddr,loadVar]
   simp [jL hd,hg,Go.sizeOf,typeInfo,lm,hn,this]
  ·cases hv
 ·rename_i t x i dZ
  simp only [execOp,dZ,Sem.run_bind,ZK hv]
  rfl
 ·rename_i args argTypes dZ
  split at hv
  ·rename_i x t hx ht
   have nS:args= #[x]:=by apply Array.toList_inj.1;simpa using hx
   have Jm:argTypes= #[t]:=by apply Array.toList_inj.1;simpa using ht
   subst nS Jm
   simp only [execOp,dZ,resolve,invoke,builtin]
   unfold Mt at hv
   split at hv
   ·rename_i s iX oS
    injection hv with hv;subst hv
    unfold cF at iX
    split at iX
    ·rename_i hu
     simp [Builtin.len_,run_underlying hu,oS,goInt]
    ·cases iX
   ·rename_i a n cp iX oS
    split at hv
    ·rename_i Ft
     injection hv with hv;subst hv
     unfold dH at Ft
     split at Ft
     ·rename_i el hu
      simp [Builtin.len_,run_underlying hu,oS,goInt]
     ·cases Ft
    ·cases hv
   ·cases hv
  ·cases hv
 ·rename_i args argTypes dZ
  split at hv
  ·rename_i x t hx ht
   have nS:args= #[x]:=by apply Array.toList_inj.1;simpa using hx
   have Jm:argTypes= #[t]:=by apply Array.toList_inj.1;simpa using ht
   subst nS Jm
   simp only [execOp,dZ,resolve,invoke,builtin]
   unfold Wo at hv
   split at hv
   ·rename_i a n cp oS
    split at hv
    ·rename_i Ft
     injection hv with hv;subst hv
     unfold dH at Ft
     split at Ft
     ·rename_i el hu
      simp [Builtin.cap_,run_underlying hu,oS,goInt]
     ·cases Ft
    ·cases hv
   ·cases hv
  ·cases hv
 ·cases hv
theorem tF {P:Program}{o:Oper}{e:dp}{h:Sh}{v:Value}(hv:pv P e h o.op=some v){c:Ctx}{w:World}(hw:Is c h w):
 (execOp (ev e) o).run P w=.ok (.value v) w:=B9 hv fun _=>hw
def fO (h h':Sh):Prop:=∀ a v,h.cell a=some v ->h'.cell a=some v
theorem fO.refl (h:Sh):fO h h:=fun _ _ hv=>hv
theorem fO.trans {a b c:Sh}(h:fO a b)(h':fO b c):fO a c:=fun x v hv=>h' x v (h x v hv)
theorem fO.cells {h h':Sh}(hs:fO h h'){a:Addr}:∀ {n i cs},h.cells a i n=some cs ->h'.cells a i n=some cs:=by
 intro n
 induction n with
 | zero=>intro i cs hc;exact hc
 | succ n ih=>
  intro i cs hc
  unfold Sh.cells qB at hc ⊢
  split at hc
  ·rename_i v l hv hl
   rw [hs _ _ hv,ih hl]
   exact hc
  ·cases hc
theorem WM {P:Program}{e:dp}{h h':Sh}{op:Op}{v:Value}(hv:pv P e h op=some v)(hs:NJ P op=true ->fO h h'):pv P e h' op=some v:=by
 unfold pv at hv ⊢
 split at hv<;>first | exact hv | skip
 ·unfold vp at hv ⊢
  split at hv
  ·exact hv
  ·split at hv
   ·rename_i hb
    have hs:=hs hb
    rw [if_pos hb]
    unfold aan at hv ⊢
    split at hv
    ·exact hv
    ·obtain ⟨cs,fS,hv⟩:=Option.bind_eq_some_iff.1 hv
     rw [hs.cells fS]
     exact hv
    ·cases hv
   ·cases hv
  ·cases hv
 rename_i t x
 have hs:=hs rfl
 unfold pF at hv ⊢
 split at hv
 ·exact hs _ _ hv
 ·obtain ⟨cs,fS,rfl⟩:=Option.map_eq_some_iff.1 hv
  simp only [hs.cells fS,Option.map_some]
 ·cases hv
structure KontL where
 nrm:dp ->List Deferred ->Sh ->Prop
 exi:Nat ->dp ->List Deferred ->Sh ->Prop
 ret:dp ->List Deferred ->Sh ->Prop
 pan:List PanicEntry ->dp ->List Deferred ->Sh ->Prop
def bf (b:Nat):List (Nat×List Value) ->Prop
 | []=>True
 | (k,_)::l=>(b≠k/\k≠b)/\bf b l
theorem iJ {b:Nat}:∀ {L:List (Nat×List Value)},b∉L.map (·.1) ->bf b L
 | [],_=>trivial
 | (k,_)::l,hb=>by
  simp only [List.map_cons,List.mem_cons,not_or] at hb
  exact ⟨⟨hb.1,Ne.symm hb.1⟩,iJ hb.2⟩
def Hi (cs:List Value)(h:Sh)(k:Nat ->Sh ->Prop):Prop:=
 ∀ b,h.M b=none ->bf b h.L ->k b {h with L:=(b,cs)::h.L}
def PN (t:TypeId)(cs:List Value)(h:Sh)(k:Nat ->Sh ->Prop):Prop:=
 ∀ b T,h.M b=none ->bf b h.L ->aF h.N T ->T b=some t ->k b {h with N:=T,L:=(b,cs)::h.L}
def UP (P:Program)(f:FuncId)(args:List Value)(h:Sh)(k:Value ->Sh ->Prop)(pan:List PanicEntry ->Sh ->Prop):Prop:=
 dm P f=true/\∀ c w,Is c h w ->Calls P f args.toArray w fun
  | .returned v,w'=>∃ h',Is c h' w'/\k v h'
  | .panicked ch,w'=>∃ h',Is c h' w'/\pan ch h'
  | .outgrown,_=>False
def afS (P:Program)(op:Sem Value)(h:Sh)(k:Value ->Prop):Prop:=
 ∃ v,(∀ c w,Is c h w ->op.run P w=.ok v w)/\k v
inductive Srcs (P:Program) (tx:TypeId) (sz:Nat) (h:Sh):Value ->List Value ->Prop
 | slice (a n c news e'):P.underlying tx=some (.slice e') ->h.cells a 0 (n*sz)=some news ->(∀ u∈news,u.oneCell'=true) ->Srcs P tx sz h (.slice (some a) n c) news
 | nil (c e'):P.underlying tx=some (.slice e') ->Srcs P tx sz h (.slice none 0 c) []
 | str (s):sz=1 ->P.underlying tx=some .string ->Srcs P tx sz h (.string s) (byteCells s)
def j8 (P:Program)(t:TypeId):Bool:=match dR P t with
 | some (e,_,_)=>match P.info? e with | some i=>decide (i.bytes<=24*i.size) && decide (i.bytes<=4096) | none=>false
 | none=>false
def adv (P:Program)(t tx:TypeId)(x y:Value)(h:Sh)(k:Value ->Sh ->Prop):Prop:=
 ∃ e sz z n ik,dR P t=some (e,sz,z)/\j8 P t=true/\P.underlying tx=some (.int ik)/\x=.slice none 0 0/\y=.int .i64 ((n:Nat):Int)/\0<n/\n<=4294967296/\
  ∀ a c zs,zs.length=n*sz ->n<=c ->k (.slice a n c) {h with R:=(.slice a n c,e,sz,zs)::h.R}
def ME (x:Value)(e:TypeId)(sz:Nat)(xs:List Value)(h:Sh)(L':List (Nat×List Value)):Prop:=
 (x=.slice none 0 0/\xs=[]/\L'=h.L)\/
 (∃ g n cap junk L1 L2,x=.slice (some ⟨g,0,none⟩) n cap/\h.N g=some e/\h.L=L1++(g,xs++junk)::L2/\L'=L1++L2/\xs.length=n*sz/\(xs++junk).length=cap*sz/\n<=cap)
def KK (P:Program)(t tx:TypeId)(x y:Value)(h:Sh)(k:Value ->Sh ->Prop):Prop:=adv P t tx x y h k\/
 ∃ e sz z news,dR P t=some (e,sz,z)/\j8 P t=true/\Srcs P tx sz h y news/\
  ((∃ j xs,h.R[j]?=some (x,e,sz,xs)/\xs.length+news.length<=4398046511104/\∀ a m c,m*sz=xs.length+news.length ->k (.slice a m c) {h with R:=h.R.set j (.slice a m c,e,sz,xs++news)})\/
   (x=.slice none 0 0/\news.length<=4398046511104/\∀ a m c,m*sz=news.length ->k (.slice a m c) {h with R:=(.slice a m c,e,sz,news)::h.R})\/
   (∃ a n xs,x=.slice (some a) n n/\h.cells a 0 (n*sz)=some xs/\0<news.length/\xs.length+news.length<=4398046511104/\∀ a m c,m*sz=xs.length+news.length ->k (.slice a m c) {h with R:=(.slice a m c,e,sz,xs++news)::h.R})\/
   (∃ b o n c,x=.slice (some ⟨b,o,none⟩) n c/\n<=c/\news=[]/\k x h)\/
   (∃ a n xs,x=.slice (some a) n n/\h.cells a 0 (n*sz)=some xs/\0<news.length/\xs.length+news.length<=4398046511104/\∀ g m c junk,h.M g=none ->bf g h.L ->m*sz=xs.length+news.length ->m<=c ->(xs++news++junk).length=c*sz ->
    k (.slice (some ⟨g,0,none⟩) m c) {h with L:=(g,xs++news++junk)::h.L})\/
   (∃ xs L',ME x e sz xs h L'/\Srcs P tx sz {h with L:=L'} y news/\0<news.length/\xs.length+news.length<=4398046511104/\∀ N' g m c junk,aF h.N N' ->N' g=some e ->h.M g=none ->bf g L' ->m*sz=xs.length+news.length ->m<=c ->(xs++news++junk).length=c*sz ->
    k (.slice (some ⟨g,0,none⟩) m c) {h with N:=N',L:=(g,xs++news++junk)::L'}))
def H6 (P:Program)(t:TypeId):Option IntKind:=match P.underlying t with
 | some (.map kt _)=>match P.underlying kt with | some (.int K)=>some K | _=>none
 | _=>none
def lA (K:IntKind)(n:Int):List Value ->Bool
 | .int k a::_::r=>decide (k=K) && !decide (a=n) && lA K n r
 | []=>true
 | _=>false
def tp (K:IntKind)(n:Int):List Value ->Option Value
 | .int k a::v::r=>if k=K then (if a=n then some v else tp K n r) else none
 | _=>none
def Cy (x y:Value):Option Value:=match x,y with
 | .int k a,.int k' b=>if k=k' then some (.int k (if b<a then b else a)) else none
 | _,_=>none
theorem PP {P:Program}{x y v:Value}{w:World}(h:Cy x y=some v):(Builtin.min2 x y).run P w=.ok v w:=by
 unfold Cy at h
 split at h
 ·rename_i k a k' b
  split at h
  ·rename_i hk
   subst hk
   injection h with h
   subst h
   simp [Builtin.min2]
  ·cases h
 ·cases h
def Dd (x y:Value):Option Value:=match x,y with
 | .int k a,.int k' b=>if k=k' then some (.int k (if b>a then b else a)) else none
 | _,_=>none
theorem Q4 {P:Program}{x y v:Value}{w:World}(h:Dd x y=some v):(Builtin.max2 x y).run P w=.ok v w:=by
 unfold Dd at h
 split at h
 ·rename_i k a k' b
  split at h
  ·rename_i hk
   subst hk
   injection h with h
   subst h
   simp [Builtin.max2]
  ·cases h
 ·cases h
def xMk (l c:Value)(k:Nat ->Prop):Prop:=match l,c with
 | .int _ n,.int _ m=>n=m/\0<=n/\k n.toNat
 | _,_=>False
def VV (K:Option IntKind)(m k x:Value)(h:Sh)(next:Sh ->Prop):Prop:=match K,k,h.R with
 | some K,.int K' n,(.map (some g),t',sz,xs)::rest=>(m=.map (some g)/\K'=K/\sz=0/\lA K n xs=true)/\next {h with R:=(.map (some g),t',sz,xs++[.int K' n,x])::rest}
 | _,_,_=>False
def KL (K:Option IntKind)(m k:Value)(h:Sh)(next:Value ->Prop):Prop:=match K,k,h.R with
 | some K,.int K' n,(.map (some g),_,sz,xs)::_=>(m=.map (some g)/\K'=K/\sz=0)/\dU (tp K n xs) next
 | _,_,_=>False
theorem qd {K:IntKind}{n:Int}:∀ (es:List MapEntry) (xs:List Value) (i:Nat),es.flatMap (fun x=>[x.key,x.val])=xs ->lA K n xs=true ->Instr.findNow (.int K) (.int K n) es i=some none
 | [],xs,i,h,ha=>by simp [Instr.findNow]
 | e::es,xs,i,h,ha=>by
  subst h
  simp only [List.flatMap_cons,nn] at ha
  cases hk:e.key with
  | int k a=>
   rw [hk] at ha
   simp only [lA,Bool.and_eq_true,decide_eq_true_eq,Bool.not_eq_true',decide_eq_false_iff_not] at ha
   obtain ⟨⟨h1,h2⟩,h3⟩:=ha
   subst h1
   have cu:(n==a)=false:=by simp;exact fun h=>h2 h.symm
   simp only [Instr.findNow,hk,Instr.sameNow,if_true,cu]
   exact qd es _ _ rfl h3
  | _=>rw [hk] at ha;cases ha
theorem wr {K:IntKind}{n:Int}{u:Value}:∀ (es:List MapEntry) (xs:List Value) (i:Nat),es.flatMap (fun x=>[x.key,x.val])=xs ->tp K n xs=some u ->∃ j,Instr.findNow (.int K) (.int K n) es i=some (some (j,u))
 | [],xs,i,h,ha=>by subst h;cases ha
 | e::es,xs,i,h,ha=>by
  subst h
  simp only [List.flatMap_cons,nn] at ha
  cases hk:e.key with
  | int k a=>
   rw [hk] at ha
   simp only [tp] at ha
   split at ha
   ·rename_i h1
    subst h1
    split at ha
    ·rename_i h2
     subst h2
     injection ha with ha
     exact ⟨i,by simp [Instr.findNow,hk,Instr.sameNow,ha]⟩
    ·rename_i h2
     have cu:(n==a)=false:=by simp;exact fun h=>h2 h.symm
     obtain ⟨j,hj⟩:=wr es _ (i+1) rfl ha
     exact ⟨j,by simp only [Instr.findNow,hk,Instr.sameNow,if_true,cu];exact hj⟩
   ·cases ha
  | _=>rw [hk] at ha;cases ha
theorem zu {P:Program}{t:TypeId}{K:IntKind}(h:H6 P t=some K):∃ kt et,P.underlying t=some (.map kt et)/\P.underlying kt=some (.int K):=by
 unfold H6 at h
 split at h
 ·rename_i kt et hu
  split at h
  ·rename_i K' hk
   injection h with h
   exact ⟨kt,et,hu,by rw [hk,h]⟩
  ·cases h
 ·cases h
theorem Wu {P:Program}{t kt et:TypeId}{K:IntKind}{n:Int}{val:Value}{r:Nat}{w:World}{es:Array MapEntry}{clock:Nat}(hm:P.underlying t=some (.map kt et))(hk:P.underlying kt=some (.int K))(hb:w.heap[r]?=some (.map es clock))
 (hf:Instr.findNow (.int K) (.int K n) es.toList 0=some none):
 (Instr.mapUpdate t (.map (some r)) (.int K n) val).run P w=.ok () {w with heap:=w.heap.setIfInBounds r (.map (es.push {key:=.int K n,val:=val,born:=clock}) (clock+1))}:=by
 have hc:(Instr.checkKey false 10000 kt (.int K n)).run P w=.ok () w:=MapKept.run_checkKey (k:=.int K n) hk (by simp [MapKept.IsKey]) false 9999
 simp [Instr.mapUpdate,run_underlying hm,MapKept.run_getObj_map hb,hc,MapKept.run_findKey hk hf,MapKept.run_setObj_map _ hb,Result.andThen]
theorem TI {P:Program}{t kt et:TypeId}{K:IntKind}{n:Int}{u:Value}{r j:Nat}{w:World}{es:Array MapEntry}{clock:Nat}(hm:P.underlying t=some (.map kt et))(hk:P.underlying kt=some (.int K))(hb:w.heap[r]?=some (.map es clock))
 (hf:Instr.findNow (.int K) (.int K n) es.toList 0=some (some (j,u))):
 (Instr.lookup t (.map (some r)) (.int K n) false).run P w=.ok u w:=by
 have hc:(Instr.checkKey es.isEmpty 10000 kt (.int K n)).run P w=.ok () w:=MapKept.run_checkKey (k:=.int K n) hk (by simp [MapKept.IsKey]) _ 9999
 simp [Instr.lookup,run_underlying hm,MapKept.run_getObj_map hb,hc,MapKept.run_findKey hk hf,Result.andThen]
def uJ:List (Nat×List Value) ->Nat ->Nat ->List Value ->Option (List (Nat×List Value))
 | [],_,_,_=>none
 | (b,cs)::l,k,i,vs=>if k=b then (if i+vs.length<=cs.length then some ((b,pj cs i vs)::l) else none) else (uJ l k i vs).map ((b,cs):: ·)
theorem H4 (b:Nat)(l:List (Nat×List Value))(vs:List Value):∀ (i:Nat) (cs:List Value),vE ((b,cs)::l) b i vs=(b,pj cs i vs)::l:=by
 induction vs with
 | nil=>intro i cs;rfl
 | cons v vs ih=>intro i cs;simp only [vE,sI,if_true,pj];exact ih _ _
theorem JI (b:Nat)(k:Nat)(hb:k≠b)(cs:List Value)(vs:List Value):∀ (i:Nat) (l:List (Nat×List Value)),vE ((b,cs)::l) k i vs=(b,cs)::vE l k i vs:=by
 induction vs with
 | nil=>intro i l;rfl
 | cons v vs ih=>intro i l;simp only [vE,sI,if_neg hb];exact ih _ _
theorem O3 {k i:Nat}{vs:List Value}:∀ {L L':List (Nat×List Value)},uJ L k i vs=some L' ->L'=vE L k i vs/\∃ cs,(k,cs)∈L/\i+vs.length<=cs.length:=by
 intro L
 induction L with
 | nil=>intro L' h;cases h
 | cons p l ih=>
  obtain ⟨b,cs⟩:=p
  intro L' h
  unfold uJ at h
  split at h
  ·rename_i hk
   subst hk
   split at h
   ·rename_i hl
    injection h with h
    subst h
    exact ⟨(H4 _ _ _ _ _).symm,cs,by simp,hl⟩
   ·cases h
  ·rename_i hk
   obtain ⟨l',jm,rfl⟩:=Option.map_eq_some_iff.1 h
   obtain ⟨h1,cs',h2,h3⟩:=ih jm
   exact ⟨by rw [JI _ _ hk,h1],cs',wU h2,h3⟩
def LG (v:Value):Bool:=match v with | .iface _ _=>true | _=>false
def KQ (P:Program)(src t:TypeId)(x:Value)(h:Sh)(k:Value ->Sh ->Prop):Prop:=match Vq P src t with
 | 1=>(match x with
  | .string s=>∀ b c junk,h.M b=none ->bf b h.L ->k (.slice (some ⟨b,0,none⟩) s.size c) {h with M:=h.M.add b (s.data.toList.map (fun b=>Value.int .u8 b.toNat)++junk)}
  | _=>False)
 | 2=>(match x,h.L with
  | .slice (some ⟨b,0,none⟩) n c,(b',cs)::L=>b=b'/\(bf b L ->k x {h with M:=h.M.add b cs,L:=L})
  | _,_=>False)
 | _=>dU (vp P h src t x) fun v=>k v h
def ZL (P:Program)(t:TypeId)(x:Value)(h:Sh)(k:Value ->Sh ->Prop):Prop:=cF P t=true/\(match x with
 | .string s=>∀ g,k (.pointer (some ⟨g,0,none⟩)) {h with R:=(.pointer (some ⟨g,0,none⟩),t,0,[.string s,.int .i64 ((0:Nat):Int)])::h.R}
 | _=>False)
def Zb (it:Value)(h:Sh)(k:Value ->Sh ->Prop):Prop:=match it,h.R with
 | .pointer (some ⟨g,0,none⟩),(.pointer (some ⟨g',0,none⟩),t,sz,[.string s,.int .i64 pos])::R=>(g=g'/\sz=0)/\
  (if pos.toNat<s.size then k (.tuple #[.bool true,.int .i64 pos,.int .i32 ((Utf8.decode s pos.toNat).1:Nat)]) {h with R:=(.pointer (some ⟨g,0,none⟩),t,0,[.string s,.int .i64 ((pos.toNat+(Utf8.decode s pos.toNat).2:Nat):Int)])::R}
   else k (.tuple #[.bool false]) h)
 | _,_=>False
theorem Hp.keepsBut {c N M L R w w' bs g}(hi:Hp c ⟨N,M,L,R⟩ w bs)(hgU:g∈c.U\/c.w0.heap.size<=g)(L8:M g=none)(Po:g∉L.map (·.1))(hgR:g∉bs.filterMap id)
 (k1:w'.os=w.os) (k2:w'.tape=w.tape) (k3:w'.output=w.output) (k4:w.heap.size<=w'.heap.size) (k5:∀ b,b≠g ->b<w.heap.size ->w'.heap[b]?=w.heap[b]?):Hp c ⟨N,M,L,R⟩ w' bs where
 typ:=fun b u hu=>by
  obtain ⟨aL,hc⟩:=hi.typ b u hu
  refine ⟨by omega,fun hb=> ?_⟩
  obtain ⟨cs',f,hc⟩:=hc hb
  exact ⟨cs',f,by rw [k5 b (by rintro rfl;exact Po hb) (fD hc)];exact hc⟩
 holds:=fun b x hb=>by
  have:=hi.holds.lt hb
  obtain ⟨t,f,ht⟩:=hi.holds _ _ hb
  exact ⟨t,f,by rw [k5 b (by rintro rfl;simp only [] at hb;rw [L8] at hb;cases hb) this];exact ht⟩
 blk:=fun b x hb=>by
  have h2:=hi.blk _ _ hb
  have hl:=h2.lt
  obtain ⟨t,ht⟩:=h2
  exact ⟨t,by rw [k5 b (by rintro rfl;exact Po (List.mem_map.2 ⟨_,hb,rfl⟩)) hl];exact ht⟩
 rows:=⟨hi.rows.1,fun i v e sz xs o h1 h2=>(hi.rows.2 i v e sz xs o h1 h2).keep fun q hq=>by
  subst hq
  refine k5 q ?_ (hi.rows.2 i v e sz xs _ h1 h2).lt
  rintro rfl
  exact hgR (List.mem_filterMap.2 ⟨some q,List.mem_of_getElem? h2,rfl⟩)⟩
 nodup:=hi.nodup
 apart:=hi.apart
 os:=k1.trans hi.os
 tape:=k2.trans hi.tape
 output:=k3.trans hi.output
 size:=Nat.le_trans hi.size k4
 old:=fun b hb hu=>by
  rw [k5 b (by rintro rfl;rcases hgU with h | h;exact hu h;omega) (Nat.lt_of_lt_of_le hb hi.size)];exact hi.old b hb hu
 mem:=hi.mem
 le:=hi.le
theorem Hp.addM {c N M L R w bs g cs t f}(hi:Hp c ⟨N,M,L,R⟩ w bs)(hg:w.heap[g]?=some (.cells cs t f))(hU:g∈c.U\/c.w0.heap.size<=g)(hM:M g=none)(hL:g∉L.map (·.1))(hR:g∉bs.filterMap id):Hp c ⟨N,M.add g cs.toList,L,R⟩ w bs where
 typ:=hi.typ
 holds:=fun b x hb=>by
  have lh:aS.add M g cs.toList b=some x:=hb
  clear hb
  unfold aS.add at lh
  split at lh
  ·rename_i Pq
   subst Pq
   injection lh with lh;subst lh
   exact ⟨t,f,[],by simpa using hg,.inl rfl⟩
  ·exact hi.holds _ _ lh
 blk:=hi.blk
 rows:=hi.rows
 nodup:=hi.nodup
 apart:=fun b hb=>by
  refine ⟨?_,(hi.apart b hb).2⟩
  show aS.add M g cs.toList b=none
  unfold aS.add
  rw [if_neg]
  ·exact (hi.apart b hb).1
  ·rintro rfl
   rcases wZ hb with hb | hb
   ·exact hL hb
   ·exact hR hb
 os:=hi.os
 tape:=hi.tape
 output:=hi.output
 size:=hi.size
 old:=hi.old
 mem:=fun b hb hu=>by
  show aS.add M g cs.toList b=_
  unfold aS.add
  rw [if_neg]
  ·exact hi.mem b hb hu
  ·rintro rfl
   rcases hU with h | h
   ·exact hu h
   ·omega
 le:=fun b x hb=>by
  have h1:M b=some x:=hi.le b x hb
  show aS.add M g cs.toList b=some x
  unfold aS.add
  rw [if_neg]
  ·exact h1
  ·rintro rfl;rw [hM] at h1;cases h1
theorem aeO {P:Program}{src t:TypeId}(h:Vq P src t=1):P.underlying src=some .string/\∃ el,P.underlying t=some (.slice el)/\P.underlying el=some (.int .u8):=by
 unfold Vq at h
 split at h
 ·rename_i e h1 h2
  split at h
  ·rename_i h3;exact ⟨h1,e,h2,h3⟩
  ·cases h
 ·split at h
  ·split at h<;>cases h
  ·cases h
 ·cases h
theorem adY {P:Program}{src t:TypeId}(h:Vq P src t=2):src=t/\∃ el,P.underlying t=some (.slice el)/\P.underlying el=some (.int .u8):=by
 unfold Vq at h
 split at h
 ·split at h<;>cases h
 ·rename_i e e' h1 h2
  split at h
  ·rename_i h3
   split at h
   ·rename_i h4
    subst h3
    exact ⟨rfl,e,h1,h4⟩
   ·cases h
  ·cases h
 ·cases h
theorem Ax {P:Program}{w:World}{g pos:Nat}{s:ByteArray}{ty:TypeId}(hg:w.heap[g]?=some (.stringIter s pos)):
 (Instr.next (.pointer (some ⟨g,0,none⟩)) true ty).run P w=if pos<s.size then .ok (.tuple #[.bool true,.int .i64 (pos:Int),.int .i32 ((Utf8.decode s pos).1:Nat)]) {w with heap:=w.heap.setIfInBounds g (.stringIter s (pos+(Utf8.decode s pos).2))} else .ok (.tuple #[.bool false]) w:=by
 by_cases hp:pos<s.size
 ·simp [Instr.next,getObj,setObj,Sem.run,hg,hp,Result.andThen,goInt]
 ·simp [Instr.next,getObj,Sem.run,hg,hp]
theorem Hp.grown {c h w bs w' cs t f}(hi:Hp c h w bs)(k1:w'.os=w.os)(k2:w'.tape=w.tape)(k3:w'.output=w.output)(k4:w'.heap.size=w.heap.size+1)(k5:∀ b,b<w.heap.size ->w'.heap[b]?=w.heap[b]?)(k6:w'.heap[w.heap.size]?=some (.cells cs t f)):
 Hp c {h with M:=h.M.add w.heap.size cs.toList} w' bs where
 typ:=fun b u hu=>by
  obtain ⟨aL,hc⟩:=hi.typ b u hu
  refine ⟨by omega,fun hb=> ?_⟩
  obtain ⟨cs',f,hc⟩:=hc hb
  exact ⟨cs',f,by rw [k5 b (fD hc)];exact hc⟩
 holds:=fun b x hb=>by
  have lh:aS.add h.M w.heap.size cs.toList b=some x:=hb
  clear hb
  unfold aS.add at lh
  split at lh
  ·rename_i Pq
   subst Pq
   injection lh with lh;subst lh
   exact ⟨t,f,[],by simpa using k6,.inl rfl⟩
  ·have:=hi.holds.lt lh
   obtain ⟨t,f,ht⟩:=hi.holds _ _ lh
   exact ⟨t,f,by rw [k5 b this];exact ht⟩
 blk:=fun b x hb=>by
  have h2:=hi.blk _ _ hb
  have hl:=h2.lt
  obtain ⟨t,ht⟩:=h2
  exact ⟨t,by rw [k5 b hl];exact ht⟩
 rows:=⟨hi.rows.1,fun i v e sz xs o h1 h2=>(hi.rows.2 i v e sz xs o h1 h2).keep fun q hq=>by
  subst hq
  exact k5 q (hi.rows.2 i v e sz xs _ h1 h2).lt⟩
 nodup:=hi.nodup
 apart:=fun b hb=>by
  have h1:=hi.apart b hb
  have aL:=hi.own_lt hb
  refine ⟨?_,h1.2⟩
  show aS.add h.M w.heap.size cs.toList b=none
  unfold aS.add
  rw [if_neg (by omega)]
  exact h1.1
 os:=k1.trans hi.os
 tape:=k2.trans hi.tape
 output:=k3.trans hi.output
 size:=by have:=hi.size;omega
 old:=fun b hb hu=>by rw [k5 b (Nat.lt_of_lt_of_le hb hi.size)];exact hi.old b hb hu
 mem:=fun b hb hu=>by
  have:=hi.size
  show aS.add h.M w.heap.size cs.toList b=_
  unfold aS.add
  rw [if_neg (by omega)]
  exact hi.mem b hb hu
 le:=fun b x hb=>by
  have h1:=hi.le b x hb
  have h2:=hi.holds.lt h1
  show aS.add h.M w.heap.size cs.toList b=some x
  unfold aS.add
  rw [if_neg (by omega)]
  exact h1
def Ho (P:Program)(K:KontL)(o:Oper)(e:dp)(ds:List Deferred)(h:Sh)(next:Value ->List Deferred ->Sh ->Prop):Prop:=
 match o.op with
 | .box t x=>PN t (ev e x).cells.toList h fun b h'=>next (.pointer (some ⟨b,0,none⟩)) ds h'
 | .alloc t=>dU (tk P t) fun (_,_,z)=>PN t z.cells.toList h fun b h'=>next (.pointer (some ⟨b,0,none⟩)) ds h'
 | .buildSlice t n parts=>dU (dR P t) fun (_,sz,z)=>n*sz<=16777216/\
  dU (E7 sz z n (parts.toList.map fun x=>(x.1,(ev e x.2).cells.toList))) fun cs=>Hi cs h fun b h'=>next (.slice (some ⟨b,0,none⟩) n n) ds h'
 | .store t x y=>dU (tk P t) fun (_,n,_)=>AH (ev e x) fun a=>
  ((ev e y).cells.toList.length=n/\a.spot=none/\(ev e y).cells.toList.all (·.oneCell')=true)/\
  dU (uJ h.L a.block a.off (ev e y).cells.toList) fun L'=>next undef ds {h with L:=L'}
 | .call {callee:=.value f,args,..}=>xFn (ev e f) fun g first cap=>
  UP P g (first++args.toList.map (ev e)++cap) h (fun v h'=>next v ds h') (fun ch h'=>K.pan ch e ds h')
 | .call {callee:=.builtin .append,args,argTypes}=>match args.toList,argTypes.toList with
  | [x,y],[t,tx]=>KK P t tx (ev e x) (ev e y) h fun v h'=>next v ds h'
  | _,_=>False
 | .defer {callee:=.value f,args,..}=>match ev e f with
  | .func fn first captured=>next undef ({target:=.fn fn captured,args:=first++args.map (ev e)}::ds) h
  | _=>False
 | .binOp op t x y _=>match iD P op t (ev e x) (ev e y) with
  | some v=>next v ds h
  | none=>afS P (do eqGuard op t x y (ev e x) (ev e y);binOp op t (ev e x) (ev e y)) h fun v=>next v ds h
 | .panic x=>LG (ev e x)=true/\K.pan [{v:=ev e x,recovered:=false}] e ds h
 | .call {callee:=.builtin .min,args,..}=>match args.toList with
  | [x,y]=>dU (Cy (ev e x) (ev e y)) fun v=>next v ds h
  | _=>False
 | .call {callee:=.builtin .max,args,..}=>match args.toList with
  | [x,y]=>dU (Dd (ev e x) (ev e y)) fun v=>next v ds h
  | _=>False
 | .makeSlice t l c=>dU (dR P t) fun (_,_,z)=>j8 P t=true/\xMk (ev e l) (ev e c) fun n=>n<=4294967296/\
  Hi ((List.range n).flatMap fun _=>z) h fun b h'=>next (.slice (some ⟨b,0,none⟩) n n) ds h'
 | .makeMap t none=>∀ g,next (.map (some g)) ds {h with R:=(.map (some g),t,0,[])::h.R}
 | .insert t m k x=>VV (H6 P t) (ev e m) (ev e k) (ev e x) h fun h'=>next undef ds h'
 | .lookup t m k false=>KL (H6 P t) (ev e m) (ev e k) h fun v=>next v ds h
 | .convert src t x=>KQ P src t (ev e x) h fun v h'=>next v ds h'
 | .range t x=>ZL P t (ev e x) h fun v h'=>next v ds h'
 | .next it true=>Zb (ev e it) h fun v h'=>next v ds h'
 | op=>dU (pv P e h op) fun v=>next v ds h
def KontL.toK (K:KontL)(c:Ctx):Kont where
 nrm:=fun e ds w=>∃ h,Is c h w/\K.nrm e ds h
 exi:=fun i e ds w=>∃ h,Is c h w/\K.exi i e ds h
 ret:=fun e ds w=>∃ h,Is c h w/\K.ret e ds h
 pan:=fun ch e ds w=>∃ h,Is c h w/\K.pan ch e ds h
theorem Hp.addNil {c h w bs e sz}(hi:Hp c h w bs):Hp c {h with R:=(.slice none 0 0,e,sz,[])::h.R} w (none::bs) where
 typ:=hi.typ
 holds:=hi.holds
 blk:=hi.blk
 rows:=by
  refine ⟨by simp [hi.rows.1],?_⟩
  intro i v e sz xs o h1 h2
  cases i with
  | zero=>
   simp at h1 h2
   obtain ⟨rfl,rfl,rfl,rfl⟩:=h1
   subst h2
   exact .inl ⟨rfl,rfl,rfl⟩
  | succ i=>exact hi.rows.2 i v e sz xs o (by simpa using h1) (by simpa using h2)
 nodup:=hi.nodup
 apart:=hi.apart
 os:=hi.os
 tape:=hi.tape
 output:=hi.output
 size:=hi.size
 old:=hi.old
 mem:=hi.mem
 le:=hi.le
theorem Srcs.rows {P:Program}{tx sz h y news}(R':List (Value×TypeId×Nat×List Value))(hs:Srcs P tx sz h y news):Srcs P tx sz {h with R:=R'} y news:=by
 cases hs with
 | slice a n cc _ e' hu hc h1=>
  refine .slice a n cc _ e' hu ?_ h1
  have:∀ n i,Sh.cells {h with R:=R'} a i n=h.cells a i n:=by
   intro n
   induction n with
   | zero=>intro i;rfl
   | succ n ih=>intro i;unfold Sh.cells;rw [ih];rfl
  rw [this];exact hc
 | nil cc e' hu=>exact .nil cc e' hu
 | str s h1 hu=>exact .str s h1 hu
theorem Srcs.more {P:Program}{tx sz h y news el sz'}(hs:Srcs P tx sz h y news):Srcs P tx sz {h with R:=(Value.slice none 0 0,el,sz',[])::h.R} y news:=hs.rows _
theorem Srcs.src {P:Program}{tx sz h y news}(hs:Srcs P tx sz h y news){c w bs}(hi:Hp c h w bs):∃ m,Src P sz tx y m news w:=by
 cases hs with
 | slice a n cc _ e' hu hc h1=>
  obtain ⟨hl,hcc⟩:=iS _ _ _ (hi.cells _ _ _ hc)
  exact ⟨n,Src.ofSlice w hu a n cc news hl (fun j u hj=>by simpa using hcc j u hj) h1⟩
 | nil cc e' hu=>exact ⟨0,Src.ofNil w hu cc⟩
 | str s h1 hu=>subst h1;exact ⟨s.size,Src.ofString w hu s⟩
theorem vZ {P:Program}{t tx ty:TypeId}{e sz z}{c h w bs j v xs o y news}(ht:dR P t=some (e,sz,z))(cB:j8 P t=true)(hs:Srcs P tx sz h y news)
 (hi:Hp c h w bs) (hj:h.R[j]?=some (v,e,sz,xs)) (ho:bs[j]?=some o) (hb:xs.length+news.length<=4398046511104):
 ∃ v' w' bs',(Builtin.append_ #[t,tx] ty #[v,y]).run P w=.ok v' w'/\Hp c {h with R:=h.R.set j (v',e,sz,xs++news)} w' bs'/\∀ g n k,v'=.slice (some ⟨g,0,none⟩) n k ->o=some g\/w.heap.size<=g:=by
 obtain ⟨m,H7⟩:=hs.src hi
 have GG:∃ i,P.info? e=some i/\i.bytes<=24*i.size/\i.bytes<=4096:=by
  unfold j8 at cB
  rw [ht] at cB
  simp only [] at cB
  split at cB
  ·rename_i i vW;exact ⟨i,vW,by simpa using cB⟩
  ·cases cB
 obtain ⟨i,vW,GG,hbz⟩:=GG
 obtain ⟨ie,zv,hu,Dt,hz,dS,dO,qh,xg⟩:=js ht
 rw [vW] at Dt
 injection Dt with Dt
 subst Dt
 obtain ⟨v',w',o',hr,bP,hg,hn⟩:=IE (P:=P) (t:=t) (tx:=tx) (ty:=ty) (hi.rows.2 j v e sz xs o hj ho) hu vW hz dS xg dO H7 hb GG
 refine ⟨v',w',_,hr,hi.append hj ho bP hg hn,fun g n k hv=> ?_⟩
 subst hv
 rcases bP with ⟨h,_⟩ | ⟨g',n',cap,junk,h,_,_,_,_,ho'⟩ | ⟨h0,_⟩ | ⟨h0,_⟩
 ·cases h
 ·cases h
  rcases hn with hn | ⟨g2,h2,Pn⟩
  ·exact .inl (by rw [<- hn,ho'])
  ·rw [ho'] at h2;cases h2;exact .inr Pn
 ·omega
 ·omega
theorem xU {P:Program}{t tx ty:TypeId}{e sz z}{c h w bs j v xs o y news}(ht:dR P t=some (e,sz,z))(cB:j8 P t=true)(hs:Srcs P tx sz h y news)
 (hi:Hp c h w bs) (hj:h.R[j]?=some (v,e,sz,xs)) (ho:bs[j]?=some o) (hb:xs.length+news.length<=4398046511104):
 ∃ v' w' bs',(Builtin.append_ #[t,tx] ty #[v,y]).run P w=.ok v' w'/\Hp c {h with R:=h.R.set j (v',e,sz,xs++news)} w' bs':=by
 obtain ⟨v',w',bs',hr,hh,_⟩:=vZ (ty:=ty) ht cB hs hi hj ho hb
 exact ⟨v',w',bs',hr,hh⟩
theorem zq.form {w:World}{v:Value}{e:TypeId}{sz:Nat}{xs:List Value}{o:Option Nat}(h:zq w v e sz xs o)(dS:0<sz):∃ a m c,v=.slice a m c/\m*sz=xs.length:=by
 rcases h with ⟨rfl,rfl,_⟩ | ⟨g,n,cap,junk,rfl,_,hn,_⟩ | ⟨h0,_⟩ | ⟨h0,_⟩
 ·exact ⟨none,0,0,rfl,by simp⟩
 ·exact ⟨_,n,cap,rfl,hn.symm⟩
 ·omega
 ·omega
theorem Hp.form {c:Ctx}{h:Sh}{w:World}{bs:List (Option Nat)}{j:Nat}{v:Value}{e:TypeId}{sz:Nat}{xs:List Value}(hi:Hp c h w bs)(hj:h.R[j]?=some (v,e,sz,xs))(dS:0<sz):∃ a m c,v=.slice a m c/\m*sz=xs.length:=by
 have aL:j<bs.length:=by rw [<- hi.rows.1];exact (List.getElem?_eq_some_iff.1 hj).1
 exact (hi.rows.2 j v e sz xs _ hj (gq aL)).form dS
theorem uV {P:Program}(w:World)(t tx ty e:TypeId)(i:TypeInfo)(z:Value)(ik:IntKind)(ht:P.underlying t=some (.slice e))(hi:P.info? e=some i)(hz:i.zero=some z)(hk:P.underlying tx=some (.int ik))(n:Nat)
 (h0:0<n) (h1:n<=4294967296) (dO:0<i.size) (GG:i.bytes<=4096):
 (Builtin.append_ #[t,tx] ty #[.slice none 0 0,.int .i64 (n:Int)]).run P w=
  .ok (.slice (some ⟨w.heap.size,0,none⟩) n (grownCap w n 0 e))
   (w.drew.alloc (.cells (Builtin.zeroCells z.cells n++Builtin.zeroCells z.cells (grownCap w n 0 e - n)) e)):=by
 have hw:IntKind.i64.wrap (n:Int)=(n:Int):=wrap_small n (by omega) (by omega)
 have hn0:¬ (n<=0):=by omega
 have lS:=nextslicecap_le (need:=n) (old:=0) h0
 have h48:Builtin.nextslicecap n 0*i.bytes<=281474976710656:=by
  calc Builtin.nextslicecap n 0*i.bytes<=(2*n)*4096:=Nat.mul_le_mul lS GG
   _<=281474976710656:=by omega
 have ajT:¬ (281474976710656<Builtin.nextslicecap n 0*i.bytes):=by omega
 have akL:¬ (281474976710656<(n:Int)*(i.bytes:Int)):=by
  have:n*i.bytes<=n*4096:=Nat.mul_le_mul_left _ GG
  have h3:((n*i.bytes:Nat):Int)=(n:Int)*(i.bytes:Int):=by push_cast;rfl
  omega
 have ahw:¬ (9223372036854775807<(n:Int)):=by omega
 have hnz:¬ (n*i.size=0):=by
  have:=Nat.mul_pos h0 dO
  omega
 have ajJ:¬ ((n:Int)<0):=by omega
 simp [Builtin.append_,run_underlying ht,run_underlying hk,Go.sizeOf,typeInfo,zeroValue,hi,hz,asIntOf,run_firstCells_none,hw,ahw,ajT,akL,hnz,ajJ,Question.forced,newRow,grownCap,asInt]
 omega
theorem CI {P:Program}{t tx ty:TypeId}{e sz z ik}{c h w bs n}(ht:dR P t=some (e,sz,z))(cB:j8 P t=true)(hk:P.underlying tx=some (.int ik))
 (hi:Hp c h w bs) (h0:0<n) (h1:n<=4294967296):
 ∃ v' w' bs' zs cap,(Builtin.append_ #[t,tx] ty #[.slice none 0 0,.int .i64 ((n:Nat):Int)]).run P w=.ok v' w'/\zs.length=n*sz/\n<=cap/\(∃ a,v'=.slice a n cap)/\Hp c {h with R:=(v',e,sz,zs)::h.R} w' bs':=by
 have GG:∃ i,P.info? e=some i/\i.bytes<=24*i.size/\i.bytes<=4096:=by
  unfold j8 at cB
  rw [ht] at cB
  simp only [] at cB
  split at cB
  ·rename_i i vW;exact ⟨i,vW,by simpa using cB⟩
  ·cases cB
 obtain ⟨i,vW,GG,hbz⟩:=GG
 obtain ⟨ie,zv,hu,Dt,hz,dS,Ar,qh,xg⟩:=js ht
 rw [vW] at Dt
 injection Dt with Dt
 subst Dt
 subst dS
 have lU:=uV (P:=P) w t tx ty e i zv ik hu vW hz hk n h0 h1 Ar hbz
 have qh:(Builtin.zeroCells zv.cells n).toList.length=n*i.size:=by rw [Array.length_toList,size_zeroCells,xg]
 have bP:zq (w.drew.alloc (.cells (Builtin.zeroCells zv.cells n++Builtin.zeroCells zv.cells (grownCap w n 0 e - n)) e)) (.slice (some ⟨w.heap.size,0,none⟩) n (grownCap w n 0 e)) e i.size (Builtin.zeroCells zv.cells n).toList (some w.heap.size):=by
  have Pn:n<=grownCap w n 0 e:=grownCap_ge w n 0 e
  refine .inr (.inl ⟨w.heap.size,n,_,(Builtin.zeroCells zv.cells (grownCap w n 0 e - n)).toList,rfl,?_,qh,?_,Pn,rfl⟩)
  ·have:=@fA w.drew (.cells (Builtin.zeroCells zv.cells n++Builtin.zeroCells zv.cells (grownCap w n 0 e - n)) e)
   rw [show w.drew.heap.size=w.heap.size from rfl] at this
   rw [this]
   congr 2
   apply Array.toList_inj.1
   simp
  ·rw [List.length_append,qh,Array.length_toList,size_zeroCells,xg,<- Nat.add_mul]
   congr 1
   omega
 have uu:=hi.addNil (e:=e) (sz:=i.size)
 have s8:w.grownBy (w.drew.alloc (.cells (Builtin.zeroCells zv.cells n++Builtin.zeroCells zv.cells (grownCap w n 0 e - n)) e)) none:=⟨rfl,rfl,rfl,by simp,fun k hk _=>cj (w:=w.drew) hk⟩
 have:=uu.append (j:=0) (o:=none) rfl rfl bP s8 (.inr ⟨_,rfl,Nat.le_refl _⟩)
 exact ⟨_,_,_,_,_,lU,qh,grownCap_ge w n 0 e,⟨_,rfl⟩,this⟩
theorem zN {P:Program}{t tx ty:TypeId}{e sz z}{c h w bs b o n cap y}(ht:dR P t=some (e,sz,z))(hs:Srcs P tx sz h y [])
 (hi:Hp c h w bs) (di:n<=cap):(Builtin.append_ #[t,tx] ty #[.slice (some ⟨b,o,none⟩) n cap,y]).run P w=.ok (.slice (some ⟨b,o,none⟩) n cap) w:=by
 obtain ⟨m,H7⟩:=hs.src hi
 obtain ⟨i,zv,hu,vW,hz,rfl,dO,qh,xg⟩:=js ht
 have hm:0=m*i.size:=H7.newsLen
 obtain rfl:m=0:=by
  rcases Nat.mul_eq_zero.1 hm.symm with h | h
  ·exact h
  ·omega
 have:=run_append_room_src (P:=P) w t tx ty e i hu vW b o n cap y 0 [] H7 (by omega) (fun j hj=>by simp at hj) (fun j hj=>by simp at hj)
 simpa [World.setCells] using this
theorem vL {P:Program}{t tx ty:TypeId}{e sz z}{c h w bs a n xs y news}(ht:dR P t=some (e,sz,z))(cB:j8 P t=true)(hs:Srcs P tx sz h y news)
 (hi:Hp c h w bs) (hx:h.cells a 0 (n*sz)=some xs) (dO:0<news.length) (hb:xs.length+news.length<=4398046511104):
 ∃ v' w' bs',(Builtin.append_ #[t,tx] ty #[.slice (some a) n n,y]).run P w=.ok v' w'/\Hp c {h with R:=(v',e,sz,xs++news)::h.R} w' bs'/\∃ m k,v'=.slice (some ⟨w.heap.size,0,none⟩) m k:=by
 obtain ⟨m,H7⟩:=hs.src hi
 have GG:∃ i,P.info? e=some i/\i.bytes<=24*i.size/\i.bytes<=4096:=by
  unfold j8 at cB
  rw [ht] at cB
  simp only [] at cB
  split at cB
  ·rename_i i vW;exact ⟨i,vW,by simpa using cB⟩
  ·cases cB
 obtain ⟨i,vW,GG,hbz⟩:=GG
 obtain ⟨ie,zv,hu,Dt,hz,dS,Ar,qh,xg⟩:=js ht
 rw [vW] at Dt
 injection Dt with Dt
 subst Dt
 subst dS
 obtain ⟨hl,hcc⟩:=iS _ _ _ (hi.cells _ _ _ hx)
 have hm:news.length=m*i.size:=H7.newsLen
 have Vg:0<m:=by
  rcases Nat.eq_zero_or_pos m with h0 | h0
  ·rw [h0] at hm;omega
  ·exact h0
 have GI:n+m<=4398046511104:=by
  have h1:(n+m)*1<=(n+m)*i.size:=Nat.mul_le_mul_left _ Ar
  have h2:(n+m)*i.size=n*i.size+m*i.size:=Nat.add_mul ..
  omega
 have hg:n<n+m:=by omega
 have lS:=nextslicecap_le hg
 have acm:=run_firstCells_some (P:=P) w.drew i.size n a n n xs hl (fun j u hj=>by rw [World.cell?_drew];simpa using hcc j u hj)
 have lU:=run_append_grow_src (P:=P) w t tx ty e i _ hu vW hz (some a) n n xs acm y m news H7 hg (by omega) (by
  have h2:(n+m)*i.size=n*i.size+m*i.size:=Nat.add_mul ..
  calc Builtin.nextslicecap (n+m) n*i.bytes<=(2*(n+m))*(24*i.size):=Nat.mul_le_mul lS GG
   _=48*((n+m)*i.size):=by rw [Nat.mul_comm 2,Nat.mul_assoc,<- Nat.mul_assoc 2 24,Nat.mul_left_comm]
   _<=281474976710656:=by omega)
 have bP:zq (w.drew.alloc (.cells ((xs++news).toArray++Builtin.zeroCells zv.cells (grownCap w (n+m) n e - (n+m))) e)) (.slice (some ⟨w.heap.size,0,none⟩) (n+m) (grownCap w (n+m) n e)) e i.size (xs++news) (some w.heap.size):=by
  refine .inr (.inl ⟨w.heap.size,n+m,_,(Builtin.zeroCells zv.cells (grownCap w (n+m) n e - (n+m))).toList,rfl,?_,?_,?_,grownCap_ge _ _ _ _,rfl⟩)
  ·have:=@fA w.drew (.cells ((xs++news).toArray++Builtin.zeroCells zv.cells (grownCap w (n+m) n e - (n+m))) e)
   rw [show w.drew.heap.size=w.heap.size from rfl] at this
   rw [this]
   congr 2
   apply Array.toList_inj.1
   simp
  ·rw [List.length_append,hl,hm,Nat.add_mul]
  ·have Pn:=grownCap_ge w (n+m) n e
   rw [List.length_append,List.length_append,hl,hm,Array.length_toList,size_zeroCells,xg,<- Nat.add_mul,<- Nat.add_mul]
   congr 1
   omega
 have uu:=hi.addNil (e:=e) (sz:=i.size)
 have s8:w.grownBy (w.drew.alloc (.cells ((xs++news).toArray++Builtin.zeroCells zv.cells (grownCap w (n+m) n e - (n+m))) e)) none:=⟨rfl,rfl,rfl,by simp,fun k hk _=>cj (w:=w.drew) hk⟩
 have:=uu.append (j:=0) (o:=none) rfl rfl bP s8 (.inr ⟨_,rfl,Nat.le_refl _⟩)
 exact ⟨_,_,_,lU,this,_,_,rfl⟩
theorem Hp.unrow {c N M L v e sz xs R w bs}(hi:Hp c ⟨N,M,L,(v,e,sz,xs)::R⟩ w bs)(dS:0<sz)(cu:0<xs.length)(tw:∀ g n k,v=.slice (some ⟨g,0,none⟩) n k ->N g=none\/N g=some e):
 ∃ g n cap junk bs',v=.slice (some ⟨g,0,none⟩) n cap/\M g=none/\bf g L/\n*sz=xs.length/\n<=cap/\(xs++junk).length=cap*sz/\w.heap[g]?=some (.cells (xs++junk).toArray e (0,0))/\Hp c ⟨N,M,(g,xs++junk)::L,R⟩ w bs':=by
 obtain ⟨bq,bP⟩:=hi.rows
 cases bs with
 | nil=>simp at bq
 | cons o bs=>
  have hr:=bP 0 v e sz xs o rfl rfl
  rcases hr with ⟨rfl,rfl,rfl⟩ | ⟨g,n,cap,junk,rfl,hg,hn,hc,di,rfl⟩ | ⟨h0,_⟩ | ⟨h0,_⟩
  ·simp at cu
  ·have jj:=hi.nodup
   rw [List.filterMap_cons] at jj
   simp only [id] at jj
   have L8:=(hi.apart g (by simp)).1
   have El:(L.map (·.1)++g::bs.filterMap id).Perm (g::(L.map (·.1)++bs.filterMap id)):=List.perm_middle
   have W9:=El.nodup_iff.1 jj
   have Po:g∉L.map (·.1):=fun h=>(List.nodup_cons.1 W9).1 (sJ (.inl h))
   refine ⟨g,n,cap,junk,bs,rfl,L8,iJ Po,hn.symm,di,hc,hg,?_⟩
   exact
   {typ:=fun b u hu=>⟨(hi.typ b u hu).1,fun hb=>by
     rcases mY hb with hb | hb
     ·have h0:=tw g n cap rfl
      rw [show b=g from hb] at hu
      rw [show N g=some u from hu] at h0
      rcases h0 with h0 | h0
      ·cases h0
      ·cases h0;exact ⟨_,_,by rw [show b=g from hb];exact hg⟩
     ·exact (hi.typ b u hu).2 hb⟩
    holds:=hi.holds
    blk:=fun b cs hb=>by
     rcases mY hb with hb | hb
     ·injection hb with h1 h2;subst h1 h2;exact ⟨e,hg⟩
     ·exact hi.blk b cs hb
    rows:=⟨by simpa using bq,fun i v e sz xs o h1 h2=>bP (i+1) v e sz xs o (by simpa using h1) (by simpa using h2)⟩
    nodup:=by simpa using W9
    apart:=fun b hb=>hi.apart b (by
     simp only [List.map_cons,List.cons_append,List.mem_cons,List.mem_append] at hb
     simp only [List.filterMap_cons,id,List.mem_append,List.mem_cons]
     rcases hb with hb | hb | hb
     ·exact .inr (.inl hb)
     ·exact .inl hb
     ·exact .inr (.inr hb))
    os:=hi.os
    tape:=hi.tape
    output:=hi.output
    size:=hi.size
    old:=hi.old
    mem:=hi.mem
    le:=hi.le}
  ·omega
  ·omega
theorem Hp.perm {c N M L L' R w bs}(hi:Hp c ⟨N,M,L,R⟩ w bs)(hp:L.Perm L'):Hp c ⟨N,M,L',R⟩ w bs:=
 {typ:=fun b u hu=>⟨(hi.typ b u hu).1,fun hb=>(hi.typ b u hu).2 ((hp.map _).mem_iff.2 hb)⟩
  holds:=hi.holds
  blk:=fun b cs hb=>hi.blk b cs (hp.mem_iff.2 hb)
  rows:=hi.rows
  nodup:=by
   have h1:(L.map (·.1)++bs.filterMap id).Perm (L'.map (·.1)++bs.filterMap id):=(hp.map _).append_right _
   exact h1.nodup_iff.1 hi.nodup
  apart:=fun b hb=>hi.apart b (by
   simp only [List.mem_append] at hb ⊢
   rcases hb with hb | hb
   ·exact .inl ((hp.map _).mem_iff.2 hb)
   ·exact .inr hb)
  os:=hi.os
  tape:=hi.tape
  output:=hi.output
  size:=hi.size
  old:=hi.old
  mem:=hi.mem
  le:=hi.le}
theorem Hp.rerow {c N M L R w bs g xs junk e sz n cap}(hi:Hp c ⟨N,M,(g,xs++junk)::L,R⟩ w bs)(hN:N g=some e)(hn:xs.length=n*sz)(hc:(xs++junk).length=cap*sz)(di:n<=cap):
 Hp c ⟨N,M,L,(.slice (some ⟨g,0,none⟩) n cap,e,sz,xs)::R⟩ w (some g::bs):=by
 have El:(L.map (·.1)++g::bs.filterMap id).Perm (g::(L.map (·.1)++bs.filterMap id)):=List.perm_middle
 exact
 {typ:=fun b u hu=>⟨(hi.typ b u hu).1,fun hb=>(hi.typ b u hu).2 (wU hb)⟩
  holds:=hi.holds
  blk:=fun b cs hb=>hi.blk b cs (wU hb)
  rows:=⟨by simpa using hi.rows.1,fun i v e' sz' xs' o h1 h2=>by
   cases i with
   | succ i=>exact hi.rows.2 i v e' sz' xs' o (by simpa using h1) (by simpa using h2)
   | zero=>
    simp only [List.getElem?_cons_zero,Option.some.injEq,Prod.mk.injEq] at h1 h2
    obtain ⟨rfl,rfl,rfl,rfl⟩:=h1
    subst h2
    obtain ⟨t,ht⟩:=hi.blk g (xs++junk) (by simp)
    obtain ⟨cs,f,Qk⟩:=(hi.typ g e hN).2 (by simp)
    rw [ht] at Qk
    cases Qk
    exact .inr (.inl ⟨g,n,cap,junk,rfl,ht,hn,hc,di,rfl⟩)⟩
  nodup:=by
   have:=El.nodup_iff.2 (by simpa using hi.nodup)
   simpa [List.filterMap_cons] using this
  apart:=fun b hb=>hi.apart b (by
   simp only [List.filterMap_cons,id,List.mem_append,List.mem_cons] at hb
   simp only [List.map_cons,List.cons_append,List.mem_cons,List.mem_append]
   rcases hb with hb | hb | hb
   ·exact .inr (.inl hb)
   ·exact .inl hb
   ·exact .inr (.inr hb))
  os:=hi.os
  tape:=hi.tape
  output:=hi.output
  size:=hi.size
  old:=hi.old
  mem:=hi.mem
  le:=hi.le}
theorem Hp.retold {c N M L R w bs g cs e f}(hi:Hp c ⟨N,M,L,R⟩ w bs)(hg:w.heap[g]?=some (.cells cs e f)):Hp c ⟨N.add g e,M,L,R⟩ w bs:=
 hi.retyp fun b t hb=>by
  unfold Tm.add at hb
  split at hb
  ·rename_i h;subst h;cases hb;exact ⟨(Array.getElem?_eq_some_iff.1 hg).1,fun _=>⟨_,_,hg⟩⟩
  ·exact hi.typ b t hb
theorem IT {P:Program}{t tx ty:TypeId}{e sz z}{c N M L R w bs x y xs L' news}(ht:dR P t=some (e,sz,z))(cB:j8 P t=true)(IM:0<sz)
 (hi:Hp c ⟨N,M,L,R⟩ w bs) (ye:ME x e sz xs ⟨N,M,L,R⟩ L') (hs:Srcs P tx sz ⟨N,M,L',R⟩ y news) (dO:0<news.length) (hb:xs.length+news.length<=4398046511104):
 ∃ w' bs' N' g m cap junk,(Builtin.append_ #[t,tx] ty #[x,y]).run P w=.ok (.slice (some ⟨g,0,none⟩) m cap) w'/\aF N N'/\N' g=some e/\M g=none/\bf g L'/\m*sz=xs.length+news.length/\m<=cap/\(xs++news++junk).length=cap*sz/\Hp c ⟨N',M,(g,xs++news++junk)::L',R⟩ w' bs':=by
 have key:∀ (o:Option Nat) bs0,Hp c ⟨N,M,L',(x,e,sz,xs)::R⟩ w (o::bs0) ->(∀ g,o=some g ->N g=some e) ->
  ∃ w' bs' N' g m cap junk,(Builtin.append_ #[t,tx] ty #[x,y]).run P w=.ok (.slice (some ⟨g,0,none⟩) m cap) w'/\aF N N'/\N' g=some e/\M g=none/\bf g L'/\m*sz=xs.length+news.length/\m<=cap/\(xs++news++junk).length=cap*sz/\Hp c ⟨N',M,(g,xs++news++junk)::L',R⟩ w' bs':=by
  intro o bs0 uu hoN
  obtain ⟨v',w',bs',hr,hh,tw⟩:=vZ (ty:=ty) ht cB (hs.rows ((x,e,sz,xs)::R)) uu (j:=0) rfl rfl hb
  have nq:∀ g n k,v'=.slice (some ⟨g,0,none⟩) n k ->N g=none\/N g=some e:=by
   intro g n k hv
   rcases tw g n k hv with h | h
   ·exact .inr (hoN g h)
   ·left
    cases hN:N g with
    | none=>rfl
    | some u=>have:=(uu.typ g u hN).1;omega
  obtain ⟨g,m,cap,junk,bs2,rfl,L8,Po,hm,di,hc,hg,hh2⟩:=Hp.unrow hh IM (by rw [List.length_append];omega) nq
  refine ⟨w',bs2,N.add g e,g,m,cap,junk,hr,?_,by simp [Tm.add],L8,Po,by rw [hm,List.length_append],di,hc,hh2.retold hg⟩
  intro b u hu
  unfold Tm.add
  split
  ·rename_i h
   subst h
   rcases nq _ _ _ rfl with h | h
   ·rw [h] at hu;cases hu
   ·rw [<- hu,h]
  ·exact hu
 rcases ye with ⟨rfl,rfl,rfl⟩ | ⟨g,n,cap,junk,L1,L2,rfl,hN,hL,rfl,hn,hc,di⟩
 ·exact key none bs hi.addNil (fun g h=>by cases h)
 ·simp only at hL hN
  subst hL
  exact key (some g) bs ((hi.perm List.perm_middle).rerow hN hn hc di) (fun g' h=>by cases h;exact hN)
theorem yX {P:Program}{K:KontL}{o:Oper}{e:dp}{ds:List Deferred}{h:Sh}{next:Value ->List Deferred ->Sh ->Prop}
 (hv:Ho P K o e ds h next) {c:Ctx} {w:World} (hw:Is c h w):
 upon P (K.toK c) e ds (fun v ds w'=>∃ h',Is c h' w'/\next v ds h') ((execOp (ev e) o).run P w):=by
 have val:∀ {v:Value},((execOp (ev e) o).run P w=.ok (.value v) w) ->next v ds h ->upon P (K.toK c) e ds (fun v ds w'=>∃ h',Is c h' w'/\next v ds h') ((execOp (ev e) o).run P w):=by
  intro v hr hn
  rw [hr]
  exact ⟨h,hw,hn⟩
 unfold Ho at hv
 split at hv
 ·rename_i t x dZ
  obtain ⟨bs,hi⟩:=hw
  have kg:=hi.alloc (t:=t) (ev e x).cells.toList
  simp only [Array.toArray_toList] at kg
  simp only [execOp,dZ,Instr.box,newVar,newRow]
  have im:=(List.nodup_cons.1 kg.wf.1).1
  have hn:=hv w.heap.size (h.N.add w.heap.size t) (kg.wf.2 _ (by simp)) (iJ im) hi.extT (by simp [Tm.add])
  simpa [upon] using ⟨_,⟨bs,kg⟩,hn⟩
 ·rename_i t dZ
  obtain ⟨⟨g,n,z⟩,tX,hv⟩:=cE hv
  obtain ⟨i,d,lm,hd,hz,hg,hn⟩:=lY tX
  obtain ⟨bs,hi⟩:=hw
  have kg:=hi.alloc (t:=t) z.cells.toList
  simp only [Array.toArray_toList] at kg
  simp only [execOp,dZ,Instr.alloc,newVar,newRow]
  have im:=(List.nodup_cons.1 kg.wf.1).1
  have hn:=hv w.heap.size (h.N.add w.heap.size t) (kg.wf.2 _ (by simp)) (iJ im) hi.extT (by simp [Tm.add])
  simpa [upon,zeroValue,typeInfo,lm,hz] using ⟨_,⟨bs,kg⟩,hn⟩
 ·rename_i t n parts dZ
  obtain ⟨⟨el,sz,z⟩,ht,hb,hv⟩:=cE hv
  obtain ⟨cs,fS,hv⟩:=cE hv
  obtain ⟨bs,hi⟩:=hw
  have kg:=hi.alloc (t:=el) cs
  have hr:=xQ (P:=P) (parts:=parts.toList.map fun x=>(x.1,ev e x.2)) ht hb (by rw [List.map_map];exact fS) w
  have hp:(parts.toList.map fun x=>(x.1,ev e x.2)).toArray=parts.map fun (i,x)=>(i,ev e x):=by
   apply Array.toList_inj.1
   simp
  rw [hp] at hr
  simp only [execOp,dZ]
  rw [Sem.run_bind,hr]
  have im:=(List.nodup_cons.1 kg.wf.1).1
  have hn:=hv w.heap.size (kg.wf.2 _ (by simp)) (iJ im)
  have kg:=kg.untype (N':=h.N) hi.extT
  exact ⟨_,⟨bs,kg⟩,hn⟩
 ·rename_i t x y dZ
  obtain ⟨⟨g,n,z⟩,tX,hv⟩:=cE hv
  obtain ⟨a,ha,⟨bq,DW,h1⟩,hv⟩:=pH hv
  obtain ⟨L',hL,hv⟩:=cE hv
  obtain ⟨rfl,cs,hm,di⟩:=O3 hL
  obtain ⟨bs,hi⟩:=hw
  refine Cu (K:=K.toK c) (o:=o) ?_
  unfold vOp;rw [dZ];simp only []
  rw [tX,ha]
  simp only [dU,AH,S3]
  refine ⟨bq,DW,List.all_eq_true.1 h1,?_,_,⟨bs,hi.storeN _ _ (List.mem_map.2 ⟨_,hm,rfl⟩)⟩,hv⟩
  intro j hj
  obtain ⟨t',ht'⟩:=hi.blk _ _ hm
  have hj2:a.off+j<cs.length:=by omega
  refine ⟨by simp [World.cell?,ht',hj2],by simp [World.frozen?,ht']⟩
 ·rename_i f args _ dZ
  obtain ⟨g,first,cap,hf,hb,hv⟩:=Kj hv
  refine Cu (K:=K.toK c) (o:=o) ?_
  unfold vOp;rw [dZ];simp only []
  rw [hf]
  simp only [xFn,Zg]
  exact ⟨hb,hv c w hw⟩
 ·rename_i args argTypes dZ
  split at hv
  ·rename_i x y t tx hx ht
   have nS:args= #[x,y]:=by apply Array.toList_inj.1;simpa using hx
   have Jm:argTypes= #[t,tx]:=by apply Array.toList_inj.1;simpa using ht
   subst nS Jm
   obtain ⟨bs,hi⟩:=hw
   have fin:∀ {v' w' h' bs'},(Builtin.append_ #[t,tx] o.type #[ev e x,ev e y]).run P w=.ok v' w' ->Hp c h' w' bs' ->next v' ds h' ->
    upon P (K.toK c) e ds (fun v ds w'=>∃ h',Is c h' w'/\next v ds h') ((execOp (ev e) o).run P w):=by
    intro v' w' h' bs' hr hh hn
    simp only [execOp,dZ,resolve,invoke,builtin,Sem.run_bind,Sem.run_pure,Result.andThen_ok]
    have:(#[x,y].map (ev e))= #[ev e x,ev e y]:=by apply Array.toList_inj.1;simp
    rw [this,hr]
    exact ⟨h',⟨bs',hh⟩,hn⟩
   rcases hv with ⟨el,sz,z,n,ik,Hs,cB,hk,hx0,hy0,h0,h1,hv⟩ | ⟨el,sz,z,news,Hs,cB,hs,hv⟩
   ·obtain ⟨v',w',bs',zs,cap,hr,qh,Pn,⟨a,rfl⟩,hh⟩:=CI (ty:=o.type) Hs cB hk hi h0 h1
    rw [<- hx0,<- hy0] at hr
    exact fin hr hh (hv a cap zs qh Pn)
   have IM:0<sz:=by obtain ⟨_,_,_,_,_,_,h,_⟩:=js Hs;exact h
   rcases hv with ⟨j,xs,hj,hb,hv⟩ | ⟨ug,hb,hv⟩ | ⟨a,n,xs,hx,fS,dO,hb,hv⟩ | ⟨b,o',n,cc,hx,di,ug,hv⟩ | ⟨a,n,xs,hx,fS,dO,hb,hv⟩ | ⟨xs,L',ye,oS,dO,hb,hv⟩
   ·have Zd:j<bs.length:=by rw [<- hi.rows.1];exact (List.getElem?_eq_some_iff.1 hj).1
    obtain ⟨v',w',bs',hr,hh⟩:=xU (ty:=o.type) Hs cB hs hi hj (gq Zd) hb
    have Ny:j<h.R.length:=(List.getElem?_eq_some_iff.1 hj).1
    obtain ⟨a,m,c,rfl,hm⟩:=hh.form (j:=j) (by show (h.R.set j _)[j]?=_;rw [List.getElem?_set_self Ny]) IM
    exact fin hr hh (hv a m c (by rw [hm,List.length_append]))
   ·have uu:=hi.addNil (e:=el) (sz:=sz)
    have yJ:=hs.more (el:=el) (sz':=sz)
    obtain ⟨v',w',bs',hr,hh⟩:=xU (ty:=o.type) Hs cB yJ uu (j:=0) rfl rfl (by simpa using hb)
    rw [<- ug] at hr
    obtain ⟨a,m,c,rfl,hm⟩:=hh.form (j:=0) rfl IM
    exact fin hr hh (hv a m c (by simpa using hm))
   ·obtain ⟨v',w',bs',hr,hh,_⟩:=vL (ty:=o.type) Hs cB hs hi fS dO hb
    rw [<- hx] at hr
    obtain ⟨a',m,c,rfl,hm⟩:=hh.form (j:=0) rfl IM
    exact fin hr hh (hv a' m c (by rw [hm,List.length_append]))
   ·subst ug
    have hr:=zN (ty:=o.type) Hs hs hi (b:=b) (o:=o') di
    rw [<- hx] at hr
    exact fin hr hi hv
   ·obtain ⟨v',w',bs',hr,hh,m0,k0,wE⟩:=vL (ty:=o.type) Hs cB hs hi fS dO hb
    rw [<- hx] at hr
    obtain ⟨g,m,cap,junk,bs2,rfl,L8,Po,hm,di,hc,_,hh2⟩:=hh.unrow IM (by rw [List.length_append];omega) (fun g n k hg=> .inl<| by
     rw [wE] at hg
     injection hg with hg
     injection hg with hg
     injection hg with hg
     show h.N g=none
     cases hN:h.N g with
     | none=>rfl
     | some u=>have:=(hi.typ g u hN).1;omega)
    exact fin hr hh2 (hv g m cap junk L8 Po (by rw [hm,List.length_append]) di hc)
   ·obtain ⟨w',bs',N',g,m,cap,junk,hr,jW,hg,L8,Po,hm,di,hc,hh⟩:=IT (ty:=o.type) Hs cB IM hi ye oS dO hb
    exact fin hr hh (hv N' g m cap junk jW hg L8 Po hm di hc)
  ·exact hv.elim
 ·rename_i f args _ dZ
  split at hv
  ·rename_i fn first captured hf
   simp only [execOp,dZ,resolve,Deferred.ofValue,hf]
   exact ⟨h,hw,hv⟩
  ·exact hv.elim
 ·rename_i op t x y _ dZ
  have gen:∀ v,((do eqGuard op t x y (ev e x) (ev e y);binOp op t (ev e x) (ev e y):Sem Value).run P w=.ok v w) ->next v ds h ->upon P (K.toK c) e ds (fun v ds w'=>∃ h',Is c h' w'/\next v ds h') ((execOp (ev e) o).run P w):=by
   intro v hr hn
   refine val ?_ hn
   simp only [execOp,dZ]
   rw [Sem.run_bind,hr]
   rfl
  split at hv
  ·rename_i v k9
   exact gen v (G0 k9 w) hv
  ·obtain ⟨v,hr,hn⟩:=hv
   exact gen v (hr c w hw) hn
 ·rename_i x dZ
  obtain ⟨hif,hv⟩:=hv
  unfold LG at hif
  split at hif
  ·rename_i t u hx
   rw [hx] at hv
   simp only [execOp,dZ,hx]
   exact ⟨h,hw,hv⟩
  ·cases hif
 ·rename_i args _ dZ
  split at hv
  ·rename_i x y hx
   have nS:args= #[x,y]:=by apply Array.toList_inj.1;simpa using hx
   subst nS
   obtain ⟨v,k9,hv⟩:=cE hv
   refine val ?_ hv
   simp only [execOp,dZ,resolve,invoke,builtin,Sem.run_bind,Sem.run_pure,Result.andThen_ok]
   have:(#[x,y].map (ev e))= #[ev e x,ev e y]:=by apply Array.toList_inj.1;simp
   rw [this]
   simp [Builtin.min_,PP k9,Result.andThen]
  ·exact hv.elim
 ·rename_i args _ dZ
  split at hv
  ·rename_i x y hx
   have nS:args= #[x,y]:=by apply Array.toList_inj.1;simpa using hx
   subst nS
   obtain ⟨v,k9,hv⟩:=cE hv
   refine val ?_ hv
   simp only [execOp,dZ,resolve,invoke,builtin,Sem.run_bind,Sem.run_pure,Result.andThen_ok]
   have:(#[x,y].map (ev e))= #[ev e x,ev e y]:=by apply Array.toList_inj.1;simp
   rw [this]
   simp [Builtin.max_,Q4 k9,Result.andThen]
  ·exact hv.elim
 ·rename_i t l cc dZ
  obtain ⟨⟨el,sz,z⟩,ht,cB,hv⟩:=cE hv
  unfold xMk at hv
  split at hv
  ·rename_i kl n kc m hl hc
   obtain ⟨rfl,h0,hb,hv⟩:=hv
   obtain ⟨i,zv,hu,Dt,hz,dS,dO,qh,xg⟩:=js ht
   obtain ⟨bs,hi⟩:=hw
   have GG:(i.bytes:Int)<=4096:=by
    unfold j8 at cB
    rw [ht] at cB
    simp only [Dt,Bool.and_eq_true,decide_eq_true_eq] at cB
    omega
   have hnn:n<=4294967296:=by omega
   have h48:(i.bytes:Int)*n<=281474976710656:=by
    calc (i.bytes:Int)*n<=4096*n:=Int.mul_le_mul_of_nonneg_right GG h0
     _<=281474976710656:=by omega
   have hr:=run_make (P:=P) w t el i zv hu Dt hz kl kc n n h0 (Int.le_refl _) h48 (by omega)
   have adF:madeCells zv.cells (n.toNat*i.size)=((List.range n.toNat).flatMap fun _=>z).toArray:=by
    have:=GU zv.cells (by omega) n.toNat
    rw [xg,qh] at this
    unfold madeCells
    rw [dS,xg];exact this
   rw [adF] at hr
   have kg:=hi.alloc (t:=el) ((List.range n.toNat).flatMap fun _=>z)
   simp only [execOp,dZ,hl,hc]
   rw [Sem.run_bind,hr]
   have im:=(List.nodup_cons.1 kg.wf.1).1
   have hn:=hv w.heap.size (kg.wf.2 _ (by simp)) (iJ im)
   have kg:=kg.untype (N':=h.N) hi.extT
   exact ⟨_,⟨bs,kg⟩,hn⟩
  ·exact hv.elim
 ·rename_i t dZ
  obtain ⟨bs,hi⟩:=hw
  simp only [execOp,dZ]
  exact ⟨_,⟨_,hi.allocMap (t:=t)⟩,hv w.heap.size⟩
 ·rename_i t m k x dZ
  obtain ⟨bs,hi⟩:=hw
  unfold VV at hv
  split at hv
  ·rename_i K K' n g t' sz xs rest hK hk hR
   obtain ⟨⟨hvm,hKK,dS,W7⟩,hv⟩:=hv
   subst hKK dS
   obtain ⟨kt,et,hm,hkt⟩:=zu hK
   obtain ⟨o,bs',rfl⟩:∃ o bs',bs=o::bs':=by
    have h1:=hi.rows.1
    rw [hR] at h1
    cases bs with
    | nil=>simp at h1
    | cons o bs'=>exact ⟨o,bs',rfl⟩
   have bP:=hi.rows.2 0 _ _ _ _ o (by rw [hR];rfl) rfl
   rcases bP with ⟨hx,_⟩ | ⟨_,_,_,_,hx,_⟩ | ⟨_,g',es,clock,hx,hb,Vf,rfl⟩ | ⟨_,_,_,_,hx,_⟩
   ·cases hx
   ·cases hx
   rotate_left
   ·cases hx
   injection hx with hx;injection hx with hx;subst hx
   have lU:=Wu (val:=ev e x) (n:=n) hm hkt hb (qd _ _ 0 Vf W7)
   simp only [execOp,dZ,hvm,hk]
   rw [Sem.run_bind,lU]
   have aL:=fD hb
   have Oj:zq {w with heap:=w.heap.setIfInBounds g (.map (es.push {key:=.int K' n,val:=ev e x,born:=clock}) (clock+1))} (.map (some g)) t' 0 (xs++[.int K' n,ev e x]) (some g):=
    .inr (.inr (.inl ⟨rfl,g,_,_,rfl,by show (w.heap.setIfInBounds g _)[g]?=_;rw [Array.getElem?_setIfInBounds_self_of_lt aL],by rw [<- Vf];simp,rfl⟩))
   have s8:w.grownBy {w with heap:=w.heap.setIfInBounds g (.map (es.push {key:=.int K' n,val:=ev e x,born:=clock}) (clock+1))} (some g):=
    ⟨rfl,rfl,rfl,by simp,fun k hk cu=>by
     show (w.heap.setIfInBounds g _)[k]?=_
     rw [Array.getElem?_setIfInBounds_ne (by rintro rfl;exact cu rfl)]⟩
   have h2:=hi.append (j:=0) (o:=some g) (by rw [hR];rfl) rfl Oj s8 (.inl rfl)
   rw [hR] at h2
   exact ⟨_,⟨_,h2⟩,hv⟩
  ·exact hv.elim
 ·rename_i t m k dZ
  unfold KL at hv
  split at hv
  ·rename_i K K' n g t' sz xs rest hK hk hR
   obtain ⟨⟨hvm,hKK,dS⟩,hv⟩:=hv
   obtain ⟨u,hu,sj⟩:=cE hv
   subst hKK dS
   obtain ⟨kt,et,hm,hkt⟩:=zu hK
   obtain ⟨bs,hi⟩:=hw
   obtain ⟨o,bs',rfl⟩:∃ o bs',bs=o::bs':=by
    have h1:=hi.rows.1
    rw [hR] at h1
    cases bs with
    | nil=>simp at h1
    | cons o bs'=>exact ⟨o,bs',rfl⟩
   have bP:=hi.rows.2 0 _ _ _ _ o (by rw [hR];rfl) rfl
   rcases bP with ⟨hx,_⟩ | ⟨_,_,_,_,hx,_⟩ | ⟨_,g',es,clock,hx,hb,Vf,rfl⟩ | ⟨_,_,_,_,hx,_⟩
   ·cases hx
   ·cases hx
   rotate_left
   ·cases hx
   injection hx with hx;injection hx with hx;subst hx
   obtain ⟨j,hj⟩:=wr _ _ 0 Vf hu
   refine val ?_ sj
   simp only [execOp,dZ,hvm,hk]
   rw [Sem.run_bind,TI hm hkt hb hj]
   rfl
  ·exact hv.elim
 ·rename_i src t x dZ
  unfold KQ at hv
  split at hv
  ·rename_i hk
   split at hv
   ·rename_i s hx
    obtain ⟨hs,el,hd,he⟩:=aeO hk
    obtain ⟨bs,hi⟩:=hw
    have hr:=Lib.run_convert_string_bytes (P:=P) w src t el s hs hd he
    simp only [execOp,dZ,hx]
    rw [Sem.run_bind,hr]
    have kg:=hi.grown (w':=Lib.bytesWorld w el s) (by simp [Lib.bytesWorld,World.freeze]<;>rfl) (by simp [Lib.bytesWorld,World.freeze]<;>rfl) (by simp [Lib.bytesWorld,World.freeze]<;>rfl) (Lib.bytesWorld_size w el s) (Lib.bytesWorld_at_old w el s) (Lib.bytesWorld_at_new w el s)
    have hnM:h.M w.heap.size=none:=by
     cases hm:h.M w.heap.size with
     | none=>rfl
     | some x=>have:=hi.holds.lt hm;omega
    have im:bf w.heap.size h.L:=iJ fun hm=>by have:=hi.own_lt (sJ (.inl hm));omega
    have fS:(Lib.bytesCells w el s).toList=s.data.toList.map (fun b=>Value.int .u8 b.toNat)++(Array.replicate (grownCap w s.size 0 el - s.size) (Value.int .u8 0)).toList:=by simp [Lib.bytesCells]
    rw [fS] at kg
    exact ⟨_,⟨bs,kg⟩,hv _ _ _ hnM im⟩
   ·exact hv.elim
  ·rename_i hk
   split at hv
   ·rename_i b n cc b' cs L hx hL
    obtain ⟨rfl,hv⟩:=hv
    obtain ⟨rfl,el,hd,he⟩:=adY hk
    obtain ⟨bs,hi⟩:=hw
    obtain ⟨t',hb⟩:=hi.blk b cs (by rw [hL];simp)
    have im:=hi.apart b (by rw [hL];simp)
    have jj:=hi.nodup
    rw [hL] at jj
    simp only [List.map_cons,List.cons_append,List.nodup_cons,List.mem_append,not_or] at jj
    have kg:=hi.drop hL
    have hsh:w.shape? b=some (t',cs.length):=by simp [World.shape?,hb]
    have lU:(convert src src (.slice (some ⟨b,0,none⟩) n cc)).run P w=.ok (.slice (some ⟨b,0,none⟩) n cc) (w.freeze ⟨b,cs.length,none⟩ 1):=by
     simp [convert,run_underlying hd,run_underlying he,markStringish,hsh]
    have U7:∀ k,(w.freeze ⟨b,cs.length,none⟩ 1).heap[k]?=if k=b then some (.cells cs.toArray t' (cs.length,cs.length+1)) else w.heap[k]?:=by
     intro k
     have aL:=fD hb
     unfold World.freeze
     rw [if_neg (by decide)]
     show (w.heap.modify b _)[k]?=_
     rw [Array.getElem?_modify]
     by_cases Pq:k=b
     ·subst Pq
      rw [if_pos rfl,if_pos rfl,hb]
      rfl
     ·rw [if_neg (Ne.symm Pq),if_neg Pq]
    simp only [execOp,dZ,hx]
    rw [Sem.run_bind,lU]
    have Uz:=kg.keepsBut (w':=w.freeze ⟨b,cs.length,none⟩ 1) im.2 im.1 jj.1.1 jj.1.2 rfl rfl rfl (by simp [World.freeze]) (fun k hk _=>by rw [U7,if_neg hk])
    have hi4:=Uz.addM (by rw [U7,if_pos rfl]) im.2 im.1 jj.1.1 jj.1.2
    rw [<- hx]
    exact ⟨_,⟨bs,hi4⟩,hv (iJ jj.1.1)⟩
   ·exact hv.elim
  ·obtain ⟨v,k9,hv⟩:=cE hv
   exact val (tF (o:=o) (by rw [dZ];exact k9) hw) hv
 ·rename_i t x dZ
  obtain ⟨ht,hv⟩:=hv
  split at hv
  ·rename_i s hx
   unfold cF at ht
   split at ht
   ·rename_i hu
    obtain ⟨bs,hi⟩:=hw
    have hr:=run_range_string (P:=P) w t s hu
    simp only [execOp,dZ,hx]
    rw [Sem.run_bind,hr]
    exact ⟨_,⟨_,hi.allocIter (t:=t) s⟩,hv w.heap.size⟩
   ·cases ht
  ·exact hv.elim
 ·rename_i it dZ
  unfold Zb at hv
  split at hv
  ·rename_i g g' t sz s pos R hx hR
   obtain ⟨⟨rfl,rfl⟩,hv⟩:=hv
   obtain ⟨bs,hi⟩:=hw
   obtain ⟨q,bs',rfl⟩:∃ q bs',bs=q::bs':=by
    have h1:=hi.rows.1
    rw [hR] at h1
    cases bs with
    | nil=>simp at h1
    | cons q bs'=>exact ⟨q,bs',rfl⟩
   have bP:=hi.rows.2 0 _ _ _ _ q (by rw [hR];rfl) rfl
   rcases bP with ⟨hx,_⟩ | ⟨_,_,_,_,hx,_⟩ | ⟨_,_,_,_,hx,_⟩ | ⟨_,g',s',pos',Ad,hb,Vf,rfl⟩
   ·cases hx
   ·cases hx
   ·cases hx
   injection Ad with Ad;injection Ad with Ad;injection Ad with Ad;subst Ad
   injection Vf with e1 e2
   injection e1 with e1;subst e1
   injection e2 with e2
   injection e2 with _ e2;subst e2
   have lU:=Ax (P:=P) (ty:=o.type) hb
   simp only [Int.toNat_natCast] at hv
   simp only [execOp,dZ,hx]
   rw [Sem.run_bind,lU]
   split
   ·rename_i aL
    rw [if_pos aL] at hv
    have U9:=fD hb
    have Oj:zq {w with heap:=w.heap.setIfInBounds g (.stringIter s (pos'+(Utf8.decode s pos').2))} (.pointer (some ⟨g,0,none⟩)) t 0 [.string s,.int .i64 ((pos'+(Utf8.decode s pos').2:Nat):Int)] (some g):=
     .inr (.inr (.inr ⟨rfl,g,s,_,rfl,by show (w.heap.setIfInBounds g _)[g]?=_;rw [Array.getElem?_setIfInBounds_self_of_lt U9],rfl,rfl⟩))
    have s8:w.grownBy {w with heap:=w.heap.setIfInBounds g (.stringIter s (pos'+(Utf8.decode s pos').2))} (some g):=
     ⟨rfl,rfl,rfl,by simp,fun k hk cu=>by
      show (w.heap.setIfInBounds g _)[k]?=_
      rw [Array.getElem?_setIfInBounds_ne (by rintro rfl;exact cu rfl)]⟩
    have h2:=hi.append (j:=0) (o:=some g) (by rw [hR];rfl) rfl Oj s8 (.inl rfl)
    rw [hR] at h2
    exact ⟨_,⟨_,h2⟩,hv⟩
   ·rename_i aL
    rw [if_neg aL] at hv
    exact ⟨_,⟨_,hi⟩,hv⟩
  ·exact hv.elim
 ·obtain ⟨v,k9,hv⟩:=cE hv
  exact val (tF k9 hw) hv
section
variable {P:Program} {ops:Array Oper} {Q:Exit ->Act ->World ->Prop} {md:Region.Mode} {S:(World ->Prop) ->Prop} {T:Nat ->Bool}
def kB (P:Program)(md:Region.Mode)(ops:Array Oper)(Q:Exit ->Act ->World ->Prop)(S:(World ->Prop) ->Prop)(T:Nat ->Bool):Nat ->Array Bool ->Act ->World ->Prop
 | 0,listed,a,w=>Region.ready md ops listed=[]/\Q .normal a w
 | fuel+1,listed,a,w=>
  (Region.ready md ops listed=[] ->Q .normal a w)/\
  ∀ i∈Region.ready md ops listed,wpOp P ops Q i (fun a' w'=>(T i=false ->∀ R,S R ->R w ->R w')/\kB P md ops Q S T fuel (listed.setIfInBounds i true) a' w') a w
theorem Ab:∀ (fuel:Nat) (listed:Array Bool) (a:Act) (w:World),kB P md ops Q S T fuel listed a w ->wpAny P md ops Q fuel listed a w
 | 0,_,_,_,h=>h
 | fuel+1,_,_,_,h=>⟨h.1,fun i hi=>wpOp_mono (fun a' w' h'=>Ab fuel _ a' w' h'.2) (h.2 i hi)⟩
theorem sC {S S':(World ->Prop) ->Prop}(h:∀ R,S R ->S' R):∀ (fuel:Nat) (listed:Array Bool) (a:Act) (w:World),kB P md ops Q S' T fuel listed a w ->kB P md ops Q S T fuel listed a w
 | 0,_,_,_,hw=>hw
 | fuel+1,_,_,_,hw=>⟨hw.1,fun i hi=>wpOp_mono (fun a' w' h'=>⟨fun ht R hR=>h'.1 ht R (h R hR),sC h fuel _ a' w' h'.2⟩) (hw.2 i hi)⟩
def Cld (md:Region.Mode)(ops:Array Oper)(listed:Array Bool):Prop:=∀ k ok,ops[k]?=some ok ->listed.getD k false=true ->∀ e∈ok.after,Region.binds md e=true ->listed.getD e.on false=true
theorem rW {l:Array Bool}{j k:Nat}(h:l.getD k false=true):(l.setIfInBounds j true).getD k false=true:=by
 by_cases Sm:j=k
 ·subst Sm
  rcases Nat.lt_or_ge j l.size with h' | h'
  ·simp [h']
  ·simp [Array.getElem?_eq_none h'] at h
 ·rw [getD_set_ne false Sm];exact h
theorem Cld.set {listed:Array Bool}{j:Nat}(h:Cld md ops listed)(hj:j∈Region.ready md ops listed):Cld md ops (listed.setIfInBounds j true):=by
 intro k ok hk hl e he hb
 by_cases Sm:j=k
 ·subst Sm
  obtain ⟨_,oj,NI,wM⟩:=mem_ready.1 hj
  rw [hk] at NI;injection NI with NI;subst NI
  exact rW (wM e he hb)
 ·rw [getD_set_ne false Sm] at hl
  exact rW (h k ok hk hl e he hb)
theorem tg {S':World ->Prop}{i:Nat}{oi:Oper}{v:Value}(hi:ops[i]?=some oi)(wW:∀ (j:Nat) (o:Oper) cs b,ops[j]?=some o ->o.op≠ .select cs b)
 (hT:(∀ w,S' w)\/(S S'/\∀ j oj,ops[j]?=some oj ->j≠i ->T j=true ->∃ e∈oj.after,Region.binds md e=true/\(e.on=i\/∃ o2,ops[e.on]?=some o2/\∃ e2∈o2.after,Region.binds md e2=true/\e2.on=i)))
 (hQ:∀ c a w,Q (.panic c) (a.put oi.dst v) w ->Q (.panic c) a w):
 ∀ (fuel:Nat) (listed:Array Bool) (a:Act) (w:World),Cld md ops listed ->
  (∀ j oj,ops[j]?=some oj ->j≠i ->listed.getD j true=false ->(∀ e∈oj.after,Region.binds md e=true ->e.on≠i) ->oi.apart ops oj=true) ->
  i∈Region.ready md ops listed ->YieldsIf P ops S' oi v a ->S' w ->
  kB P md ops Q S T fuel (listed.setIfInBounds i true) (a.put oi.dst v) w ->kB P md ops Q S T (fuel+1) listed a w:=by
 intro fuel
 induction fuel with
 | zero=>
  intro listed a w _ _ hr hy hS H
  refine ⟨fun h=>(by rw [h] at hr;cases hr),fun j hj=> ?_⟩
  by_cases xi:j=i
  ·subst xi;exact hy.wpOp hi hS ⟨fun _ _ _ h=>h,H⟩
  ·have:=ready_mono hj xi
   rw [H.1] at this
   cases this
 | succ fuel ih=>
  intro listed a w cM Zc hr hy hS H
  refine ⟨fun h=>(by rw [h] at hr;cases hr),fun j hj=> ?_⟩
  by_cases xi:j=i
  ·subst xi;exact hy.wpOp hi hS ⟨fun _ _ _ h=>h,H⟩
  ·have h1:=H.2 j (ready_mono hj xi)
   obtain ⟨aek,oj,NI,wM⟩:=mem_ready.1 hj
   have ae6:∀ e∈oj.after,Region.binds md e=true ->e.on≠i:=fun e he hb heq=>by
    have h1:=wM e he hb
    have h0:=(mem_ready.1 hr).1
    rw [heq] at h1
    rcases Nat.lt_or_ge i listed.size with h' | h'
    ·simp [h'] at h0 h1;rw [h0] at h1;cases h1
    ·simp [Array.getElem?_eq_none h'] at h1
   have h2:=wpOp_putIf NI (Zc j oj NI xi aek ae6) (fun cs b=>wW i oi cs b hi) (fun cs b=>wW j oj cs b NI) hQ hy h1
   have aaa:∀ k ok,ops[k]?=some ok ->k≠i ->(listed.setIfInBounds j true).getD k true=false ->
    (∀ e∈ok.after,Region.binds md e=true ->e.on≠i) ->oi.apart ops ok=true:=fun k ok hk hki hun bi=>by
    refine Zc k ok hk hki ?_ bi
    by_cases Sm:j=k
    ·subst Sm;exact aek
    ·rw [getD_set_ne true Sm] at hun;exact hun
   refine wpOp_mono (fun a' w' h3=>⟨h3.2.1,?_⟩) h2
   -- the world behind j meets S'
   have hTj:(∀ w,S' w)\/(S S'/\T j=false):=by
    rcases hT with h | ⟨h,hT⟩
    ·exact .inl h
    ·refine .inr ⟨h,?_⟩
     cases hTj:T j with
     | false=>rfl
     | true=>
      obtain ⟨e,he,hb,hon⟩:=hT j oj NI xi hTj
      rcases hon with hon | ⟨o2,ho2,e2,pu,dN,hon⟩
      ·exact absurd hon (ae6 e he hb)
      ·have h1:=cM e.on o2 ho2 (wM e he hb) e2 pu dN
       have h0:=(mem_ready.1 hr).1
       rw [hon] at h1
       rcases Nat.lt_or_ge i listed.size with h' | h'
       ·simp [h'] at h0 h1;rw [h0] at h1;cases h1
       ·simp [Array.getElem?_eq_none h'] at h1
   have eY:S' w':=by
    rcases hTj with h | ⟨h,hf⟩
    ·exact h w'
    ·exact h3.2.1 hf S' h hS
   refine ih (listed.setIfInBounds j true) a' w' (cM.set hj) aaa (ready_mono hr (Ne.symm xi)) h3.1 eY ?_
   rw [Array.setIfInBounds_comm _ _ xi]
   exact h3.2.2
end
inductive Sched where
 | done
 | no
 | take (i:Nat) (s:Sched)
 | eff (i:Nat) (t:Bool) (s alt:Sched)
 | effN (i:Nat) (t:Bool) (s alt:Sched)
def vn (P:Program)(ops:List Oper)(k:Nat):Bool:=match ops[k]? with | some o=>NJ P o.op | none=>false
def fg (P:Program)(ops:List Oper)(j:Nat):Bool:=
 match ops[j]? with
 | none=>false
 | some oj=>(List.range ops.length).all fun k=>k==j || !(vn P ops k) || oj.after.any (fun e=>Region.binds .any e && (e.on==k || (match ops[e.on]? with | some o2=>o2.after.any (fun e2=>Region.binds .any e2 && e2.on==k) | none=>false)))
def uv (P:Program)(ops:List Oper):Nat ->Option (List Nat) ->Array Bool ->Bool ->Sched ->Bool
 | _,none,l,_,.done=>Region.ready .any ops.toArray l==[]
 | f+1,none,l,tl,.take i s=>(Region.ready .any ops.toArray l).contains i && Region.free .any ops.toArray l i && (!(vn P ops i) || !tl) && uv P ops f none (l.setIfInBounds i true) tl s
 | f+1,none,l,tl,.eff i t s alt=>match Region.ready .any ops.toArray l with
  | []=>false
  | j::r=>j==i && (!t || fg P ops i) && (t || !tl) && uv P ops f none (l.setIfInBounds i true) (tl || t) s && uv P ops f (some r) l tl alt
 | f+1,none,l,tl,.effN i t s alt=>match Region.ready .any ops.toArray l with
  | []=>false
  | j::r=>j==i && (!t || fg P ops i) && (t || !tl) && uv P ops f none (l.setIfInBounds i true) (tl || t) s && uv P ops f (some r) l tl alt
 | f,some (j::r),l,tl,.effN i t s alt=>j==i && (!t || fg P ops i) && (t || !tl) && uv P ops f none (l.setIfInBounds i true) (tl || t) s && uv P ops f (some r) l tl alt
 | f,some (j::r),l,tl,.eff i t s alt=>j==i && (!t || fg P ops i) && (t || !tl) && uv P ops f none (l.setIfInBounds i true) (tl || t) s && uv P ops f (some r) l tl alt
 | _,some [],_,_,.no=>true
 | _,_,_,_,_=>false
def okD (P:Program)(ops:List Oper)(s:Sched):Bool:=Region.noSelect ops.toArray && uv P ops ops.length none (Array.replicate ops.length false) false s
def Zy (P:Program)(K:KontL)(ops:List Oper)(o:Oper)(e:dp)(ds:List Deferred)(h:Sh)(next:Value ->List Deferred ->Sh ->Prop):Prop:=
 if ew ops e o.guard=true then Ho P K o e ds h next else next undef ds h
def vS (P:Program)(ops:List Oper)(K:KontL):Sh ->Sched ->dp ->List Deferred ->Sh ->Prop
 | _,.done,e,ds,h=>K.nrm e ds h
 | _,.no,_,_,_=>True
 | h0,.take i s,e,ds,h=>dU ops[i]? fun o=>if ew ops e o.guard=true then dU (pv P e h0 o.op) fun v=>vS P ops K h0 s (cI e o.dst v) ds h else vS P ops K h0 s (cI e o.dst undef) ds h
 | h0,.eff i t s alt,e,ds,h=>(dU ops[i]? fun o=>Zy P K ops o e ds h fun v ds h'=>(t=false ->fO h0 h')/\vS P ops K h0 s (cI e o.dst v) ds h')/\vS P ops K h0 alt e ds h
 | h0,.effN i t s alt,e,ds,h=>(dU ops[i]? fun o=>Zy P K ops o e ds h fun v ds h'=>∃ h1,fO h0 h1/\(t=false ->fO h1 h')/\vS P ops K h1 s (cI e o.dst v) ds h')/\vS P ops K h0 alt e ds h
def wq (pan:List PanicEntry ->dp ->List Deferred ->Sh ->Prop)(ops:List Oper):Prop:=
 ∀ o∈ops,∀ d,o.dst=some d ->∀ ch e v ds h,pan ch (upd e d v) ds h ->pan ch e ds h
def KontL.toQ (c:Ctx)(n:Nat)(K:KontL):Exit ->Act ->World ->Prop
 | .normal,a,w=>∃ e ds h,Fr n a e ds/\Is c h w/\K.nrm e ds h
 | .exit id,a,w=>∃ e ds h,Fr n a e ds/\Is c h w/\K.exi id e ds h
 | .ret,a,w=>∃ e ds h,Fr n a e ds/\Is c h w/\K.ret e ds h
 | .panic ch,a,w=>∃ e ds h,Fr n a e ds/\Is c h w/\K.pan ch e ds h
 | .goto _,_,_=>False
 | .outgrown,_,_=>False
theorem UH {n:Nat}{ops:List Oper}(sZ:wy n ops=true){i:Nat}{o:Oper}(hi:ops[i]?=some o):∀ k,o.dst=some k ->k<n:=by
 intro k hk
 have:=List.all_eq_true.1 sZ o (List.mem_of_getElem? hi)
 simpa [hk] using this
theorem LJ {P:Program}{n:Nat}{c:Ctx}{ops:List Oper}(sZ:wy n ops=true){K:KontL}{i:Nat}{o:Oper}(hi:ops[i]?=some o)
 {e:dp} {ds:List Deferred} {h:Sh} {w:World} {a:Act} {next:Value ->List Deferred ->Sh ->Prop}
 (ha:Fr n a e ds) (hw:Is c h w) (hv:Zy P K ops o e ds h next):
 wpOp P ops.toArray (K.toQ c n) i (fun a' w'=>∃ v ds' h',Fr n a' (cI e o.dst v) ds'/\Is c h' w'/\next v ds' h') a w:=by
 have hd:=UH sZ hi
 unfold wpOp
 simp only [List.getElem?_toArray,hi]
 rw [pA ha ops sZ]
 unfold Zy at hv
 by_cases OL:ew ops e o.guard=true
 ·rw [if_pos OL] at hv ⊢
  refine .inl ?_
  unfold Oper.wp
  have he:a.eval=ev e:=funext ha.eval
  rw [he]
  have hv:=yX hv hw
  generalize (execOp (ev e) o).run P w=res at hv ⊢
  unfold Oper.upon
  cases res with
  | halt hh w'=>
   cases hh<;>simp only [upon] at hv ⊢
   obtain ⟨h',gh,hv⟩:=hv
   exact ⟨e,ds,h',ha,gh,hv⟩
  | ok x w'=>
   cases x<;>simp only [upon] at hv ⊢
   case value v=>
    obtain ⟨h',gh,hv⟩:=hv
    exact ⟨v,ds,h',ha.put hd v,gh,hv⟩
   case skip=>
    obtain ⟨h',gh,hv⟩:=hv
    exact ⟨_,ds,h',ha.put hd _,gh,hv⟩
   case defer d=>
    obtain ⟨h',gh,hv⟩:=hv
    have h2:Fr n {a with defers:=d::a.defers} e (d::ds):=⟨ha.1,by simp [ha.2.1],ha.2.2⟩
    exact ⟨_,_,h',h2.put hd undef,gh,hv⟩
   case enter f args=>
    refine Calls.mono hv ?_
    intro en w'' hq
    cases en with
    | returned v=>
     obtain ⟨h',gh,hv⟩:=hq
     exact ⟨v,ds,h',ha.put hd v,gh,hv⟩
    | panicked ch=>
     obtain ⟨h',gh,hv⟩:=hq
     exact ⟨e,ds,h',ha,gh,hv⟩
    | outgrown=>exact hq.elim
 ·rw [if_neg OL] at hv ⊢
  exact ⟨_,ds,h,ha.put hd _,hw,hv⟩
def SS (c:Ctx)(h0:Sh)(w:World):Prop:=∃ h',Is c h' w/\fO h0 h'
theorem GW {P:Program}{ops:List Oper}{i j:Nat}{oj:Oper}(hj:ops[j]?=some oj)(cu:j≠i)(ht:fg P ops j=true)(hl:vn P ops i=true):
 ∃ e∈oj.after,Region.binds .any e=true/\(e.on=i\/∃ o2,ops[e.on]?=some o2/\∃ e2∈o2.after,Region.binds .any e2=true/\e2.on=i):=by
 unfold fg at ht
 rw [hj] at ht
 simp only [List.all_eq_true,List.mem_range] at ht
 have aL:i<ops.length:=by
  unfold vn at hl
  split at hl
  ·rename_i o ho;exact (List.getElem?_eq_some_iff.1 ho).1
  ·cases hl
 have:=ht i aL
 simp only [hl,Bool.not_true,Bool.or_false,Bool.or_eq_true,beq_iff_eq] at this
 rcases this with h | h
 ·exact absurd h.symm cu
 ·obtain ⟨e,he,hb⟩:=Array.any_eq_true'.1 h
  simp only [Bool.and_eq_true,Bool.or_eq_true,beq_iff_eq] at hb
  refine ⟨e,he,hb.1,?_⟩
  rcases hb.2 with h | h
  ·exact .inl h
  ·split at h
   ·rename_i o2 ho2
    obtain ⟨e2,pu,dN⟩:=Array.any_eq_true'.1 h
    simp only [Bool.and_eq_true,beq_iff_eq] at dN
    exact .inr ⟨o2,ho2,e2,pu,dN⟩
   ·cases h
def Vo (c:Ctx)(G:Sh ->Prop):(World ->Prop) ->Prop:=fun R=>∃ g,G g/\R=SS c g
theorem QM {P:Program}{n:Nat}{c:Ctx}{ops:List Oper}(sZ:wy n ops=true){K:KontL}(wW:Region.noSelect ops.toArray=true)(VB:wq K.pan ops):
 ∀ (s:Sched) (h0:Sh) (G:Sh ->Prop) (f:Nat) (r:Option (List Nat)) (l:Array Bool) (tl:Bool) (e:dp) (ds:List Deferred) (h:Sh) (w:World) (a:Act),
  G h0 ->(∀ g,G g ->fO g h0) ->(Cld .any ops.toArray l/\∀ rs,r=some rs ->∀ j∈rs,j∈Region.ready .any ops.toArray l) ->uv P ops f r l tl s=true ->Fr n a e ds ->Is c h w ->(tl=false ->fO h0 h) ->vS P ops K h0 s e ds h ->
  match r with
  | none=>kB P .any ops.toArray (K.toQ c n) (Vo c G) (fg P ops) f l a w
  | some r=>∀ j∈r,wpOp P ops.toArray (K.toQ c n) j (fun a' w'=>(fg P ops j=false ->∀ R,Vo c G R ->R w ->R w')/\kB P .any ops.toArray (K.toQ c n) (Vo c G) (fg P ops) f (l.setIfInBounds j true) a' w') a w:=by
 have Ue:∀ (o:Oper),o∈ops ->∀ (ch) (a:Act) (v:Value) (w:World),K.toQ c n (.panic ch) (a.put o.dst v) w ->K.toQ c n (.panic ch) a w:=by
  intro o ho ch a v w hq
  obtain ⟨e',ds',h',hf,hw,hq⟩:=hq
  cases hd:o.dst with
  | none=>rw [hd] at hf;exact ⟨e',ds',h',hf,hw,hq⟩
  | some d=>
   rw [hd] at hf
   have hn:a.tmps.size=n:=by simpa [Act.put] using hf.1
   have h1:Fr n a (fun t=>a.tmps.getD t undef) a.defers:=⟨hn,rfl,fun _=>rfl⟩
   have h2:Fr n (a.put (some d) v) (upd (fun t=>a.tmps.getD t undef) d v) a.defers:=
    h1.put (d:=some d) (fun k hk=>by
     injection hk with hk;subst hk
     have:=List.all_eq_true.1 sZ o ho
     simpa [hd] using this) v
   obtain ⟨he,uw⟩:=hf.uniq h2
   subst he uw
   exact ⟨_,_,h',h1,hw,VB o ho d hd _ _ _ _ _ hq⟩
 -- one effect
 have one:∀ (h0:Sh) (G:Sh ->Prop) (_:∀ g,G g ->fO g h0) (i:Nat) (t:Bool) (s:Sched) (f:Nat) (l:Array Bool) (tl:Bool) (e:dp) (ds:List Deferred) (h:Sh) (w:World) (a:Act),
  (∀ (e:dp) (ds:List Deferred) (h:Sh) (w:World) (a:Act),Fr n a e ds ->Is c h w ->((tl || t)=false ->fO h0 h) ->vS P ops K h0 s e ds h ->
   kB P .any ops.toArray (K.toQ c n) (Vo c G) (fg P ops) f (l.setIfInBounds i true) a w) ->
  (t=true ->fg P ops i=true) ->Fr n a e ds ->Is c h w ->
  (dU ops[i]? fun o=>Zy P K ops o e ds h fun v ds h'=>(t=false ->fO h0 h')/\vS P ops K h0 s (cI e o.dst v) ds h') ->
  wpOp P ops.toArray (K.toQ c n) i (fun a' w'=>(fg P ops i=false ->∀ R,Vo c G R ->R w ->R w')/\kB P .any ops.toArray (K.toQ c n) (Vo c G) (fg P ops) f (l.setIfInBounds i true) a' w') a w:=by
  intro h0 G hG i t s f l tl e ds h w a ih ht ha hw hv
  obtain ⟨o,ho,hv⟩:=cE hv
  refine wpOp_mono ?_ (LJ sZ ho ha hw hv)
  rintro a' w' ⟨v,ds',h',hf,gh,jP,hv⟩
  refine ⟨fun htf R hR _=> ?_,ih _ _ _ _ _ hf gh ?_ hv⟩
  ·obtain ⟨g,hg,rfl⟩:=hR
   exact ⟨h',gh,(hG g hg).trans (jP (by cases t with | false=>rfl | true=>rw [ht rfl] at htf;cases htf))⟩
  intro h2
  simp only [Bool.or_eq_false_iff] at h2
  exact jP h2.2
 have oneN:∀ (h0:Sh) (G:Sh ->Prop) (_:∀ g,G g ->fO g h0) (i:Nat) (t:Bool) (s:Sched) (f:Nat) (l:Array Bool) (tl:Bool) (e:dp) (ds:List Deferred) (h:Sh) (w:World) (a:Act),
  (∀ (h1:Sh),fO h0 h1 ->∀ (e:dp) (ds:List Deferred) (h:Sh) (w:World) (a:Act),Fr n a e ds ->Is c h w ->((tl || t)=false ->fO h1 h) ->vS P ops K h1 s e ds h ->
   kB P .any ops.toArray (K.toQ c n) (Vo c G) (fg P ops) f (l.setIfInBounds i true) a w) ->
  (t=true ->fg P ops i=true) ->Fr n a e ds ->Is c h w ->
  (dU ops[i]? fun o=>Zy P K ops o e ds h fun v ds h'=>∃ h1,fO h0 h1/\(t=false ->fO h1 h')/\vS P ops K h1 s (cI e o.dst v) ds h') ->
  wpOp P ops.toArray (K.toQ c n) i (fun a' w'=>(fg P ops i=false ->∀ R,Vo c G R ->R w ->R w')/\kB P .any ops.toArray (K.toQ c n) (Vo c G) (fg P ops) f (l.setIfInBounds i true) a' w') a w:=by
  intro h0 G hG i t s f l tl e ds h w a ih ht ha hw hv
  obtain ⟨o,ho,hv⟩:=cE hv
  refine wpOp_mono ?_ (LJ sZ ho ha hw hv)
  rintro a' w' ⟨v,ds',h',hf,gh,h1,Kf,jP,hv⟩
  refine ⟨fun htf R hR _=> ?_,ih h1 Kf _ _ _ _ _ hf gh ?_ hv⟩
  ·obtain ⟨g,hg,rfl⟩:=hR
   exact ⟨h',gh,((hG g hg).trans Kf).trans (jP (by cases t with | false=>rfl | true=>rw [ht rfl] at htf;cases htf))⟩
  intro h2
  simp only [Bool.or_eq_false_iff] at h2
  exact jP h2.2
 intro s
 induction s with
 | done=>
  intro h0 G f r l tl e ds h w a Pj hG cM cB ha hw jP hv
  cases r with
  | none=>
   have hr:Region.ready .any ops.toArray l=[]:=by simpa [uv] using cB
   have hq:K.toQ c n .normal a w:=⟨e,ds,h,ha,hw,hv⟩
   cases f with
   | zero=>exact ⟨hr,hq⟩
   | succ f=>exact ⟨fun _=>hq,by rw [hr];simp⟩
  | some r=>cases f<;>cases r<;>simp [uv] at cB
 | no=>
  intro h0 G f r l tl e ds h w a Pj hG cM cB ha hw jP hv
  cases r with
  | none=>cases f<;>simp [uv] at cB
  | some r=>
   cases r with
   | nil=>intro j hj;simp at hj
   | cons j r=>cases f<;>simp [uv] at cB
 | take i s ih=>
  intro h0 G f r l tl e ds h w a Pj hG cM cB ha hw jP hv
  cases r with
  | some r=>cases f<;>cases r<;>simp [uv] at cB
  | none=>
   cases f with
   | zero=>simp [uv] at cB
   | succ f=>
    simp only [uv,Bool.and_eq_true,Bool.or_eq_true,Bool.not_eq_true'] at cB
    obtain ⟨⟨⟨hr,hf⟩,hld⟩,cB⟩:=cB
    obtain ⟨o,ho,hv⟩:=cE hv
    have hi:ops.toArray[i]?=some o:=by simpa using ho
    have he:a.eval=ev e:=funext ha.eval
    have hww:Region.wanted o (yielded ops.toArray a.tmps)=ew ops e o.guard:=pA ha ops sZ o
    have ZI:vn P ops i=NJ P o.op:=by unfold vn;rw [ho]
    have cont:∀ v,vS P ops K h0 s (cI e o.dst v) ds h ->(∀ S',(∀ w,S' w ->SS c h0 w)\/NJ P o.op=false ->YieldsIf P ops.toArray S' o v a) ->
     kB P .any ops.toArray (K.toQ c n) (Vo c G) (fg P ops) (f+1) l a w:=by
     intro v hv hy
     have Ur:=ih h0 G f none (l.setIfInBounds i true) tl (cI e o.dst v) ds h w (a.put o.dst v) Pj hG ⟨cM.1.set (by simpa using hr),fun _ h=>by cases h⟩ cB (ha.put (UH sZ ho) v) hw jP hv
     simp only [] at Ur
     cases hl:NJ P o.op with
     | false=>
      exact tg (S':=fun _=>True) hi (Region.noSelect_spec wW) (.inl fun _=>trivial) (fun ch a w=>Ue o (List.mem_of_getElem? ho) ch a v w)
       f l a w cM.1 (Region.free_spec hi hf) (by simpa using hr) (hy _ (.inr hl)) trivial Ur
     | true=>
      have Dc:tl=false:=by
       rcases hld with h | h
       ·rw [ZI,hl] at h;cases h
       ·exact h
      refine tg (S':=SS c h0) hi (Region.noSelect_spec wW) (.inr ⟨⟨h0,Pj,rfl⟩,fun j oj hj cu ht=>by simpa using GW (by simpa using hj) cu ht (by rw [ZI];exact hl)⟩)
       (fun ch a w=>Ue o (List.mem_of_getElem? ho) ch a v w) f l a w cM.1 (Region.free_spec hi hf) (by simpa using hr) (hy _ (.inl fun _ h=>h)) ⟨h,hw,jP Dc⟩ Ur
    by_cases OL:ew ops e o.guard=true
    ·rw [if_pos OL] at hv
     obtain ⟨v,hpv,hv⟩:=cE hv
     refine cont v hv fun S' eY=> .inl ⟨by rw [hww];exact OL,fun w hSw=> ?_⟩
     rw [he]
     rcases eY with eY | eY
     ·obtain ⟨h',gh,yJ⟩:=eY w hSw
      exact tF (WM hpv fun _=>yJ) gh
     ·exact B9 (c:=c) hpv fun hl=>by rw [eY] at hl;cases hl
    ·rw [if_neg OL] at hv
     refine cont undef hv fun S' _=> .inr ⟨by rw [hww];simpa using OL,rfl⟩
 | eff i t s alt ihs iha=>
  intro h0 G f r l tl e ds h w a Pj hG cM cB ha hw jP hv
  obtain ⟨k9,sj⟩:=hv
  cases r with
  | none=>
   cases f with
   | zero=>simp [uv] at cB
   | succ f=>
    simp only [uv] at cB
    split at cB
    ·cases cB
    ·rename_i j r hr
     simp only [Bool.and_eq_true,beq_iff_eq] at cB
     obtain ⟨⟨⟨⟨xi,ht⟩,Dc⟩,HN⟩,pq⟩:=cB
     replace ht:t=true ->fg P ops i=true:=fun h=>by rw [h] at ht;simpa using ht
     subst xi
     have Z7:j∈Region.ready .any ops.toArray l:=by rw [hr];simp
     have Pr:∀ rs,some r=some rs ->∀ k∈rs,k∈Region.ready .any ops.toArray l:=fun rs h k hk=>by injection h with h;subst h;rw [hr];exact wU hk
     have h1:=one h0 G hG j t s f l tl e ds h w a (fun e ds h w a hf hw hs hv=>ihs h0 G f none _ _ e ds h w a Pj hG ⟨cM.1.set Z7,fun _ h=>by cases h⟩ HN hf hw hs hv) ht ha hw k9
     have h2:=iha h0 G f (some r) l tl e ds h w a Pj hG ⟨cM.1,Pr⟩ pq ha hw jP sj
     refine ⟨fun h0=>absurd (hr ▸ h0) (by simp),fun k hk=> ?_⟩
     rw [hr] at hk
     rcases mY hk with rfl | hk
     ·exact h1
     ·exact h2 k hk
  | some r=>
   cases r with
   | nil=>cases f<;>simp [uv] at cB
   | cons j r=>
    have iR:(j==i && (!t || fg P ops i) && (t || !tl) && uv P ops f none (l.setIfInBounds i true) (tl || t) s && uv P ops f (some r) l tl alt)=true:=by
     cases f<;>exact cB
    simp only [Bool.and_eq_true,beq_iff_eq] at iR
    obtain ⟨⟨⟨⟨xi,ht⟩,Dc⟩,HN⟩,pq⟩:=iR
    replace ht:t=true ->fg P ops i=true:=fun h=>by rw [h] at ht;simpa using ht
    subst xi
    have Z7:j∈Region.ready .any ops.toArray l:=cM.2 _ rfl j (by simp)
    have Pr:∀ rs,some r=some rs ->∀ k∈rs,k∈Region.ready .any ops.toArray l:=fun rs h k hk=>by injection h with h;subst h;exact cM.2 _ rfl k (wU hk)
    have h1:=one h0 G hG j t s f l tl e ds h w a (fun e ds h w a hf hw hs hv=>ihs h0 G f none _ _ e ds h w a Pj hG ⟨cM.1.set Z7,fun _ h=>by cases h⟩ HN hf hw hs hv) ht ha hw k9
    have h2:=iha h0 G f (some r) l tl e ds h w a Pj hG ⟨cM.1,Pr⟩ pq ha hw jP sj
    intro k hk
    rcases mY hk with rfl | hk
    ·exact h1
    ·exact h2 k hk
 | effN i t s alt ihs iha=>
  intro h0 G f r l tl e ds h w a Pj hG cM cB ha hw jP hv
  obtain ⟨k9,sj⟩:=hv
  cases r with
  | none=>
   cases f with
   | zero=>simp [uv] at cB
   | succ f=>
    simp only [uv] at cB
    split at cB
    ·cases cB
    ·rename_i j r hr
     simp only [Bool.and_eq_true,beq_iff_eq] at cB
     obtain ⟨⟨⟨⟨xi,ht⟩,Dc⟩,HN⟩,pq⟩:=cB
     replace ht:t=true ->fg P ops i=true:=fun h=>by rw [h] at ht;simpa using ht
     subst xi
     have Z7:j∈Region.ready .any ops.toArray l:=by rw [hr];simp
     have Pr:∀ rs,some r=some rs ->∀ k∈rs,k∈Region.ready .any ops.toArray l:=fun rs h k hk=>by injection h with h;subst h;rw [hr];exact wU hk
     have h1:=oneN h0 G hG j t s f l tl e ds h w a (fun g1 Kf e ds h w a hf hw hs hv=>sC (fun R hR=>by obtain ⟨g,hg,hR⟩:=hR;exact ⟨g,.inl hg,hR⟩) _ _ _ _ (ihs g1 (fun g=>G g\/g=g1) f none _ _ e ds h w a (.inr rfl) (fun g hg=>by rcases hg with hg | rfl;exact (hG g hg).trans Kf;exact fO.refl _) ⟨cM.1.set Z7,fun _ h=>by cases h⟩ HN hf hw hs hv)) ht ha hw k9
     have h2:=iha h0 G f (some r) l tl e ds h w a Pj hG ⟨cM.1,Pr⟩ pq ha hw jP sj
     refine ⟨fun h0=>absurd (hr ▸ h0) (by simp),fun k hk=> ?_⟩
     rw [hr] at hk
     rcases mY hk with rfl | hk
     ·exact h1
     ·exact h2 k hk
  | some r=>
   cases r with
   | nil=>cases f<;>simp [uv] at cB
   | cons j r=>
    have iR:(j==i && (!t || fg P ops i) && (t || !tl) && uv P ops f none (l.setIfInBounds i true) (tl || t) s && uv P ops f (some r) l tl alt)=true:=by
     cases f<;>exact cB
    simp only [Bool.and_eq_true,beq_iff_eq] at iR
    obtain ⟨⟨⟨⟨xi,ht⟩,Dc⟩,HN⟩,pq⟩:=iR
    replace ht:t=true ->fg P ops i=true:=fun h=>by rw [h] at ht;simpa using ht
    subst xi
    have Z7:j∈Region.ready .any ops.toArray l:=cM.2 _ rfl j (by simp)
    have Pr:∀ rs,some r=some rs ->∀ k∈rs,k∈Region.ready .any ops.toArray l:=fun rs h k hk=>by injection h with h;subst h;exact cM.2 _ rfl k (wU hk)
    have h1:=oneN h0 G hG j t s f l tl e ds h w a (fun g1 Kf e ds h w a hf hw hs hv=>sC (fun R hR=>by obtain ⟨g,hg,hR⟩:=hR;exact ⟨g,.inl hg,hR⟩) _ _ _ _ (ihs g1 (fun g=>G g\/g=g1) f none _ _ e ds h w a (.inr rfl) (fun g hg=>by rcases hg with hg | rfl;exact (hG g hg).trans Kf;exact fO.refl _) ⟨cM.1.set Z7,fun _ h=>by cases h⟩ HN hf hw hs hv)) ht ha hw k9
    have h2:=iha h0 G f (some r) l tl e ds h w a Pj hG ⟨cM.1,Pr⟩ pq ha hw jP sj
    intro k hk
    rcases mY hk with rfl | hk
    ·exact h1
    ·exact h2 k hk
def mh:Op ->Bool
 | .move _ | .assign _ | .pick _ _ _ | .nilCheck _ | .fieldAddr _ _ _ | .indexAddr _ _ _ | .index _ _ _ | .binOp _ _ _ _ _ | .unOp _ _ _ | .extract _ _ | .build _ _ | .convert _ _ _ | .makeInterface _ _ | .makeFunc _ _ _ | .slice _ _ _ _ _ | .load _ _ | .field _ _ _=>true
 | .call c=>match c.callee with | .builtin .len=>true | .builtin .cap=>true | _=>false
 | _=>false
def nA (o:Oper):Bool:=o.guard.isSome && mh o.op
def jS (P:Program)(ops:List Oper)(K:KontL):List Oper ->dp ->List Deferred ->Sh ->Prop
 | [],e,ds,h=>K.nrm e ds h
 | o::r,e,ds,h=>
  if nA o=true then dU (if ew ops e o.guard=true then pv P e h o.op else some undef) fun v=>jS P ops K r (cI e o.dst v) ds h
  else if ew ops e o.guard=true then Ho P K o e ds h (fun v ds h=>jS P ops K r (cI e o.dst v) ds h)
  else jS P ops K r (cI e o.dst undef) ds h
def JN (dr:List (Nat×Sched))(id:Nat):Sched:=match dr with | []=> .no | (j,s)::r=>if j=id then s else JN r id
def eo (P:Program)(n:Nat)(dr:List (Nat×Sched)):Code ->Bool
 | .skip | .exit _ | .ret=>true
 | .region id ops d=>wy n ops.toList && (!d || okD P ops.toList (JN dr id))
 | .seq a b | .cond _ a b=>eo P n dr a && eo P n dr b
 | .block _ b | .loop b=>eo P n dr b
 | _=>false
def up (P:Program)(dr:List (Nat×Sched))(id:Nat)(ops:List Oper)(d:Bool)(K:KontL)(e:dp)(ds:List Deferred)(h:Sh):Prop:=
 if d=true then wq K.pan ops/\(∃ h0,fO h0 h/\vS P ops K h0 (JN dr id) e ds h) else jS P ops K ops e ds h
def cq (h:Sh)(k:Sh ->Prop):Prop:=∀ c w,Is c h w ->∃ h',Is c h' w/\k h'
def Vh (P:Program)(dr:List (Nat×Sched)):Code ->KontL ->dp ->List Deferred ->Sh ->Prop
 | .skip,K=>K.nrm
 | .region id ops d,K=>up P dr id ops.toList d K
 | .seq a b,K=>Vh P dr a {K with nrm:=Vh P dr b K}
 | .cond c a b,K=>fun e ds h=>Bu (ev e c) fun t=>if t=true then Vh P dr a K e ds h else Vh P dr b K e ds h
 | .block id b,K=>Vh P dr b {K with exi:=fun i=>if i=id then K.nrm else K.exi i}
 | .loop b,K=>fun e ds h=>∃ (I:Nat ->dp ->List Deferred ->Sh ->Prop),(cq h fun h=>∃ m,I m e ds h)/\
  ∀ m e ds h,I m e ds h ->Vh P dr b {K with nrm:=fun e ds h=>cq h fun h=>∃ m',m'<m/\I m' e ds h} e ds h
 | .exit id,K=>K.exi id
 | .ret,K=>K.ret
 | _,_=>fun _ _ _=>False
theorem Is.drawn {c h w}(hw:Is c h w):Is c h {w with drawn:=w.drawn+1}:=by
 obtain ⟨bs,hi⟩:=hw
 exact ⟨bs,
  {typ:=hi.typ
   holds:=hi.holds
   blk:=hi.blk
   rows:=hi.rows
   nodup:=hi.nodup
   apart:=hi.apart
   os:=hi.os
   tape:=hi.tape
   output:=hi.output
   size:=hi.size
   old:=hi.old
   mem:=hi.mem
   le:=hi.le}⟩
theorem IJ {P:Program}{n:Nat}{c:Ctx}{ops:List Oper}(sZ:wy n ops=true){K:KontL}:∀ (l:List Oper) (_:wy n l=true) (e:dp) (ds:List Deferred) (h:Sh) (w:World) (a:Act),
 Fr n a e ds ->Is c h w ->jS P ops K l e ds h ->wpList P ops.toArray (K.toQ c n) l a w:=by
 intro l
 induction l with
 | nil=>
  intro _ e ds h w a ha hw hv
  exact ⟨e,ds,h,ha,hw,hv⟩
 | cons o r ih=>
  intro hl e ds h w a ha hw hv
  simp only [wy,List.all_cons,Bool.and_eq_true] at hl
  have hd:∀ k,o.dst=some k ->k<n:=by
   intro k hk
   have:=hl.1
   simp [hk] at this
   exact this
  have ih:=ih hl.2
  unfold jS at hv
  unfold wpList
  rw [pA ha ops sZ]
  by_cases hpg:nA o=true
  ·rw [if_pos hpg] at hv
   obtain ⟨v,k9,hv⟩:=cE hv
   by_cases OL:ew ops e o.guard=true
   ·rw [if_pos OL] at k9 ⊢
    refine .inl ?_
    unfold Oper.wp
    have he:a.eval=ev e:=funext ha.eval
    rw [he,tF k9 hw]
    exact ih _ _ _ _ _ (ha.put hd v) hw hv
   ·rw [if_neg OL] at k9 ⊢
    injection k9 with k9
    subst k9
    exact ih _ _ _ _ _ (ha.put hd _) hw hv
  rw [if_neg hpg] at hv
  by_cases OL:ew ops e o.guard=true
  ·rw [if_pos OL] at hv ⊢
   refine .inl ?_
   unfold Oper.wp
   have he:a.eval=ev e:=funext ha.eval
   rw [he]
   have hv:=yX hv hw
   generalize (execOp (ev e) o).run P w=res at hv ⊢
   unfold Oper.upon
   cases res with
   | halt hh w'=>
    cases hh<;>simp only [upon] at hv ⊢
    obtain ⟨h',gh,hv⟩:=hv
    exact ⟨e,ds,h',ha,gh,hv⟩
   | ok x w'=>
    cases x<;>simp only [upon] at hv ⊢
    case value v=>
     obtain ⟨h',gh,hv⟩:=hv
     exact ih _ _ _ _ _ (ha.put hd v) gh hv
    case skip=>
     obtain ⟨h',gh,hv⟩:=hv
     exact ih _ _ _ _ _ (ha.put hd _) gh hv
    case defer d=>
     obtain ⟨h',gh,hv⟩:=hv
     refine ih _ _ _ _ _ ?_ gh hv
     have h2:Fr n {a with defers:=d::a.defers} e (d::ds):=⟨ha.1,by simp [ha.2.1],ha.2.2⟩
     exact h2.put hd undef
    case enter f args=>
     refine Calls.mono hv ?_
     intro en w'' hq
     cases en with
     | returned v=>
      obtain ⟨h',gh,hv⟩:=hq
      exact ih _ _ _ _ _ (ha.put hd v) gh hv
     | panicked ch=>
      obtain ⟨h',gh,hv⟩:=hq
      exact ⟨e,ds,h',ha,gh,hv⟩
     | outgrown=>exact hq.elim
  ·rw [if_neg OL] at hv ⊢
   exact ih _ _ _ _ _ (ha.put hd _) hw hv
theorem jK {P:Program}{n:Nat}{c₀:Ctx}{dr:List (Nat×Sched)}(hm:P.follows .mixedOrders=true):∀ (c:Code) (K:KontL) (e:dp) (ds:List Deferred) (h:Sh) (w:World) (a:Act),eo P n dr c=true ->
 Fr n a e ds ->Is c₀ h w ->Vh P dr c K e ds h ->c.wp P (K.toQ c₀ n) a w:=by
 intro c
 induction c with
 | skip=>exact fun K e ds h w a _ ha hw hv=>wp_skip ⟨e,ds,h,ha,hw,hv⟩
 | ret=>exact fun K e ds h w a _ ha hw hv=>wp_ret ⟨e,ds,h,ha,hw,hv⟩
 | exit id=>exact fun K e ds h w a _ ha hw hv=>wp_exit ⟨e,ds,h,ha,hw,hv⟩
 | region id ops d=>
  intro K e ds h w a hc ha hw hv
  simp only [eo,Bool.and_eq_true] at hc
  obtain ⟨cB,BQ⟩:=hc
  have hv:up P dr id ops.toList d K e ds h:=hv
  unfold up at hv
  cases d with
  | false=>
   simp only [Bool.false_eq_true,if_false] at hv
   refine wp_region_list ?_
   have:=IJ cB ops.toList cB e ds h w a ha hw hv
   simpa using this
  | true=>
   simp only [if_true] at hv
   simp only [Bool.not_true,Bool.false_or,okD,Bool.and_eq_true] at BQ
   obtain ⟨hp,h0,jP,hv⟩:=hv
   have:=QM (P:=P) (c:=c₀) cB (by simpa using BQ.1) hp (JN dr id) h0 (fun g=>g=h0) ops.toList.length none (Array.replicate ops.toList.length false) false e ds h _ a rfl (fun g hg=>by rw [hg];exact fO.refl _) ⟨fun k ok hk hl=>(by simp [Array.getElem?_replicate] at hl;split at hl<;>cases hl),fun _ h=>(by cases h)⟩ BQ.2 ha hw.drawn (fun _=>jP) hv
   simp only [Array.toArray_toList,Array.length_toList] at this
   exact wp_region_any hm (Ab _ _ _ _ this)
 | seq x y ihx ihy=>
  intro K e ds h w a hc ha hw hv
  simp only [eo,Bool.and_eq_true] at hc
  refine wp_seq (wp_mono (ihx _ e ds h w a hc.1 ha hw hv) ?_)
  intro ex a' w' hq
  cases ex with
  | normal=>
   obtain ⟨e',ds',h',hf,gh,hq⟩:=hq
   exact ihy K e' ds' h' w' a' hc.2 hf gh hq
  | _=>exact hq
 | cond c x y ihx ihy=>
  intro K e ds h w a hc ha hw hv
  simp only [eo,Bool.and_eq_true] at hc
  obtain ⟨t,Zx,hv⟩:=uZ hv
  refine wp_cond_split (t:=t) (by rw [ha.eval];exact Zx) ?_ ?_
  ·rintro rfl;exact ihx K e ds h w a hc.1 ha hw (by simpa using hv)
  ·rintro rfl;exact ihy K e ds h w a hc.2 ha hw (by simpa using hv)
 | block id b ih=>
  intro K e ds h w a hc ha hw hv
  refine wp_block (wp_mono (ih _ e ds h w a hc ha hw hv) ?_)
  intro ex a' w' hq
  cases ex with
  | exit i=>
   obtain ⟨e',ds',h',hf,gh,hq⟩:=hq
   simp only [Exit.inBlock]
   by_cases hi:i=id
   ·simp only [hi,if_true] at hq ⊢;exact ⟨e',ds',h',hf,gh,hq⟩
   ·simp only [hi,if_false] at hq ⊢;exact ⟨e',ds',h',hf,gh,hq⟩
  | _=>exact hq
 | loop b ih=>
  intro K e ds h w a hc ha hw hv
  obtain ⟨I,cM,hr⟩:=hv
  obtain ⟨h,hw,m,hI⟩:=cM _ _ hw
  intro fb k cs
  have key:∀ m e ds h w a,Fr n a e ds ->Is c₀ h w ->I m e ds h ->∃ ex a' w',K.toQ c₀ n ex a' w'/\Arrives P (lone (fb.at a (.code b:: .inLoop b::k)) cs w) fb k cs ex a' w':=by
   intro m
   induction m using Nat.strongRecOn with
   | _ m ihm=>
    intro e ds h w a ha hw hI
    obtain ⟨ex,a₁,w₁,hq,NH⟩:=ih _ e ds h w a hc ha hw (hr m e ds h hI) fb (.inLoop b::k) cs
    cases ex with
    | normal=>
     obtain ⟨e',ds',h',hf,gh,hq⟩:=hq
     obtain ⟨h',gh,m',DT,hI'⟩:=hq _ _ gh
     obtain ⟨e₂,a₂,w₂,hq₂,adU⟩:=ihm m' DT e' ds' h' w₁ a₁ hf gh hI'
     exact ⟨e₂,a₂,w₂,hq₂,.of_steps (Steps.trans NH (.one step_inLoop)) adU⟩
    | exit id=>exact ⟨.exit id,a₁,w₁,hq,.pass (x:=.inLoop b) rfl (fun _ _=> .inl (by simp)) NH⟩
    | goto l=>exact hq.elim
    | ret=>exact ⟨.ret,a₁,w₁,hq,.pass (x:=.inLoop b) rfl (fun _ _=> .inl (by simp)) NH⟩
    | panic ch=>exact ⟨.panic ch,a₁,w₁,hq,.pass (x:=.inLoop b) rfl (fun _ _=> .inl (by simp)) NH⟩
    | outgrown=>exact hq.elim
  obtain ⟨ex,a',w',hq,NH⟩:=key m e ds h w a ha hw hI
  exact ⟨ex,a',w',hq,.of_steps (.one step_loop) NH⟩
 | rangeFunc=>exact fun K e ds h w a hc=>by simp [eo] at hc
 | scope=>exact fun K e ds h w a hc=>by simp [eo] at hc
 | label=>exact fun K e ds h w a hc=>by simp [eo] at hc
 | goto=>exact fun K e ds h w a hc=>by simp [eo] at hc
 | refuse=>exact fun K e ds h w a hc=>by simp [eo] at hc
end Vc

import Derived.Test.YtmccpbcbofhmlaaGreatDoorI
import Derived.Test.YtmccpbcbofhmlaaGreatDoorRows
import Derived.Test.YtmccpbcbofhmlaaGreatDoorCards
import Derived.Test.YtmccpbcbofhmlaaGreatDoorTie
import Derived.ProofKit
import Derived.OpenShut
import Derived.Deep.DeepHandedRow
import Derived.Deep.DeepWitnessRowRef
import Derived.Lib.LaidTab
import Derived.LaidSub
import Derived.LaidLaws
import Derived.Shelf.Vars
import Derived.ChangeMaps5
import Derived.ReadAgain
import Derived.Test.YtmccpbcbofhmlaaGreatDoorE
import Derived.Shelf.Strings.Builder1
import Derived.Lib.Replace
import Derived.Lib.ItoaNum
import Derived.Lib.Strings
import Derived.Lib.SplitLaws
import Derived.Lib.ItoaLen
set_option linter.all false
namespace Go.Proofs.YtmccpbcbofhmlaaGreatDoor
open Go Vc
set_option maxRecDepth 100000
theorem Pa {H:Type}(d:DataW H):1<=Rows.uptoBulk d:=by
 cases d with
 | lit l=>cases l<;>simp [Rows.uptoBulk]
 | _=>simp [Rows.uptoBulk]
theorem wJ {H:Type}:∀ (l:List (DataW H)),l.length<=Rows.uptoBulkAll l
 | []=>by simp [Rows.uptoBulkAll]
 | d::l=>by
  have:=Pa d
  have:=wJ l
  simp only [Rows.uptoBulkAll,List.length_cons]
  omega
theorem zo {H:Type}:∀ {l:List (DataW H)} {d:DataW H},d∈l ->Rows.uptoBulk d<=Rows.uptoBulkAll l
 | a::l,d,h=>by
  simp only [Rows.uptoBulkAll]
  rcases List.mem_cons.1 h with rfl | h
  ·omega
  ·have:=zo h;omega
section
variable {H:Type} {enc:TypeId×Value ->H} {W:World}
def uQ (enc:TypeId×Value ->H)(P:Program)(W:World)(n:Nat)(t:TypeId){α:Type}(r:α ->List Value ->Prop):Prop:=
 ∀ (sp:Nat ->Bool) m,m<=n ->∀ cs (x:DataW H×List MemPlace),DataW.trod enc P W 0 sp true m t cs=some x ->Rows.uptoBulk x.1<=1048576 ->∃ a,r a cs
theorem jc {P:Program}{t:TypeId}{α:Type}{r:α ->List Value ->Prop}:uQ enc P W 0 t r:=by
 intro sp m hm cs x h
 obtain rfl:m=0:=by omega
 simp [DataW.trod] at h
theorem yQ {P:Program}{α:Type}{r:α ->List Value ->Prop}{n sz:Nat}{t e:TypeId}(hr:uQ enc P W n e r)(ht:P.underlying t=some (.slice e))(eF:P.cellsOf e=sz)(gG:0<sz/\sz<=4000){sp:Nat ->Bool}{m:Nat}(hm:m<=n+1){cs:List Value}{x:DataW H×List MemPlace}
 (h:DataW.trod enc P W 0 sp true m t cs=some x) (hw:Rows.uptoBulk x.1<=1048576):∃ l v,cs=[v]/\RS (fQ W) r sz l v/\l.length<=1048576:=by
 rcases DataW.trod_slice ht h with ⟨rfl,rfl⟩ | ⟨a,len,cap,elems,rest,n',rfl,rfl,rfl,hb,hl,hmx,bQ,UA,_,_⟩
 ·exact ⟨[],_,rfl,⟨by simp,[],.inl ⟨none,0,rfl,rfl,fun _=>rfl⟩,rfl⟩,by simp⟩
 ·simp only [Rows.uptoBulk] at hw
  have X0:=wJ (elems.map (·.1))
  rw [List.length_map,bQ] at X0
  have fk:∀ i,i<len ->a.spot=none/\∃ cs,At (fQ W) a.block (a.off+i*sz) cs/\cs.length=sz/\∃ x,r x cs:=by
   intro i hi
   have h1:=UA i hi
   rw [List.getElem?_eq_getElem (by omega)] at h1
   obtain ⟨cs,h2,h3⟩:=Option.bind_eq_some_iff.1 h1
   have D2:a.spot=none:=by
    have h1:=UA 0 (by omega)
    rw [List.getElem?_eq_getElem (by omega)] at h1
    obtain ⟨cs,h2,_⟩:=Option.bind_eq_some_iff.1 h1
    have:=(Cg h2 (by omega)).1
    rw [Nat.zero_mul] at this
    simpa [Addr.add] using this
   obtain ⟨-,h5,h6⟩:=Cg h2 (by omega)
   refine ⟨D2,cs,?_,by omega,hr sp n' (by omega) cs _ h3 ?_⟩
   ·obtain ⟨b,o,s⟩:=a
    simp only at D2
    subst D2
    rw [Addr.add_lit,eF] at h6
    exact h6
   ·have hk:=zo (List.mem_map_of_mem (f:=(·.1)) (List.getElem_mem (l:=elems) (n:=i) (by omega)))
    omega
  obtain ⟨l,xs,h1,h2,h3,h4⟩:=Zr (α:=α) (r:=r) (sz:=sz) (M:=fQ W) (b:=a.block) len a.off fun i hi=>(fk i hi).2
  have jJ:l.length*sz<=1048576*4000:=Nat.mul_le_mul (by omega) gG.2
  refine ⟨l,_,rfl,⟨by omega,xs,?_,h2⟩,by omega⟩
  by_cases h0:len=0
  ·subst h0
   exact .inl ⟨some a,cap,rfl,List.length_eq_zero_iff.1 (by omega),fun h=>by cases h⟩
  ·have D2:=(fk 0 (by omega)).1
   obtain ⟨b,o,s⟩:=a
   simp only at D2
   subst D2
   exact .inr ⟨b,o,len,cap,rfl,hl,h3,h4⟩
theorem iI {P:Program}{α:Type}{r:α ->List Value ->Prop}{n sz:Nat}{t e:TypeId}(hr:uQ enc P W n e r)(ht:P.underlying t=some (.slice e))(eF:P.cellsOf e=sz)(gG:0<sz/\sz<=4000):uQ enc P W (n+1) t (fun (l:List α) cs=>∃ v,cs=[v]/\RS (fQ W) r sz l v):=by
 intro sp m hm cs x h hw
 obtain ⟨l,v,h1,h2,_⟩:=yQ hr ht eF gG hm h hw
 exact ⟨l,v,h1,h2⟩
theorem JQ {P:Program}{α:Type}{r:α ->List Value ->Prop}{n sz:Nat}{t e:TypeId}(hr:uQ enc P W n e r)(ht:P.underlying t=some (.slice e))(eF:P.cellsOf e=sz)(gG:0<sz/\sz<=4000):uQ enc P W (n+1) t (fun (l:List α) cs=>∃ v,cs=[v]/\RS (fQ W) r sz l v/\l.length<=1048576):=by
 intro sp m hm cs x h hw
 obtain ⟨l,v,h1,h2,h3⟩:=yQ hr ht eF gG hm h hw
 exact ⟨l,v,h1,h2,h3⟩
theorem jM {P:Program}{n:Nat}{t:TypeId}{k:IntKind}(ht:P.underlying t=some (.int k)):uQ enc P W n t (fun (i:Int) cs=>cs=[.int k i]):=by
 intro sp m hm cs x h hw
 obtain ⟨i,h1,_⟩:=DataW.trod_int ht h
 exact ⟨i,h1⟩
theorem qb {P:Program}{n:Nat}{t:TypeId}(ht:P.underlying t=some .bool):uQ enc P W n t (fun (i:Bool) cs=>cs=[.bool i]):=by
 intro sp m hm cs x h hw
 obtain ⟨i,h1,_⟩:=DataW.trod_bool ht h
 exact ⟨i,h1⟩
theorem nf {P:Program}{n:Nat}{t:TypeId}(ht:P.underlying t=some .string):uQ enc P W n t (fun (i:Bs) cs=>cs=[st i]):=by
 intro sp m hm cs x h hw
 obtain ⟨i,h1,_⟩:=DataW.trod_string ht h
 exact ⟨i.data.toList,by rw [h1,akW i];simp [st,bs]⟩
theorem uQ.le {P:Program}{n n':Nat}{t:TypeId}{α:Type}{r:α ->List Value ->Prop}(h:uQ enc P W n t r)(hn:n'<=n):uQ enc P W n' t r:=fun sp m hm=>h sp m (by omega)
theorem uQ.map {P:Program}{n:Nat}{t:TypeId}{α β:Type}{r:α ->List Value ->Prop}{q:β ->List Value ->Prop}(f:α ->β)(h:uQ enc P W n t r)(hq:∀ a cs,r a cs ->q (f a) cs):uQ enc P W n t q:=by
 intro sp m hm cs x h1 h2
 obtain ⟨a,ha⟩:=h sp m hm cs x h1 h2
 exact ⟨f a,hq a cs ha⟩
theorem ee {P:Program}{n:Nat}{t:TypeId}{fs:Array Field}(ht:P.underlying t=some (.struct fs)){sp:Nat ->Bool}{m:Nat}(hm:m<=n+1){cs:List Value}{x:DataW H×List MemPlace}(h:DataW.trod enc P W 0 sp true m t cs=some x)(hw:Rows.uptoBulk x.1<=1048576):
 cs.length=P.cellsOf t/\∀ {α:Type} {r:α ->List Value ->Prop} {i:Nat} {f:Field},fs[i]?=some f ->uQ enc P W n f.type r ->∃ a,r a ((cs.drop f.offset).take (P.cellsOf f.type)):=by
 obtain ⟨xs,n',rfl,rfl,h1,h2,h3⟩:=DataW.trod_struct ht h
 refine ⟨h1,fun {α r i f} hf hr=> ?_⟩
 have h4:=h3 i f hf
 have hi:i<fs.size:=(Array.getElem?_eq_some_iff.1 hf).1
 rw [List.getElem?_eq_getElem (by omega)] at h4
 refine hr sp n' (by omega) _ _ h4 ?_
 simp only [Rows.uptoBulk] at hw
 have hk:=zo (List.mem_map_of_mem (f:=(·.1)) (List.getElem_mem (l:=xs) (n:=i) (by omega)))
 omega
theorem fS {P:Program}{n:Nat}{t:TypeId}{fs:Array Field}(ht:P.underlying t=some (.struct fs)){sp:Nat ->Bool}{m:Nat}(hm:m<=n+1){cs:List Value}{x:DataW H×List MemPlace}(h:DataW.trod enc P W 0 sp true m t cs=some x)(hw:Rows.uptoBulk x.1<=1048576)
 (i:Nat) (te:TypeId) (o k:Nat) (hf:(fs[i]?).map (fun f=>(f.type,f.offset))=some (te,o)) (hk:P.cellsOf te=k) {α:Type} {r:α ->List Value ->Prop} (hr:uQ enc P W n te r):∃ a,r a ((cs.drop o).take k):=by
 obtain ⟨f,JO,Kb⟩:=Option.map_eq_some_iff.1 hf
 injection Kb with e1 e2
 subst e1 e2
 have:=(ee ht hm h hw).2 JO hr
 rw [hk] at this
 exact this
theorem jq (cs:List Value)(o n o':Nat)(h:o+n=o'):cs.drop o=(cs.drop o).take n++cs.drop o':=by
 rw [<- h,<- List.drop_drop]
 exact (List.take_append_drop _ _).symm
theorem xU {cs:List Value}{o n:Nat}(h:cs.length=o+n):cs.drop o=(cs.drop o).take n:=by
 rw [List.take_of_length_le]
 rw [List.length_drop];omega
theorem PW (n:Nat):uQ enc Tryz.prog W n 29 RV:=by
 cases n with
 | zero=>exact jc
 | succ n=>
  intro sp m hm cs x h hw
  have hl:=(ee Tryz.underlying29 hm h hw).1
  rw [show Tryz.prog.cellsOf 29=3 from by kernel_rfl] at hl
  obtain ⟨k,hk⟩:=fS Tryz.underlying29 hm h hw 0 3 0 1 rfl (by kernel_rfl) (jM Tryz.underlying3)
  obtain ⟨k2,jY⟩:=fS Tryz.underlying29 hm h hw 1 2 1 1 rfl (by kernel_rfl) (jM Tryz.underlying2)
  obtain ⟨s,hs⟩:=fS Tryz.underlying29 hm h hw 2 9 2 1 rfl (by kernel_rfl) (nf Tryz.underlying9)
  refine ⟨⟨k,k2,s⟩,?_⟩
  show cs.drop 0=_
  rw [jq cs 0 1 1 rfl,hk,jq cs 1 1 2 rfl,jY,xU (n:=1) (by omega),hs]
  rfl
theorem agC (n:Nat):uQ enc Tryz.prog W n 48 uE:=by
 cases n with
 | zero=>exact jc
 | succ n=>
  intro sp m hm cs x h hw
  have hl:=(ee Tryz.underlying48 hm h hw).1
  rw [show Tryz.prog.cellsOf 48=2 from by kernel_rfl] at hl
  obtain ⟨k,hk⟩:=fS Tryz.underlying48 hm h hw 0 9 0 1 rfl (by kernel_rfl) (nf Tryz.underlying9)
  obtain ⟨k2,jY⟩:=fS Tryz.underlying48 hm h hw 1 3 1 1 rfl (by kernel_rfl) (jM Tryz.underlying3)
  refine ⟨⟨k,k2⟩,?_⟩
  show cs.drop 0=_
  rw [jq cs 0 1 1 rfl,hk,xU (n:=1) (by omega),jY]
  rfl
theorem LT:∀ (n:Nat),uQ enc Tryz.prog W n 31 (RX (fQ W))
 | 0=>jc
 | n+1=>by
  have ih:=LT n
  intro sp m hm cs x h hw
  have hl:=(ee Tryz.underlying31 hm h hw).1
  rw [show Tryz.prog.cellsOf 31=7 from by kernel_rfl] at hl
  obtain ⟨k,hk⟩:=fS Tryz.underlying31 hm h hw 0 3 0 1 rfl (by kernel_rfl) (jM Tryz.underlying3)
  obtain ⟨v,hv⟩:=fS Tryz.underlying31 hm h hw 1 29 1 3 rfl (by kernel_rfl) (PW n)
  obtain ⟨a,ha⟩:=fS Tryz.underlying31 hm h hw 2 9 4 1 rfl (by kernel_rfl) (nf Tryz.underlying9)
  obtain ⟨b,hb⟩:=fS Tryz.underlying31 hm h hw 3 9 5 1 rfl (by kernel_rfl) (nf Tryz.underlying9)
  obtain ⟨l,hs⟩:=fS Tryz.underlying31 hm h hw 4 25 6 1 rfl (by kernel_rfl) ((iI (sz:=7) ih Tryz.underlying25 (by kernel_rfl) (by decide)).le (Nat.le_succ n))
  obtain ⟨s,gH,mU⟩:=hs
  refine ⟨.mk k v a b l,tI.2 ⟨s,?_,mU⟩⟩
  show cs.drop 0=_
  unfold RV at hv
  rw [jq cs 0 1 1 rfl,hk,jq cs 1 3 4 rfl,hv,jq cs 4 1 5 rfl,ha,jq cs 5 1 6 rfl,hb,xU (n:=1) (by omega),gH]
  rfl
theorem ZY (n:Nat):uQ enc Tryz.prog W n 25 (fun l cs=>∃ s,cs=[s]/\RS (fQ W) (RX (fQ W)) 7 l s):=
 (iI (sz:=7) (LT n) Tryz.underlying25 (by kernel_rfl) (by decide)).le (Nat.le_succ n)
theorem aoc (n:Nat):uQ enc Tryz.prog W n 161 (xQ (fQ W)):=by
 cases n with
 | zero=>exact jc
 | succ n=>
  intro sp m hm cs x h hw
  have hl:=(ee Tryz.underlying161 hm h hw).1
  rw [show Tryz.prog.cellsOf 161=8 from by kernel_rfl] at hl
  obtain ⟨y,hy⟩:=fS Tryz.underlying161 hm h hw 0 31 0 7 rfl (by kernel_rfl) (LT n)
  obtain ⟨a,ha⟩:=fS Tryz.underlying161 hm h hw 1 9 7 1 rfl (by kernel_rfl) (nf Tryz.underlying9)
  generalize hX:List.take 7 (List.drop 0 cs)=xw at hy
  refine ⟨⟨y,a⟩,_,hy,?_⟩
  show cs.drop 0=_
  rw [jq cs 0 7 7 rfl,hX,xU (o:=7) (n:=1) (by omega),ha]
theorem alh (n:Nat):uQ enc Tryz.prog W n 75 (D1 (fQ W)):=by
 cases n with
 | zero=>exact jc
 | succ n=>
  intro sp m hm cs x h hw
  have hl:=(ee Tryz.underlying75 hm h hw).1
  rw [show Tryz.prog.cellsOf 75=10 from by kernel_rfl] at hl
  obtain ⟨k,hk⟩:=fS Tryz.underlying75 hm h hw 0 3 0 1 rfl (by kernel_rfl) (jM Tryz.underlying3)
  obtain ⟨a,ha⟩:=fS Tryz.underlying75 hm h hw 1 9 1 1 rfl (by kernel_rfl) (nf Tryz.underlying9)
  obtain ⟨b,hb⟩:=fS Tryz.underlying75 hm h hw 2 9 2 1 rfl (by kernel_rfl) (nf Tryz.underlying9)
  obtain ⟨y,hy⟩:=fS Tryz.underlying75 hm h hw 3 31 3 7 rfl (by kernel_rfl) (LT n)
  generalize hX:List.take 7 (List.drop 3 cs)=xw at hy
  refine ⟨⟨k,a,b,y⟩,_,hy,?_⟩
  show cs.drop 0=_
  rw [jq cs 0 1 1 rfl,hk,jq cs 1 1 2 rfl,ha,jq cs 2 1 3 rfl,hb,xU (o:=3) (n:=7) (by omega),hX]
  rfl
theorem amO (n:Nat):uQ enc Tryz.prog W n 79 (CX (fQ W)):=by
 cases n with
 | zero=>exact jc
 | succ n=>
  intro sp m hm cs x h hw
  have hl:=(ee Tryz.underlying79 hm h hw).1
  rw [show Tryz.prog.cellsOf 79=21 from by kernel_rfl] at hl
  obtain ⟨d,hd⟩:=fS Tryz.underlying79 hm h hw 0 4 0 1 rfl (by kernel_rfl) (qb Tryz.underlying4)
  obtain ⟨st,fG⟩:=fS Tryz.underlying79 hm h hw 1 4 1 1 rfl (by kernel_rfl) (qb Tryz.underlying4)
  obtain ⟨it,i,Uh,nu⟩:=fS Tryz.underlying79 hm h hw 2 77 2 1 rfl (by kernel_rfl) ((iI (sz:=8) (aoc n) Tryz.underlying77 (by kernel_rfl) (by decide)).le (Nat.le_succ n))
  obtain ⟨fr,f,JO,Kb⟩:=fS Tryz.underlying79 hm h hw 3 76 3 1 rfl (by kernel_rfl) ((iI (sz:=10) (alh n) Tryz.underlying76 (by kernel_rfl) (by decide)).le (Nat.le_succ n))
  obtain ⟨w,xb⟩:=fS Tryz.underlying79 hm h hw 4 4 4 1 rfl (by kernel_rfl) (qb Tryz.underlying4)
  obtain ⟨v,oN⟩:=fS Tryz.underlying79 hm h hw 5 4 5 1 rfl (by kernel_rfl) (qb Tryz.underlying4)
  obtain ⟨wx,hwx⟩:=fS Tryz.underlying79 hm h hw 6 31 6 7 rfl (by kernel_rfl) (LT n)
  obtain ⟨vx,hvx⟩:=fS Tryz.underlying79 hm h hw 7 31 13 7 rfl (by kernel_rfl) (LT n)
  obtain ⟨gr,g,mC,BB⟩:=fS Tryz.underlying79 hm h hw 8 25 20 1 rfl (by kernel_rfl) (ZY n)
  generalize hX:List.take 7 (List.drop 6 cs)=xw at hwx
  generalize hY:List.take 7 (List.drop 13 cs)=yw at hvx
  refine ⟨⟨d,st,it,fr,w,v,wx,vx,gr⟩,i,f,_,_,g,nu,Kb,hwx,hvx,BB,?_⟩
  show cs.drop 0=_
  rw [jq cs 0 1 1 rfl,hd,jq cs 1 1 2 rfl,fG,jq cs 2 1 3 rfl,Uh,jq cs 3 1 4 rfl,JO,jq cs 4 1 5 rfl,xb,jq cs 5 1 6 rfl,oN,jq cs 6 7 13 rfl,hX,jq cs 13 7 20 rfl,hY,xU (o:=20) (n:=1) (by omega),mC]
  rfl
theorem atO (n:Nat):uQ enc Tryz.prog W n 27 (RQ (fQ W)):=by
 cases n with
 | zero=>exact jc
 | succ n=>
  intro sp m hm cs x h hw
  have hl:=(ee Tryz.underlying27 hm h hw).1
  rw [show Tryz.prog.cellsOf 27=4 from by kernel_rfl] at hl
  obtain ⟨p,a,ha1,OE⟩:=fS Tryz.underlying27 hm h hw 0 23 0 1 rfl (by kernel_rfl) ((iI (sz:=21) (amO n) Tryz.underlying23 (by kernel_rfl) (by decide)).le (Nat.le_succ n))
  obtain ⟨o,b,jK,eG⟩:=fS Tryz.underlying27 hm h hw 1 24 1 1 rfl (by kernel_rfl) ((iI (sz:=1) (jM (n:=n) Tryz.underlying3) Tryz.underlying24 (by kernel_rfl) (by decide)).le (Nat.le_succ n))
  obtain ⟨r,c,Cr,vY⟩:=fS Tryz.underlying27 hm h hw 2 25 2 1 rfl (by kernel_rfl) (ZY n)
  obtain ⟨k,hk⟩:=fS Tryz.underlying27 hm h hw 3 3 3 1 rfl (by kernel_rfl) (jM Tryz.underlying3)
  refine ⟨⟨p,o,r,k⟩,a,b,c,OE,eG,vY,?_⟩
  show cs.drop 0=_
  rw [jq cs 0 1 1 rfl,ha1,jq cs 1 1 2 rfl,jK,jq cs 2 1 3 rfl,Cr,xU (o:=3) (n:=1) (by omega),hk]
  rfl
theorem K4:∀ (n:Nat),uQ enc Tryz.prog W n 38 (jL (fQ W))
 | 0=>jc
 | n+1=>by
  have ih:=K4 n
  intro sp m hm cs x h hw
  have hl:=(ee Tryz.underlying38 hm h hw).1
  rw [show Tryz.prog.cellsOf 38=6 from by kernel_rfl] at hl
  obtain ⟨k,hk⟩:=fS Tryz.underlying38 hm h hw 0 3 0 1 rfl (by kernel_rfl) (jM Tryz.underlying3)
  obtain ⟨v,hv⟩:=fS Tryz.underlying38 hm h hw 1 29 1 3 rfl (by kernel_rfl) (PW n)
  obtain ⟨c,hc⟩:=fS Tryz.underlying38 hm h hw 2 3 4 1 rfl (by kernel_rfl) (jM Tryz.underlying3)
  obtain ⟨l,hs⟩:=fS Tryz.underlying38 hm h hw 3 36 5 1 rfl (by kernel_rfl) ((iI (sz:=6) ih Tryz.underlying36 (by kernel_rfl) (by decide)).le (Nat.le_succ n))
  obtain ⟨s,gH,mU⟩:=hs
  refine ⟨.mk k v c l,gD.2 ⟨s,?_,mU⟩⟩
  show cs.drop 0=_
  unfold RV at hv
  rw [jq cs 0 1 1 rfl,hk,jq cs 1 3 4 rfl,hv,jq cs 4 1 5 rfl,hc,xU (n:=1) (by omega),gH]
  rfl
theorem anK (n:Nat):uQ enc Tryz.prog W n 119 (DK (fQ W)):=by
 cases n with
 | zero=>exact jc
 | succ n=>
  intro sp m hm cs x h hw
  have hl:=(ee Tryz.underlying119 hm h hw).1
  rw [show Tryz.prog.cellsOf 119=7 from by kernel_rfl] at hl
  obtain ⟨k,hk⟩:=fS Tryz.underlying119 hm h hw 0 3 0 1 rfl (by kernel_rfl) (jM Tryz.underlying3)
  obtain ⟨y,hy⟩:=fS Tryz.underlying119 hm h hw 1 38 1 6 rfl (by kernel_rfl) (K4 n)
  generalize hX:List.take 6 (List.drop 1 cs)=xw at hy
  refine ⟨⟨k,y⟩,_,hy,?_⟩
  show cs.drop 0=_
  rw [jq cs 0 1 1 rfl,hk,xU (o:=1) (n:=6) (by omega),hX]
  rfl
theorem Yn:∀ (n:Nat),uQ enc Tryz.prog W n 42 (j5 (fQ W))
 | 0=>jc
 | n+1=>by
  have ih:=Yn n
  intro sp m hm cs x h hw
  have hl:=(ee Tryz.underlying42 hm h hw).1
  rw [show Tryz.prog.cellsOf 42=11 from by kernel_rfl] at hl
  obtain ⟨k,hk⟩:=fS Tryz.underlying42 hm h hw 0 3 0 1 rfl (by kernel_rfl) (jM Tryz.underlying3)
  obtain ⟨k2,jY⟩:=fS Tryz.underlying42 hm h hw 1 3 1 1 rfl (by kernel_rfl) (jM Tryz.underlying3)
  obtain ⟨y,hy⟩:=fS Tryz.underlying42 hm h hw 2 38 2 6 rfl (by kernel_rfl) (K4 n)
  obtain ⟨xs,xv,JB,Dq⟩:=fS Tryz.underlying42 hm h hw 3 36 8 1 rfl (by kernel_rfl) ((iI (sz:=6) (K4 n) Tryz.underlying36 (by kernel_rfl) (by decide)).le (Nat.le_succ n))
  obtain ⟨asl,av,ha1,OE⟩:=fS Tryz.underlying42 hm h hw 4 39 9 1 rfl (by kernel_rfl) ((iI (sz:=7) (anK n) Tryz.underlying39 (by kernel_rfl) (by decide)).le (Nat.le_succ n))
  obtain ⟨ks,kv,gB,K3⟩:=fS Tryz.underlying42 hm h hw 5 40 10 1 rfl (by kernel_rfl) ((iI (sz:=11) ih Tryz.underlying40 (by kernel_rfl) (by decide)).le (Nat.le_succ n))
  generalize hX:List.take 6 (List.drop 2 cs)=xw at hy
  refine ⟨.mk k k2 y xs asl ks,mp.2 ⟨_,xv,av,kv,?_,hy,Dq,OE,K3⟩⟩
  show cs.drop 0=_
  rw [jq cs 0 1 1 rfl,hk,jq cs 1 1 2 rfl,jY,jq cs 2 6 8 rfl,hX,jq cs 8 1 9 rfl,JB,jq cs 9 1 10 rfl,ha1,xU (o:=10) (n:=1) (by omega),gB]
  rfl
theorem adH (n:Nat):uQ enc Tryz.prog W n 52 (fun (r:Rel) cs=>qH (fQ W) r cs/\r.cols.length<=1048576):=by
 cases n with
 | zero=>exact jc
 | succ n=>
  intro sp m hm cs x h hw
  have hl:=(ee Tryz.underlying52 hm h hw).1
  rw [show Tryz.prog.cellsOf 52=14 from by kernel_rfl] at hl
  obtain ⟨a,ha⟩:=fS Tryz.underlying52 hm h hw 0 9 0 1 rfl (by kernel_rfl) (nf Tryz.underlying9)
  obtain ⟨co,c,Cr,vY,Ur⟩:=fS Tryz.underlying52 hm h hw 1 43 1 1 rfl (by kernel_rfl) ((JQ (sz:=2) (agC n) Tryz.underlying43 (by kernel_rfl) (by decide)).le (Nat.le_succ n))
  obtain ⟨b,hb⟩:=fS Tryz.underlying52 hm h hw 2 4 2 1 rfl (by kernel_rfl) (qb Tryz.underlying4)
  obtain ⟨p,hp⟩:=fS Tryz.underlying52 hm h hw 3 42 3 11 rfl (by kernel_rfl) (Yn n)
  generalize hX:List.take 11 (List.drop 3 cs)=xw at hp
  refine ⟨⟨a,co,b,p⟩,⟨c,_,vY,hp,?_⟩,Ur⟩
  show cs.drop 0=_
  rw [jq cs 0 1 1 rfl,ha,jq cs 1 1 2 rfl,Cr,jq cs 2 1 3 rfl,hb,xU (o:=3) (n:=11) (by omega),hX]
  rfl
theorem HC {sp:Nat ->Bool}{m:Nat}{cs:List Value}{x:DataW H×List MemPlace}(h:DataW.trod enc Tryz.prog W 0 sp true m 22 cs=some x)(hw:Rows.uptoBulk x.1<=1048576):
 ∃ l v,cs=[v]/\RS (fQ W) (qH (fQ W)) 14 l v/\l.length<=1048576/\∀ r∈l,r.cols.length<=1048576:=by
 obtain ⟨l,v,h1,⟨h2,xs,h3,h4⟩,h5⟩:=yQ (sz:=14) (adH m) Tryz.underlying22 (by kernel_rfl) (by decide) (Nat.le_succ m) h hw
 have h6:RL (qH (fQ W)) l xs/\∀ r∈l,r.cols.length<=1048576:=by
  clear h1 h2 h3 h5
  induction l generalizing xs with
  | nil=>exact ⟨h4,by simp⟩
  | cons r l ih=>
   obtain ⟨cs,rest,rfl,h7,h8⟩:=h4
   obtain ⟨i1,i2⟩:=ih _ h8
   exact ⟨⟨cs,rest,rfl,h7.1,i1⟩,by simpa using ⟨h7.2,i2⟩⟩
 exact ⟨l,v,h1,⟨h2,xs,h3,h6.1⟩,h5,h6.2⟩
end
open Go.ChangeMaps
open Go.ChangeShapes Go.WideShapes Go.ChangeAt Go.RowKit
theorem apx:ownKnob Tryz.prog.godebug=none:=by kernel_rfl
theorem SP {f:FuncId}{args:List Value}{M:aV}{post:eP}{W:World}(h:ep Tryz.prog f args (fun _=>none) M [] [] post bj)(hM:qt M W):
 Calls Tryz.prog f args.toArray W fun e W'=>∃ v M',e=.returned v/\lU W W'/\qt M' W'/\bG M M'/\post v M' [] []:=by
 refine (h.2 W [] ⟨[],rfl,?_⟩).mono ?_
 ·exact {typ:=(fun b t h=>by cases h),holds:=hM,blk:=(fun b cs h=>by cases h),rows:=⟨rfl,(fun i v e sz xs o h=>by simp at h)⟩,nodup:=List.nodup_nil,apart:=(fun b h=>by simp at h),os:=rfl,tape:=rfl,output:=rfl,size:=Nat.le_refl _,old:=fun _ _ _=>rfl,mem:=fun _ _ _=>rfl,le:=fun _ _ h=>h}
 ·intro e W' hc
  cases e with
  | panicked ch=>obtain ⟨_,_,_,_,hp⟩:=hc;exact hp.elim
  | outgrown=>exact hc.elim
  | returned v=>
   obtain ⟨M',L',R',hpo,hv⟩:=hc
   obtain ⟨⟨bs,hi⟩,hk,hr⟩:=hpo
   obtain rfl:L'=[]:=by simpa [bd] using hk
   obtain rfl:R'=[]:=by simpa using hr
   exact ⟨v,M',rfl,⟨hi.os,hi.tape,hi.output,hi.size,fun b hb=>hi.old b hb (by simp)⟩,hi.holds,fun b cs hb=>hi.le b cs hb,hv⟩
theorem lU.but {W W':World}(h:lU W W')(may:MemPlace ->Prop):W.keptBut W' may:=by
 refine ⟨h.1,h.2.2.1,fun i hi=> ?_⟩
 rw [h.2.2.2.2 i hi]
 split
 ·rename_i h1 h2
  rw [h1] at h2
  injection h2 with h2
  injection h2 with h2 h3 h4
  subst h2 h3 h4
  exact ⟨rfl,rfl,rfl,fun _ _=>rfl⟩
 ·rename_i h1 h2
  rw [h1] at h2
  injection h2 with h2
  injection h2 with h2 h3
  subst h2 h3
  exact .inr ⟨rfl,rfl⟩
 ·rfl
theorem kids:Kids Tryz.prog (·<Tryz.prog.types.size):=kids_rows (by kernel_rfl) (by kernel_rfl)
theorem atr:∀ t e,t<Tryz.prog.types.size ->Tryz.prog.underlying t=some (.slice e) ->0<Tryz.prog.cellsOf e:=slices_full_of Tryz.prog (by kernel_rfl)
theorem Cs {H:Type}{enc:TypeId×Value ->H}{W W':World}(hk:lU W W'):∀ {ts:List TypeId} {vs:List Value} {ds:List (DataW H)} {ps:List MemPlace},(∀ t∈ts,t<Tryz.prog.types.size) ->
 DataW.TrodAll enc Tryz.prog W 0 (fun _=>true) true ts vs ds ps ->DataW.TrodAll enc Tryz.prog W' 0 (fun b=>decide (b<W.heap.size)) true ts vs ds ps
 | [],[],[],ps,_,h=>h
 | t::ts,v::vs,d::ds,ps,hT,h=>by
  obtain ⟨p,q,⟨n,h1⟩,h2,rfl⟩:=h
  refine ⟨p,q,⟨n,?_⟩,Cs hk (fun t ht=>hT t (List.mem_cons_of_mem _ ht)) h2,rfl⟩
  have aF:=DataW.trod_lt n t _ _ h1
  refine DataW.trod_respare kids atr n t _ _ (hT t (List.mem_cons_self ..)) (DataW.trod_carry n t _ _ h1 fun pl hp=> ?_) (fun pl hp=>by simpa using aF pl hp)
  have hb:=hk.2.2.2.2 pl.block (aF pl hp)
  cases pl with
  | cell b off=>
   show W'.cell? _=W.cell? _
   unfold World.cell?
   simp only [MemPlace.block] at hb
   simp only [hb]
  | map b=>exact hb
def ndB:List Nat ->Nat ->Nat ->List MemPlace ->Bool
 | _,_,_,[]=>true
 | ib,cur,last,.cell b o::r=>if b=cur then decide (last<o) && ndB ib cur o r else !ib.contains b && ndB (cur::ib) b o r
 | _,_,_,.map _::_=>false
theorem I5:∀ (l:List MemPlace) (ib:List Nat) (cur last:Nat),ndB ib cur last l=true ->(∀ p∈l,∃ b o,p=.cell b o/\(b∉ib\/b=cur)/\(b=cur ->last<o))/\l.Nodup
 | [],_,_,_,_=>⟨fun _ h=>(by cases h),List.nodup_nil⟩
 | .map _::_,_,_,_,h=>by cases h
 | .cell b o::r,ib,cur,last,h=>by
  unfold ndB at h
  split at h
  ·rename_i hb
   subst hb
   simp only [Bool.and_eq_true,decide_eq_true_eq] at h
   obtain ⟨h1,h2⟩:=I5 r ib b o h.2
   refine ⟨fun p hp=> ?_,List.nodup_cons.2 ⟨fun hm=> ?_,h2⟩⟩
   ·rcases List.mem_cons.1 hp with rfl | hp
    ·exact ⟨b,o,rfl,.inr rfl,fun _=>h.1⟩
    ·obtain ⟨b',o',rfl,h3,h4⟩:=h1 p hp
     exact ⟨b',o',rfl,h3,fun he=>Nat.lt_trans h.1 (h4 he)⟩
   ·obtain ⟨b',o',h5,_,h4⟩:=h1 _ hm
    injection h5 with e1 e2
    subst e1 e2
    exact Nat.lt_irrefl _ (h4 rfl)
  ·rename_i hb
   simp only [Bool.and_eq_true,Bool.not_eq_true',List.contains_eq_mem,decide_eq_false_iff_not] at h
   obtain ⟨h1,h2⟩:=I5 r (cur::ib) b o h.2
   have key:∀ p∈r,∃ b' o',p=.cell b' o'/\(b'∉ib)/\b'≠cur/\(b'=b ->o<o'):=by
    intro p hp
    obtain ⟨b',o',rfl,h3,h4⟩:=h1 p hp
    refine ⟨b',o',rfl,?_,?_,h4⟩
    ·rcases h3 with h3 | rfl
     ·exact fun hm=>h3 (List.mem_cons_of_mem _ hm)
     ·exact h.1
    ·rcases h3 with h3 | rfl
     ·rintro rfl;exact h3 (List.mem_cons_self ..)
     ·exact hb
   refine ⟨fun p hp=> ?_,List.nodup_cons.2 ⟨fun hm=> ?_,h2⟩⟩
   ·rcases List.mem_cons.1 hp with rfl | hp
    ·exact ⟨b,o,rfl,.inl h.1,fun he=>(hb he).elim⟩
    ·obtain ⟨b',o',rfl,h3,h5,_⟩:=key p hp
     exact ⟨b',o',rfl,.inl h3,fun he=>(h5 he).elim⟩
   ·obtain ⟨b',o',h5,_,_,h4⟩:=key _ hm
    injection h5 with e1 e2
    subst e1 e2
    exact Nat.lt_irrefl _ (h4 rfl)
theorem CZ {P:Program}{w:World}{l:List (String×DataW Unit)}(fuel:Nat)(h:(DataW.laidRun P w fuel (l.map (·.1))).map (·.1)=some l)
 (hq:(DataW.laidRun P w fuel (l.map (·.1))).map (fun x=>ndB [] 1000000 0 x.2 && laidRowsB P w x.2)=some true):laidMet P l w:=by
 cases hx:DataW.laidRun P w fuel (l.map (·.1)) with
 | none=>simp [hx] at h
 | some x=>
  obtain ⟨l',ps⟩:=x
  simp only [hx,Option.map_some,Option.some.injEq] at h hq
  subst h
  simp only [Bool.and_eq_true] at hq
  exact laidMet_of_run fuel hx (decide_eq_true (I5 _ _ _ _ hq.1).2) hq.2
noncomputable def o7 (os:Os):World:=
 {heap:=⟨[.cells #[.int .i64 0] 3 (0,0),
   .cells #[.int .u64 1,.int .u64 10,.int .u64 100,.int .u64 1000,.int .u64 10000,.int .u64 100000,.int .u64 1000000,.int .u64 10000000,.int .u64 100000000,.int .u64 1000000000,.int .u64 10000000000,.int .u64 100000000000,.int .u64 1000000000000,.int .u64 10000000000000,.int .u64 100000000000000,.int .u64 1000000000000000,.int .u64 10000000000000000,.int .u64 100000000000000000,.int .u64 1000000000000000000,.int .u64 10000000000000000000] 359 (0,0),
   .cells (Lib.asciiSpaceTab.map fun z=>Value.int .u8 z).toArray 371 (0,0),
   .cells (Pinned.utf8FirstZ.map fun (n:Nat)=>Value.int .u8 (n:Int)).toArray 371 (0,0),
   .cells #[.int .u8 128,.int .u8 191,.int .u8 160,.int .u8 191,.int .u8 128,.int .u8 159,.int .u8 144,.int .u8 191,.int .u8 128,.int .u8 143,.int .u8 0,.int .u8 0,.int .u8 0,.int .u8 0,.int .u8 0,.int .u8 0,.int .u8 0,.int .u8 0,.int .u8 0,.int .u8 0,.int .u8 0,.int .u8 0,.int .u8 0,.int .u8 0,.int .u8 0,.int .u8 0,.int .u8 0,.int .u8 0,.int .u8 0,.int .u8 0,.int .u8 0,.int .u8 0] 394 (0,0),
   .cells #[.pointer (some ⟨17,0,none⟩)] 399 (0,0),
   .cells #[.iface 425 (.pointer (some ⟨19,0,none⟩))] 230 (0,0),
   .cells #[.iface 425 (.pointer (some ⟨18,0,none⟩))] 230 (0,0),
   .cells #[.int .u8 0,.int .u8 1,.int .u8 28,.int .u8 2,.int .u8 29,.int .u8 14,.int .u8 24,.int .u8 3,.int .u8 30,.int .u8 22,.int .u8 20,.int .u8 15,.int .u8 25,.int .u8 17,.int .u8 4,.int .u8 8,.int .u8 31,.int .u8 27,.int .u8 13,.int .u8 23,.int .u8 21,.int .u8 19,.int .u8 16,.int .u8 7,.int .u8 26,.int .u8 12,.int .u8 18,.int .u8 6,.int .u8 11,.int .u8 5,.int .u8 10,.int .u8 9] 410 (0,0),
   .cells #[.int .u8 0,.int .u8 1,.int .u8 56,.int .u8 2,.int .u8 57,.int .u8 49,.int .u8 28,.int .u8 3,.int .u8 61,.int .u8 58,.int .u8 42,.int .u8 50,.int .u8 38,.int .u8 29,.int .u8 17,.int .u8 4,.int .u8 62,.int .u8 47,.int .u8 59,.int .u8 36,.int .u8 45,.int .u8 43,.int .u8 51,.int .u8 22,.int .u8 53,.int .u8 39,.int .u8 33,.int .u8 30,.int .u8 24,.int .u8 18,.int .u8 12,.int .u8 5,.int .u8 63,.int .u8 55,.int .u8 48,.int .u8 27,.int .u8 60,.int .u8 41,.int .u8 37,.int .u8 16,.int .u8 46,.int .u8 35,.int .u8 44,.int .u8 21,.int .u8 52,.int .u8 32,.int .u8 23,.int .u8 11,.int .u8 54,.int .u8 26,.int .u8 40,.int .u8 15,.int .u8 34,.int .u8 20,.int .u8 31,.int .u8 10,.int .u8 25,.int .u8 14,.int .u8 19,.int .u8 9,.int .u8 13,.int .u8 8,.int .u8 7,.int .u8 6] 411 (0,0),
   .cells #[.pointer none] 399 (0,0),
   .cells ((List.range 442).map fun (n:Nat)=>Value.int .u64 (n:Int)).toArray 0 (0,0),
   .map #[] 0,
   .finalizers #[] none,
   .cells #[.bool false] 0 (0,0),
   .finalizers #[] none,
   .cells #[.int .u16 9,.int .u16 13,.int .u16 1,.int .u16 32,.int .u16 133,.int .u16 101,.int .u16 160,.int .u16 5760,.int .u16 5600,.int .u16 8192,.int .u16 8202,.int .u16 1,.int .u16 8232,.int .u16 8233,.int .u16 1,.int .u16 8239,.int .u16 8287,.int .u16 48,.int .u16 12288,.int .u16 12288,.int .u16 1] 420 (0,0),
   .cells #[.slice (some ⟨16,0,none⟩) 7 7,.slice none 0 0,.int .i64 2] 417 (0,0),
   .cells #[.string ⟨#[118,97,108,117,101,32,111,117,116,32,111,102,32,114,97,110,103,101]⟩] 427 (0,0),
   .cells #[.string ⟨#[105,110,118,97,108,105,100,32,115,121,110,116,97,120]⟩] 427 (0,0)]⟩,
  tape:=fun _ _=>0,drawn:=0,os:=os,output:= #[]}
theorem Jw:Tryz.prog.globalNamed "strings.asciiSpace"=some 2:=by kernel_rfl
theorem Hx:(Tryz.prog.globals[2]?).map (·.type)=some 371:=by kernel_rfl
theorem ajT {W:World}{l:List (String×DataW Unit)}(hl:(l.filter fun x=>x.1== "strings.asciiSpace")=[("strings.asciiSpace",Lib.tabData .u8 Lib.asciiSpaceTab)])(h:laidMetH Tryz.prog l W):Lib.TabIs Tryz.prog W "strings.asciiSpace" .u8 Lib.asciiSpaceTab:=by
 have h1:=laidMetH.filter (fun x=>x.1== "strings.asciiSpace") h
 rw [hl] at h1
 have h1:laidMet Tryz.prog [("strings.asciiSpace",Lib.tabData .u8 Lib.asciiSpaceTab)] W:=h1
 exact Lib.tabIs_of_head (rest:=[]) Jw Hx Tryz.underlying371 (by kernel_rfl) (by kernel_rfl) (by kernel_rfl) h1
theorem Bi {W:World}{name:String}{k:IntKind}{zs:List Int}{g:Nat}(hg:Tryz.prog.globalNamed name=some g)(h:Lib.TabIs Tryz.prog W name k zs):fQ W g=some (zs.map fun z=>Value.int k z):=by
 unfold Lib.TabIs World.var? at h
 rw [hg] at h
 simp only [Option.bind_some] at h
 split at h
 ·rename_i cs t f hc
  injection h with h
  rw [tC hc,h]
 ·cases h
open Go Vc Go.RowKit Go.Shelf
set_option maxRecDepth 10000
theorem Il:liesAt Tryz.prog Tryz.prog.depth 138 (2 / Tryz.prog.cellsOf 138) 0 136 1=true:=by kernel_rfl
set_option maxHeartbeats 1000000 in
set_option maxRecDepth 100000 in
theorem sW (b:Nat)(w:World)(h0:w.cell? ⟨b,0,none⟩=some (.pointer none))(Un:w.shape? b=some (138,2))(hfz:w.frozen? ⟨b,0,none⟩=false):
 Calls Tryz.prog 177 #[.pointer (some ⟨b,0,none⟩)] w fun e w'=>e=.returned (.tuple #[])/\w'=w.setCell ⟨b,0,none⟩ (.pointer (some ⟨b,0,none⟩)):=by
 obtain ⟨j,hj,hjs⟩:=Option.map_eq_some_iff.1 pX
 have mixed:=mx
 have t95:=Tryz.underlying136
 have t93:=Tryz.underlying133
 go_enter Tryz.func177,I4
 go_wp2
 rw [Lib.run_to_unsafe w ⟨b,0,none⟩ Tryz.underlying133 Tryz.underlying328 hj (by rw [hjs];decide) Un (Nat.zero_lt_succ 1)]
 simp only [Result.andThen]
 rw [Oper.upon_value]
 go_wp2
 rw [run_callFunc_extern Tryz.func234 (by kernel_rfl) (by kernel_rfl) (by kernel_rfl) (e:=Extern.AbiNoEscape.same) (by kernel_rfl)]
 rw [Lib.run_noEscape]
 simp only [Result.andThen]
 rw [Oper.upon_value]
 go_wp2
 rw [Lib.run_from_unsafe w ⟨b,0,none⟩ Tryz.underlying328 Tryz.underlying133 hj Un Il]
 simp only [Result.andThen]
 rw [Oper.upon_value]
 go_wp2
 go_end0
 exact ⟨rfl,rfl⟩
theorem sf {T:Tm}{M:aV}{b:Nat}{p v:Value}(hT:T b=some 138)(hp:p=.pointer none\/p=.pointer (some ⟨b,0,none⟩)):
 ep Tryz.prog 177 [.pointer (some ⟨b,0,none⟩)] T M [(b,[p,v])] [] (fun r M' L' R'=>r=.tuple #[]/\M'=M/\L'=[(b,[.pointer (some ⟨b,0,none⟩),v])]/\R'=[]) bj:=by
 refine ⟨KN,fun w U hw=> ?_⟩
 obtain ⟨bs,rfl,hi⟩:=hw
 have lh:w.heap[b]?=some (.cells #[p,v] 138 (0,0)):=hi.typed hT (List.mem_singleton.2 rfl)
 have c0:w.cell? ⟨b,0,none⟩=some p:=by rw [Lib.cell_of_heap lh];rfl
 rcases hp with rfl | rfl
 ·refine Calls.mono (sW b w c0 (by simp [World.shape?,lh]) (Lib.frozen_of_heap lh 0)) ?_
  rintro e w' ⟨rfl,rfl⟩
  have h2:=hi.store (k:=b) (i:=0) (v:=.pointer (some ⟨b,0,none⟩)) (by simp)
  have h3:qG [(b,[.pointer none,v])] b 0 (.pointer (some ⟨b,0,none⟩))=[(b,[.pointer (some ⟨b,0,none⟩),v])]:=by simp [qG]
  rw [h3] at h2
  exact ⟨M,_,[],⟨⟨bs,h2⟩,rfl,rfl⟩,rfl,rfl,rfl,rfl⟩
 ·refine Calls.mono (oC b w c0) ?_
  rintro e w' ⟨rfl,rfl⟩
  exact ⟨M,_,[],⟨⟨bs,hi⟩,rfl,rfl⟩,rfl,rfl,rfl,rfl⟩
def ng (b:Nat)(p:Value)(a:Option Addr)(n c:Nat):LL:=[(b,[p,.slice a n c])]
def oe (a:Option Addr)(n c:Nat)(aO:Bs):RR:=[(.slice a n c,5,1,Lib.byteCells aO)]
def pK (b:Nat)(p:Value):Prop:=p=.pointer none\/p=.pointer (some ⟨b,0,none⟩)
def lY (b:Nat)(aO:Bs):eP:=fun _ _ L R=>∃ p a c,pK b p/\L=ng b p a aO.length c/\R=oe a aO.length c aO
theorem ss {T:Tm}{M:aV}{b:Nat}{a:Option Addr}{c:Nat}{p:Value}{aO:Bs}(ch:UInt8)(hT:T b=some 138)(hp:pK b p)(hl:aO.length<=1000000000):
 ep Tryz.prog 129 [.pointer (some ⟨b,0,none⟩),.int .u8 ch.toNat] T M (ng b p a aO.length c) (oe a aO.length c aO) (lY b (aO++[ch])) bj:=by
 unfold ng oe
 refine aT mx OQ Tryz.func129 rfl (by rw [ZU];exact Nat.le_of_ble_eq_true rfl) (dr:=P5) (by kernel_rfl) YE ?_
 intro bN _
 simp only [aB,and_true] at bN
 simp +contextual only [go_sem,ak,sevalprocAttr]
 refine dU [] (sf hT hp) ?_ (fun _ _ _ _ _ _ h=>h.elim)
 rintro v M' L' _ _ iQ ⟨rfl,rfl,rfl, -⟩
 simp +contextual only [go_sem,ak,sevalprocAttr,bN]
 intro b1 jK sO
 have hn:(Lib.byteCells aO).length=aO.length:=by simp [Lib.byteCells]
 refine gi DC Do (.slice _ 1 _ _ _ Tryz.underlying134 (cT [] jK trivial rfl) (by intro u hu;simp only [List.mem_singleton] at hu;subst hu;rfl)) (by rw [hn];simp only [List.length_cons,List.length_nil];omega) ?_
 intro a' m c' hm
 have:m=aO.length+1:=by rw [hn] at hm;simp only [List.length_cons,List.length_nil] at hm;omega
 subst this
 simp +contextual only [go_sem,ak,sevalprocAttr,bN,sO]
 refine al (aM aH.rfl' rfl rfl ⟨_,a',c',.inr rfl,?_,?_⟩)
 ·simp [ng]
 ·simp [oe,Lib.byteCells]
theorem jF {T:Tm}{M:aV}{b:Nat}{a:Option Addr}{c:Nat}{p:Value}{aO:Bs}(s:Bs)(hT:T b=some 138)(hp:pK b p)(hl:aO.length+s.length<=1000000000):
 ep Tryz.prog 130 [.pointer (some ⟨b,0,none⟩),st s] T M (ng b p a aO.length c) (oe a aO.length c aO) (lY b (aO++s)) bj:=by
 unfold ng oe
 refine aT mx ad8 Tryz.func130 rfl (by rw [aoR];exact Nat.le_of_ble_eq_true rfl) (dr:=Y1) (by kernel_rfl) ahn ?_
 intro bN _
 simp only [aB,and_true] at bN
 simp +contextual only [go_sem,ak,sevalprocAttr]
 refine dU [] (sf hT hp) ?_ (fun _ _ _ _ _ _ h=>h.elim)
 rintro v M' L' _ _ iQ ⟨rfl,rfl,rfl, -⟩
 simp +contextual only [go_sem,ak,sevalprocAttr,bN]
 have hn:(Lib.byteCells aO).length=aO.length:=by simp [Lib.byteCells]
 have hbc:byteCells (bs s)=Lib.byteCells s:=by simp [byteCells,Lib.byteCells,bs]
 have hsn:(byteCells (bs s)).length=s.length:=by rw [hbc];simp [Lib.byteCells]
 refine gi DC Do (.str _ rfl Tryz.underlying9) (by rw [hn,hsn];omega) ?_
 intro a' m c' hm
 have:m=(aO++s).length:=by rw [hn,hsn] at hm;rw [List.length_append];omega
 subst this
 simp +contextual only [go_sem,ak,sevalprocAttr,bN]
 refine aM aH.rfl' rfl rfl ⟨_,a',c',.inr rfl,rfl,?_⟩
 simp only [oe]
 rw [hbc]
 simp [Lib.byteCells]
def pQ (a:Bs):Bs:=if a=[] then [] else a++[32]
def bB (aO:Bs)(ws:List Bs):Bs:=ws.foldl (fun a s=>pQ a++s) aO
theorem yO (aO:Bs):bB aO []=aO:=rfl
theorem gO (aO s:Bs)(ws:List Bs):bB aO (s::ws)=bB (pQ aO++s) ws:=rfl
theorem dR (aO:Bs)(a b:List Bs):bB aO (a++b)=bB (bB aO a) b:=List.foldl_append ..
def bI:List Bs ->Nat | []=>0 | s::ws=>s.length+1+bI ws
theorem bz:∀ (a b:List Bs),bI (a++b)=bI a+bI b
 | [],b=>by simp [bI]
 | s::a,b=>by simp only [List.cons_append,bI,bz a b];omega
theorem U9 (a:Bs):(pQ a).length<=a.length+1:=by unfold pQ;split<;>simp
theorem cE:∀ (ws:List Bs) (aO:Bs),(bB aO ws).length<=aO.length+bI ws
 | [],aO=>by simp [bB,bI]
 | s::ws,aO=>by
  rw [gO]
  have:=cE ws (pQ aO++s)
  have h2:=U9 aO
  simp only [bI,List.length_append] at this ⊢
  omega
def FU (t:Bs):Bs:=Lib.replaceAll t [39] [39,39]
def ld (v:V):List Bs:=
 if v.k=1 then [kP] else if v.k=2 then [if v.n=0 then sL else zA] else if v.k=4 then [39::(FU v.t++[39])]
 else if v.k=3 then (if v.n<0 then [iW] else [])++[Lib.trimPrefix (Lib.itoa v.n) [45]] else []
def pu (k:Int):Nat ->List Lvl ->Int×Bs
 | _,[]=>(8,[])
 | i,l::ls=>if 0<=k - l.kind/\k - l.kind<(l.signs.length:Int) then ((i:Int)+1,l.signs.getD (k - l.kind).toNat []) else pu k (i+1) ls
def dm (k:Int):Int×Bs:=if k=3 then (3,lm) else if k=16 then (4,[]) else pu k 0 fo
def Ah (k:Int):Bs:=if k=18 then Lf else if k=20 then pr else if k=21 then tj else if k=22 then tR else if k=23 then [109,97,120] else []
def sB:Bool ->List (Int ->List Bs) ->List Bs
 | _,[]=>[]
 | first,f::l=>(if first=true then [] else [ct])++(f 1++sB false l)
def lF (K:List (Int ->List Bs)):List Bs:=sB true K
def nU (k:Int)(v:V)(tab name:Bs)(K:List (Int ->List Bs)):List Bs:=
 if k=1 then ld v
 else if k=2 then (if tab=[] then [] else [tab,AO])++[name]
 else if k=3 then lm::K.getD 0 (fun _=>[]) 3
 else if k=16 then K.getD 0 (fun _=>[]) 5++[NW,kP]
 else if k=17 then [od,pM]++(K.getD 0 (fun _=>[]) 1++(rU::(K.getD 1 (fun _=>[]) 1++(vX::(K.getD 2 (fun _=>[]) 1++[Ob])))))
 else if k=19 then [pr,dp,gA,cd]
 else if k=18\/(20<=k/\k<=23) then [Ah k,dp]++(lF K++[cd])
 else K.getD 0 (fun _=>[]) (if (dm k).1=4 then (dm k).1+1 else (dm k).1)++((dm k).2::K.getD 1 (fun _=>[]) ((dm k).1+1))
mutual
def bm:X ->Int ->List Bs
 | .mk k v tab name kids,need=>if (dm k).1<need then dp::(nU k v tab name (qj kids)++[cd]) else nU k v tab name (qj kids)
def qj:List X ->List (Int ->List Bs)
 | []=>[]
 | x::l=>bm x::qj l
end
theorem rE:∀ l,qj l=l.map bm
 | []=>rfl
 | x::l=>by rw [qj,rE l];rfl
mutual
def wz:X ->Prop
 | .mk k v tab name kids=>(kids.length:Int)=dE k/\0<=dE k/\(k=1 ->cR v=0)/\(k=2 ->name.length<=12/\tab.length<=12)/\Tb kids
def Tb:List X ->Prop
 | []=>True
 | x::l=>wz x/\Tb l
end
mutual
def sD:X ->Nat
 | .mk _ _ _ _ kids=>1+pi kids
def pi:List X ->Nat
 | []=>0
 | x::l=>sD x+pi l
end
theorem jn:∀ {l:List X},Tb l ->∀ x∈l,wz x
 | [],_,x,hx=>by cases hx
 | y::l,h,x,hx=>by
  rcases List.mem_cons.1 hx with rfl | hx
  ·exact h.1
  ·exact jn h.2 x hx
theorem sx {s:Bs}(h:dl s=true):s.length<=12:=by
 unfold dl at h
 simp only [Bool.and_eq_true,decide_eq_true_eq] at h
 omega
mutual
theorem AQ (d n:Nat):∀ (x:X),(eC d n x).1=0 ->wz x/\(eC d n x).2=n+sD x
 | .mk k v tab name kids,h=>by
  rw [eC] at h ⊢
  rw [wz,sD]
  split at h
  ·simp at h
  rename_i h1;rw [if_neg h1]
  split at h
  ·simp at h
  rename_i h2;rw [if_neg h2]
  split at h
  ·simp at h
  rename_i h3;rw [if_neg h3]
  have h3:(kids.length:Int)=dE k:=by omega
  split at h
  ·rename_i hk
   rw [if_pos hk]
   have oI:kids=[]:=by
    have:dE k=0:=by unfold dE;rw [if_pos (.inl hk)]
    exact List.length_eq_zero_iff.1 (by omega)
   subst oI
   exact ⟨⟨h3,by omega,fun _=>h,fun h=>by omega,trivial⟩,by simp [pi]⟩
  rename_i hk;rw [if_neg hk]
  split at h
  ·simp at h
  rename_i h4;rw [if_neg h4]
  obtain ⟨h5,h6⟩:=BE (d+1) (n+1) kids h
  refine ⟨⟨h3,by omega,fun h=>(hk h).elim,fun h2=> ?_,h5⟩,by rw [h6];omega⟩
  have h4:¬ (dl name=false\/tab≠[]/\dl tab=false):=fun h=>h4 ⟨h2,h⟩
  refine ⟨sx (by cases hn:dl name with | true=>rfl | false=>exact (h4 (.inl hn)).elim),?_⟩
  by_cases ht:tab=[]
  ·rw [ht];simp
  ·exact sx (by cases hn:dl tab with | true=>rfl | false=>exact (h4 (.inr ⟨ht,hn⟩)).elim)
theorem BE (d n:Nat):∀ (l:List X),(eN d n l).1=0 ->Tb l/\(eN d n l).2=n+pi l
 | [],h=>⟨trivial,by rw [eN,pi];rfl⟩
 | x::l,h=>by
  rw [eN] at h ⊢
  split at h
  ·rename_i h1;exact (h1 h).elim
  ·rename_i h1
   rw [if_neg h1]
   have h1:(eC d n x).1=0:=by omega
   obtain ⟨h2,h3⟩:=AQ d n x h1
   obtain ⟨h4,h5⟩:=BE d _ l h
   exact ⟨⟨h2,h4⟩,by rw [h5,h3,pi];omega⟩
end
theorem ll {x:X}(h:gX x=0):wz x/\sD x<=200:=by
 obtain ⟨h1,h2⟩:=AQ 1 0 x h
 have:=(rp 1 0 x (by omega)).2 h
 exact ⟨h1,by omega⟩
theorem qa (ws:List Bs)(aO:Bs)(i:Nat)(h:i<ws.length):bB aO (ws.take (i+1))=pQ (bB aO (ws.take i))++ws[i]:=by
 rw [List.take_succ_eq_append_getElem h,dR];rfl
theorem En:∀ (ws:List Bs) (aO:Bs) (i:Nat) (h:i<ws.length),(bB aO (ws.take i)).length+ws[i].length+1<=aO.length+bI ws:=by
 intro ws aO i h
 have h1:=cE (ws.take i) aO
 have h2:bI ws=bI (ws.take i)+bI (ws.drop i):=by rw [<- bz,List.take_append_drop]
 have h3:bI (ws.drop i)=ws[i].length+1+bI (ws.drop (i+1)):=by rw [List.drop_eq_getElem_cons h];rfl
 omega
theorem Ek {T:Tm}{M:aV}{b:Nat}{a:Option Addr}{c:Nat}{p:Value}{aO:Bs}{ws:List Bs}{wv:Value}(hT:T b=some 138)(hp:pK b p)(hw:RS M pD 1 ws wv)(hl:aO.length+bI ws<=1000000000):
 ep Tryz.prog 88 [.pointer (some ⟨b,0,none⟩),wv] T M (ng b p a aO.length c) (oe a aO.length c aO) (lY b (bB aO ws)) bj:=by
 obtain ⟨hwb,wa,wc,rfl,hwc,_,eE⟩:=aI (by decide) (fun _ _=>cO) hw
 refine aT mx cY Tryz.func88 rfl (by rw [aoe];exact Nat.le_of_ble_eq_true rfl) (dr:=ad2) (by kernel_rfl) ai4 ?_
 intro bN _
 simp only [ng,aB,and_true] at bN
 simp +contextual only [go_sem,ak,sevalprocAttr]
 refine bh ws.length 8 [(0,.pointer (some ⟨b,0,none⟩)),(6,.slice wa ws.length wc),(7,.int .i64 (ws.length:Int))] (fun i e h=>∃ M' p a c,pK b p/\bG M M'/\M' b=none/\h=⟨T,M',ng b p a (bB aO (ws.take i)).length c,oe a (bB aO (ws.take i)).length c (bB aO (ws.take i))⟩) 0 (by omega) (by simp only [aG,go_sem,ak,sevalprocAttr]) (by simp only [go_sem,ak,sevalprocAttr]) ⟨M,p,a,c,hp,bG.rfl',bN,rfl⟩ ?_
 rintro i e h hi aD ht ⟨M1,p1,a1,c1,iT,aP,bL,rfl⟩
 simp only [aG] at aD
 by_cases aF:i<ws.length
 ·obtain ⟨b',o',cs,rfl,cC,hr⟩:=eE i ws[i] (List.getElem?_eq_getElem aF)
  have hm:aL M1 ⟨b',o'+i,none⟩=some (st ws[i]):=by
   have:=cC.ext aP;rw [hr,Nat.mul_one] at this;exact this.1
  have hb:=En ws aO i aF
  have kF:=qa ws aO i aF
  generalize hA:bB aO (ws.take i)=A at kF hb ⊢
  unfold ng oe
  simp +contextual only [go_sem,ak,sevalprocAttr,aD,ht,aF,hm]
  refine cM [] [(b,_)] [] [] [] [_] (Dy T) ?_ (fun _ _ _ _ _ _ _ _ h=>h.elim)
  rintro v M2 L' R' aX _ _ aQ ⟨rfl,rfl,rfl,rfl⟩
  by_cases G9:A=[]
  ·have hz:¬ (0:Int)<(A.length:Int):=by rw [G9];simp
   have hs:pQ A=A:=by unfold pQ;rw [if_pos G9,G9]
   rw [hs] at kF
   simp +contextual only [go_sem,ak,sevalprocAttr,aD,ht,hz,aQ]
   refine cM [] [(b,_)] [] [] [_] [] (jF ws[i] hT iT (by omega)) ?_ (fun _ _ _ _ _ _ _ _ h=>h.elim)
   rintro v M3 L' R' bD _ _ aZ ⟨p3,a3,c3,eD,rfl,rfl⟩
   simp only [ng,oe,List.nil_append,List.append_nil,aB,and_true] at aZ ⊢
   simp +contextual only [go_sem,ak,sevalprocAttr,aD,ht]
   refine bW aF ?_ ?_ ⟨M3,p3,a3,c3,eD,aP.trans (aX.trans bD),aZ,?_⟩
   ·simp only [aG,aD,go_sem,ak,sevalprocAttr]
   ·simp only [ht,go_sem,ak,sevalprocAttr,aC i (by omega)]
   ·rw [kF]
  ·have hz:(0:Int)<(A.length:Int):=by
    have:=List.length_pos_iff.2 G9;omega
   have hs:pQ A=A++[32]:=by unfold pQ;rw [if_neg G9]
   rw [hs] at kF
   simp +contextual only [go_sem,ak,sevalprocAttr,aD,ht,hz,aQ]
   refine cM [] [(b,_)] [] [] [_] [] (ss 32 hT iT (by omega)) ?_ (fun _ _ _ _ _ _ _ _ h=>h.elim)
   rintro v M3 L' R' bD _ _ aZ ⟨p3,a3,c3,eD,rfl,rfl⟩
   simp only [ng,oe,List.nil_append,List.append_nil,aB,and_true] at aZ ⊢
   simp +contextual only [go_sem,ak,sevalprocAttr,aD,ht,aZ]
   refine cM [] [(b,_)] [] [] [_] [] (jF ws[i] hT eD (by rw [List.length_append];simp only [List.length_cons,List.length_nil];omega)) ?_ (fun _ _ _ _ _ _ _ _ h=>h.elim)
   rintro v M4 L' R' ce _ _ bH ⟨p4,a4,c4,ke,rfl,rfl⟩
   simp only [ng,oe,List.nil_append,List.append_nil,aB,and_true] at bH ⊢
   simp +contextual only [go_sem,ak,sevalprocAttr,aD,ht]
   refine bW aF ?_ ?_ ⟨M4,p4,a4,c4,ke,aP.trans (aX.trans (bD.trans ce)),bH,?_⟩
   ·simp only [aG,aD,go_sem,ak,sevalprocAttr]
   ·simp only [ht,go_sem,ak,sevalprocAttr,aC i (by omega)]
   ·rw [kF]
 ·have:i=ws.length:=by omega
  subst this
  simp +contextual only [go_sem,ak,sevalprocAttr,aD,ht,aF]
  refine aM aH.rfl' rfl rfl ⟨p1,a1,c1,iT,?_,?_⟩<;>simp [List.take_length]
theorem CV:∀ l∈fo,0<=l.kind/\l.kind<=20/\l.signs.length<=6:=by decide
theorem Rf {M:aV}(k:Int)(h0:0<=k)(h1:k<=100)(T:Tm):ep Tryz.prog 136 [.int .i64 k] T M [] [] (fun r _ _ _=>r=.tuple ⟨[.int .i64 (dm k).1,st (dm k).2]⟩) bj:=by
 obtain ⟨S,hS⟩:∃ S,S=dm k:=⟨_,rfl⟩
 rw [<- hS]
 unfold dm at hS
 refine aT mx aaX Tryz.func136 rfl (by rw [ahc];exact Nat.le_of_ble_eq_true rfl) (dr:=YD) (by kernel_rfl) agl ?_
 intro bN _
 by_cases k3:k=3
 ·rw [if_pos k3] at hS
  simp +contextual only [go_sem,ak,sevalprocAttr,k3]
  exact az aH.rfl' (by rw [hS])
 rw [if_neg k3] at hS
 by_cases k16:k=16
 ·rw [if_pos k16] at hS
  simp +contextual only [go_sem,ak,sevalprocAttr,k16]
  exact az aH.rfl' (by rw [hS])
 rw [if_neg k16] at hS
 simp +contextual only [go_sem,ak,sevalprocAttr,k3,k16]
 refine am (AW T) ?_ (fun _ _ _ _ h=>h.elim)
 rintro v M1 aP _ atY
 obtain ⟨_,la,lc,rfl,hlc,_,eE⟩:=aI (by decide) (fun _ _=>yA) atY
 simp +contextual only [go_sem,ak,sevalprocAttr]
 refine bh fo.length 14 [(0,.int .i64 k),(12,.slice la fo.length lc),(13,.int .i64 (fo.length:Int))] (fun i e h=>∃ N M',aH T N/\bG M1 M'/\h=⟨N,M',[],[]⟩/\S=pu k i (fo.drop i)) 0 (by omega) (by simp only [aG,go_sem,ak,sevalprocAttr]) (by simp only [go_sem,ak,sevalprocAttr]) ⟨T,M1,aH.rfl',bG.rfl',rfl,hS⟩ ?_
 clear hS
 rintro i e h hi aD ht ⟨N,M2,hN,aX,rfl,hS⟩
 simp only [aG] at aD
 by_cases aF:i<fo.length
 ·obtain ⟨l,hl⟩:∃ l,fo[i]?=some l:=⟨_,List.getElem?_eq_getElem aF⟩
  obtain ⟨jK,eG,fh⟩:=CV l (List.mem_of_getElem? hl)
  obtain ⟨b,o,cs,rfl,cC,hr⟩:=eE i l hl
  obtain ⟨sv,tW,_,_,rfl⟩:=hr
  obtain ⟨_,sa,sc,rfl,IE,_,hsg⟩:=aI (by decide) (fun _ _=>cO) tW
  obtain ⟨w0,w1,w2⟩:=At3 (cC.ext aX)
  have hd:fo.drop i=l::fo.drop (i+1):=by
   rw [List.drop_eq_getElem_cons aF];congr 1
   rw [List.getElem?_eq_getElem aF] at hl;injection hl
  rw [hd,pu] at hS
  have hw:IntKind.i64.wrap (k - l.kind)=k - l.kind:=eZ (by omega) (by omega)
  by_cases c1:0<=k - l.kind
  ·by_cases c2:k - l.kind<(l.signs.length:Int)
   ·rw [if_pos ⟨c1,c2⟩] at hS
    simp +contextual only [go_sem,ak,sevalprocAttr,aD,ht,aF,w0,w1,w2,hw,c1,c2]
    intro b5 T5 jH tG _
    obtain ⟨j,hj⟩:∃ j:Nat,k - l.kind=(j:Int):=⟨(k - l.kind).toNat,by omega⟩
    have xk:j<l.signs.length:=by omega
    obtain ⟨b',o',cs',rfl,fA,hr'⟩:=hsg j l.signs[j] (List.getElem?_eq_getElem xk)
    have hm:aL M2 ⟨b',o'+j,none⟩=some (st l.signs[j]):=by
     have:=fA.ext aX;rw [hr',Nat.mul_one] at this;exact this.1
    rw [hj] at hS ⊢
    refine bq ?_
    simp +contextual only [go_sem,ak,sevalprocAttr,bC jH,hm,hj,xk,aC i (by omega)]
    refine az (hN.trans tG) ?_
    rw [hS]
    simp [xk,st]
   ·rw [if_neg (fun h=>c2 h.2)] at hS
    simp +contextual only [go_sem,ak,sevalprocAttr,aD,ht,aF,w0,w1,w2,hw,c1,c2]
    intro b5 T5 jH tG _
    refine bf (iJ (aA ⟨fo.length - (i+1),by omega,rfl,i+1,by omega,rfl,?_,?_,T5,M2,hN.trans tG,aX,rfl,hS⟩))
    ·simp only [aG,aD,go_sem,ak,sevalprocAttr]
    ·simp only [ht,go_sem,ak,sevalprocAttr,aC i (by omega)]
  ·rw [if_neg (fun h=>c1 h.1)] at hS
   simp +contextual only [go_sem,ak,sevalprocAttr,aD,ht,aF,w0,w1,w2,hw,c1]
   intro b5 T5 jH tG _
   refine bf (iJ (aA ⟨fo.length - (i+1),by omega,rfl,i+1,by omega,rfl,?_,?_,T5,M2,hN.trans tG,aX,rfl,hS⟩))
   ·simp only [aG,aD,go_sem,ak,sevalprocAttr]
   ·simp only [ht,go_sem,ak,sevalprocAttr,aC i (by omega)]
 ·have:i=fo.length:=by omega
  subst this
  simp +contextual only [go_sem,ak,sevalprocAttr,aD,ht,aF]
  refine az hN ?_
  rw [hS,List.drop_length];rfl
open Go Vc Go.RowKit Go.Lib Go.Shelf
def jB (M:aV):Prop:=fO M/\M 1=some (Lib.pow10Tab.map fun z=>Value.int .u64 z)/\∃ m,M 0=some [.int .i64 m]
theorem jB.ext {M M':aV}(h:jB M)(he:bG M M'):jB M':=⟨h.1.ext he,he _ _ h.2.1,by obtain ⟨m,hm⟩:=h.2.2;exact ⟨m,he _ _ hm⟩⟩
theorem Q5 {name:String}{k:IntKind}{zs:List Int}{w:World}{g:Nat}(hg:Tryz.prog.globalNamed name=some g)(h:∃ t f,w.heap[g]?=some (.cells (zs.map fun z=>Value.int k z).toArray t f)):Lib.TabIs Tryz.prog w name k zs:=by
 obtain ⟨t,f,ht⟩:=h
 unfold Lib.TabIs World.var?
 rw [hg]
 simp [ht]
theorem adZ:aK Tryz.prog 135=true:=by kernel_rfl
theorem Wc:aK Tryz.prog 134=true:=by kernel_rfl
theorem Xw:aK Tryz.prog 133=true:=by kernel_rfl
theorem XD:aK Tryz.prog 72=true:=by kernel_rfl
theorem uA {M:aV}(hg:jB M)(n:Int)(h0: -9223372036854775808<=n)(h1:n<=9223372036854775807):Ct Tryz.prog 135 [.int .i64 n,.int .i64 10] M [] [] (fun r M' _ _=>r=st (Lib.itoa n)/\M'=M) bj:=by
 refine pf adZ fun w hw=>Calls.mono (Any.strconv_FormatInt_10 Tryz.laysM173 n h0 h1 w (Q5 (by kernel_rfl) (hw 1 _ hg.2.1))) ?_
 rintro e w' ⟨rfl,k,os,rfl⟩
 refine ⟨rfl,rfl,rfl,rfl,?_,?_⟩
 ·show w.heap.size<=(w.heap++os).size
  rw [Array.size_append];omega
 ·intro b hb
  show (w.heap++os)[b]?=w.heap[b]?
  exact Array.getElem?_append_left hb
theorem sq {M:aV}(s p:Bs):Ct Tryz.prog 134 [st s,st p] M [] [] (fun r M' _ _=>r=st (Lib.trimPrefix s p)/\M'=M) bj:=by
 refine pf Wc fun w hw=>Calls.mono (Tryz.strings_TrimPrefix (bs s) (bs p) w) ?_
 rintro e w' ⟨rfl,rfl⟩
 refine ⟨?_,lU.rfl'⟩
 simp [st,bs]
theorem AJ {M:aV}(hg:jB M)(s:Bs)(hs:s.length<=1000000):Ct Tryz.prog 133 [st s,st [39],st [39,39]] M [] [] (fun r M' _ _=>r=st (FU s)/\M'=M) bj:=by
 obtain ⟨m,hm⟩:=hg.2.2
 refine pf Xw fun w hw=> ?_
 obtain ⟨t,f,ht⟩:=hw 0 _ hm
 have hc:Lib.countB (bs s) (bs [39])<=s.length+1:=by
  have:=Lib.countB_le (bs [39]) (by decide) _ (bs s) (Nat.le_refl _)
  rw [q8] at this;omega
 refine Calls.mono (Tryz.strings_ReplaceAll (bs s) (bs [39]) (bs [39,39]) m w (by rw [q8];omega) (by rw [Lib.cell_of_heap ht];rfl) (by decide) ?_) ?_
 ·simp only [q8]
  have:(([39,39]:Bs)).length=2:=rfl
  rw [this];omega
 ·rintro e w' ⟨rfl,hb⟩
  refine ⟨?_,hb.os,hb.tape,hb.output,hb.size,hb.block⟩
  simp [st,bs,FU]
theorem cS {F:Fi}{s:List Vc.Item}{e:dN}{ds:List Deferred}{dd:Option Nat}{N:Tm}{M:aV}{b bl n:Nat}{a:Option Addr}{c:Nat}{p:Value}{aO:Bs}(L1:LL)(ws:List Bs)(hN:N b=some 138)(hp:pK b p)(hn:ws.length=n)(hl:aO.length+bI ws<=1000000000)
 (k:∀ v M' p' a' c',bG M M' ->aB M' (L1++[(b,[p',.slice a' (bB aO ws).length c'])]) ->pK b p' ->cB Tryz.prog F s (cV e dd v) ds ⟨N,M',L1++[(b,[p',.slice a' (bB aO ws).length c'])],[(.slice a' (bB aO ws).length c',5,1,Lib.byteCells (bB aO ws))]⟩ ⟨⟩):
 dT Tryz.prog F 88 [.pointer (some ⟨b,0,none⟩),.slice (some ⟨bl,0,none⟩) n n] dd s e ds ⟨N,M,(bl,ws.map st)::(L1++[(b,[p,.slice a aO.length c])]),[(.slice a aO.length c,5,1,Lib.byteCells aO)]⟩ ⟨⟩:=by
 refine aW cY fun M1 aP jK bL=> ?_
 have hw:RS M1 pD 1 ws (.slice (some ⟨bl,0,none⟩) n n):=df (fun _ _=>cO) jK (eQ ws) hn (by
  have:∀ l:List Bs,l.length<=bI l:=by
   intro l
   induction l with
   | nil=>simp [bI]
   | cons x l ih=>simp only [List.length_cons,bI];omega
  have:=this ws;omega)
 have h:=cM (P:=Tryz.prog) (F:=F) (s:=s) (e:=e) (ds:=ds) (dd:=dd) (N:=N) L1 (ng b p a aO.length c) [] [] (oe a aO.length c aO) [] (Ek hN hp hw hl)
  (fun v M' L' R' lC _ _ iQ hq=>by
   obtain ⟨p',a',c',vr,rfl,rfl⟩:=hq
   rw [List.append_nil] at iQ ⊢
   exact k v M' p' a' c' (aP.trans lC) iQ vr)
  (fun _ _ _ _ _ _ _ _ h=>h.elim)
 rw [List.append_nil] at h
 exact h
theorem ac2 {T:Tm}{M:aV}{b:Nat}{a:Option Addr}{c:Nat}{p:Value}{aO:Bs}{v:V}(hg:jB M)(hv:cR v=0)(hT:T b=some 138)(hp:pK b p)(hl:aO.length+bI (ld v)<=1000000000):
 ep Tryz.prog 90 [.pointer (some ⟨b,0,none⟩),.agg ⟨v.cs⟩] T M (ng b p a aO.length c) (oe a aO.length c aO) (lY b (bB aO (ld v))) bj:=by
 obtain ⟨k,n,t⟩:=v
 refine aT mx aoi Tryz.func90 rfl (by rw [apv];exact Nat.le_of_ble_eq_true rfl) (dr:=aln) (by kernel_rfl) atW ?_
 intro bN _
 simp only [ng,aB,and_true] at bN
 unfold ld at hl ⊢
 unfold ng oe
 simp only [V.cs] at hl ⊢
 by_cases k1:k=1
 ·subst k1
  simp only [if_true] at hl ⊢
  simp +contextual only [go_sem,ak,sevalprocAttr]
  intro b1 T1 jK sO jt pV b2 eG cr
  refine cS [(b1,_)] [kP] (jt _ _ hT) hp rfl hl ?_
  rintro v M2 p2 a2 c2 aX aQ gV
  simp +contextual only [go_sem,ak,sevalprocAttr]
  exact al (aM jt rfl rfl ⟨p2,a2,c2,gV,rfl,rfl⟩)
 rw [if_neg k1] at hl ⊢
 by_cases k2:k=2
 ·subst k2
  rw [if_pos rfl] at hl ⊢
  have hn:n=0\/n=1:=by
   simp only [cR] at hv
   by_cases h0:n=0
   ·exact .inl h0
   ·by_cases h1:n=1
    ·exact .inr h1
    ·simp [h0,h1] at hv
  rcases hn with rfl | rfl
  ·simp +contextual only [go_sem,ak,sevalprocAttr]
   intro b1 T1 jK sO jt pV b2 eG cr b3 fh bT
   refine cS [(b2,_),(b1,_)] [sL] (jt _ _ hT) hp rfl hl ?_
   rintro v M2 p2 a2 c2 aX aQ gV
   simp +contextual only [go_sem,ak,sevalprocAttr]
   exact al (al (aM jt rfl rfl ⟨p2,a2,c2,gV,rfl,rfl⟩))
  ·simp +contextual only [go_sem,ak,sevalprocAttr]
   intro b1 T1 jK sO jt pV b2 eG cr b3 fh bT
   refine cS [(b2,_),(b1,_)] [zA] (jt _ _ hT) hp rfl hl ?_
   rintro v M2 p2 a2 c2 aX aQ gV
   simp +contextual only [go_sem,ak,sevalprocAttr]
   exact al (al (aM jt rfl rfl ⟨p2,a2,c2,gV,rfl,rfl⟩))
 rw [if_neg k2] at hl ⊢
 by_cases k4:k=4
 ·subst k4
  rw [if_pos rfl] at hl ⊢
  have ht:t.length<=60:=by
   simp only [cR] at hv
   by_cases h:t.length<=60
   ·exact h
   ·simp [h] at hv
  simp +contextual only [go_sem,ak,sevalprocAttr]
  intro b1 T1 jK sO jt pV
  refine am (AJ hg t (by omega) T1) ?_ (fun _ _ _ _ h=>h.elim)
  rintro v M2 aX aQ ⟨rfl,rfl⟩
  simp only [bI,List.length_cons,List.length_append,List.length_nil] at hl
  have q1:1+List.length (FU t)<=9223372036854775807:=by omega
  have q2:List.length (FU t)<=9223372036854775805:=by omega
  simp +contextual only [go_sem,ak,sevalprocAttr,vg,q1,q2]
  intro b2 eG cr
  refine cS [(b1,_)] [39::(FU t++[39])] (jt _ _ hT) hp rfl (by simp only [bI,List.length_cons,List.length_append,List.length_nil];omega) ?_
  rintro v M3 p2 a2 c2 bD aZ gV
  simp +contextual only [go_sem,ak,sevalprocAttr]
  exact al (aM jt rfl rfl ⟨p2,a2,c2,gV,rfl,rfl⟩)
 rw [if_neg k4] at hl ⊢
 by_cases k3:k=3
 ·subst k3
  rw [if_pos rfl] at hl ⊢
  have hn:n<=1000000000000000/\ -1000000000000000<=n:=by
   simp only [cR] at hv
   by_cases h:n>1000000000000000\/n< -1000000000000000
   ·simp [h] at hv
   ·omega
  by_cases h0:n<0
  ·rw [if_pos h0] at hl ⊢
   simp +contextual only [go_sem,ak,sevalprocAttr,h0]
   intro b1 T1 jK sO jt pV b2 eG cr
   rw [bz] at hl
   refine cS [(b1,_)] [iW] (jt _ _ hT) hp rfl (by omega) ?_
   rintro v M2 p2 a2 c2 aX aQ gV
   simp only [List.cons_append,List.nil_append,aB,aE] at aQ
   simp +contextual only [go_sem,ak,sevalprocAttr,aQ]
   refine am (uA (hg.ext aX) n (by omega) (by omega) T1) ?_ (fun _ _ _ _ h=>h.elim)
   rintro v M3 bD aZ ⟨rfl,rfl⟩
   simp +contextual only [go_sem,ak,sevalprocAttr]
   refine am (sq (Lib.itoa n) [45] T1) ?_ (fun _ _ _ _ h=>h.elim)
   rintro v M4 ce bH ⟨rfl,rfl⟩
   simp +contextual only [go_sem,ak,sevalprocAttr]
   intro b3 fh bT
   refine cS [(b1,_)] [Lib.trimPrefix (Lib.itoa n) [45]] (jt _ _ hT) gV rfl (by have:=cE [iW] aO;omega) ?_
   rintro v M5 p3 a3 c3 dy bE eD
   simp +contextual only [go_sem,ak,sevalprocAttr]
   exact al (aM jt rfl rfl ⟨p3,a3,c3,eD,rfl,rfl⟩)
  ·rw [if_neg h0] at hl ⊢
   simp +contextual only [go_sem,ak,sevalprocAttr,h0]
   intro b1 T1 jK sO jt pV
   refine am (uA hg n (by omega) (by omega) T1) ?_ (fun _ _ _ _ h=>h.elim)
   rintro v M3 bD aZ ⟨rfl,rfl⟩
   simp +contextual only [go_sem,ak,sevalprocAttr]
   refine am (sq (Lib.itoa n) [45] T1) ?_ (fun _ _ _ _ h=>h.elim)
   rintro v M4 ce bH ⟨rfl,rfl⟩
   simp +contextual only [go_sem,ak,sevalprocAttr]
   intro b3 fh bT
   refine cS [(b1,_)] [Lib.trimPrefix (Lib.itoa n) [45]] (jt _ _ hT) hp rfl hl ?_
   rintro v M5 p3 a3 c3 dy bE eD
   simp +contextual only [go_sem,ak,sevalprocAttr]
   exact al (aM jt rfl rfl ⟨p3,a3,c3,eD,rfl,rfl⟩)
 ·exfalso
  simp only [cR] at hv
  simp [k1,k2,k3,k4] at hv
set_option maxRecDepth 100000
theorem amu:Tryz.prog.globalNamed "internal/strconv.uint64pow10"=some 1:=by kernel_rfl
theorem Tt:(Tryz.prog.globals[1]?).map (·.type)=some 359:=by kernel_rfl
theorem ad7 {W:World}{l:List (String×DataW Unit)}(hl:(l.filter fun x=>x.1== "internal/strconv.uint64pow10")=[("internal/strconv.uint64pow10",Lib.tabData .u64 Lib.pow10Tab)])(h:laidMetH Tryz.prog l W):Lib.TabIs Tryz.prog W "internal/strconv.uint64pow10" .u64 Lib.pow10Tab:=by
 have h1:=laidMetH.filter (fun x=>x.1== "internal/strconv.uint64pow10") h
 rw [hl] at h1
 have h1:laidMet Tryz.prog [("internal/strconv.uint64pow10",Lib.tabData .u64 Lib.pow10Tab)] W:=h1
 exact Lib.tabIs_of_head (rest:=[]) amu Tt Tryz.underlying359 (by kernel_rfl) (by kernel_rfl) (by kernel_rfl) h1
theorem aed {W:World}(h:W.ShapedOpen Tryz.prog):∃ m,fQ W 0=some [.int .i64 m]:=by
 have h0:((begin Tryz.prog (fun _ _=>0) default).world.heap[0]?).bind Obj.row?=some (#[.int .i64 0],3):=by kernel_rfl
 have hg:0<Tryz.prog.globals.size:=by decide +kernel
 obtain ⟨cs,hh,hs,hr⟩:=h.1 0 _ _ hg h0
 obtain ⟨m,hm⟩:=cell_of_shapedOpen_int h hg h0 rfl (by kernel_rfl) (by kernel_rfl) Tryz.underlying3
 refine ⟨m,?_⟩
 rw [tC hh]
 unfold World.cell? at hm
 rw [hh] at hm
 have hs:cs.size=1:=hs
 obtain ⟨l⟩:=cs
 match l,hs with
 | [v],_=>
  have:some v=some (Value.int .i64 m):=hm
  injection this with this
  rw [this]
theorem Pg {W:World}{l:List (String×DataW Unit)}(h1:(l.filter fun x=>x.1== "strings.asciiSpace")=[("strings.asciiSpace",Lib.tabData .u8 Lib.asciiSpaceTab)])(h2:(l.filter fun x=>x.1== "internal/strconv.uint64pow10")=[("internal/strconv.uint64pow10",Lib.tabData .u64 Lib.pow10Tab)])
 (hL:laidMetH Tryz.prog l W) (hS:W.ShapedOpen Tryz.prog):jB (fQ W):=by
 refine ⟨fun g hg=> ?_,Bi amu (ad7 h2 hL),aed hS⟩
 obtain rfl:=Option.some.inj (Jw.symm.trans hg)
 exact Bi Jw (ajT h1 hL)
set_option maxRecDepth 10000
theorem XI {T:Tm}{M:aV}{b:Nat}{a:Option Addr}{c:Nat}{p:Value}{aO:Bs}{ws:List Bs}{wv:Value}(hT:T b=some 138)(hp:pK b p)(hw:RS M pD 1 ws wv)(hl:aO.length+bI ws<=1000000000):
 CtD Tryz.prog 88 [.pointer (some ⟨b,0,none⟩),wv] T M (ng b p a aO.length c) (oe a aO.length c aO) (lY b (bB aO ws)) bj:=by
 obtain ⟨hwb,wa,wc,rfl,hwc,_,eE⟩:=aI (by decide) (fun _ _=>cO) hw
 refine Kh mx cY Tryz.func88 rfl (by rw [aoe];exact Nat.le_of_ble_eq_true rfl) (dr:=ad2) (by kernel_rfl) ai4 ?_
 intro bN _
 simp only [ng,aB,and_true] at bN
 simp +contextual only [go_sem,ak,sevalprocAttr]
 refine bh ws.length 8 [(0,.pointer (some ⟨b,0,none⟩)),(6,.slice wa ws.length wc),(7,.int .i64 (ws.length:Int))] (fun i e h=>∃ M' p a c,pK b p/\bG M M'/\M' b=none/\h=⟨T,M',ng b p a (bB aO (ws.take i)).length c,oe a (bB aO (ws.take i)).length c (bB aO (ws.take i))⟩) 0 (by omega) (by simp only [aG,go_sem,ak,sevalprocAttr]) (by simp only [go_sem,ak,sevalprocAttr]) ⟨M,p,a,c,hp,bG.rfl',bN,rfl⟩ ?_
 rintro i e h hi aD ht ⟨M1,p1,a1,c1,iT,aP,bL,rfl⟩
 simp only [aG] at aD
 by_cases aF:i<ws.length
 ·obtain ⟨b',o',cs,rfl,cC,hr⟩:=eE i ws[i] (List.getElem?_eq_getElem aF)
  have hm:aL M1 ⟨b',o'+i,none⟩=some (st ws[i]):=by
   have:=cC.ext aP;rw [hr,Nat.mul_one] at this;exact this.1
  have hb:=En ws aO i aF
  have kF:=qa ws aO i aF
  generalize hA:bB aO (ws.take i)=A at kF hb ⊢
  unfold ng oe
  simp +contextual only [go_sem,ak,sevalprocAttr,aD,ht,aF,hm]
  refine cM [] [(b,_)] [] [] [] [_] (Dy T) ?_ (fun _ _ _ _ _ _ _ _ h=>h.elim)
  rintro v M2 L' R' aX _ _ aQ ⟨rfl,rfl,rfl,rfl⟩
  by_cases G9:A=[]
  ·have hz:¬ (0:Int)<(A.length:Int):=by rw [G9];simp
   have hs:pQ A=A:=by unfold pQ;rw [if_pos G9,G9]
   rw [hs] at kF
   simp +contextual only [go_sem,ak,sevalprocAttr,aD,ht,hz,aQ]
   refine cM [] [(b,_)] [] [] [_] [] (jF ws[i] hT iT (by omega)) ?_ (fun _ _ _ _ _ _ _ _ h=>h.elim)
   rintro v M3 L' R' bD _ _ aZ ⟨p3,a3,c3,eD,rfl,rfl⟩
   simp only [ng,oe,List.nil_append,List.append_nil,aB,and_true] at aZ ⊢
   simp +contextual only [go_sem,ak,sevalprocAttr,aD,ht]
   refine bW aF ?_ ?_ ⟨M3,p3,a3,c3,eD,aP.trans (aX.trans bD),aZ,?_⟩
   ·simp only [aG,aD,go_sem,ak,sevalprocAttr]
   ·simp only [ht,go_sem,ak,sevalprocAttr,aC i (by omega)]
   ·rw [kF]
  ·have hz:(0:Int)<(A.length:Int):=by
    have:=List.length_pos_iff.2 G9;omega
   have hs:pQ A=A++[32]:=by unfold pQ;rw [if_neg G9]
   rw [hs] at kF
   simp +contextual only [go_sem,ak,sevalprocAttr,aD,ht,hz,aQ]
   refine cM [] [(b,_)] [] [] [_] [] (ss 32 hT iT (by omega)) ?_ (fun _ _ _ _ _ _ _ _ h=>h.elim)
   rintro v M3 L' R' bD _ _ aZ ⟨p3,a3,c3,eD,rfl,rfl⟩
   simp only [ng,oe,List.nil_append,List.append_nil,aB,and_true] at aZ ⊢
   simp +contextual only [go_sem,ak,sevalprocAttr,aD,ht,aZ]
   refine cM [] [(b,_)] [] [] [_] [] (jF ws[i] hT eD (by rw [List.length_append];simp only [List.length_cons,List.length_nil];omega)) ?_ (fun _ _ _ _ _ _ _ _ h=>h.elim)
   rintro v M4 L' R' ce _ _ bH ⟨p4,a4,c4,ke,rfl,rfl⟩
   simp only [ng,oe,List.nil_append,List.append_nil,aB,and_true] at bH ⊢
   simp +contextual only [go_sem,ak,sevalprocAttr,aD,ht]
   refine bW aF ?_ ?_ ⟨M4,p4,a4,c4,ke,aP.trans (aX.trans (bD.trans ce)),bH,?_⟩
   ·simp only [aG,aD,go_sem,ak,sevalprocAttr]
   ·simp only [ht,go_sem,ak,sevalprocAttr,aC i (by omega)]
   ·rw [kF]
 ·have:i=ws.length:=by omega
  subst this
  simp +contextual only [go_sem,ak,sevalprocAttr,aD,ht,aF]
  refine aM aH.rfl' rfl rfl ⟨p1,a1,c1,iT,?_,?_⟩<;>simp [List.take_length]
theorem Gb {f:FuncId}{args:List Value}{h:Sh}{k:Sh ->Prop}(hb:aK Tryz.prog f=true)(hc:cK h fun h'=>Gy Tryz.prog f args h' k):Gy Tryz.prog f args h k:=
 ⟨hb,fun c w u hw=>by
  obtain ⟨h',ix,hk⟩:=hc c w hw
  exact hk.2 c w u ix⟩
def ExW (x:X):Prop:=∀ (M:aV) (T:Tm) (b bx ox:Nat) (cs:List Value) (a:Option Addr) (c:Nat) (p:Value) (aO:Bs) (need:Int),jB M ->RX M x cs ->At M bx ox cs ->wz x ->T b=some 138 ->pK b p ->0<=need ->need<=10 ->aO.length+bI (bm x need)<=1000000000 ->
 ep Tryz.prog 91 [.pointer (some ⟨b,0,none⟩),.pointer (some ⟨bx,ox,none⟩),.int .i64 need] T M (ng b p a aO.length c) (oe a aO.length c aO) (lY b (bB aO (bm x need))) bj
theorem iN {F:Fi}{s:List Vc.Item}{e:dN}{ds:List Deferred}{dd:Option Nat}{N:Tm}{M:aV}{b bx ox:Nat}{cs:List Value}{a:Option Addr}{c:Nat}{p:Value}{aO:Bs}{x:X}{need:Int}(L1:LL)(hx:ExW x)(hg:jB M)(hr:RX M x cs)(ha:At M bx ox cs)(ho:wz x)(hN:N b=some 138)(hp:pK b p)(h0:0<=need)(h1:need<=10)(hl:aO.length+bI (bm x need)<=1000000000)
 (k:∀ v M' p' a' c',bG M M' ->aB M' (L1++[(b,[p',.slice a' (bB aO (bm x need)).length c'])]) ->pK b p' ->cB Tryz.prog F s (cV e dd v) ds ⟨N,M',L1++[(b,[p',.slice a' (bB aO (bm x need)).length c'])],[(.slice a' (bB aO (bm x need)).length c',5,1,Lib.byteCells (bB aO (bm x need)))]⟩ ⟨⟩):
 dT Tryz.prog F 91 [.pointer (some ⟨b,0,none⟩),.pointer (some ⟨bx,ox,none⟩),.int .i64 need] dd s e ds ⟨N,M,L1++[(b,[p,.slice a aO.length c])],[(.slice a aO.length c,5,1,Lib.byteCells aO)]⟩ ⟨⟩:=by
 have h:=cM (P:=Tryz.prog) (F:=F) (s:=s) (e:=e) (ds:=ds) (dd:=dd) (N:=N) L1 (ng b p a aO.length c) [] [] (oe a aO.length c aO) [] (hx M N b bx ox cs a c p aO need hg hr ha ho hN hp h0 h1 hl)
  (fun v M' L' R' lC _ _ iQ hq=>by
   obtain ⟨p',a',c',vr,rfl,rfl⟩:=hq
   rw [List.append_nil] at iQ ⊢
   exact k v M' p' a' c' lC iQ vr)
  (fun _ _ _ _ _ _ _ _ h=>h.elim)
 rw [List.append_nil] at h
 exact h
theorem Mk {l:List X}{i:Nat}(h:i<l.length)(f:Bool):sB f ((l.map bm).drop i)=(if f=true then [] else [ct])++(bm l[i] 1++sB false ((l.map bm).drop (i+1))):=by
 have h':i<(l.map bm).length:=by simpa using h
 rw [List.drop_eq_getElem_cons h',sB]
 simp
theorem OZ {l:List X}(hA:∀ x∈l,ExW x)(hO:∀ x∈l,wz x){M:aV}{T:Tm}{b:Nat}{a:Option Addr}{c:Nat}{p:Value}{aO:Bs}{v:Value}(hg:jB M)(hv:RS M (RX M) 7 l v)(hT:T b=some 138)(hp:pK b p)(hl:aO.length+bI (lF (l.map bm))<=1000000000):
 ep Tryz.prog 132 [.pointer (some ⟨b,0,none⟩),v] T M (ng b p a aO.length c) (oe a aO.length c aO) (lY b (bB aO (lF (l.map bm)))) bj:=by
 have jo:=Aa hv
 obtain ⟨_,la,lc,rfl,hlc,_,eE⟩:=aI (by decide) (fun _ _=>dY) hv
 refine aT mx acq Tryz.func132 rfl (by rw [anT];exact Nat.le_of_ble_eq_true rfl) (dr:=ZP) (by kernel_rfl) agD ?_
 intro bN _
 simp only [ng,aB,and_true] at bN
 simp +contextual only [go_sem,ak,sevalprocAttr]
 refine bh l.length 7 [(0,.pointer (some ⟨b,0,none⟩)),(1,.slice la l.length lc),(6,.int .i64 (l.length:Int))] (fun i e h=>∃ M' p a c acc',pK b p/\bG M M'/\M' b=none/\h=⟨T,M',ng b p a acc'.length c,oe a acc'.length c acc'⟩/\
  bB aO (lF (l.map bm))=bB acc' (sB (decide (i=0)) ((l.map bm).drop i))/\acc'.length+bI (sB (decide (i=0)) ((l.map bm).drop i))<=1000000000) 0 (by omega) (by simp only [aG,go_sem,ak,sevalprocAttr]) (by simp only [go_sem,ak,sevalprocAttr]) ⟨M,p,a,c,aO,hp,bG.rfl',bN,rfl,rfl,hl⟩ ?_
 rintro i e h hi aD ht ⟨M1,p1,a1,c1,acc1,iT,aP,bL,rfl,kF,jK⟩
 simp only [aG] at aD
 by_cases aF:i<l.length
 ·rw [Mk aF] at kF jK
  obtain ⟨bx,ox,cs,rfl,cC,hr⟩:=eE i l[i] (List.getElem?_eq_getElem aF)
  have hX:=hA l[i] (List.getElem_mem aF)
  have hOx:=hO l[i] (List.getElem_mem aF)
  by_cases mm:i=0
  ·have h0:¬ (0:Int)<((i:Nat):Int):=by omega
   rw [if_pos (by simpa using mm),List.nil_append] at kF jK
   rw [bz] at jK
   simp only [ng,oe]
   simp +contextual only [go_sem,ak,sevalprocAttr,aD,ht,aF,h0]
   refine iN [] hX (hg.ext aP) (br aP _ _ hr) (cC.ext aP) hOx hT iT (by decide) (by decide) (by omega) ?_
   rintro v M2 p2 a2 c2 aX aQ gV
   simp only [List.nil_append,aB,and_true] at aQ ⊢
   simp +contextual only [go_sem,ak,sevalprocAttr,aD,ht]
   refine bW aF ?_ ?_ ⟨M2,p2,a2,c2,_,gV,aP.trans aX,aQ,rfl,?_,?_⟩
   ·simp only [aG,aD,go_sem,ak,sevalprocAttr]
   ·simp only [ht,go_sem,ak,sevalprocAttr,aC i (by omega)]
   ·rw [kF,dR];simp
   ·have:=cE (bm l[i] 1) acc1
    simp only [Nat.add_one_ne_zero,decide_false]
    omega
  ·have h0:(0:Int)<((i:Nat):Int):=by omega
   rw [if_neg (by simpa using mm)] at kF jK
   rw [bz,bz] at jK
   simp only [ng,oe]
   simp +contextual only [go_sem,ak,sevalprocAttr,aD,ht,aF,h0]
   intro b5 jH eO
   refine cS [] [ct] hT iT rfl (by omega) ?_
   rintro v M2 p2 a2 c2 aX aQ gV
   simp only [List.nil_append,aB,and_true] at aQ ⊢
   simp +contextual only [go_sem,ak,sevalprocAttr,aD,ht,aF,h0]
   have py:=cE [ct] acc1
   refine iN [] hX (hg.ext (aP.trans aX)) (br (aP.trans aX) _ _ hr) (cC.ext (aP.trans aX)) hOx hT gV (by decide) (by decide) (by omega) ?_
   rintro v M3 p3 a3 c3 bD aZ eD
   simp only [List.nil_append,aB,and_true] at aZ ⊢
   simp +contextual only [go_sem,ak,sevalprocAttr,aD,ht]
   refine bW aF ?_ ?_ ⟨M3,p3,a3,c3,_,eD,aP.trans (aX.trans bD),aZ,rfl,?_,?_⟩
   ·simp only [aG,aD,go_sem,ak,sevalprocAttr]
   ·simp only [ht,go_sem,ak,sevalprocAttr,aC i (by omega)]
   ·rw [kF,dR,dR];simp
   ·have:=cE (bm l[i] 1) (bB acc1 [ct])
    simp only [Nat.add_one_ne_zero,decide_false]
    omega
 ·have:i=l.length:=by omega
  subst this
  simp +contextual only [go_sem,ak,sevalprocAttr,aD,ht,aF]
  have hd:(l.map bm).drop l.length=[]:=List.drop_of_length_le (by simp)
  rw [hd] at kF
  refine aM aH.rfl' rfl rfl ⟨p1,a1,c1,iT,?_,?_⟩<;>rw [kF]<;>rfl
theorem aiV {M:aV}{b o:Nat}{v0 v1 v2 v3 v4 v5 v6:Value}(h:At M b o [v0,v1,v2,v3,v4,v5,v6]):aL M ⟨b,o,none⟩=some v0/\aL M ⟨b,o+1,none⟩=some v1/\aL M ⟨b,o+2,none⟩=some v2/\aL M ⟨b,o+3,none⟩=some v3/\aL M ⟨b,o+4,none⟩=some v4/\aL M ⟨b,o+5,none⟩=some v5/\aL M ⟨b,o+6,none⟩=some v6:=
 ⟨h.1,h.2.1,h.2.2.1,h.2.2.2.1,h.2.2.2.2.1,h.2.2.2.2.2.1,h.2.2.2.2.2.2.1⟩
def aaP (b bl:Nat):Deferred:={target:=.fn (.func 88) ⟨[]⟩,args:=⟨[.pointer (some ⟨b,0,none⟩),.slice (some ⟨bl,0,none⟩) 1 1]⟩}
def ajA (b:Nat)(aO W:Bs)(pJ need:Int)(ds:List Deferred)(L0:LL)(pre:List Bs)(post:List Bs):Prop:=
 (ds=[]/\L0=[]/\pre=[]/\post=[]/\¬ pJ<need)\/∃ bl,ds=[aaP b bl]/\L0=[(bl,[st cd])]/\pre=[dp]/\post=[cd]/\pJ<need
theorem akC {T:Tm}{M:aV}{b:Nat}{p:Value}{a:Option Addr}{c:Nat}{aO acc3:Bs}{W:List Bs}{pJ need:Int}{ds:List Deferred}{L0:LL}{pre post:List Bs}{e:dN}{x:Bs}(hT:T b=some 138)(hp:pK b p)(hE:ajA b aO x pJ need ds L0 pre post)
 (h3:bB aO W=bB acc3 post) (hl:acc3.length+bI post<=1000000000):
 Hk Tryz.prog T [] [b] 1 (lY b (bB aO W)) e ds ⟨T,M,L0++[(b,[p,.slice a acc3.length c])],[(.slice a acc3.length c,5,1,Lib.byteCells acc3)]⟩:=by
 rcases hE with ⟨rfl,rfl,rfl,rfl,_⟩ | ⟨bl,rfl,rfl,rfl,rfl,_⟩
 ·rw [GR,h3]
  exact aM aH.rfl' rfl rfl ⟨p,a,c,hp,rfl,rfl⟩
 ·unfold Hk yo
  have hd:dFn (aaP b bl)=some (88,[.pointer (some ⟨b,0,none⟩),.slice (some ⟨bl,0,none⟩) 1 1]):=rfl
  rw [hd]
  refine Gb cY (aJ fun hM hb _=>aA ?_)
  have hw:=df (r:=pD) (l:=[cd]) (fun _ _=>cO) hb (eQ [cd]) rfl (by decide)
  refine Mb [] (XI hT hp hw hl) fun v M' L' R' lC _ _ _ hq=> ?_
  obtain ⟨p',a',c',vr,rfl,rfl⟩:=hq
  rw [h3]
  exact aM aH.rfl' rfl rfl ⟨p',a',c',vr,rfl,rfl⟩
theorem EH {k:Int}(h:0<=dE k):1<=k/\k<=23:=by
 unfold dE at h
 repeat' split at h
 all_goals omega
theorem FN {k:Int}(h:1<=k/\k<=23):1<=(dm k).1/\(dm k).1<=8:=by
 have key:∀ n:Fin 24,1<=(dm ((n:Nat):Int)).1/\(dm ((n:Nat):Int)).1<=8:=by decide
 have:=key ⟨k.toNat,by omega⟩
 rwa [show (((⟨k.toNat,by omega⟩:Fin 24):Nat):Int)=k from by simp;omega] at this
theorem TL {F:Fi}{s:List Vc.Item}{e:dN}{ds:List Deferred}{dd:Option Nat}{N:Tm}{M:aV}{b:Nat}{a:Option Addr}{c:Nat}{p:Value}{aO:Bs}{v:V}(L1:LL)(hg:jB M)(hv:cR v=0)(hN:N b=some 138)(hp:pK b p)(hl:aO.length+bI (ld v)<=1000000000)
 (k:∀ u M' p' a' c',bG M M' ->aB M' (L1++[(b,[p',.slice a' (bB aO (ld v)).length c'])]) ->pK b p' ->cB Tryz.prog F s (cV e dd u) ds ⟨N,M',L1++[(b,[p',.slice a' (bB aO (ld v)).length c'])],[(.slice a' (bB aO (ld v)).length c',5,1,Lib.byteCells (bB aO (ld v)))]⟩ ⟨⟩):
 dT Tryz.prog F 90 [.pointer (some ⟨b,0,none⟩),.agg ⟨v.cs⟩] dd s e ds ⟨N,M,L1++[(b,[p,.slice a aO.length c])],[(.slice a aO.length c,5,1,Lib.byteCells aO)]⟩ ⟨⟩:=by
 have h:=cM (P:=Tryz.prog) (F:=F) (s:=s) (e:=e) (ds:=ds) (dd:=dd) (N:=N) L1 (ng b p a aO.length c) [] [] (oe a aO.length c aO) [] (ac2 hg hv hN hp hl)
  (fun u M' L' R' lC _ _ iQ hq=>by
   obtain ⟨p',a',c',vr,rfl,rfl⟩:=hq
   rw [List.append_nil] at iQ ⊢
   exact k u M' p' a' c' lC iQ vr)
  (fun _ _ _ _ _ _ _ _ h=>h.elim)
 rw [List.append_nil] at h
 exact h
theorem sU {F:Fi}{s:List Vc.Item}{e:dN}{ds:List Deferred}{dd:Option Nat}{N:Tm}{M:aV}{b:Nat}{a:Option Addr}{c:Nat}{p:Value}{aO:Bs}{l:List X}{lv:Value}(L1:LL)(hA:∀ x∈l,ExW x)(hO:∀ x∈l,wz x)(hg:jB M)(hv:RS M (RX M) 7 l lv)(hN:N b=some 138)(hp:pK b p)(hl:aO.length+bI (lF (l.map bm))<=1000000000)
 (k:∀ u M' p' a' c',bG M M' ->aB M' (L1++[(b,[p',.slice a' (bB aO (lF (l.map bm))).length c'])]) ->pK b p' ->cB Tryz.prog F s (cV e dd u) ds ⟨N,M',L1++[(b,[p',.slice a' (bB aO (lF (l.map bm))).length c'])],[(.slice a' (bB aO (lF (l.map bm))).length c',5,1,Lib.byteCells (bB aO (lF (l.map bm))))]⟩ ⟨⟩):
 dT Tryz.prog F 132 [.pointer (some ⟨b,0,none⟩),lv] dd s e ds ⟨N,M,L1++[(b,[p,.slice a aO.length c])],[(.slice a aO.length c,5,1,Lib.byteCells aO)]⟩ ⟨⟩:=by
 have h:=cM (P:=Tryz.prog) (F:=F) (s:=s) (e:=e) (ds:=ds) (dd:=dd) (N:=N) L1 (ng b p a aO.length c) [] [] (oe a aO.length c aO) [] (OZ hA hO hg hv hN hp hl)
  (fun u M' L' R' lC _ _ iQ hq=>by
   obtain ⟨p',a',c',vr,rfl,rfl⟩:=hq
   rw [List.append_nil] at iQ ⊢
   exact k u M' p' a' c' lC iQ vr)
  (fun _ _ _ _ _ _ _ _ h=>h.elim)
 rw [List.append_nil] at h
 exact h
theorem lO {F:Fi}{f:FuncId}{args:List Value}{dd:Option Nat}{s:List Vc.Item}{e:dN}{ds:List Deferred}{N:Tm}{M:aV}{L:LL}{R:RR}{x:Value×TypeId×Nat×List Value}(hb:aK Tryz.prog f=true)
 (h:dT Tryz.prog F f args dd s e ds ⟨N,M,L,R⟩ ⟨⟩):dT Tryz.prog F f args dd s e ds ⟨N,M,L,x::R⟩ ⟨⟩:=
 eh (k:=fun h'=>h'=⟨N,M,L,R⟩) (lV (aA rfl)) (by rintro h' rfl;exact h) hb
theorem QA:∀ (sz:Nat) (x:X),SizeOf.sizeOf x<=sz ->ExW x:=by
 intro sz
 induction sz with
 | zero=>intro x hx;cases x;simp at hx
 | succ sz ih=>
  intro x eF M T b bx ox cs a c p aO need hg hx ha dG hT hp h0 h1 hl
  obtain ⟨k,v,tab,name,kids⟩:=x
  obtain ⟨s,rfl,fk,lD⟩:=cb hx
  obtain ⟨m0,m1,m2,m3,m4,m5,m6⟩:=aiV ha
  simp only [X.k,X.v,X.tab,X.name,X.kids] at m0 m1 m2 m3 m4 m5 m6 lD
  rw [wz] at dG
  obtain ⟨gB,jY,V9,Q0,UB⟩:=dG
  have hkr:=EH jY
  have hA:∀ y∈kids,ExW y:=fun y hy=>ih y (by
   have:=List.sizeOf_lt_of_mem hy
   simp only [X.mk.sizeOf_spec] at eF
   omega)
  obtain ⟨_,sa,sc,rfl,IE,_,eE⟩:=aI (by decide) (fun _ _=>dY) lD
  unfold ng oe
  refine DP mx alU Tryz.func91 rfl (by rw [arL];exact Nat.le_of_ble_eq_true rfl) (dr:=agQ) (by kernel_rfl) asB ?_
  intro bN _
  simp only [aB,and_true] at bN
  simp +contextual only [go_sem,sevalprocAttr, -Int.reduceAdd, -Int.reduceSub, -Int.reduceMul,m0]
  refine am (Rf k (by omega) (by omega) T) ?_ (fun _ _ _ _ h=>h.elim)
  rintro w M1 aP bL rfl
  simp +contextual only [go_sem,sevalprocAttr, -Int.reduceAdd, -Int.reduceSub, -Int.reduceMul]
  generalize hW:bm (.mk k v tab name kids) need=W at hl ⊢
  rw [bm] at hW
  have Fg:=FN hkr
  have agd:∀ {e':dN},e' 0=.pointer (some ⟨b,0,none⟩) ->e' 1=.pointer (some ⟨bx,ox,none⟩) ->e' 6=.int .i64 (dm k).1 ->e' 7=st (dm k).2 ->True:=fun _ _ _ _=>trivial
  refine dI (fun e ds h=>∃ M2 p2 a2 c2 L0 pre post,pK b p2/\bG M M2/\aB M2 (L0++[(b,[p2,.slice a2 (bB aO pre).length c2])])/\e 0=.pointer (some ⟨b,0,none⟩)/\e 1=.pointer (some ⟨bx,ox,none⟩)/\e 6=.int .i64 (dm k).1/\e 7=st (dm k).2/\ajA b aO aO (dm k).1 need ds L0 pre post/\
   h=⟨T,M2,L0++[(b,[p2,.slice a2 (bB aO pre).length c2])],[(.slice a2 (bB aO pre).length c2,5,1,Lib.byteCells (bB aO pre))]⟩) (fun S' dW=> ?_) ?_
  ·by_cases ho:(dm k).1<need
   ·rw [bV,if_pos (by simpa using ho)]
    rw [if_pos ho] at hW
    have gF:aO.length+bI [dp]<=1000000000:=by rw [<- hW] at hl;simp only [bI,List.length_cons,List.length_nil] at hl ⊢;omega
    simp +contextual only [go_sem,sevalprocAttr, -Int.reduceAdd, -Int.reduceSub, -Int.reduceMul]
    intro b3 fh bT
    refine cS [] [dp] hT hp rfl gF ?_
    rintro w M2 p2 a2 c2 aX aQ gV
    simp only [List.nil_append,aB,and_true] at aQ ⊢
    simp +contextual only [go_sem,sevalprocAttr, -Int.reduceAdd, -Int.reduceSub, -Int.reduceMul,aQ]
    intro b4 iR cN
    refine dW _ _ _ ⟨M2,p2,a2,c2,[(b4,[st cd])],[dp],[cd],gV,aP.trans aX,?_,?_,?_,?_,?_,.inr ⟨b4,by simp [aaP],rfl,rfl,rfl,ho⟩,rfl⟩
    all_goals first | exact ⟨iR,aQ,trivial⟩ | (simp only [go_sem,ak,sevalprocAttr, -Int.reduceAdd, -Int.reduceSub, -Int.reduceMul];done)
   ·rw [bV,if_neg (by simpa using ho)]
    simp +contextual only [go_sem,sevalprocAttr, -Int.reduceAdd, -Int.reduceSub, -Int.reduceMul]
    refine dW _ _ _ ⟨M1,p,a,c,[],[],[],hp,aP,?_,?_,?_,?_,?_,.inl ⟨rfl,rfl,rfl,rfl,ho⟩,rfl⟩
    all_goals first | exact bL | (simp only [go_sem,ak,sevalprocAttr, -Int.reduceAdd, -Int.reduceSub, -Int.reduceMul];done)
  rintro e ds h ⟨M2,p2,a2,c2,L0,pre,post,gV,aX,aQ,e0,e1,e6,e7,hE,rfl⟩
  have hWW:W=pre++(nU k v tab name (qj kids)++post):=by
   rcases hE with ⟨_,_,rfl,rfl,ho⟩ | ⟨bl,_,_,rfl,rfl,ho⟩
   ·rw [if_neg ho] at hW;rw [<- hW];simp
   ·rw [if_pos ho] at hW;rw [<- hW];simp
  clear hW
  obtain ⟨acc2,OE⟩:∃ acc2,acc2=bB aO pre:=⟨_,rfl⟩
  rw [<- OE] at aQ ⊢
  generalize hB:nU k v tab name (qj kids)=B at hWW
  have ft:acc2.length+bI (B++post)<=1000000000:=by
   have:=cE pre aO
   rw [hWW,bz] at hl
   rw [OE];omega
  rw [bz] at ft
  have fin:∀ {e':dN} {M3:aV} {p3:Value} {a3:Option Addr} {c3:Nat} {A3:Bs},A3=bB acc2 B ->pK b p3 ->Hk Tryz.prog T [] [b] 1 (lY b (bB aO W)) e' ds ⟨T,M3,L0++[(b,[p3,.slice a3 A3.length c3])],[(.slice a3 A3.length c3,5,1,Lib.byteCells A3)]⟩:=by
   intro e' M3 p3 a3 c3 A3 hA3 eD
   subst hA3
   refine akC hT eD hE ?_ ?_
   ·rw [hWW,dR,dR,OE]
   ·have:=cE B acc2
    omega
  have BB:=hg.ext aX
  have n0:=ax aX m0
  have n1:=ax aX m1
  have n2:=ax aX m2
  have n3:=ax aX m3
  have n4:=ax aX m4
  have n5:=ax aX m5
  have n6:=ax aX m6
  have Aj:=aN aX (br aX) lD
  clear hE hWW OE hl agd
  unfold nU at hB
  rw [rE] at hB
  by_cases k1:k=1
  ·subst k1
   rw [if_pos rfl] at hB
   subst hB
   simp +contextual only [go_sem,ak,sevalprocAttr, -Int.reduceAdd, -Int.reduceSub, -Int.reduceMul,e0,e1,n0,n1,n2,n3]
   refine TL L0 BB (V9 rfl) hT gV (by omega) ?_
   rintro w M3 p3 a3 c3 bD aZ eD
   simp +contextual only [go_sem,ak,sevalprocAttr, -Int.reduceAdd, -Int.reduceSub, -Int.reduceMul,ip]
   exact fin rfl eD
  rw [if_neg k1] at hB
  by_cases k2:k=2
  ·subst k2
   rw [if_pos rfl] at hB
   by_cases LX:tab=[]
   ·rw [if_pos LX,List.nil_append] at hB
    subst hB
    simp +contextual only [go_sem,ak,sevalprocAttr, -Int.reduceAdd, -Int.reduceSub, -Int.reduceMul,e0,e1,n0,n4,n5,LX]
    intro b5 jH eO
    refine cS L0 [name] hT gV rfl (by omega) ?_
    rintro w M3 p3 a3 c3 bD aZ eD
    simp +contextual only [go_sem,ak,sevalprocAttr, -Int.reduceAdd, -Int.reduceSub, -Int.reduceMul,ip]
    exact fin rfl eD
   ·rw [if_neg LX] at hB
    subst hB
    rw [bz] at ft
    simp +contextual only [go_sem,ak,sevalprocAttr, -Int.reduceAdd, -Int.reduceSub, -Int.reduceMul,e0,e1,n0,n4,n5,LX]
    intro b5 jH eO
    refine cS L0 [tab,AO] hT gV rfl (by omega) ?_
    rintro w M3 p3 a3 c3 bD aZ eD
    simp +contextual only [go_sem,ak,sevalprocAttr, -Int.reduceAdd, -Int.reduceSub, -Int.reduceMul,e0,e1,ax bD n0,ax bD n5]
    intro b6 mB de
    refine cS L0 [name] hT eD rfl (by have:=cE [tab,AO] acc2;omega) ?_
    rintro w M4 p4 a4 c4 ce bH ke
    simp +contextual only [go_sem,ak,sevalprocAttr, -Int.reduceAdd, -Int.reduceSub, -Int.reduceMul,ip]
    exact fin rfl ke
  rw [if_neg k2] at hB
  by_cases k3:k=3
  ·subst k3
   rw [if_pos rfl] at hB
   have bQ:kids.length=1:=by
    have:(kids.length:Int)=1:=by simpa [dE] using gB
    omega
   obtain ⟨y,rfl⟩:∃ y,kids=[y]:=List.length_eq_one_iff.1 bQ
   obtain ⟨bk,ok,ck,rfl,cC,UG⟩:=eE 0 y rfl
   have cC:At M bk ok ck:=by simpa using cC
   subst hB
   simp only [List.map_cons,List.map_nil,List.getD_cons_zero,bI] at ft
   simp +contextual only [go_sem,ak,sevalprocAttr, -Int.reduceAdd, -Int.reduceSub, -Int.reduceMul,e0,e1,n0]
   intro b5 jH eO
   refine cS L0 [lm] hT gV rfl (by simp only [bI];omega) ?_
   rintro w M3 p3 a3 c3 bD aZ eD
   have qy:=aX.trans bD
   simp +contextual only [go_sem,ak,sevalprocAttr, -Int.reduceAdd, -Int.reduceSub, -Int.reduceMul,e0,e1,ax bD n6]
   refine iN L0 (hA y (by simp)) (hg.ext qy) (br qy _ _ UG) (cC.ext qy) (jn UB y (by simp)) hT eD (by decide) (by decide) (by have:=cE [lm] acc2;simp only [bI] at this;omega) ?_
   rintro w M4 p4 a4 c4 ce bH ke
   simp +contextual only [go_sem,ak,sevalprocAttr, -Int.reduceAdd, -Int.reduceSub, -Int.reduceMul,ip]
   exact fin rfl ke
  rw [if_neg k3] at hB
  by_cases k16:k=16
  ·subst k16
   rw [if_pos rfl] at hB
   have bQ:kids.length=1:=by
    have:(kids.length:Int)=1:=by simpa [dE] using gB
    omega
   obtain ⟨y,rfl⟩:∃ y,kids=[y]:=List.length_eq_one_iff.1 bQ
   obtain ⟨bk,ok,ck,rfl,cC,UG⟩:=eE 0 y rfl
   have cC:At M bk ok ck:=by simpa using cC
   simp only [List.map_cons,List.map_nil,List.getD_cons_zero] at hB
   subst hB
   rw [bz] at ft
   simp +contextual only [go_sem,ak,sevalprocAttr, -Int.reduceAdd, -Int.reduceSub, -Int.reduceMul,e0,e1,n0,n6]
   refine iN L0 (hA y (by simp)) BB (br aX _ _ UG) (cC.ext aX) (jn UB y (by simp)) hT gV (by decide) (by decide) (by omega) ?_
   rintro w M3 p3 a3 c3 bD aZ eD
   simp +contextual only [go_sem,ak,sevalprocAttr, -Int.reduceAdd, -Int.reduceSub, -Int.reduceMul,e0,e1]
   intro b5 jH eO
   refine cS L0 [NW,kP] hT eD rfl (by have:=cE (bm y 5) acc2;omega) ?_
   rintro w M4 p4 a4 c4 ce bH ke
   simp +contextual only [go_sem,ak,sevalprocAttr, -Int.reduceAdd, -Int.reduceSub, -Int.reduceMul,ip]
   exact fin (by rw [dR]) ke
  rw [if_neg k16] at hB
  by_cases k17:k=17
  ·subst k17
   rw [if_pos rfl] at hB
   have bQ:kids.length=3:=by
    have:(kids.length:Int)=3:=by simpa [dE] using gB
    omega
   obtain ⟨y,z,u,rfl⟩:∃ y z u,kids=[y,z,u]:=by
    match kids,bQ with
    | [y,z,u],_=>exact ⟨y,z,u,rfl⟩
   obtain ⟨bk,ok,ck,rfl,cC,UG⟩:=eE 0 y rfl
   obtain ⟨bk',ok',ck',oD,fA,Wn⟩:=eE 1 z rfl
   injection oD with oD;injection oD with gH mU _;subst gH mU
   obtain ⟨bk',ok',ck'',oD,Q6,agz⟩:=eE 2 u rfl
   injection oD with oD;injection oD with gH mU _;subst gH mU
   have cC:At M bk ok ck:=by simpa using cC
   have fA:At M bk (ok+7) ck':=by simpa using fA
   have Q6:At M bk (ok+14) ck'':=by simpa using Q6
   simp only [List.map_cons,List.map_nil,List.getD_cons_zero,List.getD_cons_succ] at hB
   subst hB
   simp only [bz,bI] at ft
   simp +contextual only [go_sem,ak,sevalprocAttr, -Int.reduceAdd, -Int.reduceSub, -Int.reduceMul,e0,e1,n0]
   intro b5 jH eO
   have q1:=cE [od,pM] acc2
   simp only [bI] at q1
   refine cS L0 [od,pM] hT gV rfl (by simp only [bI];omega) ?_
   rintro w M3 p3 a3 c3 bD aZ eD
   have qy:=aX.trans bD
   simp +contextual only [go_sem,ak,sevalprocAttr, -Int.reduceAdd, -Int.reduceSub, -Int.reduceMul,e0,e1,ax bD n6]
   have q2:=cE (bm y 1) (bB acc2 [od,pM])
   refine iN L0 (hA y (by simp)) (hg.ext qy) (br qy _ _ UG) (cC.ext qy) (jn UB y (by simp)) hT eD (by decide) (by decide) (by omega) ?_
   rintro w M4 p4 a4 c4 ce bH ke
   simp +contextual only [go_sem,ak,sevalprocAttr, -Int.reduceAdd, -Int.reduceSub, -Int.reduceMul,e0,e1]
   intro b6 mB de
   have q3:=cE [rU] (bB (bB acc2 [od,pM]) (bm y 1))
   simp only [bI] at q3
   refine cS L0 [rU] hT ke rfl (by simp only [bI];omega) ?_
   rintro w M5 p5 a5 c5 dy bE u4
   have h25:=qy.trans (ce.trans dy)
   simp +contextual only [go_sem,ak,sevalprocAttr, -Int.reduceAdd, -Int.reduceSub, -Int.reduceMul,e0,e1,ax (bD.trans (ce.trans dy)) n6]
   have q4:=cE (bm z 1) (bB (bB (bB acc2 [od,pM]) (bm y 1)) [rU])
   refine iN L0 (hA z (by simp)) (hg.ext h25) (br h25 _ _ Wn) (fA.ext h25) (jn UB z (by simp)) hT u4 (by decide) (by decide) (by omega) ?_
   rintro w M6 p6 a6 c6 dM bP DE
   simp +contextual only [go_sem,ak,sevalprocAttr, -Int.reduceAdd, -Int.reduceSub, -Int.reduceMul,e0,e1]
   intro b7 km dj
   have q5:=cE [vX] (bB (bB (bB (bB acc2 [od,pM]) (bm y 1)) [rU]) (bm z 1))
   simp only [bI] at q5
   refine cS L0 [vX] hT DE rfl (by simp only [bI];omega) ?_
   rintro w M7 p7 a7 c7 iz fN Rk
   have h27:=h25.trans (dM.trans iz)
   simp +contextual only [go_sem,ak,sevalprocAttr, -Int.reduceAdd, -Int.reduceSub, -Int.reduceMul,e0,e1,ax (bD.trans (ce.trans (dy.trans (dM.trans iz)))) n6]
   have q6:=cE (bm u 1) (bB (bB (bB (bB (bB acc2 [od,pM]) (bm y 1)) [rU]) (bm z 1)) [vX])
   refine iN L0 (hA u (by simp)) (hg.ext h27) (br h27 _ _ agz) (Q6.ext h27) (jn UB u (by simp)) hT Rk (by decide) (by decide) (by omega) ?_
   rintro w M8 p8 a8 c8 jv gS WI
   simp +contextual only [go_sem,ak,sevalprocAttr, -Int.reduceAdd, -Int.reduceSub, -Int.reduceMul,e0,e1]
   intro b8 sd fj
   refine cS L0 [Ob] hT WI rfl (by simp only [bI];omega) ?_
   rintro w M9 p9 a9 c9 lK mc hp9
   simp +contextual only [go_sem,ak,sevalprocAttr, -Int.reduceAdd, -Int.reduceSub, -Int.reduceMul,ip]
   exact fin (by simp only [dR,gO];rfl) hp9
  rw [if_neg k17] at hB
  by_cases k19:k=19
  ·subst k19
   rw [if_pos rfl] at hB
   subst hB
   simp +contextual only [go_sem,ak,sevalprocAttr, -Int.reduceAdd, -Int.reduceSub, -Int.reduceMul,e0,e1,n0]
   intro b5 jH eO
   refine cS L0 [pr,dp,gA,cd] hT gV rfl (by omega) ?_
   rintro w M3 p3 a3 c3 bD aZ eD
   simp +contextual only [go_sem,ak,sevalprocAttr, -Int.reduceAdd, -Int.reduceSub, -Int.reduceMul,ip]
   exact fin rfl eD
  rw [if_neg k19] at hB
  by_cases kf:k=18\/(20<=k/\k<=23)
  ·rw [if_pos kf] at hB
   subst hB
   simp only [bz,bI] at ft
   have hO:∀ y∈kids,wz y:=fun y hy=>jn UB y hy
   have h5:k=18\/k=20\/k=21\/k=22\/k=23:=by omega
   rcases h5 with rfl | rfl | rfl | rfl | rfl
   ·simp +contextual only [go_sem,ak,sevalprocAttr, -Int.reduceAdd, -Int.reduceSub, -Int.reduceMul,e0,e1,n0]
    intro g b5 jH eO
    have q1:=cE [Ah 18,dp] acc2
    simp only [bI] at q1
    refine lO cY (cS L0 [Ah 18,dp] hT gV rfl (by simp only [bI];omega) ?_)
    rintro w M3 p3 a3 c3 bD aZ eD
    have qy:=aX.trans bD
    simp +contextual only [go_sem,ak,sevalprocAttr, -Int.reduceAdd, -Int.reduceSub, -Int.reduceMul,e0,e1,ax bD n6]
    have q2:=cE (lF (kids.map bm)) (bB acc2 [Ah 18,dp])
    refine sU L0 hA hO (hg.ext qy) (aN qy (br qy) lD) hT eD (by omega) ?_
    rintro w M4 p4 a4 c4 ce bH ke
    simp +contextual only [go_sem,ak,sevalprocAttr, -Int.reduceAdd, -Int.reduceSub, -Int.reduceMul,e0,e1]
    intro b6 mB de
    refine cS L0 [cd] hT ke rfl (by simp only [bI];omega) ?_
    rintro w M5 p5 a5 c5 dy bE u4
    simp +contextual only [go_sem,ak,sevalprocAttr, -Int.reduceAdd, -Int.reduceSub, -Int.reduceMul,ip]
    exact fin (by simp only [dR,gO]) u4
   ·simp +contextual only [go_sem,ak,sevalprocAttr, -Int.reduceAdd, -Int.reduceSub, -Int.reduceMul,e0,e1,n0]
    intro g b5 jH eO
    have q1:=cE [Ah 20,dp] acc2
    simp only [bI] at q1
    refine lO cY (cS L0 [Ah 20,dp] hT gV rfl (by simp only [bI];omega) ?_)
    rintro w M3 p3 a3 c3 bD aZ eD
    have qy:=aX.trans bD
    simp +contextual only [go_sem,ak,sevalprocAttr, -Int.reduceAdd, -Int.reduceSub, -Int.reduceMul,e0,e1,ax bD n6]
    have q2:=cE (lF (kids.map bm)) (bB acc2 [Ah 20,dp])
    refine sU L0 hA hO (hg.ext qy) (aN qy (br qy) lD) hT eD (by omega) ?_
    rintro w M4 p4 a4 c4 ce bH ke
    simp +contextual only [go_sem,ak,sevalprocAttr, -Int.reduceAdd, -Int.reduceSub, -Int.reduceMul,e0,e1]
    intro b6 mB de
    refine cS L0 [cd] hT ke rfl (by simp only [bI];omega) ?_
    rintro w M5 p5 a5 c5 dy bE u4
    simp +contextual only [go_sem,ak,sevalprocAttr, -Int.reduceAdd, -Int.reduceSub, -Int.reduceMul,ip]
    exact fin (by simp only [dR,gO]) u4
   ·simp +contextual only [go_sem,ak,sevalprocAttr, -Int.reduceAdd, -Int.reduceSub, -Int.reduceMul,e0,e1,n0]
    intro g b5 jH eO
    have q1:=cE [Ah 21,dp] acc2
    simp only [bI] at q1
    refine lO cY (cS L0 [Ah 21,dp] hT gV rfl (by simp only [bI];omega) ?_)
    rintro w M3 p3 a3 c3 bD aZ eD
    have qy:=aX.trans bD
    simp +contextual only [go_sem,ak,sevalprocAttr, -Int.reduceAdd, -Int.reduceSub, -Int.reduceMul,e0,e1,ax bD n6]
    have q2:=cE (lF (kids.map bm)) (bB acc2 [Ah 21,dp])
    refine sU L0 hA hO (hg.ext qy) (aN qy (br qy) lD) hT eD (by omega) ?_
    rintro w M4 p4 a4 c4 ce bH ke
    simp +contextual only [go_sem,ak,sevalprocAttr, -Int.reduceAdd, -Int.reduceSub, -Int.reduceMul,e0,e1]
    intro b6 mB de
    refine cS L0 [cd] hT ke rfl (by simp only [bI];omega) ?_
    rintro w M5 p5 a5 c5 dy bE u4
    simp +contextual only [go_sem,ak,sevalprocAttr, -Int.reduceAdd, -Int.reduceSub, -Int.reduceMul,ip]
    exact fin (by simp only [dR,gO]) u4
   ·simp +contextual only [go_sem,ak,sevalprocAttr, -Int.reduceAdd, -Int.reduceSub, -Int.reduceMul,e0,e1,n0]
    intro g b5 jH eO
    have q1:=cE [Ah 22,dp] acc2
    simp only [bI] at q1
    refine lO cY (cS L0 [Ah 22,dp] hT gV rfl (by simp only [bI];omega) ?_)
    rintro w M3 p3 a3 c3 bD aZ eD
    have qy:=aX.trans bD
    simp +contextual only [go_sem,ak,sevalprocAttr, -Int.reduceAdd, -Int.reduceSub, -Int.reduceMul,e0,e1,ax bD n6]
    have q2:=cE (lF (kids.map bm)) (bB acc2 [Ah 22,dp])
    refine sU L0 hA hO (hg.ext qy) (aN qy (br qy) lD) hT eD (by omega) ?_
    rintro w M4 p4 a4 c4 ce bH ke
    simp +contextual only [go_sem,ak,sevalprocAttr, -Int.reduceAdd, -Int.reduceSub, -Int.reduceMul,e0,e1]
    intro b6 mB de
    refine cS L0 [cd] hT ke rfl (by simp only [bI];omega) ?_
    rintro w M5 p5 a5 c5 dy bE u4
    simp +contextual only [go_sem,ak,sevalprocAttr, -Int.reduceAdd, -Int.reduceSub, -Int.reduceMul,ip]
    exact fin (by simp only [dR,gO]) u4
   ·simp +contextual only [go_sem,ak,sevalprocAttr, -Int.reduceAdd, -Int.reduceSub, -Int.reduceMul,e0,e1,n0]
    intro g b5 jH eO
    have q1:=cE [Ah 23,dp] acc2
    simp only [bI] at q1
    refine lO cY (cS L0 [Ah 23,dp] hT gV rfl (by simp only [bI];omega) ?_)
    rintro w M3 p3 a3 c3 bD aZ eD
    have qy:=aX.trans bD
    simp +contextual only [go_sem,ak,sevalprocAttr, -Int.reduceAdd, -Int.reduceSub, -Int.reduceMul,e0,e1,ax bD n6]
    have q2:=cE (lF (kids.map bm)) (bB acc2 [Ah 23,dp])
    refine sU L0 hA hO (hg.ext qy) (aN qy (br qy) lD) hT eD (by omega) ?_
    rintro w M4 p4 a4 c4 ce bH ke
    simp +contextual only [go_sem,ak,sevalprocAttr, -Int.reduceAdd, -Int.reduceSub, -Int.reduceMul,e0,e1]
    intro b6 mB de
    refine cS L0 [cd] hT ke rfl (by simp only [bI];omega) ?_
    rintro w M5 p5 a5 c5 dy bE u4
    simp +contextual only [go_sem,ak,sevalprocAttr, -Int.reduceAdd, -Int.reduceSub, -Int.reduceMul,ip]
    exact fin (by simp only [dR,gO]) u4
  rw [if_neg kf] at hB
  have bQ:kids.length=2:=by
   have:dE k=2:=by
    unfold dE
    rw [if_neg (by omega),if_neg (by omega),if_pos (by omega)]
   omega
  obtain ⟨y,z,rfl⟩:∃ y z,kids=[y,z]:=by
   match kids,bQ with
   | [y,z],_=>exact ⟨y,z,rfl⟩
  obtain ⟨bk,ok,ck,rfl,cC,UG⟩:=eE 0 y rfl
  obtain ⟨bk',ok',ck',oD,fA,Wn⟩:=eE 1 z rfl
  injection oD with oD;injection oD with gH mU _;subst gH mU
  have cC:At M bk ok ck:=by simpa using cC
  have fA:At M bk (ok+7) ck':=by simpa using fA
  simp only [List.map_cons,List.map_nil,List.getD_cons_zero,List.getD_cons_succ] at hB
  generalize (dm k).1=pJ at Fg e6 hB
  generalize (dm k).2=sg at e7 hB
  have xb:IntKind.i64.wrap (pJ+1)=pJ+1:=eZ (by omega) (by omega)
  have f18:¬ k=18:=by omega
  have f20:¬ k=20:=by omega
  have f21:¬ k=21:=by omega
  have f22:¬ k=22:=by omega
  have f23:¬ k=23:=by omega
  by_cases o4:pJ=4
  ·subst o4
   rw [if_pos rfl] at hB
   have wB:(4:Int)+1=5:=rfl
   have hw4:IntKind.i64.wrap (4+1)=5:=by decide
   rw [wB] at hB
   subst hB
   simp only [bz,bI] at ft
   simp +contextual only [go_sem,ak,sevalprocAttr, -Int.reduceAdd, -Int.reduceSub, -Int.reduceMul,e0,e1,e6,e7,n0,n6,k1,k2,k3,k16,k17,k19,f18,f20,f21,f22,f23,hw4]
   have q1:=cE (bm y 5) acc2
   refine iN L0 (hA y (by simp)) BB (br aX _ _ UG) (cC.ext aX) (jn UB y (by simp)) hT gV (by omega) (by omega) (by omega) ?_
   rintro w M3 p3 a3 c3 bD aZ eD
   simp +contextual only [go_sem,ak,sevalprocAttr, -Int.reduceAdd, -Int.reduceSub, -Int.reduceMul,e0,e1,e6,e7]
   intro b5 jH eO
   have q2:=cE [sg] (bB acc2 (bm y 5))
   simp only [bI] at q2
   refine cS L0 [sg] hT eD rfl (by simp only [bI];omega) ?_
   rintro w M4 p4 a4 c4 ce bH ke
   have h24:=aX.trans (bD.trans ce)
   simp +contextual only [go_sem,ak,sevalprocAttr, -Int.reduceAdd, -Int.reduceSub, -Int.reduceMul,e0,e1,e6,e7,ax (bD.trans ce) n6,hw4]
   refine iN L0 (hA z (by simp)) (hg.ext h24) (br h24 _ _ Wn) (fA.ext h24) (jn UB z (by simp)) hT ke (by omega) (by omega) (by omega) ?_
   rintro w M5 p5 a5 c5 dy bE u4
   simp +contextual only [go_sem,ak,sevalprocAttr, -Int.reduceAdd, -Int.reduceSub, -Int.reduceMul,ip]
   exact fin (by simp only [dR,gO];rfl) u4
  ·rw [if_neg o4] at hB
   subst hB
   simp only [bz,bI] at ft
   simp +contextual only [go_sem,ak,sevalprocAttr, -Int.reduceAdd, -Int.reduceSub, -Int.reduceMul,e0,e1,e6,e7,n0,n6,k1,k2,k3,k16,k17,k19,f18,f20,f21,f22,f23,o4,xb]
   have q1:=cE (bm y pJ) acc2
   refine iN L0 (hA y (by simp)) BB (br aX _ _ UG) (cC.ext aX) (jn UB y (by simp)) hT gV (by omega) (by omega) (by omega) ?_
   rintro w M3 p3 a3 c3 bD aZ eD
   simp +contextual only [go_sem,ak,sevalprocAttr, -Int.reduceAdd, -Int.reduceSub, -Int.reduceMul,e0,e1,e6,e7]
   intro b5 jH eO
   have q2:=cE [sg] (bB acc2 (bm y pJ))
   simp only [bI] at q2
   refine cS L0 [sg] hT eD rfl (by simp only [bI];omega) ?_
   rintro w M4 p4 a4 c4 ce bH ke
   have h24:=aX.trans (bD.trans ce)
   simp +contextual only [go_sem,ak,sevalprocAttr, -Int.reduceAdd, -Int.reduceSub, -Int.reduceMul,e0,e1,e6,e7,ax (bD.trans ce) n6,xb]
   refine iN L0 (hA z (by simp)) (hg.ext h24) (br h24 _ _ Wn) (fA.ext h24) (jn UB z (by simp)) hT ke (by omega) (by omega) (by omega) ?_
   rintro w M5 p5 a5 c5 dy bE u4
   simp +contextual only [go_sem,ak,sevalprocAttr, -Int.reduceAdd, -Int.reduceSub, -Int.reduceMul,ip]
   exact fin (by simp only [dR,gO];rfl) u4
theorem VD (x:X):ExW x:=QA _ x (Nat.le_refl _)
def tM (a:Bs):List Bs:=if a=[] then [] else [xt,a]
def Cl (i:It):List Bs:=bm i.x 1++tM i.as
def gt:Bool ->List It ->List Bs
 | _,[]=>[]
 | first,i::l=>(if first=true then [] else [ct])++(Cl i++gt false l)
def iS (k:Int):List Bs:=if k=1 then [qI] else if k=2 then [hF] else if k=3 then [Cp,hF] else if k=4 then [Bg,hF] else [B2,hF]
def NY (first:Bool)(s:So):List Bs:=iS s.k++([s.name]++(tM s.as++(if first=true then [] else [NV]++bm s.on 1)))
def iG:Bool ->List So ->List Bs
 | _,[]=>[]
 | first,s::l=>NY first s++iG false l
def fR (f:Bool)(w:Bs)(x:X):List Bs:=if f=true then [w]++bm x 1 else []
def lg (l:List X):List Bs:=if l=[] then [] else [mR,Uo]++lF (l.map bm)
def pP (s:Se):List Bs:=[uY]++((if s.distinct=true then [dg] else [])++((if s.star=true then [gA] else [])++((if s.star=true then [] else gt true s.items)++(iG true s.src++(fR s.hasW fx s.wh++(lg s.group++fR s.hasH iY s.hv))))))
def ym (s:Se):Prop:=(s.star=false ->∀ i∈s.items,wz i.x)/\(∀ f∈s.src,1<=f.k/\f.k<=5)/\(∀ f∈s.src.tail,wz f.on)/\(s.hasW=true ->wz s.wh)/\(∀ x∈s.group,wz x)/\(s.hasH=true ->wz s.hv)
def xn (T:Tm)(M:aV)(b:Nat)(A:Bs)(h:Sh):Prop:=∃ M' p a c,pK b p/\bG M M'/\M' b=none/\h=⟨T,M',[(b,[p,.slice a A.length c])],[(.slice a A.length c,5,1,Lib.byteCells A)]⟩
def Ef (T:Tm)(M:aV)(b:Nat)(v:Value)(A:Bs)(e:dN)(ds:List Deferred)(h:Sh):Prop:=ds=[]/\e 0=.pointer (some ⟨b,0,none⟩)/\e 1=v/\xn T M b A h
def mt (W A:Bs)(r:List Bs):Prop:=W=bB A r/\A.length+bI r<=1000000000
theorem mt.step {W A:Bs}{u r:List Bs}(h:mt W A (u++r)):A.length+bI u<=1000000000/\mt W (bB A u) r:=by
 obtain ⟨h1,h2⟩:=h
 rw [bz] at h2
 have:=cE u A
 exact ⟨by omega,by rw [h1,dR],by omega⟩
theorem xn.put {T:Tm}{M:aV}{b:Nat}{A:Bs}{M':aV}{p:Value}{a:Option Addr}{c:Nat}(hp:pK b p)(he:bG M M')(hn:aB M' ([]++[(b,[p,.slice a A.length c])])):xn T M b A ⟨T,M',[]++[(b,[p,.slice a A.length c])],[(.slice a A.length c,5,1,Lib.byteCells A)]⟩:=
 ⟨M',p,a,c,hp,he,hn.1,rfl⟩
theorem ph {F:Fi}{s:List Vc.Item}{e:dN}{ds:List Deferred}{dd:Option Nat}{N:Tm}{M:aV}{b:Nat}{a:Option Addr}{c:Nat}{p:Value}{aO:Bs}{ws:List Bs}{wv:Value}(L1:LL)(hw:RS M pD 1 ws wv)(hN:N b=some 138)(hp:pK b p)(hl:aO.length+bI ws<=1000000000)
 (k:∀ u M' p' a' c',bG M M' ->aB M' (L1++[(b,[p',.slice a' (bB aO ws).length c'])]) ->pK b p' ->cB Tryz.prog F s (cV e dd u) ds ⟨N,M',L1++[(b,[p',.slice a' (bB aO ws).length c'])],[(.slice a' (bB aO ws).length c',5,1,Lib.byteCells (bB aO ws))]⟩ ⟨⟩):
 dT Tryz.prog F 88 [.pointer (some ⟨b,0,none⟩),wv] dd s e ds ⟨N,M,L1++[(b,[p,.slice a aO.length c])],[(.slice a aO.length c,5,1,Lib.byteCells aO)]⟩ ⟨⟩:=by
 have h:=cM (P:=Tryz.prog) (F:=F) (s:=s) (e:=e) (ds:=ds) (dd:=dd) (N:=N) L1 (ng b p a aO.length c) [] [] (oe a aO.length c aO) [] (Ek hN hp hw hl)
  (fun u M' L' R' lC _ _ iQ hq=>by
   obtain ⟨p',a',c',vr,rfl,rfl⟩:=hq
   rw [List.append_nil] at iQ ⊢
   exact k u M' p' a' c' lC iQ vr)
  (fun _ _ _ _ _ _ _ _ h=>h.elim)
 rw [List.append_nil] at h
 exact h
theorem GX {l:List It}{i:Nat}(h:i<l.length)(f:Bool):gt f (l.drop i)=(if f=true then [] else [ct])++(Cl l[i]++gt false (l.drop (i+1))):=by
 rw [List.drop_eq_getElem_cons h,gt]
theorem Ik {l:List So}{i:Nat}(h:i<l.length)(f:Bool):iG f (l.drop i)=NY f l[i]++iG false (l.drop (i+1)):=by
 rw [List.drop_eq_getElem_cons h,iG]
theorem mt.nil {W A:Bs}{r:List Bs}(h:mt W A ([]++r)):mt W A r:=h
theorem Sj {s:Se}{M:aV}{T:Tm}{b bx ox:Nat}{cs:List Value}{a:Option Addr}{c:Nat}{p:Value}{aO:Bs}(hg:jB M)(hs:CX M s cs)(ha:At M bx ox cs)(ho:ym s)(hT:T b=some 138)(hp:pK b p)(hl:aO.length+bI (pP s)<=1000000000):
 ep Tryz.prog 131 [.pointer (some ⟨b,0,none⟩),.pointer (some ⟨bx,ox,none⟩)] T M (ng b p a aO.length c) (oe a aO.length c aO) (lY b (bB aO (pP s))) bj:=by
 obtain ⟨ai,aj,af,ag,aw,ah,ap,aq,rfl,xi,xf,xw,xh,xg,kw,kh⟩:=E4 hs
 obtain ⟨y0,y1,y2,y3,y4,y5,y6,y7,y8,y9,y10,y11,y12,y13,y14,y15,y16,y17,y18,y19,y20⟩:=GB ha
 obtain ⟨ho1,WU,ho3,Ug,P6,ho6⟩:=ho
 obtain ⟨W,hW⟩:∃ W,W=bB aO (pP s):=⟨_,rfl⟩
 have hR:mt W aO (pP s):=⟨hW,hl⟩
 rw [<- hW]
 clear hW hl
 unfold pP at hR
 obtain ⟨hl,hR⟩:=hR.step
 unfold ng oe
 refine aT mx aaG Tryz.func131 rfl (by rw [amX];exact Nat.le_of_ble_eq_true rfl) (dr:=Yz) (by kernel_rfl) ajE ?_
 intro bN _
 simp only [aB,and_true] at bN
 simp +contextual only [go_sem,sevalprocAttr, -Int.reduceAdd, -Int.reduceSub, -Int.reduceMul]
 intro b3 fh bT
 refine cS [] [uY] hT hp rfl hl ?_
 rintro w M1 p1 a1 c1 aP bL iT
 generalize bB aO [uY]=A1 at hR bL ⊢
 simp only [List.nil_append,aB,and_true] at bL ⊢
 simp +contextual only [go_sem,sevalprocAttr, -Int.reduceAdd, -Int.reduceSub, -Int.reduceMul,ax aP y0]
 -- distinct
 obtain ⟨hl,hR⟩:=hR.step
 refine dI (Ef T M b (.pointer (some ⟨bx,ox,none⟩)) (bB A1 (if s.distinct=true then [dg] else []))) (fun S' dW=> ?_) ?_
 ·by_cases hd:s.distinct=true
  ·rw [if_pos hd] at hl dW
   rw [bV,if_pos hd]
   simp +contextual only [go_sem,sevalprocAttr, -Int.reduceAdd, -Int.reduceSub, -Int.reduceMul]
   intro b4 iR cN
   refine cS [] [dg] hT iT rfl hl ?_
   rintro w M2 p2 a2 c2 aX aQ gV
   simp +contextual only [go_sem,sevalprocAttr, -Int.reduceAdd, -Int.reduceSub, -Int.reduceMul]
   refine dW _ _ _ ⟨rfl,?_,?_,xn.put gV (aP.trans aX) aQ⟩
   ·simp only [go_sem,ak,sevalprocAttr, -Int.reduceAdd, -Int.reduceSub, -Int.reduceMul]
   ·simp only [go_sem,ak,sevalprocAttr, -Int.reduceAdd, -Int.reduceSub, -Int.reduceMul]
  ·rw [if_neg hd] at dW
   rw [bV,if_neg hd]
   simp +contextual only [go_sem,sevalprocAttr, -Int.reduceAdd, -Int.reduceSub, -Int.reduceMul]
   refine dW _ _ _ ⟨rfl,?_,?_,M1,p1,a1,c1,iT,aP,bL,rfl⟩
   ·simp only [go_sem,ak,sevalprocAttr, -Int.reduceAdd, -Int.reduceSub, -Int.reduceMul]
   ·simp only [go_sem,ak,sevalprocAttr, -Int.reduceAdd, -Int.reduceSub, -Int.reduceMul]
 rintro e ds h ⟨rfl,e0,e1,M2,p2,a2,c2,gV,aX,aQ,rfl⟩
 generalize bB A1 (if s.distinct=true then [dg] else [])=A2 at hR ⊢
 simp +contextual only [go_sem,sevalprocAttr, -Int.reduceAdd, -Int.reduceSub, -Int.reduceMul,e0,e1,ax aX y1]
 obtain ⟨hl,hR⟩:=hR.step
 refine dI (Ef T M b (.pointer (some ⟨bx,ox,none⟩)) (bB A2 (if s.star=true then [gA] else []))) (fun S' dW=> ?_) ?_
 ·by_cases hd:s.star=true
  ·rw [if_pos hd] at hl dW
   rw [bV,if_pos hd]
   simp +contextual only [go_sem,sevalprocAttr, -Int.reduceAdd, -Int.reduceSub, -Int.reduceMul,e0,e1]
   intro b4 iR cN
   refine cS [] [gA] hT gV rfl hl ?_
   rintro w M3 p3 a3 c3 bD aZ eD
   simp +contextual only [go_sem,sevalprocAttr, -Int.reduceAdd, -Int.reduceSub, -Int.reduceMul]
   refine dW _ _ _ ⟨rfl,?_,?_,xn.put eD (aX.trans bD) aZ⟩
   ·simp only [e0,go_sem,ak,sevalprocAttr, -Int.reduceAdd, -Int.reduceSub, -Int.reduceMul]
   ·simp only [e1,go_sem,ak,sevalprocAttr, -Int.reduceAdd, -Int.reduceSub, -Int.reduceMul]
  ·rw [if_neg hd] at dW
   rw [bV,if_neg hd]
   simp +contextual only [go_sem,sevalprocAttr, -Int.reduceAdd, -Int.reduceSub, -Int.reduceMul]
   refine dW _ _ _ ⟨rfl,?_,?_,M2,p2,a2,c2,gV,aX,aQ,rfl⟩
   ·simp only [e0,go_sem,ak,sevalprocAttr, -Int.reduceAdd, -Int.reduceSub, -Int.reduceMul]
   ·simp only [e1,go_sem,ak,sevalprocAttr, -Int.reduceAdd, -Int.reduceSub, -Int.reduceMul]
 generalize bB A2 (if s.star=true then [gA] else [])=A3 at hR ⊢
 clear e0 e1 aX aQ gV aP bL iT
 clear M2 p2 a2 c2 e
 rintro e ds h ⟨rfl,e0,e1,M2,p2,a2,c2,gV,aX,aQ,rfl⟩
 simp +contextual only [go_sem,sevalprocAttr, -Int.reduceAdd, -Int.reduceSub, -Int.reduceMul,e0,e1,ax aX y2]
 obtain ⟨hl,hR⟩:=hR.step
 have hli:=Aa xi
 refine gE (Ef T M b (.pointer (some ⟨bx,ox,none⟩)) (bB A3 (if s.star=true then [] else gt true s.items))) (fun S' dW=> ?_) ?_
 ·obtain ⟨U,hU⟩:∃ U,U=bB A3 (if s.star=true then [] else gt true s.items):=⟨_,rfl⟩
  rw [<- hU] at dW
  simp +contextual only [go_sem,ak,sevalprocAttr, -Int.reduceAdd, -Int.reduceSub, -Int.reduceMul,e0,e1]
  refine bh s.items.length 29 [(0,.pointer (some ⟨b,0,none⟩)),(1,(.pointer (some ⟨bx,ox,none⟩))),(28,.int .i64 (s.items.length:Int))] (fun i e h=>∃ A',xn T M b A' h/\(s.star=true ->A'=A3)/\(s.star=false ->mt U A' (gt (decide (i=0)) (s.items.drop i)))) 0 (by omega) (by simp only [aG,e0,e1,go_sem,ak,sevalprocAttr, -Int.reduceAdd, -Int.reduceSub, -Int.reduceMul]) (by simp only [go_sem,ak,sevalprocAttr, -Int.reduceAdd, -Int.reduceSub, -Int.reduceMul]) ⟨A3,⟨M2,p2,a2,c2,gV,aX,aQ,rfl⟩,fun _=>rfl,fun h=>⟨by rw [hU,if_neg (by rw [h];exact Bool.false_ne_true)];rfl,by rw [if_neg (by rw [h];exact Bool.false_ne_true)] at hl;exact hl⟩⟩ ?_
  clear e0 e1 aX aQ gV
  clear M2 p2 a2 c2 e
  rintro i e h hi aD ht ⟨A4,⟨M3,p3,a3,c3,eD,bD,aZ,rfl⟩,ZG,HB⟩
  simp only [aG] at aD
  have z1:=ax bD y1
  have z2:=ax bD y2
  by_cases aF:i<s.items.length
  ·cases fG:s.star with
   | true=>
    rw [fG] at z1
    have hA4:=ZG fG
    subst hA4
    simp +contextual only [go_sem,ak,sevalprocAttr, -Int.reduceAdd, -Int.reduceSub, -Int.reduceMul,aD,ht,aF,z1]
    refine dW _ _ _ ⟨rfl,?_,?_,M3,p3,a3,c3,eD,bD,aZ,?_⟩
    ·simp only [aD,go_sem,ak,sevalprocAttr, -Int.reduceAdd, -Int.reduceSub, -Int.reduceMul]
    ·simp only [aD,go_sem,ak,sevalprocAttr, -Int.reduceAdd, -Int.reduceSub, -Int.reduceMul]
    ·rw [hU,if_pos fG];rfl
   | false=>
    rw [fG] at z1
    have hr:=HB fG
    rw [GX aF] at hr
    obtain ⟨bi,oi,ci,rfl,cC,G3⟩:=tK (by decide) (fun _ _=>j8) xi (List.getElem?_eq_getElem aF)
    have hOx:=ho1 fG s.items[i] (List.getElem_mem aF)
    obtain ⟨wi,rfl,wX,_⟩:=mO G3
    have aeE:At M bi (oi+i*8) [.int .i64 s.items[i].x.k,.int .i64 s.items[i].x.v.k,.int .i64 s.items[i].x.v.n,st s.items[i].x.v.t,st s.items[i].x.tab,st s.items[i].x.name,wi]:=(eJ (l':=[st s.items[i].as])).1 cC |>.1
    obtain ⟨_,_,_,_,_,_,_,was⟩:=At8 cC
    generalize s.items[i]=it at hr hOx wX aeE was
    by_cases mm:i=0
    ·have h0:¬ (0:Int)<((i:Nat):Int):=by omega
     rw [if_pos (by simpa using mm)] at hr
     obtain ⟨gj,hr⟩:=hr.nil.step
     simp +contextual only [go_sem,ak,sevalprocAttr, -Int.reduceAdd, -Int.reduceSub, -Int.reduceMul,aD,ht,aF,z1,z2,h0]
     have gq:A4.length+bI (bm it.x 1++tM it.as)<=1000000000:=gj
     have Aj:mt U (bB A4 (bm it.x 1++tM it.as)) (gt false (s.items.drop (i+1))):=hr
     rw [bz] at gq
     rw [dR] at Aj
     have hq:=cE (bm it.x 1) A4
     refine iN [] (VD it.x) (hg.ext bD) (br bD _ _ wX) (aeE.ext bD) hOx hT eD (by decide) (by decide) (by omega) ?_
     rintro w M6 p6 a6 c6 dM bP DE
     generalize bB A4 (bm it.x 1)=A6 at Aj hq bP ⊢
     simp only [List.nil_append,aB,and_true] at bP ⊢
     by_cases r7:it.as=[]
     ·simp +contextual only [go_sem,ak,sevalprocAttr, -Int.reduceAdd, -Int.reduceSub, -Int.reduceMul,aD,ht,aF,ax dM z2,ax (bD.trans dM) was,r7]
      refine bW aF ?_ ?_ ⟨A6,⟨M6,p6,a6,c6,DE,(bD.trans dM),bP,rfl⟩,⟨(fun h=>by cases h),(fun _=> ?_)⟩⟩
      ·simp only [aG,aD,go_sem,ak,sevalprocAttr, -Int.reduceAdd, -Int.reduceSub, -Int.reduceMul]
      ·simp only [ht,go_sem,ak,sevalprocAttr, -Int.reduceAdd, -Int.reduceSub, -Int.reduceMul,aC i (by omega)]
      ·rw [tM,if_pos r7] at Aj;simpa [yO] using Aj
     ·simp +contextual only [go_sem,ak,sevalprocAttr, -Int.reduceAdd, -Int.reduceSub, -Int.reduceMul,aD,ht,aF,ax dM z2,ax (bD.trans dM) was,r7]
      intro b7 km dj
      rw [tM,if_neg r7] at Aj
      refine cS [] [xt,it.as] hT DE rfl (by rw [tM,if_neg r7] at gq;omega) ?_
      rintro w M7 p7 a7 c7 iz fN Rk
      simp only [List.nil_append,aB,and_true] at fN ⊢
      simp +contextual only [go_sem,ak,sevalprocAttr, -Int.reduceAdd, -Int.reduceSub, -Int.reduceMul,aD,ht,aF]
      refine bW aF ?_ ?_ ⟨_,⟨M7,p7,a7,c7,Rk,(bD.trans dM).trans iz,fN,rfl⟩,⟨(fun h=>by cases h),(fun _=> ?_)⟩⟩
      ·simp only [aG,aD,go_sem,ak,sevalprocAttr, -Int.reduceAdd, -Int.reduceSub, -Int.reduceMul]
      ·simp only [ht,go_sem,ak,sevalprocAttr, -Int.reduceAdd, -Int.reduceSub, -Int.reduceMul,aC i (by omega)]
      ·simpa using Aj
    ·have h0:(0:Int)<((i:Nat):Int):=by omega
     rw [if_neg (by simpa using mm)] at hr
     obtain ⟨jJ,hr⟩:=hr.step
     obtain ⟨gj,hr⟩:=hr.step
     simp +contextual only [go_sem,ak,sevalprocAttr, -Int.reduceAdd, -Int.reduceSub, -Int.reduceMul,aD,ht,aF,z1,z2,h0]
     intro b5 jH eO
     refine cS [] [ct] hT eD rfl jJ ?_
     rintro w M4 p4 a4 c4 ce bH ke
     generalize bB A4 [ct]=A5 at hr gj bH ⊢
     simp only [List.nil_append,aB,and_true] at bH ⊢
     simp +contextual only [go_sem,ak,sevalprocAttr, -Int.reduceAdd, -Int.reduceSub, -Int.reduceMul,aD,ht,aF,ax ce z2]
     have gq:A5.length+bI (bm it.x 1++tM it.as)<=1000000000:=gj
     have Aj:mt U (bB A5 (bm it.x 1++tM it.as)) (gt false (s.items.drop (i+1))):=hr
     rw [bz] at gq
     rw [dR] at Aj
     have hq:=cE (bm it.x 1) A5
     refine iN [] (VD it.x) (hg.ext (bD.trans ce)) (br (bD.trans ce) _ _ wX) (aeE.ext (bD.trans ce)) hOx hT ke (by decide) (by decide) (by omega) ?_
     rintro w M6 p6 a6 c6 dM bP DE
     generalize bB A5 (bm it.x 1)=A6 at Aj hq bP ⊢
     simp only [List.nil_append,aB,and_true] at bP ⊢
     by_cases r7:it.as=[]
     ·simp +contextual only [go_sem,ak,sevalprocAttr, -Int.reduceAdd, -Int.reduceSub, -Int.reduceMul,aD,ht,aF,ax (ce.trans dM) z2,ax (bD.trans (ce.trans dM)) was,r7]
      refine bW aF ?_ ?_ ⟨A6,⟨M6,p6,a6,c6,DE,(bD.trans (ce.trans dM)),bP,rfl⟩,⟨(fun h=>by cases h),(fun _=> ?_)⟩⟩
      ·simp only [aG,aD,go_sem,ak,sevalprocAttr, -Int.reduceAdd, -Int.reduceSub, -Int.reduceMul]
      ·simp only [ht,go_sem,ak,sevalprocAttr, -Int.reduceAdd, -Int.reduceSub, -Int.reduceMul,aC i (by omega)]
      ·rw [tM,if_pos r7] at Aj;simpa [yO] using Aj
     ·simp +contextual only [go_sem,ak,sevalprocAttr, -Int.reduceAdd, -Int.reduceSub, -Int.reduceMul,aD,ht,aF,ax (ce.trans dM) z2,ax (bD.trans (ce.trans dM)) was,r7]
      intro b7 km dj
      rw [tM,if_neg r7] at Aj
      refine cS [] [xt,it.as] hT DE rfl (by rw [tM,if_neg r7] at gq;omega) ?_
      rintro w M7 p7 a7 c7 iz fN Rk
      simp only [List.nil_append,aB,and_true] at fN ⊢
      simp +contextual only [go_sem,ak,sevalprocAttr, -Int.reduceAdd, -Int.reduceSub, -Int.reduceMul,aD,ht,aF]
      refine bW aF ?_ ?_ ⟨_,⟨M7,p7,a7,c7,Rk,(bD.trans (ce.trans dM)).trans iz,fN,rfl⟩,⟨(fun h=>by cases h),(fun _=> ?_)⟩⟩
      ·simp only [aG,aD,go_sem,ak,sevalprocAttr, -Int.reduceAdd, -Int.reduceSub, -Int.reduceMul]
      ·simp only [ht,go_sem,ak,sevalprocAttr, -Int.reduceAdd, -Int.reduceSub, -Int.reduceMul,aC i (by omega)]
      ·simpa using Aj
  ·have:i=s.items.length:=by omega
   subst this
   simp +contextual only [go_sem,ak,sevalprocAttr, -Int.reduceAdd, -Int.reduceSub, -Int.reduceMul,aD,ht,aF]
   refine dW _ _ _ ⟨rfl,?_,?_,M3,p3,a3,c3,eD,bD,aZ,?_⟩
   ·simp only [aD,go_sem,ak,sevalprocAttr, -Int.reduceAdd, -Int.reduceSub, -Int.reduceMul]
   ·simp only [aD,go_sem,ak,sevalprocAttr, -Int.reduceAdd, -Int.reduceSub, -Int.reduceMul]
   ·have hAU:U=A4:=by
     cases fG:s.star with
     | true=>rw [ZG fG,hU,if_pos fG];rfl
     | false=>
      have:=(HB fG).1
      rw [List.drop_length] at this
      exact this
    rw [hAU]
 generalize bB A3 (if s.star=true then [] else gt true s.items)=A4 at hR ⊢
 clear e0 e1 aX aQ gV
 clear M2 p2 a2 c2 e
 rintro e ds h ⟨rfl,e0,e1,M2,p2,a2,c2,gV,aX,aQ,rfl⟩
 simp +contextual only [go_sem,sevalprocAttr, -Int.reduceAdd, -Int.reduceSub, -Int.reduceMul,e0,e1,ax aX y3]
 obtain ⟨hl,hR⟩:=hR.step
 have hlf:=Aa xf
 refine gE (Ef T M b (.pointer (some ⟨bx,ox,none⟩)) (bB A4 (iG true s.src))) (fun S' dW=> ?_) ?_
 ·have mT:mt (bB A4 (iG true s.src)) A4 (iG true s.src):=⟨rfl,hl⟩
  generalize bB A4 (iG true s.src)=U at dW mT
  simp +contextual only [go_sem,ak,sevalprocAttr, -Int.reduceAdd, -Int.reduceSub, -Int.reduceMul,e0,e1]
  refine bh s.src.length 76 [(0,.pointer (some ⟨b,0,none⟩)),(1,(.pointer (some ⟨bx,ox,none⟩))),(75,.int .i64 (s.src.length:Int))] (fun i e h=>∃ A',xn T M b A' h/\mt U A' (iG (decide (i=0)) (s.src.drop i))) 0 (by omega) (by simp only [aG,e0,e1,go_sem,ak,sevalprocAttr, -Int.reduceAdd, -Int.reduceSub, -Int.reduceMul]) (by simp only [go_sem,ak,sevalprocAttr, -Int.reduceAdd, -Int.reduceSub, -Int.reduceMul]) ⟨A4,⟨M2,p2,a2,c2,gV,aX,aQ,rfl⟩,mT⟩ ?_
  clear e0 e1 aX aQ gV mT
  clear M2 p2 a2 c2 e
  rintro i e h hi aD ht ⟨A5,⟨M3,p3,a3,c3,eD,bD,aZ,rfl⟩,hr⟩
  simp only [aG] at aD
  have z3:=ax bD y3
  by_cases aF:i<s.src.length
  ·rw [Ik aF] at hr
   obtain ⟨bi,oi,ci,rfl,cC,G3⟩:=tK (by decide) (fun _ _=>mY) xf (List.getElem?_eq_getElem aF)
   obtain ⟨wi,rfl,wX,_⟩:=Cx G3
   obtain ⟨w0,w1,w2,w3,w4,w5,w6,w7,w8,w9⟩:=acS (cC.ext bD)
   have hk:=WU s.src[i] (List.getElem_mem aF)
   have El:i≠0 ->wz s.src[i].on:=fun h=>ho3 _ (by
    rw [List.mem_iff_getElem]
    refine ⟨i - 1,by simp;omega,?_⟩
    simp only [List.getElem_tail]
    congr 1;omega)
   obtain ⟨u0,u1,u2,_⟩:=acS cC
   have ab7:At M bi (oi+i*10+3) [.int .i64 s.src[i].on.k,.int .i64 s.src[i].on.v.k,.int .i64 s.src[i].on.v.n,st s.src[i].on.v.t,st s.src[i].on.tab,st s.src[i].on.name,wi]:=cC.2.2.2
   simp +contextual only [go_sem,sevalprocAttr, -Int.reduceAdd, -Int.reduceSub, -Int.reduceMul,aD,ht,aF,z3]
   rw [bV,if_pos rfl]
   simp +contextual only [go_sem,sevalprocAttr, -Int.reduceAdd, -Int.reduceSub, -Int.reduceMul,aD,ht,aF,z3]
   generalize s.src[i]=sr at hr wX ab7 u0 u1 u2 w0 w1 w2 w3 w4 w5 w6 w7 w8 w9 hk El
   rw [ri,un]
   refine gE (fun e ds h=>ds=[]/\e 0=.pointer (some ⟨b,0,none⟩)/\e 1=(.pointer (some ⟨bx,ox,none⟩))/\e 75=.int .i64 (s.src.length:Int)/\e 76=.int .i64 (i:Nat)/\e 5=.int .i64 (i:Nat)/\xn T M b A5 h) (fun S2 lX=> ?_) ?_
   ·simp +contextual only [go_sem,ak,sevalprocAttr, -Int.reduceAdd, -Int.reduceSub, -Int.reduceMul,aD,ht]
    refine lX _ _ _ ⟨rfl,?_,?_,?_,?_,?_,M3,p3,a3,c3,eD,bD,aZ,rfl⟩
    all_goals simp only [aD,ht,go_sem,ak,sevalprocAttr, -Int.reduceAdd, -Int.reduceSub, -Int.reduceMul]
   clear aD ht
   clear e
   rintro e ds h ⟨rfl,e0,e1,e75,e76,e5,M4,p4,a4,c4,ke,ce,bH,rfl⟩
   rw [un]
   refine gE (fun e ds h=>ds=[]/\e 0=.pointer (some ⟨b,0,none⟩)/\e 1=(.pointer (some ⟨bx,ox,none⟩))/\e 75=.int .i64 (s.src.length:Int)/\e 76=.int .i64 (i:Nat)/\e 5=.int .i64 (i:Nat)/\e 6=.pointer (some ⟨bi,oi+i*10,none⟩)/\xn T M b A5 h) (fun S2 lX=> ?_) ?_
   ·simp +contextual only [go_sem,ak,sevalprocAttr, -Int.reduceAdd, -Int.reduceSub, -Int.reduceMul,e0,e1,e75,e76,e5,ax ce y3,aF]
    refine lX _ _ _ ⟨rfl,?_,?_,?_,?_,?_,?_,M4,p4,a4,c4,ke,ce,bH,rfl⟩
    all_goals simp only [e0,e1,e75,e76,e5,go_sem,ak,sevalprocAttr, -Int.reduceAdd, -Int.reduceSub, -Int.reduceMul]
   clear e0 e1 e75 e76 e5 ce bH ke
   clear M4 p4 a4 c4 e
   rintro e ds h ⟨rfl,e0,e1,e75,e76,e5,e6,M4,p4,a4,c4,ke,ce,bH,rfl⟩
   have hr:mt U A5 (iS sr.k++([sr.name]++(tM sr.as++((if decide (i=0)=true then [] else [NV]++bm sr.on 1)++iG false (s.src.drop (i+1)))))):=by
    rw [NY] at hr
    simpa only [List.append_assoc] using hr
   obtain ⟨gq,hr⟩:=hr.step
   rw [un]
   refine gE (fun e ds h=>ds=[]/\e 0=.pointer (some ⟨b,0,none⟩)/\e 1=(.pointer (some ⟨bx,ox,none⟩))/\e 75=.int .i64 (s.src.length:Int)/\e 76=.int .i64 (i:Nat)/\e 5=.int .i64 (i:Nat)/\e 6=.pointer (some ⟨bi,oi+i*10,none⟩)/\xn T M b (bB A5 (iS sr.k)) h) (fun S2 lX=> ?_) ?_
   ·have q0:=ax (bG.rfl':bG M M) u0
    have v0:=ax ce u0
    obtain gB | gB | gB | gB | gB:sr.k=1\/sr.k=2\/sr.k=3\/sr.k=4\/sr.k=5:=by omega
    ·rw [gB] at v0 gq lX
     have hj:iS 1=[qI]:=rfl
     rw [hj] at gq lX
     have hw:IntKind.i64.wrap (1 - 1)=0:=by decide
     simp +contextual only [go_sem,ak,sevalprocAttr, -Int.reduceAdd, -Int.reduceSub, -Int.reduceMul,e0,e1,e75,e76,e5,e6,v0,hw]
     intro c1 Cr ry c2 vY CF c3 Ur Yx c4' CA ZC c5 AN YY c6 hc6 hd6
     refine aW cY fun M5 dy hq6 _=> ?_
     refine aW cY fun M6 dM xD _=> ?_
     refine aW cY fun M7 iz Oz _=> ?_
     refine aW cY fun M8 jv Uv _=> ?_
     refine aW cY fun M9 lK FM _=> ?_
     refine aW cY fun M10 qB Ut _=> ?_
     have atI:=Ut
     have qQ:=dy.trans (dM.trans (iz.trans (jv.trans (lK.trans qB))))
     refine ph [] (df (fun _ _=>cO) atI (eQ [qI]) rfl (by decide)) hT ke gq ?_
     rintro w M11 p11 a11 c11 pA kA qz
     simp +contextual only [go_sem,ak,sevalprocAttr, -Int.reduceAdd, -Int.reduceSub, -Int.reduceMul,e0,e1,e75,e76,e5,e6]
     refine lX _ _ _ ⟨rfl,?_,?_,?_,?_,?_,?_,xn.put qz (ce.trans (qQ.trans pA)) kA⟩
     all_goals simp only [e0,e1,e75,e76,e5,e6,go_sem,ak,sevalprocAttr, -Int.reduceAdd, -Int.reduceSub, -Int.reduceMul]
    ·rw [gB] at v0 gq lX
     have hj:iS 2=[hF]:=rfl
     rw [hj] at gq lX
     have hw:IntKind.i64.wrap (2 - 1)=1:=by decide
     simp +contextual only [go_sem,ak,sevalprocAttr, -Int.reduceAdd, -Int.reduceSub, -Int.reduceMul,e0,e1,e75,e76,e5,e6,v0,hw]
     intro c1 Cr ry c2 vY CF c3 Ur Yx c4' CA ZC c5 AN YY c6 hc6 hd6
     refine aW cY fun M5 dy hq6 _=> ?_
     refine aW cY fun M6 dM xD _=> ?_
     refine aW cY fun M7 iz Oz _=> ?_
     refine aW cY fun M8 jv Uv _=> ?_
     refine aW cY fun M9 lK FM _=> ?_
     refine aW cY fun M10 qB Ut _=> ?_
     have asr:=qB _ _ FM
     have qQ:=dy.trans (dM.trans (iz.trans (jv.trans (lK.trans qB))))
     refine ph [] (df (fun _ _=>cO) asr (eQ [hF]) rfl (by decide)) hT ke gq ?_
     rintro w M11 p11 a11 c11 pA kA qz
     simp +contextual only [go_sem,ak,sevalprocAttr, -Int.reduceAdd, -Int.reduceSub, -Int.reduceMul,e0,e1,e75,e76,e5,e6]
     refine lX _ _ _ ⟨rfl,?_,?_,?_,?_,?_,?_,xn.put qz (ce.trans (qQ.trans pA)) kA⟩
     all_goals simp only [e0,e1,e75,e76,e5,e6,go_sem,ak,sevalprocAttr, -Int.reduceAdd, -Int.reduceSub, -Int.reduceMul]
    ·rw [gB] at v0 gq lX
     have hj:iS 3=[Cp,hF]:=rfl
     rw [hj] at gq lX
     have hw:IntKind.i64.wrap (3 - 1)=2:=by decide
     simp +contextual only [go_sem,ak,sevalprocAttr, -Int.reduceAdd, -Int.reduceSub, -Int.reduceMul,e0,e1,e75,e76,e5,e6,v0,hw]
     intro c1 Cr ry c2 vY CF c3 Ur Yx c4' CA ZC c5 AN YY c6 hc6 hd6
     refine aW cY fun M5 dy hq6 _=> ?_
     refine aW cY fun M6 dM xD _=> ?_
     refine aW cY fun M7 iz Oz _=> ?_
     refine aW cY fun M8 jv Uv _=> ?_
     refine aW cY fun M9 lK FM _=> ?_
     refine aW cY fun M10 qB Ut _=> ?_
     have aq2:=(lK.trans qB) _ _ Uv
     have qQ:=dy.trans (dM.trans (iz.trans (jv.trans (lK.trans qB))))
     refine ph [] (df (fun _ _=>cO) aq2 (eQ [Cp,hF]) rfl (by decide)) hT ke gq ?_
     rintro w M11 p11 a11 c11 pA kA qz
     simp +contextual only [go_sem,ak,sevalprocAttr, -Int.reduceAdd, -Int.reduceSub, -Int.reduceMul,e0,e1,e75,e76,e5,e6]
     refine lX _ _ _ ⟨rfl,?_,?_,?_,?_,?_,?_,xn.put qz (ce.trans (qQ.trans pA)) kA⟩
     all_goals simp only [e0,e1,e75,e76,e5,e6,go_sem,ak,sevalprocAttr, -Int.reduceAdd, -Int.reduceSub, -Int.reduceMul]
    ·rw [gB] at v0 gq lX
     have hj:iS 4=[Bg,hF]:=rfl
     rw [hj] at gq lX
     have hw:IntKind.i64.wrap (4 - 1)=3:=by decide
     simp +contextual only [go_sem,ak,sevalprocAttr, -Int.reduceAdd, -Int.reduceSub, -Int.reduceMul,e0,e1,e75,e76,e5,e6,v0,hw]
     intro c1 Cr ry c2 vY CF c3 Ur Yx c4' CA ZC c5 AN YY c6 hc6 hd6
     refine aW cY fun M5 dy hq6 _=> ?_
     refine aW cY fun M6 dM xD _=> ?_
     refine aW cY fun M7 iz Oz _=> ?_
     refine aW cY fun M8 jv Uv _=> ?_
     refine aW cY fun M9 lK FM _=> ?_
     refine aW cY fun M10 qB Ut _=> ?_
     have atb:=(jv.trans (lK.trans qB)) _ _ Oz
     have qQ:=dy.trans (dM.trans (iz.trans (jv.trans (lK.trans qB))))
     refine ph [] (df (fun _ _=>cO) atb (eQ [Bg,hF]) rfl (by decide)) hT ke gq ?_
     rintro w M11 p11 a11 c11 pA kA qz
     simp +contextual only [go_sem,ak,sevalprocAttr, -Int.reduceAdd, -Int.reduceSub, -Int.reduceMul,e0,e1,e75,e76,e5,e6]
     refine lX _ _ _ ⟨rfl,?_,?_,?_,?_,?_,?_,xn.put qz (ce.trans (qQ.trans pA)) kA⟩
     all_goals simp only [e0,e1,e75,e76,e5,e6,go_sem,ak,sevalprocAttr, -Int.reduceAdd, -Int.reduceSub, -Int.reduceMul]
    ·rw [gB] at v0 gq lX
     have hj:iS 5=[B2,hF]:=rfl
     rw [hj] at gq lX
     have hw:IntKind.i64.wrap (5 - 1)=4:=by decide
     simp +contextual only [go_sem,ak,sevalprocAttr, -Int.reduceAdd, -Int.reduceSub, -Int.reduceMul,e0,e1,e75,e76,e5,e6,v0,hw]
     intro c1 Cr ry c2 vY CF c3 Ur Yx c4' CA ZC c5 AN YY c6 hc6 hd6
     refine aW cY fun M5 dy hq6 _=> ?_
     refine aW cY fun M6 dM xD _=> ?_
     refine aW cY fun M7 iz Oz _=> ?_
     refine aW cY fun M8 jv Uv _=> ?_
     refine aW cY fun M9 lK FM _=> ?_
     refine aW cY fun M10 qB Ut _=> ?_
     have arx:=(iz.trans (jv.trans (lK.trans qB))) _ _ xD
     have qQ:=dy.trans (dM.trans (iz.trans (jv.trans (lK.trans qB))))
     refine ph [] (df (fun _ _=>cO) arx (eQ [B2,hF]) rfl (by decide)) hT ke gq ?_
     rintro w M11 p11 a11 c11 pA kA qz
     simp +contextual only [go_sem,ak,sevalprocAttr, -Int.reduceAdd, -Int.reduceSub, -Int.reduceMul,e0,e1,e75,e76,e5,e6]
     refine lX _ _ _ ⟨rfl,?_,?_,?_,?_,?_,?_,xn.put qz (ce.trans (qQ.trans pA)) kA⟩
     all_goals simp only [e0,e1,e75,e76,e5,e6,go_sem,ak,sevalprocAttr, -Int.reduceAdd, -Int.reduceSub, -Int.reduceMul]
   clear e0 e1 e75 e76 e5 e6 ce bH ke
   clear M4 p4 a4 c4 e
   generalize bB A5 (iS sr.k)=A6 at hr ⊢
   rintro e ds h ⟨rfl,e0,e1,e75,e76,e5,e6,M4,p4,a4,c4,ke,ce,bH,rfl⟩
   obtain ⟨nN,hr⟩:=hr.step
   simp +contextual only [go_sem,ak,sevalprocAttr, -Int.reduceAdd, -Int.reduceSub, -Int.reduceMul,e0,e1,e75,e76,e5,e6,ax ce u1]
   intro b7 km dj
   refine cS [] [sr.name] hT ke rfl nN ?_
   rintro w M5 p5 a5 c5 dy bE u4
   generalize bB A6 [sr.name]=A7 at hr bE ⊢
   simp only [List.nil_append,aB,and_true] at bE ⊢
   have Lz:=ce.trans dy
   obtain ⟨r9,hr⟩:=hr.step
   by_cases r7:sr.as=[]
   ·rw [tM,if_pos r7,yO] at hr
    by_cases mm:i=0
    ·have h0:¬ (0:Int)<((i:Nat):Int):=by omega
     rw [if_pos (by simpa using mm)] at hr
     simp +contextual only [go_sem,ak,sevalprocAttr, -Int.reduceAdd, -Int.reduceSub, -Int.reduceMul,e0,e1,e75,e76,e5,e6,ax Lz u2,r7,h0]
     refine bW aF ?_ ?_ ⟨A7,⟨M5,p5,a5,c5,u4,Lz,bE,rfl⟩,?_⟩
     ·simp only [aG,e0,e1,e75,go_sem,ak,sevalprocAttr, -Int.reduceAdd, -Int.reduceSub, -Int.reduceMul]
     ·simp only [e76,go_sem,ak,sevalprocAttr, -Int.reduceAdd, -Int.reduceSub, -Int.reduceMul,aC i (by omega)]
     ·simpa using hr.nil
    ·have h0:(0:Int)<((i:Nat):Int):=by omega
     rw [if_neg (by simpa using mm)] at hr
     rw [List.append_assoc] at hr
     obtain ⟨Ec,hr⟩:=hr.step
     obtain ⟨PN,hr⟩:=hr.step
     simp +contextual only [go_sem,ak,sevalprocAttr, -Int.reduceAdd, -Int.reduceSub, -Int.reduceMul,e0,e1,e75,e76,e5,e6,ax Lz u2,r7,h0]
     intro b9 rF je
     refine cS [] [NV] hT u4 rfl Ec ?_
     rintro w M8 p8 a8 c8 jv gS WI
     generalize bB A7 [NV]=A9 at hr PN gS ⊢
     simp only [List.nil_append,aB,and_true] at gS ⊢
     simp +contextual only [go_sem,ak,sevalprocAttr, -Int.reduceAdd, -Int.reduceSub, -Int.reduceMul,e0,e1,e75,e76,e5,e6]
     have h8:=Lz.trans jv
     refine iN [] (VD sr.on) (hg.ext h8) (br h8 _ _ wX) (ab7.ext h8) (El mm) hT WI (by decide) (by decide) PN ?_
     rintro w M9 p9 a9 c9 lK mc hp9
     simp only [List.nil_append,aB,and_true] at mc ⊢
     simp +contextual only [go_sem,ak,sevalprocAttr, -Int.reduceAdd, -Int.reduceSub, -Int.reduceMul,e0,e1,e75,e76,e5,e6]
     refine bW aF ?_ ?_ ⟨_,⟨M9,p9,a9,c9,hp9,h8.trans lK,mc,rfl⟩,?_⟩
     ·simp only [aG,e0,e1,e75,go_sem,ak,sevalprocAttr, -Int.reduceAdd, -Int.reduceSub, -Int.reduceMul]
     ·simp only [e76,go_sem,ak,sevalprocAttr, -Int.reduceAdd, -Int.reduceSub, -Int.reduceMul,aC i (by omega)]
     ·simpa using hr
   ·rw [tM,if_neg r7] at hr r9
    simp +contextual only [go_sem,ak,sevalprocAttr, -Int.reduceAdd, -Int.reduceSub, -Int.reduceMul,e0,e1,e75,e76,e5,e6,ax Lz u2,r7]
    intro b8 sd fj
    refine cS [] [xt,sr.as] hT u4 rfl r9 ?_
    rintro w M6 p6 a6 c6 dM bP DE
    generalize bB A7 [xt,sr.as]=A8 at hr bP ⊢
    simp only [List.nil_append,aB,and_true] at bP ⊢
    have ak9:=Lz.trans dM
    by_cases mm:i=0
    ·have h0:¬ (0:Int)<((i:Nat):Int):=by omega
     rw [if_pos (by simpa using mm)] at hr
     simp +contextual only [go_sem,ak,sevalprocAttr, -Int.reduceAdd, -Int.reduceSub, -Int.reduceMul,e0,e1,e75,e76,e5,e6,h0]
     refine bW aF ?_ ?_ ⟨A8,⟨M6,p6,a6,c6,DE,ak9,bP,rfl⟩,?_⟩
     ·simp only [aG,e0,e1,e75,go_sem,ak,sevalprocAttr, -Int.reduceAdd, -Int.reduceSub, -Int.reduceMul]
     ·simp only [e76,go_sem,ak,sevalprocAttr, -Int.reduceAdd, -Int.reduceSub, -Int.reduceMul,aC i (by omega)]
     ·simpa using hr.nil
    ·have h0:(0:Int)<((i:Nat):Int):=by omega
     rw [if_neg (by simpa using mm)] at hr
     rw [List.append_assoc] at hr
     obtain ⟨Ec,hr⟩:=hr.step
     obtain ⟨PN,hr⟩:=hr.step
     simp +contextual only [go_sem,ak,sevalprocAttr, -Int.reduceAdd, -Int.reduceSub, -Int.reduceMul,e0,e1,e75,e76,e5,e6,h0]
     intro b9 rF je
     refine cS [] [NV] hT DE rfl Ec ?_
     rintro w M8 p8 a8 c8 jv gS WI
     generalize bB A8 [NV]=A9 at hr PN gS ⊢
     simp only [List.nil_append,aB,and_true] at gS ⊢
     simp +contextual only [go_sem,ak,sevalprocAttr, -Int.reduceAdd, -Int.reduceSub, -Int.reduceMul,e0,e1,e75,e76,e5,e6]
     have h8:=ak9.trans jv
     refine iN [] (VD sr.on) (hg.ext h8) (br h8 _ _ wX) (ab7.ext h8) (El mm) hT WI (by decide) (by decide) PN ?_
     rintro w M9 p9 a9 c9 lK mc hp9
     simp only [List.nil_append,aB,and_true] at mc ⊢
     simp +contextual only [go_sem,ak,sevalprocAttr, -Int.reduceAdd, -Int.reduceSub, -Int.reduceMul,e0,e1,e75,e76,e5,e6]
     refine bW aF ?_ ?_ ⟨_,⟨M9,p9,a9,c9,hp9,h8.trans lK,mc,rfl⟩,?_⟩
     ·simp only [aG,e0,e1,e75,go_sem,ak,sevalprocAttr, -Int.reduceAdd, -Int.reduceSub, -Int.reduceMul]
     ·simp only [e76,go_sem,ak,sevalprocAttr, -Int.reduceAdd, -Int.reduceSub, -Int.reduceMul,aC i (by omega)]
     ·simpa using hr
  ·have:i=s.src.length:=by omega
   subst this
   simp +contextual only [go_sem,ak,sevalprocAttr, -Int.reduceAdd, -Int.reduceSub, -Int.reduceMul,aD,ht,aF]
   refine dW _ _ _ ⟨rfl,?_,?_,M3,p3,a3,c3,eD,bD,aZ,?_⟩
   ·simp only [aD,go_sem,ak,sevalprocAttr, -Int.reduceAdd, -Int.reduceSub, -Int.reduceMul]
   ·simp only [aD,go_sem,ak,sevalprocAttr, -Int.reduceAdd, -Int.reduceSub, -Int.reduceMul]
   ·have:=hr.1
    rw [List.drop_length] at this
    have:U=A5:=this
    rw [this]
 generalize bB A4 (iG true s.src)=A5 at hR ⊢
 clear e0 e1 aX aQ gV
 clear M2 p2 a2 c2 e
 rintro e ds h ⟨rfl,e0,e1,M2,p2,a2,c2,gV,aX,aQ,rfl⟩
 have Sa:=((eJ (l:=[_,_,_,_,_,_]) (l':=[_,_,_,_,_,_,_,_,_,_,_,_,_,_,_])).1 ha).2
 have amJ:At M bx (ox+6) [.int .i64 s.wh.k,.int .i64 s.wh.v.k,.int .i64 s.wh.v.n,st s.wh.v.t,st s.wh.tab,st s.wh.name,aw]:=((eJ (l:=[_,_,_,_,_,_,_]) (l':=[_,_,_,_,_,_,_,_])).1 Sa).1
 have amn:At M bx (ox+13) [.int .i64 s.hv.k,.int .i64 s.hv.v.k,.int .i64 s.hv.v.n,st s.hv.v.t,st s.hv.tab,st s.hv.name,ah]:=((eJ (l:=[_,_,_,_,_,_,_]) (l':=[_])).1 ((eJ (l:=[_,_,_,_,_,_,_]) (l':=[_,_,_,_,_,_,_,_])).1 Sa).2).1
 clear Sa
 simp +contextual only [go_sem,sevalprocAttr, -Int.reduceAdd, -Int.reduceSub, -Int.reduceMul,e0,e1,ax aX y4]
 obtain ⟨hl,hR⟩:=hR.step
 refine dI (Ef T M b (.pointer (some ⟨bx,ox,none⟩)) (bB A5 (fR s.hasW fx s.wh))) (fun S' dW=> ?_) ?_
 ·by_cases hd:s.hasW=true
  ·rw [fR,if_pos hd] at hl dW
   rw [bV,if_pos hd]
   rw [bz] at hl
   rw [dR] at dW
   have hq:=cE [fx] A5
   simp +contextual only [go_sem,sevalprocAttr, -Int.reduceAdd, -Int.reduceSub, -Int.reduceMul,e0,e1]
   intro b4 iR cN
   refine cS [] [fx] hT gV rfl (by omega) ?_
   rintro w M3 p3 a3 c3 bD aZ eD
   simp only [List.nil_append,aB,and_true] at aZ ⊢
   simp +contextual only [go_sem,sevalprocAttr, -Int.reduceAdd, -Int.reduceSub, -Int.reduceMul,e0,e1]
   refine iN [] (VD s.wh) (hg.ext (aX.trans bD)) (br (aX.trans bD) _ _ xw) (amJ.ext (aX.trans bD)) (Ug hd) hT eD (by decide) (by decide) (by omega) ?_
   rintro w M4 p4 a4 c4 ce bH ke
   simp +contextual only [go_sem,sevalprocAttr, -Int.reduceAdd, -Int.reduceSub, -Int.reduceMul,e0,e1]
   refine dW _ _ _ ⟨rfl,?_,?_,xn.put ke (aX.trans (bD.trans ce)) bH⟩
   ·simp only [e0,go_sem,ak,sevalprocAttr, -Int.reduceAdd, -Int.reduceSub, -Int.reduceMul]
   ·simp only [e1,go_sem,ak,sevalprocAttr, -Int.reduceAdd, -Int.reduceSub, -Int.reduceMul]
  ·rw [fR,if_neg hd] at dW
   rw [bV,if_neg hd]
   simp +contextual only [go_sem,sevalprocAttr, -Int.reduceAdd, -Int.reduceSub, -Int.reduceMul]
   refine dW _ _ _ ⟨rfl,?_,?_,M2,p2,a2,c2,gV,aX,aQ,rfl⟩
   ·simp only [e0,go_sem,ak,sevalprocAttr, -Int.reduceAdd, -Int.reduceSub, -Int.reduceMul]
   ·simp only [e1,go_sem,ak,sevalprocAttr, -Int.reduceAdd, -Int.reduceSub, -Int.reduceMul]
 generalize bB A5 (fR s.hasW fx s.wh)=A6 at hR ⊢
 clear e0 e1 aX aQ gV
 clear M2 p2 a2 c2 e
 rintro e ds h ⟨rfl,e0,e1,M2,p2,a2,c2,gV,aX,aQ,rfl⟩
 simp +contextual only [go_sem,sevalprocAttr, -Int.reduceAdd, -Int.reduceSub, -Int.reduceMul,e0,e1,ax aX y20]
 obtain ⟨hl,hR⟩:=hR.step
 refine dI (Ef T M b (.pointer (some ⟨bx,ox,none⟩)) (bB A6 (lg s.group))) (fun S' dW=> ?_) ?_
 ·by_cases hd:s.group=[]
  ·rw [lg,if_pos hd] at dW
   have h0:¬ (0:Int)<(s.group.length:Int):=by rw [hd];simp
   rw [bV,if_neg (by simpa using hd)]
   simp +contextual only [go_sem,sevalprocAttr, -Int.reduceAdd, -Int.reduceSub, -Int.reduceMul]
   refine dW _ _ _ ⟨rfl,?_,?_,M2,p2,a2,c2,gV,aX,aQ,rfl⟩
   ·simp only [e0,go_sem,ak,sevalprocAttr, -Int.reduceAdd, -Int.reduceSub, -Int.reduceMul]
   ·simp only [e1,go_sem,ak,sevalprocAttr, -Int.reduceAdd, -Int.reduceSub, -Int.reduceMul]
  ·rw [lg,if_neg hd] at hl dW
   have h0:(0:Int)<(s.group.length:Int):=by
    have:=List.length_pos_iff.2 hd;omega
   rw [bV,if_pos (by simpa using h0)]
   rw [bz] at hl
   rw [dR] at dW
   have hq:=cE [mR,Uo] A6
   simp +contextual only [go_sem,sevalprocAttr, -Int.reduceAdd, -Int.reduceSub, -Int.reduceMul,e0,e1]
   intro b4 iR cN
   refine cS [] [mR,Uo] hT gV rfl (by omega) ?_
   rintro w M3 p3 a3 c3 bD aZ eD
   simp only [List.nil_append,aB,and_true] at aZ ⊢
   simp +contextual only [go_sem,sevalprocAttr, -Int.reduceAdd, -Int.reduceSub, -Int.reduceMul,e0,e1,ax (aX.trans bD) y20]
   refine sU [] (fun x _=>VD x) P6 (hg.ext (aX.trans bD)) (aN (aX.trans bD) (br (aX.trans bD)) xg) hT eD (by omega) ?_
   rintro w M4 p4 a4 c4 ce bH ke
   simp +contextual only [go_sem,sevalprocAttr, -Int.reduceAdd, -Int.reduceSub, -Int.reduceMul,e0,e1]
   refine dW _ _ _ ⟨rfl,?_,?_,xn.put ke (aX.trans (bD.trans ce)) bH⟩
   ·simp only [e0,go_sem,ak,sevalprocAttr, -Int.reduceAdd, -Int.reduceSub, -Int.reduceMul]
   ·simp only [e1,go_sem,ak,sevalprocAttr, -Int.reduceAdd, -Int.reduceSub, -Int.reduceMul]
 generalize bB A6 (lg s.group)=A7 at hR ⊢
 clear e0 e1 aX aQ gV
 clear M2 p2 a2 c2 e
 rintro e ds h ⟨rfl,e0,e1,M2,p2,a2,c2,gV,aX,aQ,rfl⟩
 simp +contextual only [go_sem,sevalprocAttr, -Int.reduceAdd, -Int.reduceSub, -Int.reduceMul,e0,e1,ax aX y5]
 have hR:mt W A7 (fR s.hasH iY s.hv++[]):=by rw [List.append_nil];exact hR
 obtain ⟨hl,hR⟩:=hR.step
 refine dI (Ef T M b (.pointer (some ⟨bx,ox,none⟩)) (bB A7 (fR s.hasH iY s.hv))) (fun S' dW=> ?_) ?_
 ·by_cases hd:s.hasH=true
  ·rw [fR,if_pos hd] at hl dW
   rw [bV,if_pos hd]
   rw [bz] at hl
   rw [dR] at dW
   have hq:=cE [iY] A7
   simp +contextual only [go_sem,sevalprocAttr, -Int.reduceAdd, -Int.reduceSub, -Int.reduceMul,e0,e1]
   intro b4 iR cN
   refine cS [] [iY] hT gV rfl (by omega) ?_
   rintro w M3 p3 a3 c3 bD aZ eD
   simp only [List.nil_append,aB,and_true] at aZ ⊢
   simp +contextual only [go_sem,sevalprocAttr, -Int.reduceAdd, -Int.reduceSub, -Int.reduceMul,e0,e1]
   refine iN [] (VD s.hv) (hg.ext (aX.trans bD)) (br (aX.trans bD) _ _ xh) (amn.ext (aX.trans bD)) (ho6 hd) hT eD (by decide) (by decide) (by omega) ?_
   rintro w M4 p4 a4 c4 ce bH ke
   simp +contextual only [go_sem,sevalprocAttr, -Int.reduceAdd, -Int.reduceSub, -Int.reduceMul,e0,e1]
   refine dW _ _ _ ⟨rfl,?_,?_,xn.put ke (aX.trans (bD.trans ce)) bH⟩
   ·simp only [e0,go_sem,ak,sevalprocAttr, -Int.reduceAdd, -Int.reduceSub, -Int.reduceMul]
   ·simp only [e1,go_sem,ak,sevalprocAttr, -Int.reduceAdd, -Int.reduceSub, -Int.reduceMul]
  ·rw [fR,if_neg hd] at dW
   rw [bV,if_neg hd]
   simp +contextual only [go_sem,sevalprocAttr, -Int.reduceAdd, -Int.reduceSub, -Int.reduceMul]
   refine dW _ _ _ ⟨rfl,?_,?_,M2,p2,a2,c2,gV,aX,aQ,rfl⟩
   ·simp only [e0,go_sem,ak,sevalprocAttr, -Int.reduceAdd, -Int.reduceSub, -Int.reduceMul]
   ·simp only [e1,go_sem,ak,sevalprocAttr, -Int.reduceAdd, -Int.reduceSub, -Int.reduceMul]
 generalize bB A7 (fR s.hasH iY s.hv)=A8 at hR ⊢
 clear e0 e1 aX aQ gV
 clear M2 p2 a2 c2 e
 rintro e ds h ⟨rfl,e0,e1,M2,p2,a2,c2,gV,aX,aQ,rfl⟩
 simp +contextual only [go_sem,ak,sevalprocAttr, -Int.reduceAdd, -Int.reduceSub, -Int.reduceMul]
 have hWA:W=A8:=hR.1
 refine aM aH.rfl' rfl rfl ⟨p2,a2,c2,gV,?_,?_⟩
 ·rw [hWA];rfl
 ·rw [hWA];rfl
def lN (k:Int):List Bs:=if k=1 then [l7,qP] else if k=2 then [l7] else if k=3 then [jE,qP] else [jE]
def gl (ops:List Int):Nat ->List Se ->List Bs
 | _,[]=>[]
 | i,s::l=>(if i=0 then [] else lN (ops.getD (i - 1) 0))++(pP s++gl ops (i+1) l)
def DY (q:Q):List Bs:=if 0<=q.limit then [pz,Uo]++(lF (q.order.map bm)++[zp,Lib.decDigits q.limit.toNat]) else []
def im (q:Q):List Bs:=gl q.ops 0 q.parts++DY q
def Kg (q:Q):Prop:=(∀ s∈q.parts,ym s)/\q.ops.length+1=q.parts.length/\(∀ k∈q.ops,1<=k/\k<=4)/\(0<=q.limit ->q.limit<=50/\∀ x∈q.order,wz x)
theorem E8 {ops:List Int}{l:List Se}{i:Nat}(h:i<l.length)(n:Nat):gl ops n (l.drop i)=(if n=0 then [] else lN (ops.getD (n - 1) 0))++(pP l[i]++gl ops (n+1) (l.drop (i+1))):=by
 rw [List.drop_eq_getElem_cons h,gl]
theorem We {M:aV}(i:Nat)(hi:i<100):Ct Tryz.prog 72 [.int .i64 (i:Int)] M [] [] (fun r M' _ _=>r=st (Lib.decDigits i)/\M'=M) bj:=by
 refine pf XD fun w hw=>Calls.mono (Tryz.strconv_Itoa_small i hi w) ?_
 rintro e w' ⟨rfl,rfl⟩
 exact ⟨rfl,lU.rfl'⟩
theorem acE {F:Fi}{s:List Vc.Item}{e:dN}{ds:List Deferred}{dd:Option Nat}{N:Tm}{M:aV}{b bx ox:Nat}{cs:List Value}{a:Option Addr}{c:Nat}{p:Value}{aO:Bs}{x:Se}(L1:LL)(hg:jB M)(hr:CX M x cs)(ha:At M bx ox cs)(ho:ym x)(hN:N b=some 138)(hp:pK b p)(hl:aO.length+bI (pP x)<=1000000000)
 (k:∀ u M' p' a' c',bG M M' ->aB M' (L1++[(b,[p',.slice a' (bB aO (pP x)).length c'])]) ->pK b p' ->cB Tryz.prog F s (cV e dd u) ds ⟨N,M',L1++[(b,[p',.slice a' (bB aO (pP x)).length c'])],[(.slice a' (bB aO (pP x)).length c',5,1,Lib.byteCells (bB aO (pP x)))]⟩ ⟨⟩):
 dT Tryz.prog F 131 [.pointer (some ⟨b,0,none⟩),.pointer (some ⟨bx,ox,none⟩)] dd s e ds ⟨N,M,L1++[(b,[p,.slice a aO.length c])],[(.slice a aO.length c,5,1,Lib.byteCells aO)]⟩ ⟨⟩:=by
 have h:=cM (P:=Tryz.prog) (F:=F) (s:=s) (e:=e) (ds:=ds) (dd:=dd) (N:=N) L1 (ng b p a aO.length c) [] [] (oe a aO.length c aO) [] (Sj hg hr ha ho hN hp hl)
  (fun u M' L' R' lC _ _ iQ hq=>by
   obtain ⟨p',a',c',vr,rfl,rfl⟩:=hq
   rw [List.append_nil] at iQ ⊢
   exact k u M' p' a' c' lC iQ vr)
  (fun _ _ _ _ _ _ _ _ h=>h.elim)
 rw [List.append_nil] at h
 exact h
theorem I9 {q:Q}{M:aV}{T:Tm}{b bx ox:Nat}{cs:List Value}{a:Option Addr}{c:Nat}{p:Value}{aO:Bs}(hg:jB M)(hs:RQ M q cs)(ha:At M bx ox cs)(ho:Kg q)(hT:T b=some 138)(hp:pK b p)(hl:aO.length+bI (im q)<=1000000000):
 ep Tryz.prog 89 [.pointer (some ⟨b,0,none⟩),.pointer (some ⟨bx,ox,none⟩)] T M (ng b p a aO.length c) (oe a aO.length c aO) (lY b (bB aO (im q))) bj:=by
 obtain ⟨pv,ov,rv,hpv,hov,Bc,y0,y1,y2,y3⟩:=Zd hs ha
 obtain ⟨hpb,pa,pc,rfl,py,_,TK⟩:=aI (by decide) (fun _ _=>lx) hpv
 obtain ⟨hob,oa,oc,rfl,hol,_,ak1⟩:=aI (by decide) (fun _ _=>cW) hov
 obtain ⟨ra,rc,rfl⟩:∃ a c,rv=.slice a q.order.length c:=by
  obtain ⟨_,a,c,h,_⟩:=aI (by decide) (fun _ _=>dY) Bc;exact ⟨a,c,h⟩
 obtain ⟨ho1,WU,ho3,Ug⟩:=ho
 obtain ⟨W,hW⟩:∃ W,W=bB aO (im q):=⟨_,rfl⟩
 have hR:mt W aO (im q):=⟨hW,hl⟩
 rw [<- hW]
 clear hW hl
 unfold im at hR
 obtain ⟨hl,hR⟩:=hR.step
 unfold ng oe
 refine aT mx aft Tryz.func89 rfl (by rw [atq];exact Nat.le_of_ble_eq_true rfl) (dr:=afL) (by kernel_rfl) asp ?_
 intro bN _
 simp only [aB,and_true] at bN
 simp +contextual only [go_sem,sevalprocAttr, -Int.reduceAdd, -Int.reduceSub, -Int.reduceMul,y0]
 refine gE (Ef T M b (.pointer (some ⟨bx,ox,none⟩)) (bB aO (gl q.ops 0 q.parts))) (fun S' dW=> ?_) ?_
 ·have mT:mt (bB aO (gl q.ops 0 q.parts)) aO (gl q.ops 0 q.parts):=⟨rfl,hl⟩
  generalize bB aO (gl q.ops 0 q.parts)=U at dW mT
  simp +contextual only [go_sem,ak,sevalprocAttr, -Int.reduceAdd, -Int.reduceSub, -Int.reduceMul]
  refine bh q.parts.length 10 [(0,.pointer (some ⟨b,0,none⟩)),(1,(.pointer (some ⟨bx,ox,none⟩))),(9,.int .i64 (q.parts.length:Int))] (fun i e h=>∃ A',xn T M b A' h/\mt U A' (gl q.ops i (q.parts.drop i))) 0 (by omega) (by simp only [aG,go_sem,ak,sevalprocAttr, -Int.reduceAdd, -Int.reduceSub, -Int.reduceMul]) (by simp only [go_sem,ak,sevalprocAttr, -Int.reduceAdd, -Int.reduceSub, -Int.reduceMul]) ⟨aO,⟨M,p,a,c,hp,bG.rfl',bN,rfl⟩,mT⟩ ?_
  clear bN mT
  rintro i e h hi aD ht ⟨A5,⟨M3,p3,a3,c3,eD,bD,aZ,rfl⟩,hr⟩
  simp only [aG] at aD
  by_cases aF:i<q.parts.length
  ·rw [E8 aF] at hr
   obtain ⟨bi,oi,ci,rfl,cC,G3⟩:=TK i q.parts[i] (List.getElem?_eq_getElem aF)
   have dG:=ho1 q.parts[i] (List.getElem_mem aF)
   generalize q.parts[i]=sr at hr G3 dG
   obtain ⟨gq,hr⟩:=hr.step
   simp +contextual only [go_sem,sevalprocAttr, -Int.reduceAdd, -Int.reduceSub, -Int.reduceMul,aD,ht,aF]
   rw [bV,if_pos rfl]
   simp +contextual only [go_sem,sevalprocAttr, -Int.reduceAdd, -Int.reduceSub, -Int.reduceMul,aD,ht,aF]
   rw [ri]
   simp +contextual only [go_sem,sevalprocAttr, -Int.reduceAdd, -Int.reduceSub, -Int.reduceMul,aD,ht,aF]
   refine dI (fun e ds h=>ds=[]/\e 0=.pointer (some ⟨b,0,none⟩)/\e 1=(.pointer (some ⟨bx,ox,none⟩))/\e 9=.int .i64 (q.parts.length:Int)/\e 10=.int .i64 (i:Nat)/\e 4=.int .i64 (i:Nat)/\xn T M b (bB A5 (if i=0 then [] else lN (q.ops.getD (i - 1) 0))) h) (fun S2 lX=> ?_) ?_
   ·by_cases mm:i=0
    ·have h0:¬ (0:Int)<((i:Nat):Int):=by omega
     rw [if_pos mm] at lX
     rw [bV,if_neg (by simpa using mm)]
     simp +contextual only [go_sem,sevalprocAttr, -Int.reduceAdd, -Int.reduceSub, -Int.reduceMul]
     refine lX _ _ _ ⟨rfl,?_,?_,?_,?_,?_,M3,p3,a3,c3,eD,bD,aZ,rfl⟩
     all_goals simp only [aD,ht,go_sem,ak,sevalprocAttr, -Int.reduceAdd, -Int.reduceSub, -Int.reduceMul]
    ·have h0:(0:Int)<((i:Nat):Int):=by omega
     rw [if_neg mm] at lX gq
     rw [bV,if_pos (by simpa using h0)]
     obtain ⟨j,hj⟩:∃ j,i=j+1:=⟨i - 1,by omega⟩
     have xk:j<q.ops.length:=by omega
     obtain ⟨bo,oo,co,rfl,Vj,hro⟩:=ak1 j q.ops[j] (List.getElem?_eq_getElem xk)
     have u0:aL M ⟨bo,oo+j,none⟩=some (.int .i64 q.ops[j]):=by
      rw [hro,Nat.mul_one] at Vj;exact Vj.1
     have xb:IntKind.i64.wrap ((i:Int) - 1)=(j:Int):=by rw [eZ (by omega) (by omega)];omega
     have hgd:q.ops.getD (i - 1) 0=q.ops[j]:=by rw [hj];simp [xk]
     rw [hgd] at lX gq
     have hk:=ho3 q.ops[j] (List.getElem_mem xk)
     generalize q.ops[j]=k at u0 lX gq hk
     have v0:=ax bD u0
     have v1:=ax bD y1
     obtain gB | gB | gB | gB:k=1\/k=2\/k=3\/k=4:=by omega
     ·rw [gB] at v0 gq lX
      have K7:lN 1=[l7,qP]:=rfl
      rw [K7] at gq lX
      have hw:IntKind.i64.wrap (1 - 1)=0:=by decide
      simp +contextual only [go_sem,ak,sevalprocAttr, -Int.reduceAdd, -Int.reduceSub, -Int.reduceMul,aD,ht,v0,v1,hw,xb,xk]
      intro c1 Cr ry c2 vY CF c3' Ur Yx c4 CA ZC c5 AN YY
      refine aW cY fun M5 dy xD _=> ?_
      refine aW cY fun M6 dM Oz _=> ?_
      refine aW cY fun M7 iz Uv _=> ?_
      refine aW cY fun M8 jv FM _=> ?_
      refine aW cY fun M9 lK Ut _=> ?_
      have hqq:=Ut
      have qQ:=dy.trans (dM.trans (iz.trans (jv.trans lK)))
      refine ph [] (df (fun _ _=>cO) hqq (eQ [l7,qP]) rfl (by decide)) hT eD gq ?_
      rintro w M11 p11 a11 c11 pA kA qz
      simp +contextual only [go_sem,ak,sevalprocAttr, -Int.reduceAdd, -Int.reduceSub, -Int.reduceMul,aD,ht]
      refine lX _ _ _ ⟨rfl,?_,?_,?_,?_,?_,xn.put qz (bD.trans (qQ.trans pA)) kA⟩
      all_goals simp only [aD,ht,go_sem,ak,sevalprocAttr, -Int.reduceAdd, -Int.reduceSub, -Int.reduceMul]
     ·rw [gB] at v0 gq lX
      have K7:lN 2=[l7]:=rfl
      rw [K7] at gq lX
      have hw:IntKind.i64.wrap (2 - 1)=1:=by decide
      simp +contextual only [go_sem,ak,sevalprocAttr, -Int.reduceAdd, -Int.reduceSub, -Int.reduceMul,aD,ht,v0,v1,hw,xb,xk]
      intro c1 Cr ry c2 vY CF c3' Ur Yx c4 CA ZC c5 AN YY
      refine aW cY fun M5 dy xD _=> ?_
      refine aW cY fun M6 dM Oz _=> ?_
      refine aW cY fun M7 iz Uv _=> ?_
      refine aW cY fun M8 jv FM _=> ?_
      refine aW cY fun M9 lK Ut _=> ?_
      have hqq:=lK _ _ FM
      have qQ:=dy.trans (dM.trans (iz.trans (jv.trans lK)))
      refine ph [] (df (fun _ _=>cO) hqq (eQ [l7]) rfl (by decide)) hT eD gq ?_
      rintro w M11 p11 a11 c11 pA kA qz
      simp +contextual only [go_sem,ak,sevalprocAttr, -Int.reduceAdd, -Int.reduceSub, -Int.reduceMul,aD,ht]
      refine lX _ _ _ ⟨rfl,?_,?_,?_,?_,?_,xn.put qz (bD.trans (qQ.trans pA)) kA⟩
      all_goals simp only [aD,ht,go_sem,ak,sevalprocAttr, -Int.reduceAdd, -Int.reduceSub, -Int.reduceMul]
     ·rw [gB] at v0 gq lX
      have K7:lN 3=[jE,qP]:=rfl
      rw [K7] at gq lX
      have hw:IntKind.i64.wrap (3 - 1)=2:=by decide
      simp +contextual only [go_sem,ak,sevalprocAttr, -Int.reduceAdd, -Int.reduceSub, -Int.reduceMul,aD,ht,v0,v1,hw,xb,xk]
      intro c1 Cr ry c2 vY CF c3' Ur Yx c4 CA ZC c5 AN YY
      refine aW cY fun M5 dy xD _=> ?_
      refine aW cY fun M6 dM Oz _=> ?_
      refine aW cY fun M7 iz Uv _=> ?_
      refine aW cY fun M8 jv FM _=> ?_
      refine aW cY fun M9 lK Ut _=> ?_
      have hqq:=(jv.trans lK) _ _ Uv
      have qQ:=dy.trans (dM.trans (iz.trans (jv.trans lK)))
      refine ph [] (df (fun _ _=>cO) hqq (eQ [jE,qP]) rfl (by decide)) hT eD gq ?_
      rintro w M11 p11 a11 c11 pA kA qz
      simp +contextual only [go_sem,ak,sevalprocAttr, -Int.reduceAdd, -Int.reduceSub, -Int.reduceMul,aD,ht]
      refine lX _ _ _ ⟨rfl,?_,?_,?_,?_,?_,xn.put qz (bD.trans (qQ.trans pA)) kA⟩
      all_goals simp only [aD,ht,go_sem,ak,sevalprocAttr, -Int.reduceAdd, -Int.reduceSub, -Int.reduceMul]
     ·rw [gB] at v0 gq lX
      have K7:lN 4=[jE]:=rfl
      rw [K7] at gq lX
      have hw:IntKind.i64.wrap (4 - 1)=3:=by decide
      simp +contextual only [go_sem,ak,sevalprocAttr, -Int.reduceAdd, -Int.reduceSub, -Int.reduceMul,aD,ht,v0,v1,hw,xb,xk]
      intro c1 Cr ry c2 vY CF c3' Ur Yx c4 CA ZC c5 AN YY
      refine aW cY fun M5 dy xD _=> ?_
      refine aW cY fun M6 dM Oz _=> ?_
      refine aW cY fun M7 iz Uv _=> ?_
      refine aW cY fun M8 jv FM _=> ?_
      refine aW cY fun M9 lK Ut _=> ?_
      have hqq:=(iz.trans (jv.trans lK)) _ _ Oz
      have qQ:=dy.trans (dM.trans (iz.trans (jv.trans lK)))
      refine ph [] (df (fun _ _=>cO) hqq (eQ [jE]) rfl (by decide)) hT eD gq ?_
      rintro w M11 p11 a11 c11 pA kA qz
      simp +contextual only [go_sem,ak,sevalprocAttr, -Int.reduceAdd, -Int.reduceSub, -Int.reduceMul,aD,ht]
      refine lX _ _ _ ⟨rfl,?_,?_,?_,?_,?_,xn.put qz (bD.trans (qQ.trans pA)) kA⟩
      all_goals simp only [aD,ht,go_sem,ak,sevalprocAttr, -Int.reduceAdd, -Int.reduceSub, -Int.reduceMul]
   clear aD ht
   clear bD aZ eD
   clear M3 p3 a3 c3 e
   generalize bB A5 (if i=0 then [] else lN (q.ops.getD (i - 1) 0))=A6 at hr ⊢
   rintro e ds h ⟨rfl,e0,e1,e9,e10,e4,M4,p4,a4,c4,ke,ce,bH,rfl⟩
   obtain ⟨nN,hr⟩:=hr.step
   simp +contextual only [go_sem,ak,sevalprocAttr, -Int.reduceAdd, -Int.reduceSub, -Int.reduceMul,e0,e1,e9,e10,e4,ax ce y0,aF]
   refine acE [] (hg.ext ce) (kn ce _ _ G3) (cC.ext ce) dG hT ke nN ?_
   rintro w M5 p5 a5 c5 dy bE u4
   simp only [List.nil_append,aB,and_true] at bE ⊢
   simp +contextual only [go_sem,ak,sevalprocAttr, -Int.reduceAdd, -Int.reduceSub, -Int.reduceMul,e0,e1,e9,e10,e4]
   refine bW aF ?_ ?_ ⟨_,⟨M5,p5,a5,c5,u4,ce.trans dy,bE,rfl⟩,hr⟩
   ·simp only [aG,e0,e1,e9,go_sem,ak,sevalprocAttr, -Int.reduceAdd, -Int.reduceSub, -Int.reduceMul]
   ·simp only [e10,go_sem,ak,sevalprocAttr, -Int.reduceAdd, -Int.reduceSub, -Int.reduceMul,aC i (by omega)]
  ·have:i=q.parts.length:=by omega
   subst this
   simp +contextual only [go_sem,ak,sevalprocAttr, -Int.reduceAdd, -Int.reduceSub, -Int.reduceMul,aD,ht,aF]
   refine dW _ _ _ ⟨rfl,?_,?_,M3,p3,a3,c3,eD,bD,aZ,?_⟩
   ·simp only [aD,go_sem,ak,sevalprocAttr, -Int.reduceAdd, -Int.reduceSub, -Int.reduceMul]
   ·simp only [aD,go_sem,ak,sevalprocAttr, -Int.reduceAdd, -Int.reduceSub, -Int.reduceMul]
   ·have:=hr.1
    rw [List.drop_length] at this
    have:U=A5:=this
    rw [this]
 generalize bB aO (gl q.ops 0 q.parts)=A1 at hR ⊢
 rintro e ds h ⟨rfl,e0,e1,M2,p2,a2,c2,gV,aX,aQ,rfl⟩
 by_cases vG:0<=q.limit
 ·rw [DY,if_pos vG] at hR
  obtain ⟨gF,hR⟩:=hR.step
  obtain ⟨ft,hR⟩:=hR.step
  obtain ⟨hlm,hox⟩:=Ug vG
  obtain ⟨n,hn⟩:∃ n:Nat,q.limit=(n:Int):=⟨q.limit.toNat,by omega⟩
  rw [hn] at y3 hR
  simp only [Int.toNat_natCast] at hR
  simp +contextual only [go_sem,ak,sevalprocAttr, -Int.reduceAdd, -Int.reduceSub, -Int.reduceMul,e0,e1,ax aX y3]
  intro b4 iR cN
  refine cS [] [pz,Uo] hT gV rfl gF ?_
  rintro w M3 p3 a3 c3 bD aZ eD
  generalize bB A1 [pz,Uo]=A2 at hR ft aZ ⊢
  simp only [List.nil_append,aB,and_true] at aZ ⊢
  have qy:=aX.trans bD
  simp +contextual only [go_sem,ak,sevalprocAttr, -Int.reduceAdd, -Int.reduceSub, -Int.reduceMul,e0,e1,ax qy y2]
  refine sU [] (fun x _=>VD x) hox (hg.ext qy) (aN qy (br qy) Bc) hT eD ft ?_
  rintro w M4 p4 a4 c4 ce bH ke
  generalize bB A2 (lF (q.order.map bm))=A3 at hR bH ⊢
  simp only [List.nil_append,aB,and_true] at bH ⊢
  simp +contextual only [go_sem,ak,sevalprocAttr, -Int.reduceAdd, -Int.reduceSub, -Int.reduceMul,e0,e1,ax (qy.trans ce) y3]
  refine am (We n (by omega) T) ?_ (fun _ _ _ _ h=>h.elim)
  rintro w M5 dy bE ⟨rfl,rfl⟩
  simp +contextual only [go_sem,ak,sevalprocAttr, -Int.reduceAdd, -Int.reduceSub, -Int.reduceMul,e0,e1]
  intro b5 jH eO
  refine cS [] [zp,Lib.decDigits n] hT ke rfl hR.2 ?_
  rintro w M6 p6 a6 c6 dM bP DE
  simp +contextual only [go_sem,ak,sevalprocAttr, -Int.reduceAdd, -Int.reduceSub, -Int.reduceMul]
  refine aM aH.rfl' rfl rfl ⟨p6,a6,c6,DE,?_,?_⟩
  ·rw [hR.1];rfl
  ·rw [hR.1];rfl
 ·rw [DY,if_neg vG] at hR
  simp +contextual only [go_sem,ak,sevalprocAttr, -Int.reduceAdd, -Int.reduceSub, -Int.reduceMul,e0,e1,ax aX y3,vG]
  have hWA:W=A1:=hR.1
  refine aM aH.rfl' rfl rfl ⟨p2,a2,c2,gV,?_,?_⟩
  ·rw [hWA];rfl
  ·rw [hWA];rfl
def rJ (t:Int):Bs:=if t=2 then JZ else if t=3 then Vq else Ky
def pE:Bool ->List Co ->List Bs
 | _,[]=>[]
 | f,c::l=>(if f=true then [] else [ct])++([c.name,rJ c.ty]++pE false l)
def kS:Bool ->List V ->List Bs
 | _,[]=>[]
 | f,v::l=>[if f=true then dp else ct]++(ld v++kS false l)
def nn:Bool ->List (List V) ->List Bs
 | _,[]=>[]
 | f,r::l=>(if f=true then [] else [ct])++(kS true r++([cd]++nn false l))
def lH (s:Stm):List Bs:=
 if s.k=1 then [jN,vO,s.name,dp]++(pE true s.cols++[cd])
 else if s.k=2 then [jN,tV,s.name,xt]++im s.q
 else if s.k=3 then [pC,Ba,s.name,rC]++nn true s.rows
 else if s.k=4 then [pd,qI,s.name]++fR s.hasW fx s.wh
 else if s.k=5 then [BA]++im s.q else []
def kb (s:Stm):List Bs:=lH s++[qY]
def Rb (s:Stm):Prop:=(1<=s.k/\s.k<=5)/\(s.k=1 ->∀ c∈s.cols,2<=c.ty/\c.ty<=4)/\(s.k=2\/s.k=5 ->Kg s.q)/\(s.k=3 ->∀ r∈s.rows,∀ v∈r,cR v=0)/\(s.k=4 ->s.hasW=true ->wz s.wh)
theorem Ir {l:List Co}{i:Nat}(h:i<l.length)(f:Bool):pE f (l.drop i)=(if f=true then [] else [ct])++([l[i].name,rJ l[i].ty]++pE false (l.drop (i+1))):=by
 rw [List.drop_eq_getElem_cons h,pE]
theorem IX {l:List V}{i:Nat}(h:i<l.length)(f:Bool):kS f (l.drop i)=[if f=true then dp else ct]++(ld l[i]++kS false (l.drop (i+1))):=by
 rw [List.drop_eq_getElem_cons h,kS]
theorem HG {l:List (List V)}{i:Nat}(h:i<l.length)(f:Bool):nn f (l.drop i)=(if f=true then [] else [ct])++(kS true l[i]++([cd]++nn false (l.drop (i+1)))):=by
 rw [List.drop_eq_getElem_cons h,nn]
def StN (T:Tm)(M:aV)(b:Nat)(A:Bs)(h:Sh):Prop:=∃ N M' p a c,aH T N/\pK b p/\bG M M'/\M' b=none/\h=⟨N,M',[(b,[p,.slice a A.length c])],[(.slice a A.length c,5,1,Lib.byteCells A)]⟩
theorem F2 {F:Fi}{s:List Vc.Item}{e:dN}{ds:List Deferred}{dd:Option Nat}{N:Tm}{M:aV}{b bx ox:Nat}{cs:List Value}{a:Option Addr}{c:Nat}{p:Value}{aO:Bs}{x:Q}(L1:LL)(hg:jB M)(hr:RQ M x cs)(ha:At M bx ox cs)(ho:Kg x)(hN:N b=some 138)(hp:pK b p)(hl:aO.length+bI (im x)<=1000000000)
 (k:∀ u M' p' a' c',bG M M' ->aB M' (L1++[(b,[p',.slice a' (bB aO (im x)).length c'])]) ->pK b p' ->cB Tryz.prog F s (cV e dd u) ds ⟨N,M',L1++[(b,[p',.slice a' (bB aO (im x)).length c'])],[(.slice a' (bB aO (im x)).length c',5,1,Lib.byteCells (bB aO (im x)))]⟩ ⟨⟩):
 dT Tryz.prog F 89 [.pointer (some ⟨b,0,none⟩),.pointer (some ⟨bx,ox,none⟩)] dd s e ds ⟨N,M,L1++[(b,[p,.slice a aO.length c])],[(.slice a aO.length c,5,1,Lib.byteCells aO)]⟩ ⟨⟩:=by
 have h:=cM (P:=Tryz.prog) (F:=F) (s:=s) (e:=e) (ds:=ds) (dd:=dd) (N:=N) L1 (ng b p a aO.length c) [] [] (oe a aO.length c aO) [] (I9 hg hr ha ho hN hp hl)
  (fun u M' L' R' lC _ _ iQ hq=>by
   obtain ⟨p',a',c',vr,rfl,rfl⟩:=hq
   rw [List.append_nil] at iQ ⊢
   exact k u M' p' a' c' lC iQ vr)
  (fun _ _ _ _ _ _ _ _ h=>h.elim)
 rw [List.append_nil] at h
 exact h
theorem SO {T T':Tm}{M:aV}{L:LL}{R R':RR}{b:Nat}{cs:List Value}(ha:dz b L):Vc.lr ⟨T,M,L,R⟩ ⟨T',M,(b,cs)::L,R'⟩:=by
 have key:∀ (L:LL) (o:Nat) (sp),dz b L ->eb L ⟨b,o,sp⟩=none:=by
  intro L o sp
  induction L with
  | nil=>intro _;rfl
  | cons p l ih=>
   obtain ⟨k,ds⟩:=p
   intro h
   simp only [eb,if_neg h.1.1]
   exact ih h.2
 intro a v hv
 simp only [Sh.cell] at hv ⊢
 cases hm:aL M a with
 | some u=>rw [hm] at hv;exact hv
 | none=>
  rw [hm] at hv
  obtain ⟨k,o,sp⟩:=a
  by_cases hk:k=b
  ·subst hk
   rw [key L o sp ha] at hv
   simp at hv
  ·simp only [eb,if_neg hk]
   exact hv
theorem C1 {T T':Tm}{M:aV}{L1 L2:LL}{R:RR}(bN:aB M L1):Vc.lr ⟨T,fun _=>none,L1,[]⟩ ⟨T',M,L1++L2,R⟩:=by
 have key:∀ (L:LL) (k o:Nat) (sp:Option Nat) (v:Value),aB M L ->(eb L ⟨k,o,sp⟩).getD none=some v ->M k=none/\eb (L++L2) ⟨k,o,sp⟩=some (some v):=by
  intro L k o sp v
  induction L with
  | nil=>intro _ h;simp [eb] at h
  | cons p l ih=>
   obtain ⟨b,cs⟩:=p
   intro hn h
   simp only [aB] at hn
   by_cases hk:k=b
   ·subst hk
    refine ⟨hn.1,?_⟩
    simp only [List.cons_append,eb,if_true] at h ⊢
    simpa using h
   ·simp only [List.cons_append,eb,if_neg hk] at h ⊢
    exact ih hn.2 h
 intro a v hv
 obtain ⟨k,o,sp⟩:=a
 obtain ⟨h1,h2⟩:=key L1 k o sp v bN (by simpa [Sh.cell,aL] using hv)
 have:aL M ⟨k,o,sp⟩=none:=by cases sp<;>simp [aL,h1]
 simp only [Sh.cell,this,h2];rfl
theorem MY {s:Stm}{M:aV}{T:Tm}{b bx ox:Nat}{cs:List Value}{a:Option Addr}{c:Nat}{p:Value}{aO:Bs}(hg:jB M)(hs:o9 M s cs)(ha:At M bx ox cs)(ho:Rb s)(hT:T b=some 138)(hp:pK b p)(hl:aO.length+bI (kb s)<=1000000000):
 ep Tryz.prog 43 [.pointer (some ⟨b,0,none⟩),.pointer (some ⟨bx,ox,none⟩)] T M (ng b p a aO.length c) (oe a aO.length c aO) (lY b (bB aO (kb s))) bj:=by
 obtain ⟨cv,qv,rv,wv,mr,hqv,Bc,hwv,rfl⟩:=hs
 have Oz:=Ig hqv
 have ha0:At M bx ox ([.int .i64 s.k,st s.name,cv]++(qv++([rv,.bool s.hasW]++wv))):=ha
 obtain ⟨haA,haB⟩:=eJ.1 ha0
 obtain ⟨haQ,haC⟩:=eJ.1 haB
 rw [Oz] at haC
 obtain ⟨haD,haW⟩:=eJ.1 haC
 obtain ⟨y0,y1,y2⟩:=At3 haA
 replace haQ:At M bx (ox+3) qv:=haQ
 replace haD:At M bx (ox+7) [rv,.bool s.hasW]:=haD
 replace haW:At M bx (ox+9) wv:=haW
 obtain ⟨y7,y8⟩:=SN haD
 replace y8:aL M ⟨bx,ox+8,none⟩=some (.bool s.hasW):=y8
 clear haA haB haC haD ha0 ha
 obtain ⟨_,ca,cc,rfl,dw,_,SK⟩:=aI (by decide) (fun _ _=>ge) mr
 obtain ⟨_,ra,rc,rfl,hrl,_,Q8⟩:=aI (by decide) (fun _ _=>J8) Bc
 have hcb:=Aa mr
 have hrb:=Aa Bc
 obtain ⟨hk,ho1,WU,ho3,Ug⟩:=ho
 obtain ⟨W,hW⟩:∃ W,W=bB aO (kb s):=⟨_,rfl⟩
 have hR:mt W aO (kb s):=⟨hW,hl⟩
 rw [<- hW]
 clear hW hl
 unfold kb at hR
 obtain ⟨hl,hR⟩:=hR.step
 unfold ng oe
 refine aT mx alY Tryz.func43 rfl (by rw [ar9];exact Nat.le_of_ble_eq_true rfl) (dr:=anZ) (by kernel_rfl) asX ?_
 intro bN _
 simp only [aB,and_true] at bN
 simp +contextual only [go_sem,sevalprocAttr,y0]
 refine gE (fun e ds h=>ds=[]/\e 0=.pointer (some ⟨b,0,none⟩)/\StN T M b (bB aO (lH s)) h) (fun S' dW=> ?_) ?_
 ·have mT:mt (bB aO (lH s)) aO (lH s):=⟨rfl,hl⟩
  generalize bB aO (lH s)=U at dW mT
  unfold lH at mT
  obtain gB | gB | gB | gB | gB:s.k=1\/s.k=2\/s.k=3\/s.k=4\/s.k=5:=by omega
  ·rw [if_pos gB] at mT
   obtain ⟨gF,mT⟩:=mT.step
   simp +contextual only [go_sem,ak,sevalprocAttr,gB,y1]
   intro b3 fh bT
   refine cS [] [jN,vO,s.name,dp] hT hp rfl gF ?_
   rintro w M1 p1 a1 c1 aP bL iT
   generalize bB aO [jN,vO,s.name,dp]=A1 at mT bL ⊢
   simp only [List.nil_append,aB,and_true] at bL ⊢
   simp +contextual only [go_sem,ak,sevalprocAttr,ax aP y2]
   refine bh s.cols.length 28 [(0,.pointer (some ⟨b,0,none⟩)),(26,.slice ca s.cols.length cc),(27,.int .i64 (s.cols.length:Int))] (fun i e h=>∃ A',StN T M b A' h/\mt U A' (pE (decide (i=0)) (s.cols.drop i)++[cd])) 0 (by omega) (by simp only [aG,go_sem,ak,sevalprocAttr]) (by simp only [go_sem,ak,sevalprocAttr]) ⟨A1,⟨T,M1,p1,a1,c1,aH.rfl',iT,aP,bL,rfl⟩,mT⟩ ?_
   clear mT bL iT aP
   clear M1 p1 a1 c1
   rintro i e h hi aD ht ⟨A5,⟨N3,M3,p3,a3,c3,Af,eD,bD,aZ,rfl⟩,hr⟩
   simp only [aG] at aD
   by_cases aF:i<s.cols.length
   ·rw [Ir aF] at hr
    obtain ⟨bi,oi,ci,rfl,cC,G3⟩:=SK i s.cols[i] (List.getElem?_eq_getElem aF)
    have ni:=ho1 gB s.cols[i] (List.getElem_mem aF)
    generalize s.cols[i]=co at hr G3 ni
    rw [G3] at cC
    obtain ⟨w0,w1⟩:=SN (cC.ext bD)
    simp only [List.append_assoc] at hr
    obtain ⟨jJ,hr⟩:=hr.step
    simp +contextual only [go_sem,sevalprocAttr,aD,ht,aF]
    rw [bV,if_pos rfl]
    simp +contextual only [go_sem,sevalprocAttr,aD,ht,aF]
    rw [ri]
    simp +contextual only [go_sem,sevalprocAttr,aD,ht,aF,w0,w1]
    intro b5 T5 jH eO tG zk
    refine dI (fun e ds h=>ds=[]/\e 0=.pointer (some ⟨b,0,none⟩)/\e 26=.slice (some ⟨bi,oi,none⟩) s.cols.length cc/\e 27=.int .i64 (s.cols.length:Int)/\e 28=.int .i64 (i:Nat)/\e 5=.pointer (some ⟨b5,0,none⟩)/\∃ M' p a c,pK b p/\bG M M'/\M' b=none/\M' b5=none/\h=⟨T5,M',[(b5,[st co.name,.int .i64 co.ty]),(b,[p,.slice a (bB A5 (if decide (i=0)=true then [] else [ct])).length c])],[(.slice a (bB A5 (if decide (i=0)=true then [] else [ct])).length c,5,1,Lib.byteCells (bB A5 (if decide (i=0)=true then [] else [ct])))]⟩) (fun S2 lX=> ?_) ?_
    ·by_cases mm:i=0
     ·rw [if_pos (by simpa using mm)] at lX
      rw [bV,if_neg (by simpa using mm)]
      simp +contextual only [go_sem,sevalprocAttr]
      refine lX _ _ _ ⟨rfl,?_,?_,?_,?_,?_,M3,p3,a3,c3,eD,bD,aZ,jH,rfl⟩
      all_goals simp only [aD,ht,go_sem,ak,sevalprocAttr]
     ·rw [if_neg (by simpa using mm)] at lX jJ
      have h0:(0:Int)<((i:Nat):Int):=by omega
      rw [bV,if_pos (by simpa using h0)]
      simp +contextual only [go_sem,sevalprocAttr,aD]
      intro b4 iR cN
      refine cS [(b5,_)] [ct] (tG _ _ (Af _ _ hT)) eD rfl jJ ?_
      rintro w M4 p4 a4 c4 ce bH ke
      simp only [List.cons_append,List.nil_append,aB,and_true] at bH
      simp +contextual only [go_sem,sevalprocAttr]
      refine lX _ _ _ ⟨rfl,?_,?_,?_,?_,?_,M4,p4,a4,c4,ke,bD.trans ce,bH.2,bH.1,rfl⟩
      all_goals simp only [aD,ht,go_sem,ak,sevalprocAttr]
    generalize bB A5 (if decide (i=0)=true then [] else [ct])=A6' at hr ⊢
    clear aD ht aZ eD bD w0 w1 jH
    clear M3 p3 a3 c3 e
    rintro e ds h ⟨rfl,e0,e26,e27,e28,e5,M3,p3,a3,c3,eD,bD,aZ,jH,rfl⟩
    have Uq:¬ b=b5:=fun h=>eO.1 h.symm
    simp +contextual only [go_sem,ak,sevalprocAttr,e0,e26,e27,e28,e5,eO,Uq]
    refine eR ⟨T5,fun _=>none,[(b5,[st co.name,.int .i64 co.ty])],[]⟩ (gn jH) ?_
    simp +contextual only [go_sem,ak,sevalprocAttr,e0,e26,e27,e28,e5,eO,Uq]
    intro c1 Cr ry
    have hbc:¬ b5=c1:=fun h=>ry.1.1 h.symm
    refine ⟨⟨T5,fun _=>none,[(c1,[Value.string (bs [98,111,111,108]),Value.string (bs [105,110,116]),Value.string (bs [116,101,120,116])]),(b5,[st co.name,.int .i64 co.ty])],[]⟩,rA rfl hbc,fun _=>C1 (L1:=[(c1,_),(b5,_)]) ⟨Cr,jH,trivial⟩,?_⟩
    have BO:¬ b=c1:=fun h=>ry.2.1 h.symm
    obtain ⟨wj,hw,Fl⟩:∃ wj:Nat,(wj<3/\IntKind.i64.wrap (co.ty - 2)=(wj:Int))/\[JZ,Vq,Ky][wj]?=some (rJ co.ty):=by
     obtain h | h | h:co.ty=2\/co.ty=3\/co.ty=4:=by omega
     ·exact ⟨0,⟨by omega,by rw [h];rfl⟩,by rw [h];rfl⟩
     ·exact ⟨1,⟨by omega,by rw [h];rfl⟩,by rw [h];rfl⟩
     ·exact ⟨2,⟨by omega,by rw [h];rfl⟩,by rw [h];rfl⟩
    have hw3:((wj:Nat):Int)<3:=by omega
    have dw:[Value.string (bs [98,111,111,108]),Value.string (bs [105,110,116]),Value.string (bs [116,101,120,116])][wj]?=some (st (rJ co.ty)):=by
     have:[Value.string (bs [98,111,111,108]),Value.string (bs [105,110,116]),Value.string (bs [116,101,120,116])]=[JZ,Vq,Ky].map st:=rfl
     rw [this,List.getElem?_map,Fl];rfl
    simp +contextual only [go_sem,ak,sevalprocAttr,e0,e26,e27,e28,e5,eO,Uq,ry,Cr,jH,hbc,BO,hw,hw3,dw]
    intro c2 vY CF
    refine ⟨(C1 (L1:=[(c1,_),(b5,_)]) ⟨Cr,jH,trivial⟩).trans (SO (T:=T5) (R:=[]) ⟨CF.1,CF.2.1,CF.2.2,trivial⟩),?_⟩
    refine cS [(c1,_),(b5,_)] [co.name,rJ co.ty] (tG _ _ (Af _ _ hT)) eD rfl hr.step.1 ?_
    rintro w M4 p4 a4 c4 ce bH ke
    simp only [List.cons_append,List.nil_append,aB,and_true] at bH
    simp +contextual only [go_sem,ak,sevalprocAttr,e0,e26,e27,e28,e5]
    refine ⟨C1 (L1:=[(c1,_),(b5,_)]) ⟨bH.1,bH.2.1,trivial⟩,?_⟩
    refine bf (al (al (aA ⟨s.cols.length - (i+1),by omega,rfl,i+1,by omega,rfl,?_,?_,bB A6' [co.name,rJ co.ty],⟨T5,M4,p4,a4,c4,Af.trans tG,ke,bD.trans ce,bH.2.2,rfl⟩,?_⟩)))
    ·simp only [aG,e0,e26,e27,e28,go_sem,ak,sevalprocAttr]
    ·simp only [e28,go_sem,ak,sevalprocAttr,aC i (by omega)]
    ·simpa using hr.step.2
   ·have:i=s.cols.length:=by omega
    subst this
    rw [List.drop_length] at hr
    have hr:mt U A5 [cd]:=hr
    simp +contextual only [go_sem,ak,sevalprocAttr,aD,ht,aF]
    intro b4 iR cN
    refine cS [] [cd] (Af _ _ hT) eD rfl hr.2 ?_
    rintro w M4 p4 a4 c4 ce bH ke
    simp only [List.nil_append,aB,and_true] at bH ⊢
    simp +contextual only [go_sem,ak,sevalprocAttr]
    refine dW _ _ _ ⟨rfl,?_,N3,M4,p4,a4,c4,Af,ke,bD.trans ce,bH,?_⟩
    ·simp only [aD,go_sem,ak,sevalprocAttr]
    ·rw [hr.1]
  ·rw [if_neg (by omega),if_pos gB] at mT
   obtain ⟨gF,mT⟩:=mT.step
   simp +contextual only [go_sem,ak,sevalprocAttr,gB,y1]
   intro b3 fh bT
   refine cS [] [jN,tV,s.name,xt] hT hp rfl gF ?_
   rintro w M1 p1 a1 c1 aP bL iT
   generalize bB aO [jN,tV,s.name,xt]=A1 at mT bL ⊢
   simp only [List.nil_append,aB,and_true] at bL ⊢
   simp +contextual only [go_sem,ak,sevalprocAttr]
   refine F2 [] (hg.ext aP) (DB aP _ _ hqv) (haQ.ext aP) (WU (.inl gB)) hT iT mT.2 ?_
   rintro w M2 p2 a2 c2 aX aQ gV
   simp only [List.nil_append,aB,and_true] at aQ ⊢
   simp +contextual only [go_sem,ak,sevalprocAttr]
   refine dW _ _ _ ⟨rfl,?_,T,M2,p2,a2,c2,aH.rfl',gV,aP.trans aX,aQ,?_⟩
   ·simp only [go_sem,ak,sevalprocAttr]
   ·rw [mT.1]
  ·rw [if_neg (by omega),if_neg (by omega),if_pos gB] at mT
   obtain ⟨gF,mT⟩:=mT.step
   simp +contextual only [go_sem,ak,sevalprocAttr,gB,y1]
   intro b3 fh bT
   refine cS [] [pC,Ba,s.name,rC] hT hp rfl gF ?_
   rintro w M1 p1 a1 c1 aP bL iT
   generalize bB aO [pC,Ba,s.name,rC]=A1 at mT bL ⊢
   simp only [List.nil_append,aB,and_true] at bL ⊢
   simp +contextual only [go_sem,ak,sevalprocAttr,ax aP y7]
   refine bh s.rows.length 81 [(0,.pointer (some ⟨b,0,none⟩)),(79,.slice ra s.rows.length rc),(80,.int .i64 (s.rows.length:Int))] (fun i e h=>∃ A',StN T M b A' h/\mt U A' (nn (decide (i=0)) (s.rows.drop i))) 0 (by omega) (by simp only [aG,go_sem,ak,sevalprocAttr]) (by simp only [go_sem,ak,sevalprocAttr]) ⟨A1,⟨T,M1,p1,a1,c1,aH.rfl',iT,aP,bL,rfl⟩,mT⟩ ?_
   clear mT bL iT aP
   clear M1 p1 a1 c1
   rintro i e h hi aD ht ⟨A5,⟨N3,M3,p3,a3,c3,Af,eD,bD,aZ,rfl⟩,hr⟩
   simp only [aG] at aD
   by_cases aF:i<s.rows.length
   ·rw [HG aF] at hr
    obtain ⟨bi,oi,ci,rfl,cC,G3⟩:=Q8 i s.rows[i] (List.getElem?_eq_getElem aF)
    obtain ⟨sv,tW,rfl⟩:=G3
    have fg:=List.getElem_mem aF
    generalize s.rows[i]=row at hr tW fg
    have hvb:=Aa tW
    obtain ⟨_,va,vc,rfl,hvl,_,TH⟩:=aI (by decide) (fun _ _=>Hu) tW
    have w0:=Bu (cC.ext bD)
    rw [Nat.mul_one] at w0
    obtain ⟨jJ,hr⟩:=hr.step
    simp +contextual only [go_sem,sevalprocAttr,aD,ht,aF]
    rw [bV,if_pos rfl]
    simp +contextual only [go_sem,sevalprocAttr,aD,ht,aF]
    rw [ri]
    simp +contextual only [go_sem,sevalprocAttr,aD,ht,aF,w0]
    refine dI (fun e ds h=>ds=[]/\e 0=.pointer (some ⟨b,0,none⟩)/\e 79=.slice (some ⟨bi,oi,none⟩) s.rows.length rc/\e 80=.int .i64 (s.rows.length:Int)/\e 81=.int .i64 (i:Nat)/\e 7=.slice va row.length vc/\StN T M b (bB A5 (if decide (i=0)=true then [] else [ct])) h) (fun S2 lX=> ?_) ?_
    ·by_cases mm:i=0
     ·rw [if_pos (by simpa using mm)] at lX
      rw [bV,if_neg (by simpa using mm)]
      simp +contextual only [go_sem,sevalprocAttr]
      refine lX _ _ _ ⟨rfl,?_,?_,?_,?_,?_,N3,M3,p3,a3,c3,Af,eD,bD,aZ,rfl⟩
      all_goals simp only [aD,ht,go_sem,ak,sevalprocAttr]
     ·rw [if_neg (by simpa using mm)] at lX jJ
      have h0:(0:Int)<((i:Nat):Int):=by omega
      rw [bV,if_pos (by simpa using h0)]
      simp +contextual only [go_sem,sevalprocAttr,aD]
      intro b4 iR cN
      refine cS [] [ct] (Af _ _ hT) eD rfl jJ ?_
      rintro w M4 p4 a4 c4 ce bH ke
      simp +contextual only [go_sem,sevalprocAttr]
      refine lX _ _ _ ⟨rfl,?_,?_,?_,?_,?_,N3,M4,p4,a4,c4,Af,ke,bD.trans ce,bH.1,rfl⟩
      all_goals simp only [aD,ht,go_sem,ak,sevalprocAttr]
    generalize bB A5 (if decide (i=0)=true then [] else [ct])=A6' at hr ⊢
    clear aD ht aZ eD bD Af w0
    clear M3 p3 a3 c3 N3 e
    rintro e ds h ⟨rfl,e0,e79,e80,e81,e7,N3,M3,p3,a3,c3,Af,eD,bD,aZ,rfl⟩
    simp +contextual only [go_sem,ak,sevalprocAttr,e0,e79,e80,e81,e7]
    refine bh row.length 93 [(0,.pointer (some ⟨b,0,none⟩)),(79,.slice (some ⟨bi,oi,none⟩) s.rows.length rc),(80,.int .i64 (s.rows.length:Int)),(81,.int .i64 (i:Nat)),(91,.slice va row.length vc),(92,.int .i64 (row.length:Int))] (fun j e h=>∃ A',StN T M b A' h/\mt U A' (kS (decide (j=0)) (row.drop j)++([cd]++nn false (s.rows.drop (i+1))))) 0 (by omega) (by simp only [aG,e0,e79,e80,e81,e7,go_sem,ak,sevalprocAttr]) (by simp only [go_sem,ak,sevalprocAttr]) ⟨A6',⟨N3,M3,p3,a3,c3,Af,eD,bD,aZ,rfl⟩,hr⟩ ?_
    clear hr e0 e79 e80 e81 e7 aZ eD bD Af
    clear M3 p3 a3 c3 N3 e
    rintro j e h hj aD ht ⟨A6,⟨N6,M6,p6,a6,c6,Yc,DE,dM,bP,rfl⟩,hr⟩
    simp only [aG] at aD
    by_cases Ad:j<row.length
    ·rw [IX Ad] at hr
     simp only [List.append_assoc] at hr
     obtain ⟨u,hu⟩:∃ u,row[j]?=some u:=⟨_,List.getElem?_eq_getElem Ad⟩
     have hue:row[j]=u:=by rw [List.getElem?_eq_getElem Ad] at hu;injection hu
     rw [hue] at hr
     obtain ⟨bu,ou,cu,rfl,akc,hru⟩:=TH j u hu
     rw [hru] at akc
     obtain ⟨v0,v1,v2⟩:=At3 (akc.ext dM)
     obtain ⟨gj,hr⟩:=hr.step
     by_cases G8:j=0
     ·have abL:(if (1:Int)<((j:Nat):Int) then (1:Int) else ((j:Nat):Int))=0:=by rw [G8];rfl
      rw [if_pos (by simpa using G8)] at hr gj
      simp +contextual only [go_sem,ak,sevalprocAttr,aD,ht,Ad,v0,v1,v2,abL]
      intro b9 T9 rF je pG oP c1 Cr ry c2 vY CF
      refine cS [(c1,_),(b9,_)] [dp] (pG _ _ (Yc _ _ hT)) DE rfl gj ?_
      rintro w M7 p7 a7 c7 iz fN Rk
      generalize bB A6 [dp]=A7 at hr fN ⊢
      simp only [List.cons_append,List.nil_append,aB,and_true] at fN
      obtain ⟨gq,hr⟩:=hr.step
      simp +contextual only [go_sem,ak,sevalprocAttr,aD,ht,fN,je,ry]
      refine TL [(c1,_),(b9,_)] (v:=u) (hg.ext (dM.trans iz)) (ho3 gB row fg u (List.mem_of_getElem? hu)) (pG _ _ (Yc _ _ hT)) Rk gq ?_
      rintro w M8 p8 a8 c8 jv gS WI
      simp only [List.cons_append,List.nil_append,aB,and_true] at gS
      simp +contextual only [go_sem,ak,sevalprocAttr,aD,ht]
      refine bf (al (al (aA ⟨row.length - (j+1),by omega,rfl,j+1,by omega,rfl,?_,?_,bB A7 (ld u),⟨T9,M8,p8,a8,c8,Yc.trans pG,WI,dM.trans (iz.trans jv),gS.2.2,rfl⟩,?_⟩)))
      ·simp only [aG,aD,go_sem,ak,sevalprocAttr]
      ·simp only [ht,go_sem,ak,sevalprocAttr,aC j (by omega)]
      ·simpa using hr
     ·have abL:(if (1:Int)<((j:Nat):Int) then (1:Int) else ((j:Nat):Int))=1:=by
       split<;>omega
      rw [if_neg (by simpa using G8)] at hr gj
      simp +contextual only [go_sem,ak,sevalprocAttr,aD,ht,Ad,v0,v1,v2,abL]
      intro b9 T9 rF je pG oP c1 Cr ry c2 vY CF
      refine cS [(c1,_),(b9,_)] [ct] (pG _ _ (Yc _ _ hT)) DE rfl gj ?_
      rintro w M7 p7 a7 c7 iz fN Rk
      generalize bB A6 [ct]=A7 at hr fN ⊢
      simp only [List.cons_append,List.nil_append,aB,and_true] at fN
      obtain ⟨gq,hr⟩:=hr.step
      simp +contextual only [go_sem,ak,sevalprocAttr,aD,ht,fN,je,ry]
      refine TL [(c1,_),(b9,_)] (v:=u) (hg.ext (dM.trans iz)) (ho3 gB row fg u (List.mem_of_getElem? hu)) (pG _ _ (Yc _ _ hT)) Rk gq ?_
      rintro w M8 p8 a8 c8 jv gS WI
      simp only [List.cons_append,List.nil_append,aB,and_true] at gS
      simp +contextual only [go_sem,ak,sevalprocAttr,aD,ht]
      refine bf (al (al (aA ⟨row.length - (j+1),by omega,rfl,j+1,by omega,rfl,?_,?_,bB A7 (ld u),⟨T9,M8,p8,a8,c8,Yc.trans pG,WI,dM.trans (iz.trans jv),gS.2.2,rfl⟩,?_⟩)))
      ·simp only [aG,aD,go_sem,ak,sevalprocAttr]
      ·simp only [ht,go_sem,ak,sevalprocAttr,aC j (by omega)]
      ·simpa using hr
    ·have:j=row.length:=by omega
     subst this
     have hd:row.drop row.length=[]:=List.drop_length
     rw [hd] at hr
     have hr:mt U A6 ([cd]++nn false (s.rows.drop (i+1))):=by
      simpa [kS] using hr
     obtain ⟨gj,hr⟩:=hr.step
     simp +contextual only [go_sem,ak,sevalprocAttr,aD,ht,Ad]
     intro b9 rF je
     refine cS [] [cd] (Yc _ _ hT) DE rfl gj ?_
     rintro w M7 p7 a7 c7 iz fN Rk
     simp only [List.nil_append,aB,and_true] at fN ⊢
     simp +contextual only [go_sem,ak,sevalprocAttr,aD,ht]
     refine bW aF ?_ ?_ ⟨_,⟨N6,M7,p7,a7,c7,Yc,Rk,dM.trans iz,fN,rfl⟩,?_⟩
     ·simp only [aG,aD,go_sem,ak,sevalprocAttr]
     ·simp only [aD,go_sem,ak,sevalprocAttr,aC i (by omega)]
     ·simpa using hr
   ·have:i=s.rows.length:=by omega
    subst this
    simp +contextual only [go_sem,ak,sevalprocAttr,aD,ht,aF]
    refine dW _ _ _ ⟨rfl,?_,N3,M3,p3,a3,c3,Af,eD,bD,aZ,?_⟩
    ·simp only [aD,go_sem,ak,sevalprocAttr]
    ·have:=hr.1
     rw [List.drop_length] at this
     have:U=A5:=this
     rw [this]
  ·rw [if_neg (by omega),if_neg (by omega),if_neg (by omega),if_pos gB] at mT
   obtain ⟨gF,mT⟩:=mT.step
   simp +contextual only [go_sem,ak,sevalprocAttr,gB,y1]
   intro b3 fh bT
   refine cS [] [pd,qI,s.name] hT hp rfl gF ?_
   rintro w M1 p1 a1 c1 aP bL iT
   generalize bB aO [pd,qI,s.name]=A1 at mT bL ⊢
   simp only [List.nil_append,aB,and_true] at bL ⊢
   by_cases hd:s.hasW=true
   ·rw [fR,if_pos hd] at mT
    obtain ⟨ft,mT⟩:=mT.step
    rw [hd] at y8
    simp +contextual only [go_sem,ak,sevalprocAttr,ax aP y8]
    intro b4 iR cN
    refine cS [] [fx] hT iT rfl ft ?_
    rintro w M2 p2 a2 c2 aX aQ gV
    generalize bB A1 [fx]=A2 at mT aQ ⊢
    simp only [List.nil_append,aB,and_true] at aQ ⊢
    have h2:=aP.trans aX
    simp +contextual only [go_sem,ak,sevalprocAttr]
    refine iN [] (VD s.wh) (hg.ext h2) (br h2 _ _ hwv) (haW.ext h2) (Ug gB hd) hT gV (by decide) (by decide) mT.2 ?_
    rintro w M3 p3 a3 c3 bD aZ eD
    simp only [List.nil_append,aB,and_true] at aZ ⊢
    simp +contextual only [go_sem,ak,sevalprocAttr]
    refine dW _ _ _ ⟨rfl,?_,T,M3,p3,a3,c3,aH.rfl',eD,h2.trans bD,aZ,?_⟩
    ·simp only [go_sem,ak,sevalprocAttr]
    ·rw [mT.1]
   ·rw [fR,if_neg hd] at mT
    have hd':s.hasW=false:=by simpa using hd
    rw [hd'] at y8
    simp +contextual only [go_sem,ak,sevalprocAttr,ax aP y8]
    refine dW _ _ _ ⟨rfl,?_,T,M1,p1,a1,c1,aH.rfl',iT,aP,bL,?_⟩
    ·simp only [go_sem,ak,sevalprocAttr]
    ·rw [mT.1];rfl
  ·rw [if_neg (by omega),if_neg (by omega),if_neg (by omega),if_neg (by omega),if_pos gB] at mT
   obtain ⟨gF,mT⟩:=mT.step
   simp +contextual only [go_sem,ak,sevalprocAttr,gB,y1]
   intro b3 fh bT
   refine cS [] [BA] hT hp rfl gF ?_
   rintro w M1 p1 a1 c1 aP bL iT
   generalize bB aO [BA]=A1 at mT bL ⊢
   simp only [List.nil_append,aB,and_true] at bL ⊢
   simp +contextual only [go_sem,ak,sevalprocAttr]
   refine F2 [] (hg.ext aP) (DB aP _ _ hqv) (haQ.ext aP) (WU (.inr gB)) hT iT mT.2 ?_
   rintro w M2 p2 a2 c2 aX aQ gV
   simp only [List.nil_append,aB,and_true] at aQ ⊢
   simp +contextual only [go_sem,ak,sevalprocAttr]
   refine dW _ _ _ ⟨rfl,?_,T,M2,p2,a2,c2,aH.rfl',gV,aP.trans aX,aQ,?_⟩
   ·simp only [go_sem,ak,sevalprocAttr]
   ·rw [mT.1]
 generalize bB aO (lH s)=A1 at hR ⊢
 rintro e ds h ⟨rfl,e0,N2,M2,p2,a2,c2,CG,gV,aX,aQ,rfl⟩
 simp +contextual only [go_sem,ak,sevalprocAttr,e0]
 intro b4 iR cN
 refine cS [] [qY] (CG _ _ hT) gV rfl hR.2 ?_
 rintro w M3 p3 a3 c3 bD aZ eD
 simp +contextual only [go_sem,ak,sevalprocAttr]
 refine aM CG rfl rfl ⟨p3,a3,c3,eD,?_,?_⟩
 ·rw [hR.1];rfl
 ·rw [hR.1];rfl
def mV:Bs ->Bs | []=>[] | c::l=>if c=39 then 39::39::mV l else c::mV l
theorem uB:∀ (t:Bs),Lib.replaceK [39] [39,39] (Lib.count t [39]) t=mV t
 | []=>by
  rw [Lib.count_miss (by rw [Lib.index_one];rfl)];rfl
 | c::l=>by
  have ih:=uB l
  by_cases hc:c=39
  ·subst hc
   have hi:Lib.index (39::l) [39]=((0:Nat):Int):=by rw [Lib.index_one];rfl
   rw [Lib.count_hit (by simp) hi,Nat.add_comm,Lib.replaceK_hit _ _ _ _ _ hi]
   simp only [List.take_zero,List.length_cons,List.length_nil,Nat.zero_add,List.drop_succ_cons,List.drop_zero,List.nil_append,ih,mV,if_true]
   rfl
  ·have hx:Lib.index (c::l) [39]=if Lib.index l [39]== -1 then -1 else Lib.index l [39]+1:=by
    rw [Lib.index_one,Lib.index_one,Lib.indexByte,if_neg (by simpa using hc)]
   rw [mV,if_neg hc]
   by_cases hm:Lib.index l [39]= -1
   ·rw [Lib.count_miss hm] at ih
    rw [Lib.count_miss (by rw [hx,hm];rfl)]
    rw [<- ih];rfl
   ·have hge:=Lib.index_ge l [39]
    obtain ⟨i,hi⟩:∃ i:Nat,Lib.index l [39]=i:=⟨(Lib.index l [39]).toNat,by omega⟩
    have AE:Lib.index (c::l) [39]=((i+1:Nat):Int):=by
     rw [hx,if_neg (by simpa using hm),hi];rfl
    rw [Lib.count_hit (by simp) hi,Nat.add_comm,Lib.replaceK_hit _ _ _ _ _ hi] at ih
    rw [Lib.count_hit (by simp) AE,Nat.add_comm,Lib.replaceK_hit _ _ _ _ _ AE,<- ih]
    simp only [List.length_cons,List.length_nil,Nat.zero_add,List.drop_succ_cons,List.take_succ_cons,List.cons_append]
theorem xe (t:Bs):FU t=mV t:=by
 unfold FU Lib.replaceAll Lib.replace
 rw [if_neg (by decide)]
 have:Lib.replaceNum t [39] (-1)=Lib.count t [39]:=by unfold Lib.replaceNum;rw [if_pos (.inl (by decide))]
 rw [this,uB]
theorem Kt:∀ t:Bs,(mV t).length<=2*t.length
 | []=>Nat.le_refl _
 | c::l=>by
  have:=Kt l
  rw [mV]
  split<;>simp only [List.length_cons]<;>omega
theorem fX (s:Bs)(l:List Bs):bI (s::l)=s.length+1+bI l:=rfl
theorem Ls {v:V}(h:cR v=0):bI (ld v)<=140:=by
 unfold cR at h
 unfold ld
 split
 ·decide
 rename_i h1
 rw [if_neg h1] at h
 split
 ·split<;>decide
 rename_i h2
 rw [if_neg h2] at h
 split
 ·rename_i h4
  rw [if_neg (by omega),if_pos h4] at h
  have ht:v.t.length<=60:=by
   split at h
   ·omega
   ·omega
  have:=Kt v.t
  rw [xe]
  simp only [bI,List.length_cons,List.length_append,List.length_nil]
  omega
 rename_i h4
 split
 ·rename_i h3
  rw [if_pos h3] at h
  have hn:¬ (v.n>1000000000000000\/v.n< -1000000000000000):=by
   intro hh;rw [if_pos hh] at h;omega
  have hi:=Lib.itoa_length_le v.n (by omega) (by omega)
  have ht:(Lib.trimPrefix (Lib.itoa v.n) [45]).length<=(Lib.itoa v.n).length:=by
   unfold Lib.trimPrefix;split<;>simp
  rw [bz]
  have:bI (if v.n<0 then [iW] else [])<=2:=by split<;>decide
  simp only [bI]
  omega
 ·simp [bI]
theorem AY (k:Int):∀ (ls:List Lvl) (i:Nat),(∀ l∈ls,∀ s∈l.signs,s.length<=8) ->(pu k i ls).2.length<=8
 | [],i,_=>by simp [pu]
 | l::ls,i,h=>by
  rw [pu]
  split
  ·rw [List.getD_eq_getElem?_getD]
   cases hg:l.signs[(k - l.kind).toNat]? with
   | none=>simp
   | some s=>exact h l (List.mem_cons_self ..) s (List.mem_of_getElem? hg)
  ·exact AY k ls (i+1) fun l' ns=>h l' (List.mem_cons_of_mem _ ns)
theorem Oq (k:Int):(dm k).2.length<=8:=by
 unfold dm
 split
 ·decide
 split
 ·decide
 ·exact AY k fo 0 (by decide)
theorem aeU (k:Int):(Ah k).length<=8:=by
 unfold Ah
 split; · decide
 split; · decide
 split; · decide
 split; · decide
 split<;>decide
theorem KJ {c:Nat}:∀ (K:List (Int ->List Bs)) (f:Bool),(∀ g∈K,bI (g 1)<=c) ->bI (sB f K)<=K.length*(c+2)
 | [],f,_=>by simp [sB,bI]
 | g::K,f,h=>by
  have h1:=h g (List.mem_cons_self ..)
  have h2:=KJ K false fun g' hg=>h g' (List.mem_cons_of_mem _ hg)
  have h3:bI (if f=true then [] else [ct])<=2:=by split<;>decide
  rw [sB,bz,bz,List.length_cons,Nat.add_mul]
  omega
def VC:List (Int ->List Bs) ->Nat ->Prop
 | [],n=>True
 | f::l,n=>∃ a b,a+b<=n/\(∀ i,bI (f i)<=a)/\VC l b
theorem Fa:∀ {K:List (Int ->List Bs)} {n:Nat} (f:Bool),VC K n ->bI (sB f K)<=n+2*K.length
 | [],n,f,_=>by simp [sB,bI]
 | g::K,n,f,⟨a,b,h1,h2,h3⟩=>by
  have h4:=Fa false h3
  have h5:=h2 1
  have h6:bI (if f=true then [] else [ct])<=2:=by split<;>decide
  rw [sB,bz,bz,List.length_cons]
  omega
theorem Sz {k:Int}{v:V}{tab name:Bs}{K:List (Int ->List Bs)}{n:Nat}(hK:VC K n)(hl:(K.length:Int)=dE k)(hv:k=1 ->cR v=0)(hn:k=2 ->name.length<=12/\tab.length<=12):bI (nU k v tab name K)<=n+150:=by
 have bQ:K.length<=3:=by
  unfold dE at hl
  split at hl
  ·omega
  split at hl
  ·omega
  split at hl
  ·omega
  split at hl<;>omega
 have ht:=Oq k
 have hf:=aeU k
 have h0:∃ a b c:Nat,a+b+c<=n/\(∀ i,bI (K.getD 0 (fun _=>[]) i)<=a)/\(∀ i,bI (K.getD 1 (fun _=>[]) i)<=b)/\(∀ i,bI (K.getD 2 (fun _=>[]) i)<=c):=by
  match K,hK with
  | [],_=>exact ⟨0,0,0,by omega,by simp [bI],by simp [bI],by simp [bI]⟩
  | [f],⟨a,b,h1,h2,_⟩=>exact ⟨a,0,0,by omega,h2,by simp [bI],by simp [bI]⟩
  | [f,g],⟨a,b,h1,h2,a',b',h3,h4,_⟩=>exact ⟨a,a',0,by omega,h2,h4,by simp [bI]⟩
  | f::g::i::l,⟨a,b,h1,h2,a',b',h3,h4,a'',b'',h5,h6,_⟩=>exact ⟨a,a',a'',by omega,h2,h4,h6⟩
 obtain ⟨a,b,c,awZ,ha,hb,hc⟩:=h0
 unfold nU
 split
 ·rename_i h1
  have:=Ls (hv h1)
  omega
 split
 ·rename_i h2
  obtain ⟨sM,nJ⟩:=hn h2
  have:bI (if tab=[] then [] else [tab,AO])<=30:=by
   split
   ·decide
   ·simp only [bI];have:AO.length=1:=rfl;omega
  rw [bz]
  simp only [bI]
  omega
 split
 ·have:=ha 3
  rw [fX]
  have:lm.length=3:=rfl
  omega
 split
 ·have:=ha 5
  rw [bz]
  have:bI [NW,kP]=8:=rfl
  omega
 split
 ·have h1:=ha 1
  have h2:=hb 1
  have h3:=hc 1
  simp only [bz,fX]
  have:bI []=0:=rfl
  have:od.length=4:=rfl
  have:pM.length=4:=rfl
  have:rU.length=4:=rfl
  have:vX.length=4:=rfl
  have:Ob.length=3:=rfl
  omega
 split
 ·have:bI [pr,dp,gA,cd]=12:=rfl
  omega
 split
 ·have:=Fa true hK
  unfold lF
  simp only [bz,fX]
  have:bI []=0:=rfl
  have:dp.length=1:=rfl
  have:cd.length=1:=rfl
  omega
 ·have h1:=ha (if (dm k).1=4 then (dm k).1+1 else (dm k).1)
  have h2:=hb ((dm k).1+1)
  rw [bz,fX]
  omega
mutual
theorem GM:∀ (x:X),wz x ->∀ i,bI (bm x i)<=160*sD x
 | .mk k v tab name kids,h,i=>by
  rw [wz] at h
  obtain ⟨h1,h2,h3,h4,h5⟩:=h
  have h6:=Gr kids h5
  have h7:=Sz (k:=k) (v:=v) (tab:=tab) (name:=name) h6 (by rw [rE,List.length_map];exact h1) h3 h4
  rw [bm,sD]
  split
  ·rw [fX,bz]
   have:dp.length=1:=rfl
   have:bI [cd]=2:=rfl
   omega
  ·omega
theorem Gr:∀ (l:List X),Tb l ->VC (qj l) (160*pi l)
 | [],_=>trivial
 | x::l,h=>⟨160*sD x,160*pi l,by rw [pi];omega,GM x h.1,Gr l h.2⟩
end
theorem uW {x:X}(h:gX x=0)(i:Int):bI (bm x i)<=32000:=by
 have:=GM x (ll h).1 i
 have:=(ll h).2
 omega
theorem kM {a b:Int}(h:sj a b=0):a=0/\b=0:=by
 unfold sj at h
 split at h
 ·rename_i h1;exact (h1 h).elim
 ·rename_i h1;exact ⟨by omega,h⟩
theorem tF:∀ {l:List X},iq l=0 ->∀ x∈l,gX x=0
 | [],_,x,hx=>by cases hx
 | y::l,h,x,hx=>by
  obtain ⟨h1,h2⟩:=kM h
  rcases List.mem_cons.1 hx with rfl | hx
  ·exact h1
  ·exact tF h2 x hx
theorem rx {s:Bs}(h:eo [s]=0):s.length<=12:=by
 unfold eo at h
 split at h
 ·rename_i h1
  exact sx (by simpa using h1)
 ·omega
theorem BW {s:Bs}(h:em s=0):s.length<=12:=by
 unfold em at h
 split at h
 ·rename_i h1;rw [h1];simp
 ·exact rx h
theorem Si {s:Bs}(h:s.length<=12):bI (tM s)<=20:=by
 unfold tM
 split
 ·decide
 ·simp only [bI];have:xt.length=2:=rfl;omega
theorem wG:∀ {l:List It} (f:Bool),kW l=0 ->(∀ i∈l,wz i.x)/\bI (gt f l)<=l.length*32100
 | [],f,_=>⟨fun i hi=>(by cases hi),by simp [gt,bI]⟩
 | x::l,f,h=>by
  obtain ⟨h1,h2⟩:=kM h
  simp only [fT] at h1
  obtain ⟨h3,h4⟩:=kM h1
  obtain ⟨h4,_⟩:=kM h4
  obtain ⟨h5,h6⟩:=wG false h2
  refine ⟨fun i hi=> ?_,?_⟩
  ·rcases List.mem_cons.1 hi with rfl | hi
   ·exact (ll h3).1
   ·exact h5 i hi
  ·have h7:bI (if f=true then [] else [ct])<=2:=by split<;>decide
   have h8:=uW h3 1
   have h9:=Si (BW h4)
   rw [gt,Cl,bz,bz,bz,List.length_cons,Nat.add_mul]
   omega
theorem Mq (k:Int):bI (iS k)<=11:=by
 unfold iS
 split; · decide
 split; · decide
 split; · decide
 split<;>decide
theorem rW:∀ {l:List So} (n:Nat),eu n l=0 ->(∀ f∈l,1<=f.k/\f.k<=5)/\(∀ f∈(if n=0 then l.tail else l),wz f.on)/\bI (iG (decide (n=0)) l)<=l.length*32100
 | [],n,_=>⟨fun i hi=>(by cases hi),fun i hi=>(by split at hi<;>cases hi),by simp [iG,bI]⟩
 | x::l,n,h=>by
  rw [eu] at h
  obtain ⟨h1,h2⟩:=kM h
  obtain ⟨h3,h4,h5⟩:=rW (n+1) h2
  unfold i6 at h1
  split at h1
  ·omega
  rename_i hk
  have vA:1<=x.k/\x.k<=5:=⟨by have:=fun h=>hk (.inl (.inr h));omega,by have:=fun h=>hk (.inr h);omega⟩
  have hf:fT [eo [x.name],em x.as]=0/\(n≠0 ->gX x.on=0):=by
   split at h1
   ·rename_i hh
    rcases hh with hh | hh
    ·exact (hh h1).elim
    ·exact ⟨h1,fun h=>(h hh).elim⟩
   ·rename_i hh
    exact ⟨Classical.byContradiction fun hc=>hh (.inl hc),fun _=>h1⟩
  obtain ⟨JO,Kb⟩:=hf
  simp only [fT] at JO
  obtain ⟨sM,nJ⟩:=kM JO
  obtain ⟨nJ,_⟩:=kM nJ
  rw [if_neg (by omega)] at h4
  refine ⟨fun f hf=> ?_,fun f hf=> ?_,?_⟩
  ·rcases List.mem_cons.1 hf with rfl | hf
   ·exact vA
   ·exact h3 f hf
  ·split at hf
   ·exact h4 f hf
   ·rename_i Oy
    rcases List.mem_cons.1 hf with rfl | hf
    ·exact (ll (Kb Oy)).1
    ·exact h4 f hf
  ·have ha:=Si (BW nJ)
   have hb:=rx sM
   have hj:=Mq x.k
   have El:bI (if decide (n=0)=true then [] else [NV]++bm x.on 1)<=32003:=by
    by_cases Oy:n=0
    ·rw [if_pos (by simpa using Oy)];simp [bI]
    ·rw [if_neg (by simpa using Oy),bz]
     have:=uW (Kb Oy) 1
     have:bI [NV]=3:=rfl
     omega
   have he:(decide (n+1=0))=false:=by simp
   rw [he] at h5
   rw [iG,NY]
   simp only [bz,List.length_cons,Nat.add_mul,fX]
   have:bI []=0:=rfl
   omega
theorem vM {f:Bool}{w:Bs}{x:X}(hw:w.length<=8)(h:(if f=true then gX x else 0)=0):(f=true ->wz x)/\bI (fR f w x)<=32010:=by
 unfold fR
 split at h
 ·rename_i hf
  refine ⟨fun _=>(ll h).1,?_⟩
  have:=uW h 1
  rw [if_pos hf,bz,fX]
  have:bI []=0:=rfl
  omega
 ·rename_i hf
  refine ⟨fun h=>(hf h).elim,?_⟩
  rw [if_neg hf]
  simp [bI]
theorem DZ {l:List X}(h:iq l=0):(∀ x∈l,wz x)/\bI (lF (l.map bm))<=l.length*32002:=by
 refine ⟨fun x hx=>(ll (tF h x hx)).1,?_⟩
 have:=KJ (c:=32000) (l.map bm) true fun g hg=>by
  obtain ⟨x,hx,rfl⟩:=List.mem_map.1 hg
  exact uW (tF h x hx) 1
 rw [List.length_map] at this
 exact this
theorem ML {s:Se}(h:qu s=0):ym s/\bI (pP s)<=1000000:=by
 unfold qu at h
 split at h
 ·omega
 rename_i hm
 obtain ⟨h1,h2⟩:=kM h
 obtain ⟨h2,h3⟩:=kM h2
 obtain ⟨h3,h4⟩:=kM h3
 obtain ⟨h4,h5⟩:=kM h4
 have LE:¬ (((s.src.length:Int)<1\/4<(s.src.length:Int))\/8<(s.group.length:Int))/\(s.star=false ->¬ (8<(s.items.length:Int))):=by
  unfold mj at hm
  refine ⟨fun hc=>hm (by rw [decide_eq_true hc];rfl),fun hs hc=>hm ?_⟩
  rw [hs,decide_eq_true hc]
  simp
 obtain ⟨UD,hm2⟩:=LE
 have hs:=rW 0 h2
 have hw:=vM (w:=fx) (by decide) h3
 have hv:=vM (w:=iY) (by decide) h5
 have hg:=DZ h4
 have hi:(s.star=false ->∀ i∈s.items,wz i.x)/\bI (if s.star=true then [] else gt true s.items)<=8*32100:=by
  cases fG:s.star with
  | true=>exact ⟨fun h=>by simp at h,by simp [bI]⟩
  | false=>
   rw [fG,if_neg (by simp)] at h1
   have:=wG true h1
   have hm2:=hm2 fG
   refine ⟨fun _=>this.1,?_⟩
   rw [if_neg (by simp)]
   have h88:s.items.length<=8:=by omega
   exact Nat.le_trans this.2 (Nat.mul_le_mul_right _ h88)
 refine ⟨⟨hi.1,hs.1,hs.2.1,hw.1,hg.1,hv.1⟩,?_⟩
 have Y3:bI (lg s.group)<=10+8*32002:=by
  unfold lg
  split
  ·simp [bI]
  ·have:=hg.2
   have:s.group.length*32002<=8*32002:=Nat.mul_le_mul_right _ (by omega)
   rw [bz]
   have:bI [mR,Uo]=9:=rfl
   omega
 have j7:=hs.2.2
 have:s.src.length*32100<=4*32100:=Nat.mul_le_mul_right _ (by omega)
 have hd:bI (if s.distinct=true then [dg] else [])<=10:=by split<;>decide
 have fG:bI (if s.star=true then [gA] else [])<=10:=by split<;>decide
 have h6:bI [uY]=7:=rfl
 have e0:decide ((0:Nat)=0)=true:=rfl
 rw [e0] at j7
 unfold pP
 simp only [bz]
 have:=hi.2
 have:=hw.2
 have:=hv.2
 omega
theorem SI (k:Int):bI (lN k)<=12:=by
 unfold lN
 split; · decide
 split; · decide
 split<;>decide
theorem B8 {ops:List Int}:∀ {l:List Se} (n:Nat),jT ops n l=0 ->(∀ s∈l,ym s)/\(∀ j,n<=j ->j<n+l.length ->0<j ->1<=ops.getD (j - 1) 0/\ops.getD (j - 1) 0<=4)/\bI (gl ops n l)<=l.length*1000012
 | [],n,_=>⟨fun i hi=>(by cases hi),fun j h1 h2=>(by simp at h2;omega),by simp [gl,bI]⟩
 | x::l,n,h=>by
  rw [jT] at h
  split at h
  ·omega
  rename_i hk
  obtain ⟨h1,h2⟩:=kM h
  obtain ⟨h3,h4⟩:=ML h1
  obtain ⟨h5,h6,h7⟩:=B8 (n+1) h2
  refine ⟨fun s hs=> ?_,fun j hj1 OB G8=> ?_,?_⟩
  ·rcases List.mem_cons.1 hs with rfl | hs
   ·exact h3
   ·exact h5 s hs
  ·by_cases hjn:j=n
   ·subst hjn
    have:¬ (ops.getD (j - 1) 0<1\/4<ops.getD (j - 1) 0):=fun h=>hk ⟨G8,h⟩
    omega
   ·exact h6 j (by omega) (by rw [List.length_cons] at OB;omega) G8
  ·have hs:bI (if n=0 then [] else lN (ops.getD (n - 1) 0))<=12:=by
    split
    ·decide
    ·exact SI _
   rw [gl,bz,bz,List.length_cons,Nat.add_mul]
   omega
theorem yh {n:Nat}(h:n<=50):(Lib.decDigits n).length<=21:=by
 have:=Lib.itoa_length_le (n:Int) (by omega) (by omega)
 unfold Lib.itoa at this
 rw [if_neg (by omega)] at this
 exact this
theorem wt {q:Q}(h:gR q=0):Kg q/\bI (im q)<=4300000:=by
 unfold gR at h
 split at h
 ·omega
 rename_i hm
 split at h
 ·omega
 rename_i hl
 obtain ⟨h1,h2⟩:=kM h
 obtain ⟨h3,h4,h5⟩:=B8 0 h1
 unfold fl at hm
 rw [decide_eq_true_eq] at hm
 have hp:¬ ((q.parts.length:Int)<1\/4<(q.parts.length:Int)):=fun h=>hm (.inl (.inl h))
 have ho:(q.ops.length:Int)=(q.parts.length:Int) - 1:=Classical.byContradiction fun h=>hm (.inl (.inr h))
 have hd:0<=q.limit ->¬ ((q.order.length:Int)<1\/8<(q.order.length:Int)):=fun h h'=>hm (.inr ⟨h,h'⟩)
 refine ⟨⟨h3,by omega,fun k hk=> ?_,fun hq=>⟨by omega,?_⟩⟩,?_⟩
 ·obtain ⟨j,hj,rfl⟩:=List.mem_iff_getElem.1 hk
  have:=h4 (j+1) (by omega) (by omega) (by omega)
  rw [Nat.add_sub_cancel,List.getD_eq_getElem?_getD,List.getElem?_eq_getElem hj] at this
  exact this
 ·unfold lA at h2
  rw [if_neg (by omega)] at h2
  exact (DZ h2).1
 ·have vG:bI (DY q)<=260000:=by
   unfold DY
   split
   ·rename_i hq
    unfold lA at h2
    rw [if_neg (by omega)] at h2
    have:=(DZ h2).2
    have:=hd hq
    have:q.order.length*32002<=8*32002:=Nat.mul_le_mul_right _ (by omega)
    have:=yh (n:=q.limit.toNat) (by omega)
    simp only [bz,fX]
    have:bI []=0:=rfl
    have:pz.length=5:=rfl
    have:Uo.length=2:=rfl
    have:zp.length=5:=rfl
    omega
   ·simp [bI]
  have:q.parts.length*1000012<=4*1000012:=Nat.mul_le_mul_right _ (by omega)
  rw [im,bz]
  omega
theorem V1 (t:Int):(rJ t).length<=4:=by
 unfold rJ
 split; · decide
 split<;>decide
theorem EI:∀ {l:List Co} (f:Bool),ur l=0 ->(∀ c∈l,2<=c.ty/\c.ty<=4)/\bI (pE f l)<=l.length*30
 | [],f,_=>⟨fun i hi=>(by cases hi),by simp [pE,bI]⟩
 | c::l,f,h=>by
  obtain ⟨h1,h2⟩:=kM h
  split at h2
  ·omega
  rename_i ht
  obtain ⟨h3,h4⟩:=EI false h2
  refine ⟨fun d hd=> ?_,?_⟩
  ·rcases List.mem_cons.1 hd with rfl | hd
   ·omega
   ·exact h3 d hd
  ·have h7:bI (if f=true then [] else [ct])<=2:=by split<;>decide
   have h8:=rx h1
   have h9:=V1 c.ty
   rw [pE,bz,bz,List.length_cons,Nat.add_mul]
   simp only [bI]
   omega
theorem Gz:∀ {l:List V} (f:Bool),ul l=0 ->(∀ v∈l,cR v=0)/\bI (kS f l)<=l.length*142
 | [],f,_=>⟨fun i hi=>(by cases hi),by simp [kS,bI]⟩
 | v::l,f,h=>by
  obtain ⟨h1,h2⟩:=kM h
  obtain ⟨h3,h4⟩:=Gz false h2
  refine ⟨fun d hd=> ?_,?_⟩
  ·rcases List.mem_cons.1 hd with rfl | hd
   ·exact h1
   ·exact h3 d hd
  ·have h7:bI [if f=true then dp else ct]<=2:=by cases f<;>decide
   have h8:=Ls h1
   rw [kS,bz,bz,List.length_cons,Nat.add_mul]
   omega
theorem Fy:∀ {l:List (List V)} (f:Bool),qh l=0 ->(∀ r∈l,∀ v∈r,cR v=0)/\bI (nn f l)<=l.length*1200
 | [],f,_=>⟨fun i hi=>(by cases hi),by simp [nn,bI]⟩
 | r::l,f,h=>by
  rw [qh] at h
  split at h
  ·omega
  rename_i hr
  obtain ⟨h1,h2⟩:=kM h
  obtain ⟨h3,h4⟩:=Fy false h2
  obtain ⟨h5,h6⟩:=Gz true h1
  refine ⟨fun d hd=> ?_,?_⟩
  ·rcases List.mem_cons.1 hd with rfl | hd
   ·exact h5
   ·exact h3 d hd
  ·have h7:bI (if f=true then [] else [ct])<=2:=by split<;>decide
   have:r.length*142<=8*142:=Nat.mul_le_mul_right _ (by omega)
   have h8:bI [cd]=2:=rfl
   rw [nn,bz,bz,bz,List.length_cons,Nat.add_mul]
   omega
theorem EN {s:Stm}(h:mi s=0):Rb s/\bI (kb s)<=5000000:=by
 unfold mi at h
 split at h
 ·omega
 rename_i hk
 have vA:1<=s.k/\s.k<=5:=by omega
 have ait:bI [qY]=2:=rfl
 rw [kb,bz,ait]
 by_cases h5:s.k=5
 ·rw [if_pos h5] at h
  obtain ⟨h1,h2⟩:=wt h
  refine ⟨⟨vA,fun h=>by omega,fun _=>h1,fun h=>by omega,fun h=>by omega⟩,?_⟩
  unfold lH
  rw [if_neg (by omega),if_neg (by omega),if_neg (by omega),if_neg (by omega),if_pos h5,bz]
  have:bI [BA]=5:=rfl
  omega
 rw [if_neg h5] at h
 obtain ⟨hn,h⟩:=kM h
 have hn:=rx hn
 have:bI []=0:=rfl
 by_cases h2:s.k=2
 ·rw [if_pos h2] at h
  obtain ⟨h1,h3⟩:=wt h
  refine ⟨⟨vA,fun h=>by omega,fun _=>h1,fun h=>by omega,fun h=>by omega⟩,?_⟩
  unfold lH
  rw [if_neg (by omega),if_pos h2,bz]
  simp only [fX]
  have:jN.length=6:=rfl
  have:tV.length=4:=rfl
  have:xt.length=2:=rfl
  omega
 rw [if_neg h2] at h
 by_cases h1:s.k=1
 ·rw [if_pos h1] at h
  split at h
  ·omega
  rename_i hl
  obtain ⟨h3,h4⟩:=EI true h
  refine ⟨⟨vA,fun _=>h3,fun h=>by omega,fun h=>by omega,fun h=>by omega⟩,?_⟩
  have:s.cols.length*30<=8*30:=Nat.mul_le_mul_right _ (by omega)
  unfold lH
  rw [if_pos h1,bz,bz]
  simp only [fX]
  have:jN.length=6:=rfl
  have:vO.length=5:=rfl
  have:dp.length=1:=rfl
  have:cd.length=1:=rfl
  omega
 rw [if_neg h1] at h
 by_cases h3:s.k=3
 ·rw [if_pos h3] at h
  split at h
  ·omega
  rename_i hl
  obtain ⟨h3',h4⟩:=Fy true h
  refine ⟨⟨vA,fun h=>by omega,fun h=>by omega,fun _=>h3',fun h=>by omega⟩,?_⟩
  have:s.rows.length*1200<=400*1200:=Nat.mul_le_mul_right _ (by omega)
  unfold lH
  rw [if_neg h1,if_neg h2,if_pos h3,bz]
  simp only [fX]
  have:pC.length=6:=rfl
  have:Ba.length=4:=rfl
  have:rC.length=6:=rfl
  omega
 rw [if_neg h3] at h
 have h4:s.k=4:=by omega
 rw [if_pos h4] at h
 have hw:=vM (w:=fx) (by decide) h
 refine ⟨⟨vA,fun h=>by omega,fun h=>by omega,fun h=>by omega,fun _=>hw.1⟩,?_⟩
 unfold lH
 rw [if_neg h1,if_neg h2,if_neg h3,if_pos h4,bz]
 simp only [fX]
 have:pd.length=6:=rfl
 have:qI.length=4:=rfl
 have:=hw.2
 omega
theorem Ep:∀ {l:List Stm} {i:Nat},(nx i l).1=0 ->∀ s∈l,mi s=0
 | [],_,_,s,hs=>by cases hs
 | x::l,i,h,s,hs=>by
  rw [nx] at h
  split at h
  ·rename_i h1;exact (h1 h).elim
  rename_i h1
  rcases List.mem_cons.1 hs with rfl | hs
  ·omega
  ·exact Ep h s hs
theorem vo {l:List Stm}(h:(eH l).1=0):l.length<=60/\∀ s∈l,mi s=0:=by
 unfold eH at h
 split at h
 ·simp at h
 ·exact ⟨by omega,Ep h⟩
def hZ:List Stm ->List Bs
 | []=>[]
 | s::l=>kb s++hZ l
theorem Cz:∀ {l:List Stm},(∀ s∈l,mi s=0) ->bI (hZ l)<=l.length*5000000
 | [],_=>by simp [hZ,bI]
 | s::l,h=>by
  have h1:=(EN (h s (List.mem_cons_self ..))).2
  have h2:=Cz fun t ht=>h t (List.mem_cons_of_mem _ ht)
  rw [hZ,bz,List.length_cons,Nat.add_mul]
  omega
def lw (l:List Stm):Bs×Int×Int:=
 if (eH l).1≠0 then ([],(eH l).1,((eH l).2:Int))
 else if 4000<((bB [] (hZ l)).length:Int) then ([],4,0) else (bB [] (hZ l),0,0)
theorem GH {l:List Stm}{i:Nat}(h:i<l.length):hZ (l.drop i)=kb l[i]++hZ (l.drop (i+1)):=by
 rw [List.drop_eq_getElem_cons h,hZ]
theorem Mg (aO:Bs)(s:Stm):bB aO (kb s)≠[]:=by
 rw [kb,dR]
 intro h
 have:bB (bB aO (lH s)) [qY]=pQ (bB aO (lH s))++qY:=rfl
 rw [this] at h
 have:=congrArg List.length h
 rw [List.length_append] at this
 have:qY.length=1:=rfl
 simp at*
theorem acV {F:Fi}{s:List Vc.Item}{e:dN}{ds:List Deferred}{dd:Option Nat}{N:Tm}{M:aV}{b bx ox:Nat}{cs:List Value}{a:Option Addr}{c:Nat}{p:Value}{aO:Bs}{x:Stm}(L2:LL)(hg:jB M)(hr:o9 M x cs)(ha:At M bx ox cs)(ho:Rb x)(hN:N b=some 138)(hp:pK b p)(hl:aO.length+bI (kb x)<=1000000000)
 (k:∀ u M' p' a' c',bG M M' ->aB M' ((b,[p',.slice a' (bB aO (kb x)).length c'])::L2) ->pK b p' ->cB Tryz.prog F s (cV e dd u) ds ⟨N,M',(b,[p',.slice a' (bB aO (kb x)).length c'])::L2,[(.slice a' (bB aO (kb x)).length c',5,1,Lib.byteCells (bB aO (kb x)))]⟩ ⟨⟩):
 dT Tryz.prog F 43 [.pointer (some ⟨b,0,none⟩),.pointer (some ⟨bx,ox,none⟩)] dd s e ds ⟨N,M,(b,[p,.slice a aO.length c])::L2,[(.slice a aO.length c,5,1,Lib.byteCells aO)]⟩ ⟨⟩:=by
 have h:=cM (P:=Tryz.prog) (F:=F) (s:=s) (e:=e) (ds:=ds) (dd:=dd) (N:=N) [] (ng b p a aO.length c) L2 [] (oe a aO.length c aO) [] (MY hg hr ha ho hN hp hl)
  (fun u M' L' R' lC _ _ iQ hq=>by
   obtain ⟨p',a',c',vr,rfl,rfl⟩:=hq
   exact k u M' p' a' c' lC iQ vr)
  (fun _ _ _ _ _ _ _ _ h=>h.elim)
 exact h
theorem TO {M:aV}{l:List Stm}{sv:Value}(hg:jB M)(hs:RS M (o9 M) 16 l sv):Ct Tryz.prog 19 [sv] M [] [] (fun r _ _ _=>r=.tuple ⟨[st (lw l).1,OJ (lw l).2.1 (lw l).2.2]⟩) bj:=by
 intro T
 have oD:=hs
 obtain ⟨_,sa,sc,rfl,j7,_,alE⟩:=aI (by decide) (fun _ _=>kg) oD
 have TW:=Aa hs
 obtain ⟨W,hW⟩:∃ W,W=lw l:=⟨_,rfl⟩
 rw [<- hW]
 unfold lw at hW
 refine aT mx Zg Tryz.func19 rfl (by rw [auf];exact Nat.le_of_ble_eq_true rfl) (dr:=ah7) (by kernel_rfl) asN ?_
 intro _ _
 simp +contextual only [go_sem,sevalprocAttr]
 intro b3 T3 fh fD ja
 refine am (ED hg.1 hs T3) ?_ (fun _ _ _ _ h=>h.elim)
 rintro v M1 aP bL rfl
 simp only [aB,and_true] at bL
 simp +contextual only [go_sem,sevalprocAttr,OJ]
 intro b4 T4 iR cN j6 pp
 by_cases hw:(eH l).1=0
 ·rw [if_neg (fun h=>h hw)] at hW
  obtain ⟨TI,dG⟩:=vo hw
  have bQ:=Cz dG
  simp +contextual only [go_sem,ak,sevalprocAttr,hw,iR,fh,cN,bL]
  intro bw Tw hbw aca hTw amf
  refine bA l.length 17 [(3,.pointer (some ⟨b3,0,none⟩)),(0,.slice sa l.length sc),(5,.pointer (some ⟨bw,0,none⟩)),(16,.int .i64 (l.length:Int))] (fun i e h=>∃ M' A p a c,(i=0 ->a=none/\c=0/\A=[])/\(0<i ->A≠[])/\bB A (hZ (l.drop i))=bB [] (hZ l)/\A.length+bI (hZ (l.drop i))<=300000000/\pK bw p/\bG M1 M'/\M' bw=none/\M' b4=none/\M' b3=none/\h=⟨Tw,M',[(bw,[p,.slice a A.length c]),(b4,[.int .i64 (eH l).1,.int .i64 (eH l).2]),(b3,[.int .i64 0,.int .i64 0])],[(.slice a A.length c,5,1,Lib.byteCells A)]⟩) 0 (by omega) (by simp only [aG,go_sem,ak,sevalprocAttr]) (by simp only [go_sem,ak,sevalprocAttr]) ?_ ?_
  ·exact iu (aA ⟨M1,[],.pointer none,none,0,fun _=>⟨rfl,rfl,rfl⟩,fun h=>absurd h (by omega),rfl,by rw [List.drop_zero];simp only [List.length_nil];omega,.inl rfl,bG.rfl',hbw,iR,bL,rfl⟩)
  ·rintro i e h hi aD ht ⟨M2,A,p,a,c,G9,ZG,kF,xN,hp,aX,nw,n4,n3,rfl⟩
   simp only [aG] at aD
   have hT:=fD.trans (j6.trans hTw)
   by_cases aF:i<l.length
   ·obtain ⟨bi,oi,ci,rfl,cC,G3⟩:=alE i l[i] (List.getElem?_eq_getElem aF)
    have hos:=EN (dG l[i] (List.getElem_mem aF))
    rw [GH aF] at kF xN
    rw [dR] at kF
    rw [bz] at xN
    generalize l[i]=s at kF xN G3 hos
    have h2:=aP.trans aX
    simp +contextual only [go_sem,ak,sevalprocAttr,aD,ht,aF]
    refine acV _ (hg.ext h2) (nQ h2 _ _ G3) (cC.ext h2) hos.1 amf hp (by omega) ?_
    rintro w M3 p3 a3 c3 bD aZ eD
    simp only [aB,and_true] at aZ
    simp +contextual only [go_sem,ak,sevalprocAttr,aD,ht]
    have jo:=cE (kb s) A
    refine bW aF ?_ ?_ ⟨M3,_,p3,a3,c3,fun h=>absurd h (by omega),fun _=>Mg A s,kF,by omega,eD,aX.trans bD,aZ.1,aZ.2.1,aZ.2.2,rfl⟩
    ·simp only [aG,aD,go_sem,ak,sevalprocAttr]
    ·simp only [ht,go_sem,ak,sevalprocAttr,aC i (by omega)]
   ·have:i=l.length:=by omega
    subst this
    rw [List.drop_length] at kF xN
    have kF:A=bB [] (hZ l):=kF
    have rP:A=[] ->Value.slice a A.length c=.slice none 0 0:=by
     intro h
     by_cases h0:l.length=0
     ·obtain ⟨h1,h2,h3⟩:=G9 h0;rw [h1,h2,h3];rfl
     ·exact absurd h (ZG (by omega))
    simp +contextual only [go_sem,ak,sevalprocAttr,aD,ht,aF]
    refine cM [] [(bw,_)] [(b4,_),(b3,_)] [] [] [_] (Dy Tw) ?_ (fun _ _ _ _ _ _ _ _ h=>h.elim)
    rintro v M3 L3 R3 bD _ _ aZ ⟨rfl,rfl,rfl,rfl⟩
    simp only [List.cons_append,List.nil_append,aB,and_true] at aZ
    rw [<- kF] at hW
    by_cases nV:4000<(A.length:Int)
    ·rw [if_pos nV] at hW
     simp +contextual only [go_sem,ak,sevalprocAttr,aD,nV,aZ,cN,aca]
     subst hW
     exact az hT rfl
    ·rw [if_neg nV] at hW
     simp +contextual only [go_sem,ak,sevalprocAttr,aD,nV,aZ,cN,aca]
     refine cM [] [(bw,_)] [(b4,_),(b3,_)] [] [_] [] (Bx amf (by omega) rP) ?_ (fun _ _ _ _ _ _ _ _ h=>h.elim)
     rintro v M4 L4 R4 ce _ _ bH ⟨rfl,rfl,⟨v',rfl⟩,rfl⟩
     simp only [List.cons_append,List.nil_append,aB,and_true] at bH
     simp +contextual only [go_sem,ak,sevalprocAttr,aD,bH,cN,aca]
     subst hW
     exact az hT rfl
 ·rw [if_pos hw] at hW
  simp +contextual only [go_sem,ak,sevalprocAttr,hw,iR,fh,cN,bL]
  have n3:=bL
  refine eR ⟨T4,fun _=>none,[(b4,[.int .i64 (eH l).1,.int .i64 (eH l).2])],[]⟩ (gn iR) ?_
  simp +contextual only [go_sem,ak,sevalprocAttr,hw,iR,fh,cN,bL]
  subst hW
  exact az (fD.trans j6) rfl
end Go.Proofs.YtmccpbcbofhmlaaGreatDoor

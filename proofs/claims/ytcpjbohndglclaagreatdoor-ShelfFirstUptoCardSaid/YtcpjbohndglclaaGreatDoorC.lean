import Derived.Test.YtcpjbohndglclaaGreatDoorB
import Derived.Test.YtcpjbohndglclaaGreatDoorRows
import Derived.Test.YtcpjbohndglclaaGreatDoorCards
import Derived.Test.YtcpjbohndglclaaGreatDoorTie
import Derived.ProofKit
import Derived.OpenShut
import Derived.Deep.DeepHandedRow
import Derived.Deep.DeepWitnessRowRef
import Derived.Lib.LaidTab
import Derived.LaidSub
import Derived.LaidLaws
import Derived.Shelf.Vars
import Derived.ChangeMaps5
import Derived.ReadAgain
import Derived.Lib.Space
set_option linter.all false
namespace Go.Proofs.YtcpjbohndglclaaGreatDoor
open Go Vc
set_option maxRecDepth 100000
theorem QM {H:Type}(d:DataW H):1<=Rows.uptoBulk d:=by
 cases d with
 | lit l=>cases l<;>simp [Rows.uptoBulk]
 | _=>simp [Rows.uptoBulk]
theorem ww {H:Type}:∀ (l:List (DataW H)),l.length<=Rows.uptoBulkAll l
 | []=>by simp [Rows.uptoBulkAll]
 | d::l=>by
  have:=QM d
  have:=ww l
  simp only [Rows.uptoBulkAll,List.length_cons]
  omega
theorem E6 {H:Type}:∀ {l:List (DataW H)} {d:DataW H},d∈l ->Rows.uptoBulk d<=Rows.uptoBulkAll l
 | a::l,d,h=>by
  simp only [Rows.uptoBulkAll]
  rcases lQ h with rfl | h
  ·omega
  ·have:=E6 h;omega
section
variable {H:Type} {enc:TypeId×Value ->H} {W:World}
def Qo (enc:TypeId×Value ->H)(P:Program)(W:World)(n:Nat)(t:TypeId){α:Type}(r:α ->List Value ->Prop):Prop:=
 ∀ (sp:Nat ->Bool) m,m<=n ->∀ cs (x:DataW H×List MemPlace),DataW.trod enc P W 0 sp true m t cs=some x ->Rows.uptoBulk x.1<=1048576 ->∃ a,r a cs
theorem GI {P:Program}{α:Type}{r:α ->List Value ->Prop}{n sz:Nat}{t e:TypeId}(hr:Qo enc P W n e r)(ht:P.underlying t=some (.slice e))(ed:P.cellsOf e=sz)(dK:0<sz/\sz<=4000){sp:Nat ->Bool}{m:Nat}(hm:m<=n+1){cs:List Value}{x:DataW H×List MemPlace}
 (h:DataW.trod enc P W 0 sp true m t cs=some x) (hw:Rows.uptoBulk x.1<=1048576):∃ l v,cs=[v]/\RS (ms W) r sz l v/\l.length<1048576:=by
 rcases DataW.trod_slice ht h with ⟨rfl,rfl⟩ | ⟨a,len,cap,elems,rest,n',rfl,rfl,rfl,hb,hl,hmx,bu,SE,_,_⟩
 ·exact ⟨[],_,rfl,⟨by simp,[],.inl ⟨none,0,rfl,rfl,fun _=>rfl⟩,rfl⟩,by simp⟩
 ·simp only [Rows.uptoBulk] at hw
  have Lq:=ww (elems.map (·.1))
  rw [List.length_map,bu] at Lq
  have dB:∀ i,i<len ->a.spot=none/\∃ cs,At (ms W) a.block (a.off+i*sz) cs/\cs.length=sz/\∃ x,r x cs:=by
   intro i hi
   have h1:=SE i hi
   rw [gq (by omega)] at h1
   obtain ⟨cs,h2,h3⟩:=Option.bind_eq_some_iff.1 h1
   have ED:a.spot=none:=by
    have h1:=SE 0 (by omega)
    rw [gq (by omega)] at h1
    obtain ⟨cs,h2,_⟩:=Option.bind_eq_some_iff.1 h1
    have:=(Bx h2 (by omega)).1
    rw [Nat.zero_mul] at this
    simpa [Addr.add] using this
   obtain ⟨-,h5,h6⟩:=Bx h2 (by omega)
   refine ⟨ED,cs,?_,by omega,hr sp n' (by omega) cs _ h3 ?_⟩
   ·obtain ⟨b,o,s⟩:=a
    simp only at ED
    subst ED
    rw [Addr.add_lit,ed] at h6
    exact h6
   ·have hk:=E6 (List.mem_map_of_mem (f:=(·.1)) (gm (l:=elems) (n:=i) (by omega)))
    omega
  obtain ⟨l,xs,h1,h2,h3,h4⟩:=Y8 (α:=α) (r:=r) (sz:=sz) (M:=ms W) (b:=a.block) len a.off fun i hi=>(dB i hi).2
  have kx:l.length*sz<=1048576*4000:=Nat.mul_le_mul (by omega) dK.2
  refine ⟨l,_,rfl,⟨by omega,xs,?_,h2⟩,by omega⟩
  by_cases h0:len=0
  ·subst h0
   exact .inl ⟨some a,cap,rfl,List.length_eq_zero_iff.1 (by omega),fun h=>by cases h⟩
  ·have ED:=(dB 0 (by omega)).1
   obtain ⟨b,o,s⟩:=a
   simp only at ED
   subst ED
   exact .inr ⟨b,o,len,cap,rfl,hl,h3,h4⟩
theorem Na {P:Program}{α:Type}{r:α ->List Value ->Prop}{n sz:Nat}{t e:TypeId}(hr:Qo enc P W n e r)(ht:P.underlying t=some (.slice e))(ed:P.cellsOf e=sz)(dK:0<sz/\sz<=4000):Qo enc P W (n+1) t (fun (l:List α) cs=>∃ v,cs=[v]/\RS (ms W) r sz l v):=by
 intro sp m hm cs x h hw
 obtain ⟨l,v,h1,h2,_⟩:=GI hr ht ed dK hm h hw
 exact ⟨l,v,h1,h2⟩
theorem Wd {P:Program}{n:Nat}{t:TypeId}{k:IntKind}(ht:P.underlying t=some (.int k)):Qo enc P W n t (fun (i:Int) cs=>cs=[.int k i]):=by
 intro sp m hm cs x h hw
 obtain ⟨i,h1,_⟩:=DataW.trod_int ht h
 exact ⟨i,h1⟩
theorem Qo.le {P:Program}{n n':Nat}{t:TypeId}{α:Type}{r:α ->List Value ->Prop}(h:Qo enc P W n t r)(hn:n'<=n):Qo enc P W n' t r:=fun sp m hm=>h sp m (by omega)
theorem Qo.map {P:Program}{n:Nat}{t:TypeId}{α β:Type}{r:α ->List Value ->Prop}{q:β ->List Value ->Prop}(f:α ->β)(h:Qo enc P W n t r)(hq:∀ a cs,r a cs ->q (f a) cs):Qo enc P W n t q:=by
 intro sp m hm cs x h1 h2
 obtain ⟨a,ha⟩:=h sp m hm cs x h1 h2
 exact ⟨f a,hq a cs ha⟩
end
open Go.ChangeMaps
open Go.ChangeShapes Go.WideShapes Go.ChangeAt Go.RowKit
theorem al8:ownKnob Tryz.prog.godebug=none:=by kernel_rfl
theorem QN {f:FuncId}{args:List Value}{M:aR}{post:ep}{W:World}(h:bU Tryz.prog f args (fun _=>none) M [] [] post aM)(hM:pF M W):
 Calls Tryz.prog f args.toArray W fun e W'=>∃ v M',e=.returned v/\kh W W'/\pF M' W'/\bm M M'/\post v M' [] []:=by
 refine (h.2 W [] ⟨[],rfl,?_⟩).mono ?_
 ·exact {typ:=(fun b t h=>by cases h),holds:=hM,blk:=(fun b cs h=>by cases h),rows:=⟨rfl,(fun i v e sz xs o h=>by simp at h)⟩,nodup:=List.nodup_nil,apart:=(fun b h=>by simp at h),os:=rfl,tape:=rfl,output:=rfl,size:=Nat.le_refl _,old:=fun _ _ _=>rfl,mem:=fun _ _ _=>rfl,le:=fun _ _ h=>h}
 ·intro e W' hc
  cases e with
  | panicked ch=>obtain ⟨_,_,_,_,hp⟩:=hc;exact hp.elim
  | outgrown=>exact hc.elim
  | returned v=>
   obtain ⟨M',L',R',hpo,hv⟩:=hc
   obtain ⟨⟨bs,hi⟩,hk,hr⟩:=hpo
   obtain rfl:L'=[]:=by simpa [aV] using hk
   obtain rfl:R'=[]:=by simpa using hr
   exact ⟨v,M',rfl,⟨hi.os,hi.tape,hi.output,hi.size,fun b hb=>hi.old b hb (by simp)⟩,hi.holds,fun b cs hb=>hi.le b cs hb,hv⟩
theorem kh.but {W W':World}(h:kh W W')(may:MemPlace ->Prop):W.keptBut W' may:=by
 refine ⟨h.1,h.2.2.1,fun i hi=> ?_⟩
 rw [h.2.2.2.2 i hi]
 split
 ·rename_i h1 h2
  rw [h1] at h2
  injection h2 with h2
  injection h2 with h2 h3 h4
  subst h2 h3 h4
  exact ⟨rfl,rfl,rfl,fun _ _=>rfl⟩
 ·rename_i h1 h2
  rw [h1] at h2
  injection h2 with h2
  injection h2 with h2 h3
  subst h2 h3
  exact .inr ⟨rfl,rfl⟩
 ·rfl
theorem kids:Kids Tryz.prog (·<Tryz.prog.types.size):=kids_rows (by kernel_rfl) (by kernel_rfl)
theorem ajI:∀ t e,t<Tryz.prog.types.size ->Tryz.prog.underlying t=some (.slice e) ->0<Tryz.prog.cellsOf e:=slices_full_of Tryz.prog (by kernel_rfl)
theorem Bu {H:Type}{enc:TypeId×Value ->H}{W W':World}(hk:kh W W'):∀ {ts:List TypeId} {vs:List Value} {ds:List (DataW H)} {ps:List MemPlace},(∀ t∈ts,t<Tryz.prog.types.size) ->
 DataW.TrodAll enc Tryz.prog W 0 (fun _=>true) true ts vs ds ps ->DataW.TrodAll enc Tryz.prog W' 0 (fun b=>decide (b<W.heap.size)) true ts vs ds ps
 | [],[],[],ps,_,h=>h
 | t::ts,v::vs,d::ds,ps,hT,h=>by
  obtain ⟨p,q,⟨n,h1⟩,h2,rfl⟩:=h
  refine ⟨p,q,⟨n,?_⟩,Bu hk (fun t ht=>hT t (tC ht)) h2,rfl⟩
  have aL:=DataW.trod_lt n t _ _ h1
  refine DataW.trod_respare kids ajI n t _ _ (hT t (List.mem_cons_self ..)) (DataW.trod_carry n t _ _ h1 fun pl hp=> ?_) (fun pl hp=>by simpa using aL pl hp)
  have hb:=hk.2.2.2.2 pl.block (aL pl hp)
  cases pl with
  | cell b off=>
   show W'.cell? _=W.cell? _
   unfold World.cell?
   simp only [MemPlace.block] at hb
   simp only [hb]
  | map b=>exact hb
def ndB:List Nat ->Nat ->Nat ->List MemPlace ->Bool
 | _,_,_,[]=>true
 | rM,cur,last,.cell b o::r=>if b=cur then decide (last<o) && ndB rM cur o r else !rM.contains b && ndB (cur::rM) b o r
 | _,_,_,.map _::_=>false
theorem JL:∀ (l:List MemPlace) (rM:List Nat) (cur last:Nat),ndB rM cur last l=true ->(∀ p∈l,∃ b o,p=.cell b o/\(b∉rM\/b=cur)/\(b=cur ->last<o))/\l.Nodup
 | [],_,_,_,_=>⟨fun _ h=>(by cases h),List.nodup_nil⟩
 | .map _::_,_,_,_,h=>by cases h
 | .cell b o::r,rM,cur,last,h=>by
  unfold ndB at h
  split at h
  ·rename_i hb
   subst hb
   simp only [Bool.and_eq_true,decide_eq_true_eq] at h
   obtain ⟨h1,h2⟩:=JL r rM b o h.2
   refine ⟨fun p hp=> ?_,List.nodup_cons.2 ⟨fun hm=> ?_,h2⟩⟩
   ·rcases lQ hp with rfl | hp
    ·exact ⟨b,o,rfl,.inr rfl,fun _=>h.1⟩
    ·obtain ⟨b',o',rfl,h3,h4⟩:=h1 p hp
     exact ⟨b',o',rfl,h3,fun he=>Nat.lt_trans h.1 (h4 he)⟩
   ·obtain ⟨b',o',h5,_,h4⟩:=h1 _ hm
    injection h5 with e1 e2
    subst e1 e2
    exact Nat.lt_irrefl _ (h4 rfl)
  ·rename_i hb
   simp only [Bool.and_eq_true,Bool.not_eq_true',List.contains_eq_mem,decide_eq_false_iff_not] at h
   obtain ⟨h1,h2⟩:=JL r (cur::rM) b o h.2
   have key:∀ p∈r,∃ b' o',p=.cell b' o'/\(b'∉rM)/\b'≠cur/\(b'=b ->o<o'):=by
    intro p hp
    obtain ⟨b',o',rfl,h3,h4⟩:=h1 p hp
    refine ⟨b',o',rfl,?_,?_,h4⟩
    ·rcases h3 with h3 | rfl
     ·exact fun hm=>h3 (tC hm)
     ·exact h.1
    ·rcases h3 with h3 | rfl
     ·rintro rfl;exact h3 (List.mem_cons_self ..)
     ·exact hb
   refine ⟨fun p hp=> ?_,List.nodup_cons.2 ⟨fun hm=> ?_,h2⟩⟩
   ·rcases lQ hp with rfl | hp
    ·exact ⟨b,o,rfl,.inl h.1,fun he=>(hb he).elim⟩
    ·obtain ⟨b',o',rfl,h3,h5,_⟩:=key p hp
     exact ⟨b',o',rfl,.inl h3,fun he=>(h5 he).elim⟩
   ·obtain ⟨b',o',h5,_,_,h4⟩:=key _ hm
    injection h5 with e1 e2
    subst e1 e2
    exact Nat.lt_irrefl _ (h4 rfl)
theorem DY {P:Program}{w:World}{l:List (String×DataW Unit)}(fuel:Nat)(h:(DataW.laidRun P w fuel (l.map (·.1))).map (·.1)=some l)
 (hq:(DataW.laidRun P w fuel (l.map (·.1))).map (fun x=>ndB [] 1000000 0 x.2 && laidRowsB P w x.2)=some true):laidMet P l w:=by
 cases hx:DataW.laidRun P w fuel (l.map (·.1)) with
 | none=>simp [hx] at h
 | some x=>
  obtain ⟨l',ps⟩:=x
  simp only [hx,Option.map_some,Option.some.injEq] at h hq
  subst h
  simp only [Bool.and_eq_true] at hq
  exact laidMet_of_run fuel hx (decide_eq_true (JL _ _ _ _ hq.1).2) hq.2
noncomputable def oY (os:Os):World:=
 {heap:=⟨[.cells #[.int .i64 0] 3 (0,0),
   .cells (Lib.asciiSpaceTab.map fun z=>Value.int .u8 z).toArray 325 (0,0),
   .cells #[.pointer (some ⟨15,0,none⟩)] 354 (0,0),
   .cells #[.iface 394 (.pointer (some ⟨17,0,none⟩))] 149 (0,0),
   .cells #[.iface 394 (.pointer (some ⟨16,0,none⟩))] 149 (0,0),
   .cells #[.int .u64 1,.int .u64 10,.int .u64 100,.int .u64 1000,.int .u64 10000,.int .u64 100000,.int .u64 1000000,.int .u64 10000000,.int .u64 100000000,.int .u64 1000000000,.int .u64 10000000000,.int .u64 100000000000,.int .u64 1000000000000,.int .u64 10000000000000,.int .u64 100000000000000,.int .u64 1000000000000000,.int .u64 10000000000000000,.int .u64 100000000000000000,.int .u64 1000000000000000000,.int .u64 10000000000000000000] 419 (0,0),
   .cells #[.int .u8 0,.int .u8 1,.int .u8 28,.int .u8 2,.int .u8 29,.int .u8 14,.int .u8 24,.int .u8 3,.int .u8 30,.int .u8 22,.int .u8 20,.int .u8 15,.int .u8 25,.int .u8 17,.int .u8 4,.int .u8 8,.int .u8 31,.int .u8 27,.int .u8 13,.int .u8 23,.int .u8 21,.int .u8 19,.int .u8 16,.int .u8 7,.int .u8 26,.int .u8 12,.int .u8 18,.int .u8 6,.int .u8 11,.int .u8 5,.int .u8 10,.int .u8 9] 443 (0,0),
   .cells #[.int .u8 0,.int .u8 1,.int .u8 56,.int .u8 2,.int .u8 57,.int .u8 49,.int .u8 28,.int .u8 3,.int .u8 61,.int .u8 58,.int .u8 42,.int .u8 50,.int .u8 38,.int .u8 29,.int .u8 17,.int .u8 4,.int .u8 62,.int .u8 47,.int .u8 59,.int .u8 36,.int .u8 45,.int .u8 43,.int .u8 51,.int .u8 22,.int .u8 53,.int .u8 39,.int .u8 33,.int .u8 30,.int .u8 24,.int .u8 18,.int .u8 12,.int .u8 5,.int .u8 63,.int .u8 55,.int .u8 48,.int .u8 27,.int .u8 60,.int .u8 41,.int .u8 37,.int .u8 16,.int .u8 46,.int .u8 35,.int .u8 44,.int .u8 21,.int .u8 52,.int .u8 32,.int .u8 23,.int .u8 11,.int .u8 54,.int .u8 26,.int .u8 40,.int .u8 15,.int .u8 34,.int .u8 20,.int .u8 31,.int .u8 10,.int .u8 25,.int .u8 14,.int .u8 19,.int .u8 9,.int .u8 13,.int .u8 8,.int .u8 7,.int .u8 6] 444 (0,0),
   .cells #[.pointer none] 354 (0,0),
   .cells ((List.range 466).map fun (n:Nat)=>Value.int .u64 (n:Int)).toArray 0 (0,0),
   .map #[] 0,
   .finalizers #[] none,
   .cells #[.bool false] 0 (0,0),
   .finalizers #[] none,
   .cells #[.int .u16 9,.int .u16 13,.int .u16 1,.int .u16 32,.int .u16 133,.int .u16 101,.int .u16 160,.int .u16 5760,.int .u16 5600,.int .u16 8192,.int .u16 8202,.int .u16 1,.int .u16 8232,.int .u16 8233,.int .u16 1,.int .u16 8239,.int .u16 8287,.int .u16 48,.int .u16 12288,.int .u16 12288,.int .u16 1] 389 (0,0),
   .cells #[.slice (some ⟨14,0,none⟩) 7 7,.slice none 0 0,.int .i64 2] 386 (0,0),
   .cells #[.string ⟨#[118,97,108,117,101,32,111,117,116,32,111,102,32,114,97,110,103,101]⟩] 396 (0,0),
   .cells #[.string ⟨#[105,110,118,97,108,105,100,32,115,121,110,116,97,120]⟩] 396 (0,0)]⟩,
  tape:=fun _ _=>0,drawn:=0,os:=os,output:= #[]}
end Go.Proofs.YtcpjbohndglclaaGreatDoor

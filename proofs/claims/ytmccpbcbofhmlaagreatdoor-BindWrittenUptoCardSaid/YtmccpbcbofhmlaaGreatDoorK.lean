import Derived.Test.YtmccpbcbofhmlaaGreatDoorJ
import Derived.Test.YtmccpbcbofhmlaaGreatDoorI
set_option linter.all false
namespace Go.Proofs.YtmccpbcbofhmlaaGreatDoor
open Go Vc
set_option maxRecDepth 10000
def nL:Bs ->Int×Bs
 | []=>(0,[])
 | c::l=>if ez c.toNat=true then (1,c::l) else if fe c.toNat=true then (2,c::l) else if c=39 then (3,((ji l).map (·.1)).getD []) else (4,c::l)
def oY (w:Bs)(t:Tk):Prop:=(t.k,t.s)=nL w
theorem mJ (c:UInt8)(l:Bs):nL (c::l)=if ez c.toNat=true then (1,c::l) else if fe c.toNat=true then (2,c::l) else if c=39 then (3,((ji l).map (·.1)).getD []) else (4,c::l):=rfl
def Lk:List Bs ->List Tk ->Prop
 | [],ts=>ts=[]
 | w::ws,ts=>∃ t r,ts=t::r/\oY w t/\Lk ws r
theorem dV:∀ {a b:List Bs} {ts:List Tk},Lk (a++b) ts ->∃ x y,ts=x++y/\Lk a x/\Lk b y
 | [],b,ts,h=>⟨[],ts,rfl,rfl,h⟩
 | w::a,b,ts,h=>by
  obtain ⟨t,r,rfl,h1,h2⟩:=h
  obtain ⟨x,y,rfl,h3,h4⟩:=dV h2
  exact ⟨t::x,y,rfl,⟨t,x,rfl,h1,h3⟩,h4⟩
def pI (w:Bs):Prop:=(∃ c l,w=c::l/\pq c=false)/\∀ (rest:Bs) (at_:Int),(rest=[]\/∃ r,rest=32::r) ->∃ t,pU at_ (w++rest)=.ok (t,w.length)/\oY w t
theorem CE {p:UInt8 ->Bool}:∀ {w rest:Bs},w.all p=true ->(rest=[]\/∃ r,rest=32::r) ->p 32=false ->l8 p (w++rest)=w.length
 | [],rest,_,h,hp=>by
  rcases h with rfl | ⟨r,rfl⟩
  ·rfl
  ·simp [l8,List.takeWhile,hp]
 | c::w,rest,hw,h,hp=>by
  simp only [List.all_cons,Bool.and_eq_true] at hw
  have:=CE hw.2 h hp
  unfold l8 at this ⊢
  rw [List.cons_append,List.takeWhile_cons_of_pos hw.1,List.length_cons,this,List.length_cons]
theorem yS {c:UInt8}(h:ez c.toNat=true\/fe c.toNat=true):pq c=false:=by
 cases hs:pq c with
 | false=>rfl
 | true=>
  unfold pq at hs
  simp only [Bool.or_eq_true,decide_eq_true_eq] at hs
  exfalso
  rcases hs with (rfl | rfl) | rfl<;>revert h<;>decide
theorem Bh {c:UInt8}{l:Bs}(h1:ez c.toNat=true)(h2:(c::l).all sm=true):pI (c::l):=by
 refine ⟨⟨c,l,rfl,yS (.inl h1)⟩,fun rest at_ hr=> ?_⟩
 have hn:l8 sm (c::(l++rest))=(c::l).length:=CE (w:=c::l) h2 hr (by decide)
 refine ⟨⟨1,c::l,at_⟩,?_,?_⟩
 ·show pU at_ (c::(l++rest))=_
  unfold pU
  simp only
  rw [if_pos h1,hn]
  congr 3
  show ((c::l)++rest).take (c::l).length=_
  rw [List.take_left]
 ·unfold oY
  rw [mJ]
  rw [if_pos h1]
theorem yv:∀ (s:Bs) (i:Nat),ma i s=true ->s.all sm=true
 | [],_,_=>rfl
 | c::l,i,h=>by
  simp only [ma,Bool.and_eq_true] at h
  rw [List.all_cons,yv l _ h.2,Bool.and_true]
  unfold FK at h
  unfold sm
  revert h
  cases ez c.toNat<;>cases fe c.toNat<;>simp
theorem sG {s:Bs}(h:dl s=true):∃ c l,s=c::l/\ez c.toNat=true/\(c::l).all sm=true/\s∉tu:=by
 unfold dl at h
 simp only [Bool.and_eq_true,decide_eq_true_eq] at h
 obtain ⟨⟨h1,h2⟩,h3⟩:=h
 cases s with
 | nil=>simp at h1
 | cons c l=>
  refine ⟨c,l,rfl,?_,yv _ 0 h3,?_⟩
  ·simp only [ma,Bool.and_eq_true] at h3
   have:=h3.1
   unfold FK at this
   simpa using this
  ·intro hm
   rw [List.contains_iff_mem.2 hm] at h2
   simp at h2
theorem jp {s:Bs}(h:dl s=true):pI s:=by
 obtain ⟨c,l,rfl,h1,h2,_⟩:=sG h
 exact Bh h1 h2
theorem Q1 {c:UInt8}{l:Bs}(h2:(c::l).all tQ=true)(h3:(c::l).length<=16):pI (c::l):=by
 have h1:fe c.toNat=true:=by simp only [List.all_cons,Bool.and_eq_true] at h2;exact h2.1
 have h0:¬ ez c.toNat=true:=by
  unfold fe at h1
  unfold ez
  simp only [Bool.and_eq_true,decide_eq_true_eq] at h1
  simp only [Bool.or_eq_true,Bool.and_eq_true,decide_eq_true_eq]
  omega
 refine ⟨⟨c,l,rfl,yS (.inr h1)⟩,fun rest at_ hr=> ?_⟩
 have hn:l8 tQ (c::(l++rest))=(c::l).length:=CE (w:=c::l) h2 hr (by decide)
 refine ⟨⟨2,c::l,at_⟩,?_,?_⟩
 ·show pU at_ (c::(l++rest))=_
  unfold pU
  simp only
  rw [if_neg h0,if_pos h1,hn,if_neg (by omega)]
  congr 3
  show ((c::l)++rest).take (c::l).length=_
  rw [List.take_left]
 ·unfold oY
  rw [mJ]
  rw [if_neg h0,if_pos h1]
theorem rg:∀ (t rest:Bs),(rest=[]\/∃ r,rest=32::r) ->ji (mV t++39::rest)=some (t,(mV t).length+1)
 | [],rest,h=>by
  rcases h with rfl | ⟨r,rfl⟩
  ·rfl
  ·rfl
 | c::l,rest,h=>by
  have ih:=rg l rest h
  by_cases hc:c=39
  ·subst hc
   have he:mV (39::l)=39::39::mV l:=by rw [mV,if_pos rfl]
   rw [he]
   simp only [List.cons_append,ji,if_true,ih,Option.map_some,List.length_cons]
  ·have he:mV (c::l)=c::mV l:=by rw [mV,if_neg hc]
   rw [he]
   obtain ⟨d,m,hm⟩:∃ d m,mV l++39::rest=d::m:=by
    cases mV l with
    | nil=>exact ⟨_,_,rfl⟩
    | cons d m=>exact ⟨_,_,rfl⟩
   simp only [List.cons_append]
   rw [hm] at ih ⊢
   simp only [ji,if_neg hc,ih,Option.map_some,List.length_cons]
theorem LS {t:Bs}(h:t.length<=60):pI (39::(mV t++[39])):=by
 refine ⟨⟨39,_,rfl,by decide⟩,fun rest at_ hr=> ?_⟩
 have ht:=rg t rest hr
 refine ⟨⟨3,t,at_⟩,?_,?_⟩
 ·show pU at_ (39::((mV t++[39])++rest))=_
  unfold pU
  simp only
  rw [if_neg (by decide),if_neg (by decide),if_pos trivial,List.append_assoc]
  show (match ji (mV t++39::rest) with | none=>_ | some x=>_)=_
  rw [ht]
  simp only
  rw [if_neg (by omega)]
  simp
 ·have:=rg t [] (.inl rfl)
  unfold oY
  rw [mJ]
  rw [if_neg (by decide),if_neg (by decide),if_pos rfl,this]
  rfl
theorem Na {w:Bs}(h:w∈io):pI w:=by
 have key:∀ w∈io,(∃ c l,w=c::l/\pq c=false)/\ez ((w.headD 0).toNat)=false/\fe ((w.headD 0).toNat)=false/\w.headD 0≠39:=by
  intro w hw
  simp only [io,List.mem_cons,List.not_mem_nil,or_false] at hw
  rcases hw with rfl | rfl | rfl | rfl | rfl | rfl | rfl | rfl | rfl | rfl | rfl | rfl | rfl | rfl | rfl<;>exact ⟨⟨_,_,rfl,by decide⟩,by decide,by decide,by decide⟩
 obtain ⟨⟨c,l,rfl,hs⟩,h1,h2,h3⟩:=key w h
 refine ⟨⟨c,l,rfl,hs⟩,fun rest at_ hr=>⟨⟨4,c::l,at_⟩,?_,?_⟩⟩
 ·show pU at_ (c::(l++rest))=_
  unfold pU
  simp only
  simp only [List.headD_cons] at h1 h2 h3
  rw [if_neg (by rw [h1];decide),if_neg (by rw [h2];decide),if_neg h3]
  have hf:io.find? (·.isPrefixOf (c::(l++rest)))=some (c::l):=by
   simp only [io,List.mem_cons,List.cons.injEq,List.not_mem_nil,or_false] at h
   rcases hr with rfl | ⟨r,rfl⟩
   ·rcases h with ⟨rfl,rfl⟩ | ⟨rfl,rfl⟩ | ⟨rfl,rfl⟩ | ⟨rfl,rfl⟩ | ⟨rfl,rfl⟩ | ⟨rfl,rfl⟩ | ⟨rfl,rfl⟩ | ⟨rfl,rfl⟩ | ⟨rfl,rfl⟩ | ⟨rfl,rfl⟩ | ⟨rfl,rfl⟩ | ⟨rfl,rfl⟩ | ⟨rfl,rfl⟩ | ⟨rfl,rfl⟩ | ⟨rfl,rfl⟩<;>rfl
   ·rcases h with ⟨rfl,rfl⟩ | ⟨rfl,rfl⟩ | ⟨rfl,rfl⟩ | ⟨rfl,rfl⟩ | ⟨rfl,rfl⟩ | ⟨rfl,rfl⟩ | ⟨rfl,rfl⟩ | ⟨rfl,rfl⟩ | ⟨rfl,rfl⟩ | ⟨rfl,rfl⟩ | ⟨rfl,rfl⟩ | ⟨rfl,rfl⟩ | ⟨rfl,rfl⟩ | ⟨rfl,rfl⟩ | ⟨rfl,rfl⟩<;>rfl
  rw [hf]
 ·simp only [List.headD_cons] at h1 h2 h3
  unfold oY
  rw [mJ]
  rw [if_neg (by rw [h1];decide),if_neg (by rw [h2];decide),if_neg h3]
def kO (ws:List Bs):Bs:=ws.flatMap fun w=>32::w
theorem BV:∀ (ws:List Bs) (aO:Bs),aO≠[] ->bB aO ws=aO++kO ws
 | [],aO,_=>by simp [bB,kO]
 | w::ws,aO,h=>by
  have hs:pQ aO=aO++[32]:=by unfold pQ;rw [if_neg h]
  rw [gO,hs,BV ws _ (by simp)]
  simp [kO]
theorem Jo (ws:List Bs):kO ws=[]\/∃ r,kO ws=32::r:=by
 cases ws with
 | nil=>exact .inl rfl
 | cons w ws=>exact .inr ⟨_,rfl⟩
theorem Bb {w:Bs}(hw:pI w){ws:List Bs}{f:Nat}{at_:Int}(ih:∀ at_,∃ ts,kU f at_ (kO ws)=.ok ts/\Lk ws ts):∃ ts,kU (f+1) at_ (w++kO ws)=.ok ts/\Lk (w::ws) ts:=by
 obtain ⟨⟨c,l,rfl,hs⟩,h⟩:=hw
 obtain ⟨t,h1,h2⟩:=h (kO ws) at_ (Jo ws)
 obtain ⟨ts,h3,h4⟩:=ih (at_+(c::l).length)
 refine ⟨t::ts,?_,t,ts,rfl,h2,h4⟩
 show kU (f+1) at_ (c::(l++kO ws))=_
 rw [kU,if_neg (by rw [hs];decide)]
 have pm:pU at_ (c::(l++kO ws))=.ok (t,(c::l).length):=h1
 rw [pm]
 simp only
 have hd:(c::(l++kO ws)).drop (c::l).length=kO ws:=by
  show ((c::l)++kO ws).drop (c::l).length=_
  rw [List.drop_left]
 rw [hd,h3]
theorem Br:∀ (ws:List Bs),(∀ w∈ws,pI w) ->∀ (f:Nat) (at_:Int),(kO ws).length<f ->∃ ts,kU f at_ (kO ws)=.ok ts/\Lk ws ts
 | [],_,f,at_,h=>by
  obtain ⟨f,rfl⟩:∃ g,f=g+1:=⟨f - 1,by omega⟩
  exact ⟨[],rfl,rfl⟩
 | w::ws,hg,f,at_,h=>by
  have ht:kO (w::ws)=32::(w++kO ws):=rfl
  rw [ht,List.length_cons,List.length_append] at h
  have hw:=hg w (List.mem_cons_self ..)
  have gG:0<w.length:=by obtain ⟨⟨c,l,rfl,_⟩,_⟩:=hw;simp
  obtain ⟨f,rfl⟩:∃ g,f=g+2:=⟨f - 2,by omega⟩
  rw [ht,kU,if_pos (by decide)]
  exact Bb hw fun at_=>Br ws (fun w hw=>hg w (List.mem_cons_of_mem _ hw)) f at_ (by omega)
theorem Hd {ws:List Bs}(hg:∀ w∈ws,pI w)(hl:(bB [] ws).length<=4000):∃ ts,nj (bB [] ws)=.ok ts/\Lk ws ts:=by
 unfold nj
 rw [if_neg (by omega)]
 cases ws with
 | nil=>exact ⟨[],rfl,rfl⟩
 | cons w ws=>
  have hw:=hg w (List.mem_cons_self ..)
  have hp:bB [] (w::ws)=w++kO ws:=by
   rw [gO]
   have:pQ []=[]:=rfl
   rw [this,List.nil_append,BV _ _ (by obtain ⟨⟨c,l,rfl,_⟩,_⟩:=hw;simp)]
  rw [hp]
  have gG:0<w.length:=by obtain ⟨⟨c,l,rfl,_⟩,_⟩:=hw;simp
  exact Bb hw fun at_=>Br ws (fun w hw=>hg w (List.mem_cons_of_mem _ hw)) _ at_ (by rw [List.length_append];omega)
theorem sK:∀ (n:Nat),(Lib.decDigits n).all tQ=true:=by
 intro n
 induction n using Nat.strongRecOn with
 | _ n ih=>
  have hd:∀ k:Nat,k<10 ->tQ (UInt8.ofNat (48+k))=true:=by decide
  rw [Lib.decDigits]
  split
  ·rename_i h
   have:=hd n h
   rw [List.all_cons,this];rfl
  ·rename_i h
   rw [List.all_append,ih (n / 10) (by omega)]
   have:=hd (n % 10) (by omega)
   rw [List.all_cons,this];rfl
theorem vu (n:Nat):Lib.decDigits n≠[]:=by
 intro h
 have:=Lib.decDigits_length n
 have:=Lib.nDigits_pos n
 rw [h] at*
 simp at*
 omega
theorem OP (l:Bs)(c:UInt8):ue (l++[c])=ue l*10+(c.toNat - 48):=by
 unfold ue;rw [List.foldl_append];rfl
theorem qd:∀ (n:Nat),ue (Lib.decDigits n)=n:=by
 intro n
 induction n using Nat.strongRecOn with
 | _ n ih=>
  have hd:∀ k:Nat,k<10 ->(UInt8.ofNat (48+k)).toNat - 48=k:=by decide
  rw [Lib.decDigits]
  split
  ·rename_i h
   show 0*10+_=n
   rw [hd n h];omega
  ·rename_i h
   rw [OP,ih (n / 10) (by omega),hd (n % 10) (by omega)]
   omega
theorem HA {n:Nat}(h:n<=1000000000000000):(Lib.decDigits n).length<=16:=by
 rw [Lib.decDigits_length]
 have hm:∀ (k n:Nat),n<10 ^ (k+1) ->Lib.nDigits n<=k+1:=by
  intro k
  induction k with
  | zero=>intro n h;rw [Lib.nDigits_small (by simpa using h)];omega
  | succ k ih=>
   intro n h
   by_cases h1:n<10
   ·rw [Lib.nDigits_small h1];omega
   ·rw [Lib.nDigits_big h1]
    have:=ih (n / 10) (by rw [Nat.pow_succ] at h;omega)
    omega
 exact hm 15 n (by omega)
theorem wy {n:Nat}(h:n<=1000000000000000):pI (Lib.decDigits n):=by
 have h1:=sK n
 have h2:=HA h
 have h3:=vu n
 cases hd:Lib.decDigits n with
 | nil=>exact (h3 hd).elim
 | cons c l=>rw [hd] at h1 h2;exact Q1 h1 h2
theorem oR (n:Nat):nL (Lib.decDigits n)=(2,Lib.decDigits n):=by
 have h1:=sK n
 have h3:=vu n
 cases hd:Lib.decDigits n with
 | nil=>exact (h3 hd).elim
 | cons c l=>
  rw [hd] at h1
  have h1:fe c.toNat=true:=by simp only [List.all_cons,Bool.and_eq_true] at h1;exact h1.1
  have h0:¬ ez c.toNat=true:=by
   unfold fe at h1
   unfold ez
   simp only [Bool.and_eq_true,decide_eq_true_eq] at h1
   simp only [Bool.or_eq_true,Bool.and_eq_true,decide_eq_true_eq]
   omega
  rw [mJ]
  rw [if_neg h0,if_pos h1]
theorem vt (n:Int):Lib.trimPrefix (Lib.itoa n) [45]=Lib.decDigits n.natAbs:=by
 unfold Lib.itoa
 split
 ·rfl
 ·rename_i h
  have h1:=sK n.toNat
  have h3:=vu n.toNat
  have e:n.natAbs=n.toNat:=by omega
  rw [e]
  cases hd:Lib.decDigits n.toNat with
  | nil=>exact (h3 hd).elim
  | cons c l=>
   rw [hd] at h1
   have h1:fe c.toNat=true:=by simp only [List.all_cons,Bool.and_eq_true] at h1;exact h1.1
   have hc:c≠45:=by rintro rfl;revert h1;decide
   unfold Lib.trimPrefix Lib.hasPrefix
   simp [Ne.symm hc]
def kT (v:V):V:=⟨v.k,if v.k=2\/v.k=3 then v.n else 0,if v.k=4 then v.t else []⟩
mutual
def cL:X ->X
 | .mk k v tab name kids=> .mk k (if k=1 then kT v else ⟨0,0,[]⟩) (if k=2 then tab else []) (if k=2 then name else []) (eI kids)
def eI:List X ->List X
 | []=>[]
 | x::l=>cL x::eI l
end
theorem jU:∀ l,eI l=l.map cL
 | []=>rfl
 | x::l=>by rw [eI,jU l];rfl
mutual
def OI:X ->Nat
 | .mk _ _ _ _ kids=>1+htL kids
def htL:List X ->Nat
 | []=>0
 | x::l=>max (OI x) (htL l)
end
mutual
def HZ:X ->Prop
 | .mk k v tab name kids=>(kids.length:Int)=dE k/\0<=dE k/\(k=1 ->cR v=0)/\(k=2 ->dl name=true/\(tab=[]\/dl tab=true))/\VN kids
def VN:List X ->Prop
 | []=>True
 | x::l=>HZ x/\VN l
end
theorem ut:∀ {l:List X},VN l ->∀ x∈l,HZ x
 | [],_,x,hx=>by cases hx
 | y::l,h,x,hx=>by
  rcases List.mem_cons.1 hx with rfl | hx
  ·exact h.1
  ·exact ut h.2 x hx
mutual
theorem BI (d n:Nat):∀ (x:X),(eC d n x).1=0 ->HZ x/\d+OI x<=21
 | .mk k v tab name kids,h=>by
  rw [eC] at h
  rw [HZ,OI]
  split at h
  ·simp at h
  rename_i h1
  split at h
  ·simp at h
  rename_i h2
  split at h
  ·simp at h
  rename_i h3
  have h3:(kids.length:Int)=dE k:=by omega
  split at h
  ·rename_i hk
   have oI:kids=[]:=by
    have:dE k=0:=by unfold dE;rw [if_pos (.inl hk)]
    exact List.length_eq_zero_iff.1 (by omega)
   subst oI
   exact ⟨⟨h3,by omega,fun _=>h,fun h=>by omega,trivial⟩,by show d+(1+0)<=21;omega⟩
  rename_i hk
  split at h
  ·simp at h
  rename_i h4
  obtain ⟨h5,h6⟩:=yY (d+1) (n+1) kids h
  refine ⟨⟨h3,by omega,fun h=>(hk h).elim,fun h2=> ?_,h5⟩,by omega⟩
  have h4:¬ (dl name=false\/tab≠[]/\dl tab=false):=fun h=>h4 ⟨h2,h⟩
  refine ⟨by cases hn:dl name with | true=>rfl | false=>exact (h4 (.inl hn)).elim,?_⟩
  by_cases ht:tab=[]
  ·exact .inl ht
  ·exact .inr (by cases hn:dl tab with | true=>rfl | false=>exact (h4 (.inr ⟨ht,hn⟩)).elim)
theorem yY (d n:Nat):∀ (l:List X),(eN d n l).1=0 ->VN l/\(d+htL l<=21\/htL l=0)
 | [],h=>⟨trivial,.inr rfl⟩
 | x::l,h=>by
  rw [eN] at h
  split at h
  ·rename_i h1;exact (h1 h).elim
  ·rename_i h1
   have h1:(eC d n x).1=0:=by omega
   obtain ⟨h2,h3⟩:=BI d n x h1
   obtain ⟨h4,h5⟩:=yY d _ l h
   refine ⟨⟨h2,h4⟩,.inl ?_⟩
   rw [htL];omega
end
theorem rG {x:X}(h:gX x=0):HZ x/\OI x<=20:=by
 obtain ⟨h1,h2⟩:=BI 1 0 x h
 exact ⟨h1,by omega⟩
def lM (s:Bs)(c:Int×Bs):Bool:=decide (c.2=s) && (decide (c.1=1) || decide (c.1=4))
theorem aR {w:Bs}{t:Tk}{r:List Tk}(h:oY w t)(s:Bs):bg s (t::r)=lM s (nL w):=by
 unfold oY at h;rw [<- h];rfl
def oB:List Bs ->Int×Bs ->Option Nat
 | [],_=>none
 | s::l,c=>if lM s c=true then some 0 else (oB l c).map (·+1)
theorem gh {w:Bs}{t:Tk}{r:List Tk}(h:oY w t):∀ l,bJ l (t::r)=oB l (nL w)
 | []=>rfl
 | s::l=>by rw [bJ,oB,aR h,gh h l]
theorem cj {en:Int}{w:Bs}{t:Tk}{r:List Tk}(h:oY w t)(s:Bs)(hs:lM s (nL w)=true):bY en [s] (t::r)=.ok () r:=by
 rw [bY,aR h,if_pos hs];rfl
theorem tZ {w:Bs}{t:Tk}{r:List Tk}(h:oY w t)(k:Int):iO k (t::r)=decide ((nL w).1=k):=by
 unfold oY at h;rw [<- h];rfl
theorem zT {s:Bs}(h:dl s=true):nL s=(1,s):=by
 obtain ⟨c,l,rfl,h1,_⟩:=sG h
 rw [mJ,if_pos h1]
def wZ (s:Bs):Bool:=tu.contains s || !ez (s.headD 0).toNat
theorem eM {s n:Bs}(hn:dl n=true)(hs:wZ s=true):lM s (nL n)=false:=by
 rw [zT hn]
 obtain ⟨c,l,rfl,h1,_,h2⟩:=sG hn
 have:c::l≠s:=by
  rintro rfl
  unfold wZ at hs
  simp only [Bool.or_eq_true,List.contains_iff_mem,List.headD_cons,h1,Bool.not_true,Bool.false_eq_true,or_false] at hs
  exact h2 hs
 simp [lM,this]
theorem zS {n:Bs}(hn:dl n=true):∀ (l:List Bs),(∀ s∈l,wZ s=true) ->oB l (nL n)=none
 | [],_=>rfl
 | s::l,h=>by
  rw [oB,eM hn (h s (List.mem_cons_self ..)),zS hn l fun s hs=>h s (List.mem_cons_of_mem _ hs)];rfl
theorem iA {en:Int}{n:Bs}{t:Tk}{r:List Tk}(h:oY n t)(hn:dl n=true):iE en (t::r)=.ok n r:=by
 unfold oY at h
 rw [zT hn] at h
 injection h with h1 h2
 rw [iE,if_pos h1,h2,if_pos hn]
def VS:List (List Bs):=[[[111,114]],[[97,110,100]],[],[[61],[60,62],[60],[60,61],[62],[62,61],NW],[[43],[45]],[[42]],[[124,124]],[AO]]
def qJ (n:Nat):List Bs:=(VS.drop n).flatten
def mh (n:Nat)(r:List Tk):Prop:=∀ s∈qJ n,bg s r=false
def PU (n:Nat)(c:Int×Bs):Bool:=(qJ n).all fun s=> !lM s c
theorem fC {n:Nat}{w:Bs}{t:Tk}{r:List Tk}(h:oY w t)(hc:PU n (nL w)=true):mh n (t::r):=by
 intro s hs
 rw [aR h]
 have:=List.all_eq_true.1 hc s hs
 simpa using this
theorem mD {n:Nat}{r:List Tk}(h:mh n r):mh (n+1) r:=by
 intro s hs
 refine h s ?_
 unfold qJ at hs ⊢
 obtain ⟨l,hl,hs⟩:=List.mem_flatten.1 hs
 refine List.mem_flatten.2 ⟨l,?_,hs⟩
 rw [<- List.drop_drop] at hl
 exact List.mem_of_mem_drop hl
theorem FZ {n m:Nat}{r:List Tk}(h:mh n r)(hm:n<=m):mh m r:=by
 induction hm with
 | refl=>exact h
 | step _ ih=>exact mD ih
theorem uq:∀ {l:List Bs} {t:List Tk},(∀ s∈l,bg s t=false) ->bJ l t=none
 | [],_,_=>rfl
 | s::l,t,h=>by
  rw [bJ,h s (List.mem_cons_self ..),uq fun s hs=>h s (List.mem_cons_of_mem _ hs)];rfl
theorem Cc {n:Nat}{r:List Tk}(h:mh n r):bJ (fd n).signs r=none:=by
 refine uq fun s hs=>h s ?_
 have key:∀ n,n<8 ->∀ s∈(fd n).signs,s∈qJ n:=by decide
 by_cases hn:n<8
 ·exact key n hn s hs
 ·exfalso
  have:fd n=⟨[],0,false⟩:=by
   unfold fd
   rw [List.getD_eq_getElem?_getD,List.getElem?_eq_none (by show 7<=n;omega)];rfl
  rw [this] at hs
  cases hs
theorem Ly {r:List Tk}{n:Nat}(h:mh n r)(hn:n<=7):bg AO r=false:=FZ h hn _ (by decide)
theorem Qp {r:List Tk}{n:Nat}(h:mh n r)(hn:n<=3):bg NW r=false:=FZ h hn _ (by decide)
def pJ (x:X):Int:=(dm x.k).1
def zr (x:X)(n:Nat):Int:=2*(OI x:Int)+(if pJ x<(n:Int)+1 then 1 else 0)
theorem uG (x:X)(n:Nat):0<=zr x n:=by unfold zr;split<;>omega
def Bp (en:Int)(x:X)(n:Nat):Prop:=∀ (f:Nat) (op:Int) (t r:List Tk),9*(101 - op)+8 - n<f ->0<=op ->op+zr x n<=100 ->Lk (bm x ((n:Int)+1)) t ->mh n r ->ei en f n op (t++r)=.ok (cL x) r
def Ap (en:Int)(x:X)(n:Nat):Prop:=∀ (f:Nat) (op:Int) (t r:List Tk),9*(101 - op)+8 - n<f+1 ->0<=op ->op+zr x n<=100 ->Lk (bm x ((n:Int)+1)) t ->mh (n+1) r ->
 ∃ k,r.length<k/\ei en (f+1) n op (t++r)=i8 (ei en f (n+1) op) (fd n) k (cL x) r
theorem tY {en:Int}{f n:Nat}{op:Int}{t:List Tk}(h7:n≠7)(h2:n≠2):ei en (f+1) n op t=(ei en f (n+1) op t).bind fun x t=>if n=3/\bg NW t=true then Zf en x t else i8 (ei en f (n+1) op) (fd n) (t.length+1) x t:=by
 rw [ei,if_neg h7,if_neg h2]
theorem Zj {en:Int}{x:X}{n:Nat}(hn:n<7)(h:Ap en x n):Bp en x n:=by
 intro f op t r hf h0 hb ht hc
 have D5:=uG x n
 obtain ⟨f,rfl⟩:∃ g,f=g+1:=⟨f - 1,by omega⟩
 obtain ⟨k,hk,e⟩:=h f op t r (by omega) h0 hb ht (mD hc)
 obtain ⟨k,rfl⟩:∃ g,k=g+1:=⟨k - 1,by omega⟩
 rw [e,i8,Cc hc]
theorem sH {x:X}{n:Nat}(h:pJ x≠(n:Int)+1):bm x ((n:Int)+1)=bm x (((n+1:Nat):Int)+1):=by
 obtain ⟨k,v,tab,name,kids⟩:=x
 rw [bm,bm]
 have h:(dm k).1≠(n:Int)+1:=h
 by_cases h1:(dm k).1<(n:Int)+1
 ·rw [if_pos h1,if_pos (by push_cast;omega)]
 ·rw [if_neg h1,if_neg (by push_cast;omega)]
theorem xW {x:X}{n:Nat}(h:pJ x≠(n:Int)+1):zr x (n+1)=zr x n:=by
 unfold zr
 by_cases h1:pJ x<(n:Int)+1
 ·rw [if_pos h1,if_pos (by push_cast;omega)]
 ·rw [if_neg h1,if_neg (by push_cast;omega)]
theorem WQ {en:Int}{x:X}{n:Nat}(hn:n<7)(h2:n≠2)(h3:n≠3)(ho:pJ x≠(n:Int)+1)(h:Bp en x (n+1)):Ap en x n:=by
 intro f op t r hf h0 hb ht hc
 rw [tY (by omega) h2]
 rw [sH ho] at ht
 rw [<- xW ho] at hb
 have:=h f op t r (by push_cast at hf ⊢;omega) h0 hb ht hc
 rw [this]
 refine ⟨r.length+1,by omega,?_⟩
 show (if n=3/\_ then _ else _)=_
 rw [if_neg (fun h=>h3 h.1)]
theorem Rr {en:Int}{x:X}(ho:pJ x≠4)(h:Bp en x 4):Bp en x 3:=by
 intro f op t r hf h0 hb ht hc
 have D5:=uG x 3
 obtain ⟨f,rfl⟩:∃ g,f=g+1:=⟨f - 1,by omega⟩
 rw [tY (by omega) (by omega)]
 have ho:pJ x≠((3:Nat):Int)+1:=ho
 rw [sH ho] at ht
 rw [<- xW ho] at hb
 have:=h f op t r (by push_cast at hf ⊢;omega) h0 hb ht (mD hc)
 rw [this]
 show (if (3:Nat)=3/\_ then _ else _)=_
 rw [if_neg (fun h=>by rw [Qp hc (by omega)] at h;cases h.2),i8,Cc hc]
def Vg (ws:List Bs):Prop:=∃ w l,ws=w::l/\lM lm (nL w)=false
theorem QR {en:Int}{x:X}(ho:pJ x≠3)(hh:Vg (bm x 4))(h:Bp en x 3):Bp en x 2:=by
 intro f op t r hf h0 hb ht hc
 have D5:=uG x 2
 obtain ⟨f,rfl⟩:∃ g,f=g+1:=⟨f - 1,by omega⟩
 have ho:pJ x≠((2:Nat):Int)+1:=ho
 rw [sH ho] at ht
 rw [<- xW ho] at hb
 have hs:bg lm (t++r)=false:=by
  obtain ⟨w,l,hw,hh⟩:=hh
  have fU:Lk (bm x 4) t:=ht
  rw [hw] at fU
  obtain ⟨t0,t1,rfl,hk,_⟩:=fU
  rw [List.cons_append,aR hk];exact hh
 rw [ei,if_neg (by omega),if_pos rfl,hs,if_neg (by decide)]
 exact h f op t r (by push_cast at hf ⊢;omega) h0 hb ht (mD hc)
theorem MZ {x:X}{need:Int}(h:pJ x<need)(h1:1<=pJ x):bm x need=dp::(bm x 1++[cd]):=by
 obtain ⟨k,v,tab,name,kids⟩:=x
 have h:(dm k).1<need:=h
 have h1:¬ (dm k).1<1:=by show ¬ pJ (.mk k v tab name kids)<1;omega
 rw [bm,bm,if_pos h,if_neg h1]
theorem abF {en:Int}{x:X}(ho:pJ x<8)(h1:1<=pJ x)(h:Bp en x 0):Bp en x 7:=by
 intro f op t r hf h0 hb ht hc
 have D5:=uG x 7
 obtain ⟨f,rfl⟩:∃ g,f=g+1:=⟨f - 1,by omega⟩
 have hp:bm x (((7:Nat):Int)+1)=dp::(bm x 1++[cd]):=MZ (by show pJ x<8;omega) h1
 rw [hp] at ht
 obtain ⟨t0,t1,rfl,hk,ht⟩:=ht
 obtain ⟨t2,t3,rfl,tD,ht3⟩:=dV ht
 obtain ⟨t4,t5,rfl,Q0,ht5⟩:=ht3
 have:t5=[]:=ht5
 subst this
 have hb':op+2*(OI x:Int)+1<=100:=by
  unfold zr at hb
  rw [if_pos (by show pJ x<8;omega)] at hb
  omega
 have hin:=h f (op+1) t2 (t4::r) (by push_cast at hf ⊢;omega) (by omega) (by unfold zr;rw [if_neg (by show ¬ pJ x<((0:Nat):Int)+1;omega)];omega) tD (fC Q0 (by decide))
 rw [ei,if_pos rfl]
 have e:t0::(t2++[t4])++r=t0::(t2++t4::r):=by simp
 rw [e]
 have ea:¬ (op+1>100):=by omega
 have hv:eS en (t0::(t2++t4::r))=.ok none (t0::(t2++t4::r)):=by
  unfold eS
  rw [aR hk,aR hk,aR hk,aR hk,tZ hk,tZ hk]
  rfl
 unfold gN
 rw [hv]
 show (if bg dp (t0::(t2++t4::r))=true then _ else _)=_
 rw [aR hk,if_pos (by decide)]
 simp only [List.tail_cons]
 rw [if_neg ea,hin]
 show (bY en [cd] (t4::r)).bind _=_
 rw [cj Q0 _ (by decide)];rfl
theorem zz {k:Int}(h:0<=dE k):(k=1\/k=2\/k=19)\/(k=3\/k=16\/k=20\/k=21\/k=22\/k=23)\/k=17\/k=18\/(4<=k/\k<=15):=by
 unfold dE at h
 split at h
 ·omega
 split at h
 ·omega
 split at h
 ·omega
 split at h
 ·omega
 ·omega
structure OpK (k:Int) (n j:Nat) (s:Bs):Prop where
 tight:dm k=((n:Int)+1,s)
 idx:oB (fd n).signs (nL s)=some j
 kind:(fd n).kind+(j:Int)=k
 cl:PU (n+1) (nL s)=true
 is:lM NW (nL s)=false
 lt:n<7/\n≠2
 once:(fd n).once=decide (n=3)
theorem JA {k:Int}(h:4<=k/\k<=15):∃ n j s,OpK k n j s:=by
 have:k=4\/k=5\/k=6\/k=7\/k=8\/k=9\/k=10\/k=11\/k=12\/k=13\/k=14\/k=15:=by omega
 rcases this with rfl | rfl | rfl | rfl | rfl | rfl | rfl | rfl | rfl | rfl | rfl | rfl
 ·exact ⟨1,0,[97,110,100],by decide,by decide,by decide,by decide,by decide,by decide,by decide⟩
 ·exact ⟨0,0,[111,114],by decide,by decide,by decide,by decide,by decide,by decide,by decide⟩
 ·exact ⟨3,0,[61],by decide,by decide,by decide,by decide,by decide,by decide,by decide⟩
 ·exact ⟨3,1,[60,62],by decide,by decide,by decide,by decide,by decide,by decide,by decide⟩
 ·exact ⟨3,2,[60],by decide,by decide,by decide,by decide,by decide,by decide,by decide⟩
 ·exact ⟨3,3,[60,61],by decide,by decide,by decide,by decide,by decide,by decide,by decide⟩
 ·exact ⟨3,4,[62],by decide,by decide,by decide,by decide,by decide,by decide,by decide⟩
 ·exact ⟨3,5,[62,61],by decide,by decide,by decide,by decide,by decide,by decide,by decide⟩
 ·exact ⟨4,0,[43],by decide,by decide,by decide,by decide,by decide,by decide,by decide⟩
 ·exact ⟨4,1,[45],by decide,by decide,by decide,by decide,by decide,by decide,by decide⟩
 ·exact ⟨5,0,[42],by decide,by decide,by decide,by decide,by decide,by decide,by decide⟩
 ·exact ⟨6,0,[124,124],by decide,by decide,by decide,by decide,by decide,by decide,by decide⟩
theorem zP {k:Int}(h:k=1\/k=2\/k=17\/k=18\/k=19\/k=20\/k=21\/k=22\/k=23):dm k=(8,[]):=by
 rcases h with rfl | rfl | rfl | rfl | rfl | rfl | rfl | rfl | rfl<;>decide
def qg (s:Bs)(ws:List Bs):Prop:=∃ w l,ws=w::l/\lM s (nL w)=false
theorem zF {s:Bs}{a b:List Bs}(h:qg s a):qg s (a++b):=by
 obtain ⟨w,l,rfl,h⟩:=h
 exact ⟨w,l++b,rfl,h⟩
theorem Fs {t:Bs}:nL (39::(mV t++[39]))=(3,t):=by
 have:=rg t [] (.inl rfl)
 rw [mJ,if_neg (by decide),if_neg (by decide),if_pos rfl,this]
 rfl
theorem Nh {v:V}(h:cR v=0){s:Bs}(hs:(s=gA\/s=dg)\/s=lm):qg s (ld v):=by
 have hv:v.k=1\/v.k=2\/v.k=3\/v.k=4:=by
  unfold cR at h
  by_cases h1:v.k=1; · exact .inl h1
  by_cases h2:v.k=2; · exact .inr (.inl h2)
  by_cases h3:v.k=3; · exact .inr (.inr (.inl h3))
  by_cases h4:v.k=4; · exact .inr (.inr (.inr h4))
  rw [if_neg h1,if_neg h2,if_neg h3,if_neg h4] at h
  cases h
 unfold ld
 rcases hv with h1 | h1 | h1 | h1
 ·rw [if_pos h1]
  exact ⟨kP,[],rfl,by rcases hs with (rfl | rfl) | rfl<;>decide⟩
 ·rw [if_neg (by omega),if_pos h1]
  split
  ·exact ⟨sL,[],rfl,by rcases hs with (rfl | rfl) | rfl<;>decide⟩
  ·exact ⟨zA,[],rfl,by rcases hs with (rfl | rfl) | rfl<;>decide⟩
 ·rw [if_neg (by omega),if_neg (by omega),if_neg (by omega),if_pos h1]
  split
  ·exact ⟨iW,_,rfl,by rcases hs with (rfl | rfl) | rfl<;>decide⟩
  ·refine ⟨_,[],rfl,?_⟩
   rw [vt,oR]
   simp [lM]
 ·rw [if_neg (by omega),if_neg (by omega),if_pos h1,xe]
  refine ⟨_,[],rfl,?_⟩
  rw [Fs];simp [lM]
theorem re:∀ (sz:Nat) (x:X),SizeOf.sizeOf x<=sz ->HZ x ->∀ (need:Int) (s:Bs),(s=gA\/s=dg)\/(s=lm/\4<=need) ->qg s (bm x need):=by
 intro sz
 induction sz with
 | zero=>intro x hx;cases x;simp at hx
 | succ sz ih=>
  intro x hx dG need s hs
  obtain ⟨k,v,tab,name,kids⟩:=x
  rw [HZ] at dG
  obtain ⟨hl,h0,hv,hn,vW⟩:=dG
  have oD:(s=gA\/s=dg)\/s=lm:=hs.imp id (·.1)
  rw [bm]
  split
  ·exact ⟨dp,_,rfl,by rcases oD with (rfl | rfl) | rfl<;>decide⟩
  rename_i axu
  have ihk:∀ y∈kids,∀ (need:Int),((s=gA\/s=dg)\/(s=lm/\4<=need)) ->qg s (bm y need):=by
   intro y hy need hs
   refine ih y ?_ (ut vW y hy) need s hs
   have:=List.sizeOf_lt_of_mem hy
   simp at hx
   omega
  unfold nU
  by_cases k1:k=1
  ·rw [if_pos k1];exact Nh (hv k1) oD
  rw [if_neg k1]
  by_cases k2:k=2
  ·rw [if_pos k2]
   obtain ⟨sM,nJ⟩:=hn k2
   have hnn:wZ s=true:=by rcases oD with (rfl | rfl) | rfl<;>decide
   by_cases ht:tab=[]
   ·rw [if_pos ht];exact ⟨name,[],rfl,eM sM hnn⟩
   ·rw [if_neg ht];exact ⟨tab,_,rfl,eM (nJ.resolve_left ht) hnn⟩
  rw [if_neg k2]
  by_cases k3:k=3
  ·rw [if_pos k3]
   subst k3
   rcases hs with (rfl | rfl) | ⟨rfl,h4⟩
   ·exact ⟨lm,_,rfl,by decide⟩
   ·exact ⟨lm,_,rfl,by decide⟩
   ·exfalso
    have:(dm 3).1=3:=by decide
    omega
  rw [if_neg k3]
  by_cases k16:k=16
  ·rw [if_pos k16]
   subst k16
   match kids,hl,ihk with
   | [y],_,ihk=>exact zF (ihk y (List.mem_cons_self ..) 5 (hs.imp id fun h=>⟨h.1,by omega⟩))
   | [],hl,_=>simp [dE] at hl
   | _::_::_,hl,_=>simp [dE] at hl;omega
  rw [if_neg k16]
  by_cases k17:k=17
  ·rw [if_pos k17];exact ⟨od,_,rfl,by rcases oD with (rfl | rfl) | rfl<;>decide⟩
  rw [if_neg k17]
  by_cases k19:k=19
  ·rw [if_pos k19];exact ⟨pr,_,rfl,by rcases oD with (rfl | rfl) | rfl<;>decide⟩
  rw [if_neg k19]
  by_cases k18:k=18\/(20<=k/\k<=23)
  ·rw [if_pos k18]
   refine ⟨Ah k,_,rfl,?_⟩
   have:k=18\/k=20\/k=21\/k=22\/k=23:=by omega
   rcases this with rfl | rfl | rfl | rfl | rfl<;>rcases oD with (rfl | rfl) | rfl<;>decide
  rw [if_neg k18]
  have hk:=zz h0
  obtain ⟨n,j,sg,ea⟩:=JA (k:=k) (by omega)
  have ft:(kids.length:Int)=2:=by
   rw [hl];unfold dE
   rw [if_neg (by omega),if_neg (by omega),if_pos (by omega)]
  match kids,ft,ihk with
  | [y,z],_,ihk=>
   refine zF (ihk y (List.mem_cons_self ..) _ (hs.imp id fun h=>⟨h.1,?_⟩))
   split<;>omega
  | [],hl,_=>simp at hl
  | [_],hl,_=>simp at hl
  | _::_::_::_,hl,_=>simp at hl;omega
def DF (c:Int×Bs):Bool:= !lM kP c && !lM zA c && !lM sL c && !lM iW c && !decide (c.1=2) && !decide (c.1=3)
theorem lu {en:Int}{w:Bs}{t:Tk}{r:List Tk}(h:oY w t)(hc:DF (nL w)=true):eS en (t::r)=.ok none (t::r):=by
 unfold DF at hc
 simp only [Bool.and_eq_true,Bool.not_eq_true',decide_eq_false_iff_not] at hc
 obtain ⟨⟨⟨⟨⟨h1,h2⟩,h3⟩,h4⟩,h5⟩,h6⟩:=hc
 unfold eS
 rw [aR h,h1,aR h,h2,aR h,h3,aR h,h4,tZ h,tZ h,decide_eq_false h5,decide_eq_false h6]
 rfl
theorem zw {en:Int}{w:Bs}{t:Tk}{r:List Tk}(h:oY w t)(hn:dl w=true):eS en (t::r)=.ok none (t::r):=by
 refine lu h ?_
 unfold DF
 rw [eM hn (by decide),eM hn (by decide),eM hn (by decide),eM hn (by decide),zT hn]
 rfl
theorem ER {en:Int}{v:V}(h:cR v=0){t r:List Tk}(ht:Lk (ld v) t):eS en (t++r)=.ok (some (kT v)) r:=by
 obtain ⟨k,n,tx⟩:=v
 unfold ld at ht
 unfold cR at h
 simp only at h ht
 unfold kT
 simp only
 by_cases k1:k=1
 ·subst k1
  obtain ⟨t0,t1,rfl,hk,h1⟩:=ht
  have:t1=[]:=h1
  subst this
  unfold eS
  rw [List.cons_append,aR hk,if_pos (by decide)]
  rfl
 rw [if_neg k1] at h ht
 by_cases k2:k=2
 ·subst k2
  rw [if_pos rfl] at h ht
  have hn:n=0\/n=1:=by
   by_cases h0:n=0
   ·exact .inl h0
   ·by_cases h1:n=1
    ·exact .inr h1
    ·rw [if_pos ⟨h0,h1⟩] at h;cases h
  obtain ⟨t0,t1,rfl,hk,h1⟩:=ht
  have:t1=[]:=h1
  subst this
  unfold eS
  rw [List.cons_append]
  rcases hn with rfl | rfl
  ·have hk:oY sL t0:=hk
   rw [aR hk,if_neg (by decide),aR hk,if_neg (by decide),aR hk,if_pos (by decide)]
   rfl
  ·have hk:oY zA t0:=hk
   rw [aR hk,if_neg (by decide),aR hk,if_pos (by decide)]
   rfl
 rw [if_neg k2] at h ht
 by_cases k4:k=4
 ·subst k4
  rw [if_pos rfl,xe] at ht
  obtain ⟨t0,t1,rfl,hk,h1⟩:=ht
  have:t1=[]:=h1
  subst this
  have hc:=hk
  unfold oY at hc
  rw [Fs] at hc
  injection hc with c1 c2
  have hs:∀ s,bg s (t0::([]++r))=false:=by
   intro s;simp [bg,c1]
  unfold eS
  rw [List.cons_append,hs,hs,hs,hs]
  simp [iO,c1,xJ,c2]
 rw [if_neg k4] at ht
 by_cases k3:k=3
 ·subst k3
  rw [if_pos rfl] at h ht
  have hr:n<=1000000000000000/\ -1000000000000000<=n:=by
   by_cases hh:n>1000000000000000\/n< -1000000000000000
   ·rw [if_pos hh] at h;cases h
   ·omega
  rw [vt] at ht
  by_cases h0:n<0
  ·rw [if_pos h0] at ht
   obtain ⟨t0,t1,rfl,hk,t2,t3,rfl,jY,h3⟩:=ht
   have:t3=[]:=h3
   subst this
   have hc:=jY
   unfold oY at hc
   rw [oR] at hc
   injection hc with c1 c2
   unfold eS
   rw [List.cons_append,aR hk,if_neg (by decide),aR hk,if_neg (by decide),aR hk,if_neg (by decide),aR hk,if_pos (.inl (by decide))]
   unfold sP
   rw [aR hk]
   show (nI true _ en (t2::r)).map _=_
   rw [nI,if_pos c1,c2,qd,if_neg (by omega)]
   show Rs.ok _ r=_
   congr 2
   rw [if_pos rfl,if_pos (.inr rfl)]
   omega
  ·rw [if_neg h0] at ht
   obtain ⟨t0,t1,rfl,hk,h1⟩:=ht
   have:t1=[]:=h1
   subst this
   have hc:=hk
   unfold oY at hc
   rw [oR] at hc
   injection hc with c1 c2
   have hs:∀ s,bg s (t0::([]++r))=false:=by
    intro s;simp [bg,c1]
   unfold eS sP
   rw [List.cons_append,hs,hs,hs,hs]
   show (if (false=true\/decide (t0.k=2)=true) then (nI false _ en (t0::r)).map _ else _)=_
   rw [if_pos (.inr (by simpa using c1)),nI,if_pos c1,c2,qd,if_neg (by omega)]
   show Rs.ok _ r=_
   congr 2
   rw [if_neg (by decide),if_pos (.inr rfl)]
   omega
 ·rw [if_neg k3,if_neg k4] at h;cases h
theorem F3 {op:Int}{x:X}{n:Nat}(h:op+zr x n<=100):op<=100:=by have:=uG x n;omega
theorem aU {α β:Type}{a:α}{t:List Tk}{f:α ->List Tk ->Rs β}:(Rs.ok a t).bind f=f a t:=rfl
def All (en:Int)(x:X):Prop:=∀ n:Nat,n<=7 ->Bp en x n/\(n<7 ->n≠2 ->n≠3 ->Ap en x n)
theorem Yf {en:Int}{x:X}(dG:HZ x)(lo hi:Nat)(h7:hi<=7)(h:Bp en x hi)(ho:∀ n:Nat,lo<=n ->n<hi ->pJ x≠(n:Int)+1):
 ∀ d n:Nat,hi - n=d ->lo<=n ->n<=hi ->Bp en x n/\(n<hi ->n≠2 ->n≠3 ->Ap en x n):=by
 intro d
 induction d with
 | zero=>
  intro n hd h1 h2
  obtain rfl:n=hi:=by omega
  exact ⟨h,fun h=>absurd h (Nat.lt_irrefl _)⟩
 | succ d ih=>
  intro n hd h1 h2
  have hb:=(ih (n+1) (by omega) (by omega) (by omega)).1
  have hn:=ho n h1 (by omega)
  by_cases e2:n=2
  ·subst e2
   exact ⟨QR hn (re _ x (Nat.le_refl _) dG 4 lm (.inr ⟨rfl,by omega⟩)) hb,fun _ h=>(h rfl).elim⟩
  by_cases e3:n=3
  ·subst e3
   exact ⟨Rr hn hb,fun _ _ h=>(h rfl).elim⟩
  have ha:=WQ (en:=en) (by omega) e2 e3 hn hb
  exact ⟨Zj (by omega) ha,fun _ _ _=>ha⟩
theorem zR {en:Int}{x:X}(dG:HZ x)(n0:Nat)(h7:n0<=7)(ho:pJ x=(n0:Int)+1)(hb:Bp en x n0)(ha:n0<7 ->n0≠2 ->n0≠3 ->Ap en x n0):All en x:=by
 have ajc:=Yf dG 0 n0 h7 hb (fun n _ hn h=>by omega)
 intro n hn
 by_cases h1:n<n0
 ·obtain ⟨h2,h3⟩:=ajc _ n rfl (by omega) (by omega)
  exact ⟨h2,fun _=>h3 h1⟩
 by_cases h2:n=n0
 ·subst h2;exact ⟨hb,ha⟩
 have h0:=(ajc _ 0 rfl (by omega) (by omega)).1
 have hp:=abF (by omega) (by omega) h0
 obtain ⟨h3,h4⟩:=Yf dG (n0+1) 7 (Nat.le_refl _) hp (fun m hm _ h=>by omega) _ n rfl (by omega) hn
 exact ⟨h3,h4⟩
theorem yJ {k:Int}:∀ (ls:List Lvl) (i:Nat),1<=(pu k i ls).1
 | [],i=>by show (1:Int)<=8;decide
 | l::ls,i=>by
  rw [pu]
  split
  ·show (1:Int)<=(i:Int)+1;omega
  ·exact yJ ls _
theorem JU (x:X):1<=pJ x:=by
 unfold pJ dm
 split
 ·decide
 split
 ·decide
 ·exact yJ _ _
def zy (ex:List Tk ->Rs X)(y:X):Prop:=∀ t r,Lk (bm y 1) t ->mh 0 r ->ex (t++r)=.ok (cL y) r
theorem KX:∀ {l:List X} {y:X},y∈l ->OI y<=htL l
 | a::l,y,h=>by
  rw [htL]
  rcases List.mem_cons.1 h with rfl | h
  ·omega
  ·have:=KX h;omega
theorem aao {en:Int}{y:X}{f:Nat}{op m:Int}(h:Bp en y 0)(hf:9*(101 - op)+1<f+1)(h0:0<=op)(hb:op+2*m<=100)(aF:(OI y:Int)+1<=m):zy (fun t=>if op+1>100 then .err 4 (pF en t) else ei en f 0 (op+1) t) y:=by
 intro t r ht hc
 have hy:=JU y
 show (if op+1>100 then _ else _)=_
 rw [if_neg (by omega)]
 refine h f (op+1) t r (by push_cast;omega) (by omega) ?_ ht hc
 unfold zr
 rw [if_neg (by push_cast;omega)]
 omega
theorem mZ {k:Int}{v:V}{tab name:Bs}{kids:List X}(h1:k≠1)(h2:k≠2):cL (.mk k v tab name kids)=nB k (kids.map cL):=by
 rw [cL,if_neg h1,if_neg h2,if_neg h2,jU];rfl
theorem Sn {en:Int}{ex:List Tk ->Rs X}{k:Int}{v:V}{tab name:Bs}{kids:List X}(dG:HZ (.mk k v tab name kids))(hl:k=1\/k=2\/k=17\/k=18\/k=19\/k=20\/k=21\/k=22\/k=23)(vW:∀ y∈kids,zy ex y){t r:List Tk}(ht:Lk (nU k v tab name (qj kids)) t)(hc:mh 7 r):
 gN en ex (t++r)=.ok (cL (.mk k v tab name kids)) r:=by
 rw [HZ] at dG
 obtain ⟨bQ,h0,hv,hn,AB⟩:=dG
 rcases hl with rfl | rfl | rfl | rfl | rfl | rfl | rfl | rfl | rfl
 ·have hk:kids=[]:=List.length_eq_zero_iff.1 (by
   have:dE 1=0:=by decide
   omega)
  subst hk
  have fU:Lk (ld v) t:=ht
  unfold gN
  rw [ER (hv rfl) fU,aU]
  rfl
 ·have hk:kids=[]:=List.length_eq_zero_iff.1 (by
   have:dE 2=0:=by decide
   omega)
  subst hk
  obtain ⟨sM,nJ⟩:=hn rfl
  have fU:Lk ((if tab=[] then [] else [tab,AO])++[name]) t:=ht
  by_cases Fg:tab=[]
  ·subst Fg
   rw [if_pos rfl] at fU
   obtain ⟨t0,t1,rfl,hk,h1⟩:=fU
   have:t1=[]:=h1
   subst this
   unfold gN
   rw [List.cons_append,List.nil_append,zw hk sM,aU]
   simp only
   rw [aR hk,if_neg (by rw [eM sM (by decide)];decide),aR hk,if_neg (by rw [eM sM (by decide)];decide),aR hk,if_neg (by rw [eM sM (by decide)];decide),aR hk,if_neg (by rw [eM sM (by decide)];decide),gh hk,zS sM _ (by decide)]
   simp only
   rw [iA hk sM,aU]
   rw [if_neg (by rw [Ly hc (by omega)];decide)]
   rfl
  ·rw [if_neg Fg] at fU
   have hnt:=nJ.resolve_left Fg
   obtain ⟨t0,t1,rfl,hk,t2,t3,rfl,jY,t4,t5,rfl,Q0,h5⟩:=fU
   have:t5=[]:=h5
   subst this
   unfold gN
   rw [List.cons_append,List.cons_append,List.cons_append,List.nil_append,zw hk hnt,aU]
   simp only
   rw [aR hk,if_neg (by rw [eM hnt (by decide)];decide),aR hk,if_neg (by rw [eM hnt (by decide)];decide),aR hk,if_neg (by rw [eM hnt (by decide)];decide),aR hk,if_neg (by rw [eM hnt (by decide)];decide),gh hk,zS hnt _ (by decide)]
   simp only
   rw [iA hk hnt,aU]
   rw [aR jY,if_pos (by decide)]
   simp only [List.tail_cons]
   rw [iA Q0 sM,aU]
   rfl
 ·have V9:kids.length=3:=by
   have:dE 17=3:=by decide
   omega
  match kids,V9,vW,ht with
  | [a,b,c],_,vW,ht=>
   have ha:=vW a (by simp)
   have hb:=vW b (by simp)
   have hc:=vW c (by simp)
   have fU:Lk ([od,pM]++(bm a 1++(rU::(bm b 1++(vX::(bm c 1++[Ob])))))) t:=ht
   obtain ⟨t0,_,rfl,k0,t1,_,rfl,k1,fU⟩:=fU
   obtain ⟨ta,_,rfl,Im,t2,_,rfl,k2,fU⟩:=dV (a:=bm a 1) fU
   obtain ⟨tb,_,rfl,Fg,t3,_,rfl,k3,fU⟩:=dV fU
   obtain ⟨tc,_,rfl,htc,t4,t5,rfl,k4,fU⟩:=dV fU
   have:t5=[]:=fU
   subst this
   have e:t0::t1::(ta++t2::(tb++t3::(tc++[t4])))++r=t0::t1::(ta++t2::(tb++t3::(tc++t4::r))):=by simp
   rw [e]
   unfold gN
   rw [lu k0 (by decide),aU]
   simp only
   rw [aR k0,if_neg (by decide),aR k0,if_pos (by decide)]
   simp only [List.tail_cons]
   rw [cj k1 _ (by decide),aU,ha _ _ Im (fC k2 (by decide)),aU,cj k2 _ (by decide),aU,hb _ _ Fg (fC k3 (by decide)),aU,cj k3 _ (by decide),aU,hc _ _ htc (fC k4 (by decide)),aU,cj k4 _ (by decide),aU,mZ (by decide) (by decide)]
   rfl
 ·have jY:kids.length=2:=by
   have:dE 18=2:=by decide
   omega
  match kids,jY,vW,ht with
  | [a,b],_,vW,ht=>
   have ha:=vW a (by simp)
   have hb:=vW b (by simp)
   have fU:Lk ([Lf,dp]++((bm a 1++(ct::(bm b 1++[])))++[cd])) t:=ht
   obtain ⟨t0,_,rfl,k0,t1,_,rfl,k1,fU⟩:=fU
   replace fU:Lk ((bm a 1++(ct::(bm b 1++[])))++[cd]) _:=fU
   rw [List.append_nil,List.append_assoc] at fU
   obtain ⟨ta,_,rfl,Im,t2,_,rfl,k2,fU⟩:=dV (a:=bm a 1) fU
   obtain ⟨tb,_,rfl,Fg,t3,t5,rfl,k3,fU⟩:=dV fU
   have:t5=[]:=fU
   subst this
   have e:t0::t1::(ta++t2::(tb++[t3]))++r=t0::t1::(ta++t2::(tb++t3::r)):=by simp
   rw [e]
   unfold gN
   rw [lu k0 (by decide),aU]
   simp only
   rw [aR k0,if_neg (by decide),aR k0,if_neg (by decide),aR k0,if_pos (by decide)]
   simp only [List.tail_cons]
   rw [cj k1 _ (by decide),aU,ha _ _ Im (fC k2 (by decide)),aU,cj k2 _ (by decide),aU,hb _ _ Fg (fC k3 (by decide)),aU,cj k3 _ (by decide),aU,mZ (by decide) (by decide)]
   rfl
 ·have hk:kids=[]:=List.length_eq_zero_iff.1 (by
   have:dE 19=0:=by decide
   omega)
  subst hk
  have fU:Lk [pr,dp,gA,cd] t:=ht
  obtain ⟨t0,_,rfl,k0,t1,_,rfl,k1,t2,_,rfl,k2,t3,t5,rfl,k3,fU⟩:=fU
  have:t5=[]:=fU
  subst this
  unfold gN
  simp only [List.cons_append,List.nil_append]
  rw [lu k0 (by decide),aU]
  simp only
  rw [aR k0,if_neg (by decide),aR k0,if_neg (by decide),aR k0,if_neg (by decide),aR k0,if_pos (by decide)]
  simp only [List.tail_cons]
  rw [cj k1 _ (by decide),aU,aR k2,if_pos (by decide)]
  simp only [List.tail_cons]
  rw [cj k3 _ (by decide),aU,mZ (by decide) (by decide)]
  rfl
 ·have gB:kids.length=1:=by
   have:dE 20=1:=by decide
   omega
  match kids,gB,vW,AB,ht with
  | [a],_,vW,AB,ht=>
   have ha:=vW a (by simp)
   have fU:Lk ([pr,dp]++((bm a 1++[])++[cd])) t:=ht
   obtain ⟨t0,_,rfl,k0,t1,_,rfl,k1,fU⟩:=fU
   replace fU:Lk ((bm a 1++[])++[cd]) _:=fU
   rw [List.append_nil] at fU
   obtain ⟨ta,_,rfl,Im,t3,t5,rfl,k3,fU⟩:=dV fU
   have:t5=[]:=fU
   subst this
   have e:t0::t1::(ta++[t3])++r=t0::t1::(ta++t3::r):=by simp
   rw [e]
   have hs:bg gA (ta++t3::r)=false:=by
    obtain ⟨w,l,hw,hh⟩:=re _ a (Nat.le_refl _) AB.1 1 gA (.inl (.inl rfl))
    have h':=Im
    rw [hw] at h'
    obtain ⟨x0,x1,rfl,hk,_⟩:=h'
    rw [List.cons_append,aR hk];exact hh
   unfold gN
   rw [lu k0 (by decide),aU]
   simp only
   rw [aR k0,if_neg (by decide),aR k0,if_neg (by decide),aR k0,if_neg (by decide),aR k0,if_pos (by decide)]
   simp only [List.tail_cons]
   rw [cj k1 _ (by decide),aU,hs,if_neg (by decide),ha _ _ Im (fC k3 (by decide)),aU,cj k3 _ (by decide),aU,mZ (by decide) (by decide)]
   rfl
 all_goals
  have gB:kids.length=1:=by
   have h21:dE 21=1:=by decide
   have h22:dE 22=1:=by decide
   have qy:dE 23=1:=by decide
   omega
  match kids,gB,vW,ht with
  | [a],_,vW,ht=>
   have ha:=vW a (by simp)
   obtain ⟨t0,_,rfl,k0,t1,_,rfl,k1,fU⟩:=ht
   replace fU:Lk ((bm a 1++[])++[cd]) _:=fU
   rw [List.append_nil] at fU
   obtain ⟨ta,_,rfl,Im,t3,t5,rfl,k3,fU⟩:=dV fU
   have:t5=[]:=fU
   subst this
   have e:t0::t1::(ta++[t3])++r=t0::t1::(ta++t3::r):=by simp
   rw [e]
   unfold gN
   rw [lu k0 (by decide),aU]
   simp only
   rw [aR k0,if_neg (by decide),aR k0,if_neg (by decide),aR k0,if_neg (by decide),aR k0,if_neg (by decide),gh k0]
   first
    | rw [show oB [tj,tR,uC] (nL (Ah 21))=some 0 by decide]
    | rw [show oB [tj,tR,uC] (nL (Ah 22))=some 1 by decide]
    | rw [show oB [tj,tR,uC] (nL (Ah 23))=some 2 by decide]
   simp only [List.tail_cons]
   rw [cj k1 _ (by decide),aU,ha _ _ Im (fC k3 (by decide)),aU,cj k3 _ (by decide),aU,mZ (by decide) (by decide)]
   rfl
theorem TT {en:Int}:∀ (sz:Nat) (x:X),SizeOf.sizeOf x<=sz ->HZ x ->All en x:=by
 intro sz
 induction sz with
 | zero=>intro x hx;cases x;simp at hx
 | succ sz ih=>
  intro x hx dG
  obtain ⟨k,v,tab,name,kids⟩:=x
  have ES:=dG
  rw [HZ] at ES
  obtain ⟨hl,h0,hv,hn,vW⟩:=ES
  have ihk:∀ y∈kids,All en y:=by
   intro y hy
   refine ih y ?_ (ut vW y hy)
   have:=List.sizeOf_lt_of_mem hy
   simp at hx
   omega
  have QY:∀ y∈kids,(OI y:Int)+1<=(OI (.mk k v tab name kids):Int):=by
   intro y hy
   have:=KX hy
   rw [OI]
   omega
  by_cases hlf:k=1\/k=2\/k=17\/k=18\/k=19\/k=20\/k=21\/k=22\/k=23
  ·have ho:pJ (.mk k v tab name kids)=8:=by
    unfold pJ
    show (dm k).1=8
    rw [zP hlf]
   refine zR dG 7 (Nat.le_refl _) (by rw [ho];rfl) ?_ (fun h=>absurd h (by omega))
   intro f op t r hf h0 hb ht hc
   have D5:=F3 hb
   obtain ⟨f,rfl⟩:∃ g,f=g+1:=⟨f - 1,by omega⟩
   unfold zr at hb
   rw [if_neg (by rw [ho];decide)] at hb
   rw [bm,if_neg (by rw [zP hlf];decide)] at ht
   rw [ei,if_pos rfl]
   refine Sn dG hlf (fun y hy=> ?_) ht hc
   exact aao ((ihk y hy 0 (by omega)).1) (by push_cast at hf ⊢;omega) h0 (m:=(OI (.mk k v tab name kids):Int)) (by omega) (QY y hy)
  by_cases k3:k=3
  ·subst k3
   have ho:pJ (.mk 3 v tab name kids)=3:=by show (dm 3).1=3;decide
   have gF:kids.length=1:=by
    have:dE 3=1:=by decide
    omega
   match kids,gF,ihk,QY,dG,ho with
   | [y],_,ihk,QY,dG,ho=>
    refine zR dG 2 (by omega) (by rw [ho];rfl) ?_ (fun _ h=>(h rfl).elim)
    intro f op t r hf h0 hb ht hc
    have D5:=F3 hb
    obtain ⟨f,rfl⟩:∃ g,f=g+1:=⟨f - 1,by omega⟩
    have hy:=QY y (by simp)
    unfold zr at hb
    rw [if_neg (by rw [ho];decide)] at hb
    have fU:Lk (lm::bm y 3) t:=by
     rw [bm,if_neg (by decide)] at ht;exact ht
    obtain ⟨t0,t1,rfl,hk,Dr⟩:=fU
    rw [ei,if_neg (by omega),if_pos rfl,List.cons_append,aR hk,if_pos (by decide)]
    simp only [List.tail_cons]
    rw [if_neg (by omega)]
    have:=(ihk y (by simp) 2 (by omega)).1 f (op+1) t1 r (by push_cast at hf ⊢;omega) (by omega) (by unfold zr;split<;>omega) Dr hc
    rw [this,aU,mZ (by decide) (by decide)]
    rfl
  by_cases k16:k=16
  ·subst k16
   have ho:pJ (.mk 16 v tab name kids)=4:=by show (dm 16).1=4;decide
   have gF:kids.length=1:=by
    have:dE 16=1:=by decide
    omega
   match kids,gF,ihk,QY,dG,ho with
   | [y],_,ihk,QY,dG,ho=>
    refine zR dG 3 (by omega) (by rw [ho];rfl) ?_ (fun _ _ h=>(h rfl).elim)
    intro f op t r hf h0 hb ht hc
    have D5:=F3 hb
    obtain ⟨f,rfl⟩:∃ g,f=g+1:=⟨f - 1,by omega⟩
    have hy:=QY y (by simp)
    unfold zr at hb
    rw [if_neg (by rw [ho];decide)] at hb
    have fU:Lk (bm y 5++[NW,kP]) t:=by
     rw [bm,if_neg (by decide)] at ht;exact ht
    obtain ⟨t1,_,rfl,Dr,t2,_,rfl,k2,t3,t4,rfl,k3,ht4⟩:=dV fU
    have:t4=[]:=ht4
    subst this
    rw [tY (by omega) (by omega),List.append_assoc,List.cons_append,List.cons_append,List.nil_append]
    have:=(ihk y (by simp) 4 (by omega)).1 f op t1 (t2::t3::r) (by push_cast at hf ⊢;omega) h0 (by unfold zr;split<;>omega) Dr (fC k2 (by decide))
    rw [show (3:Nat)+1=4 from rfl,this,aU,if_pos ⟨rfl,by rw [aR k2];decide⟩]
    have hs:bg lm (t3::r)=false:=by rw [aR k3];decide
    unfold Zf
    simp only [List.tail_cons,hs,Bool.false_eq_true,if_false]
    rw [cj k3 _ (by decide),aU,mZ (by decide) (by decide)]
    rfl
  have US:=zz h0
  have aiL:4<=k/\k<=15:=by omega
  obtain ⟨n,j,sg,ea⟩:=JA aiL
  have ho:pJ (.mk k v tab name kids)=(n:Int)+1:=by
   show (dm k).1=_
   rw [ea.tight]
  have ft:kids.length=2:=by
   have:dE k=2:=by
    unfold dE
    rw [if_neg (by omega),if_neg (by omega),if_pos (by omega)]
   omega
  have hn7:=ea.lt
  match kids,ft,ihk,QY,dG,ho with
  | [y,z],_,ihk,QY,dG,ho=>
   have hy:=QY y (by simp)
   have hz:=QY z (by simp)
   have r6:nU k v tab name (qj [y,z])=bm y (if n=3 then 5 else (n:Int)+1)++(sg::bm z ((n:Int)+1+1)):=by
    unfold nU
    rw [if_neg (by omega),if_neg (by omega),if_neg (by omega),if_neg (by omega),if_neg (by omega),if_neg (by omega),if_neg (by omega),ea.tight]
    show bm y _++_=_
    congr 2
    by_cases h3:n=3
    ·subst h3;rfl
    ·rw [if_neg h3,if_neg (by show ¬ (n:Int)+1=4;omega)]
   have Z7:nB ((fd n).kind+(j:Int)) [cL y,cL z]=cL (.mk k v tab name [y,z]):=by
    rw [mZ (by omega) (by omega),ea.kind];rfl
   by_cases h3:n=3
   ·subst h3
    refine zR dG 3 (by omega) ho ?_ (fun _ _ h=>(h rfl).elim)
    intro f op t r hf h0 hb ht hc
    have D5:=F3 hb
    obtain ⟨f,rfl⟩:∃ g,f=g+1:=⟨f - 1,by omega⟩
    unfold zr at hb
    rw [if_neg (by rw [ho];omega)] at hb
    rw [bm,if_neg (by rw [ea.tight];show ¬ (((3:Nat):Int)+1<_);omega),r6,if_pos rfl] at ht
    obtain ⟨t1,_,rfl,Dr,t2,t3,rfl,k2,ht3⟩:=dV ht
    rw [tY (by omega) (by omega),List.append_assoc,List.cons_append]
    have h1:=(ihk y (by simp) 4 (by omega)).1 f op t1 (t2::(t3++r)) (by push_cast at hf ⊢;omega) h0 (by unfold zr;split<;>omega) Dr (fC k2 ea.cl)
    have h2:=(ihk z (by simp) 4 (by omega)).1 f op t3 r (by push_cast at hf ⊢;omega) h0 (by unfold zr;split<;>omega) ht3 (mD hc)
    rw [show (3:Nat)+1=4 from rfl,h1,aU,if_neg (fun h=>by rw [aR k2,ea.is] at h;cases h.2),i8,gh k2,ea.idx]
    simp only [List.tail_cons]
    rw [h2,aU,if_pos (by rw [ea.once];decide),Z7]
   ·rw [if_neg h3] at r6
    have hA:Ap en (.mk k v tab name [y,z]) n:=by
     intro f op t r hf h0 hb ht hc
     have D5:=F3 hb
     unfold zr at hb
     rw [if_neg (by rw [ho];omega)] at hb
     rw [bm,if_neg (by rw [ea.tight];show ¬ ((n:Int)+1<_);omega),r6] at ht
     obtain ⟨t1,_,rfl,Dr,t2,t3,rfl,k2,ht3⟩:=dV ht
     rw [List.append_assoc,List.cons_append]
     obtain ⟨kk,US,h1⟩:=(ihk y (by simp) n (by omega)).2 hn7.1 hn7.2 h3 f op t1 (t2::(t3++r)) hf h0 (by unfold zr;split<;>omega) Dr (fC k2 ea.cl)
     have h2:=(ihk z (by simp) (n+1) (by omega)).1 f op t3 r (by push_cast at hf ⊢;omega) h0 (by unfold zr;split<;>omega) (by push_cast;exact ht3) hc
     obtain ⟨kk,rfl⟩:∃ g,kk=g+1:=⟨kk - 1,by omega⟩
     refine ⟨kk,by simp at US;omega,?_⟩
     rw [h1,i8,gh k2,ea.idx]
     simp only [List.tail_cons]
     rw [h2,aU,if_neg (by rw [ea.once];simp [h3]),Z7]
    exact zR dG n (by omega) ho (Zj hn7.1 hA) (fun _ _ _=>hA)
theorem aaJ {en:Int}{x:X}(h:gX x=0):zy (Um en) x:=by
 intro t r ht hc
 obtain ⟨h1,h2⟩:=rG h
 have hy:=JU x
 unfold Um uK
 rw [if_neg (by decide)]
 refine (TT _ x (Nat.le_refl _) h1 0 (by omega)).1 1000 (0+1) t r (by decide) (by decide) ?_ ht hc
 unfold zr
 rw [if_neg (by push_cast;omega)]
 omega
def No (l:List Bs)(r:List Tk):Prop:=∀ s∈l,bg s r=false
def U3 (l:List Bs)(c:Int×Bs):Bool:=l.all fun s=> !lM s c
theorem vh {l:List Bs}{w:Bs}{t:Tk}{r:List Tk}(h:oY w t)(hc:U3 l (nL w)=true):No l (t::r):=by
 intro s hs
 rw [aR h]
 have:=List.all_eq_true.1 hc s hs
 simpa using this
theorem De {l ws:List Bs}{t r:List Tk}(h:Lk ws t)(hw:∀ w,ws.head?=some w ->U3 l (nL w)=true)(hr:No l r):No l (t++r):=by
 cases ws with
 | nil=>obtain rfl:t=[]:=h;exact hr
 | cons w ws=>
  obtain ⟨t0,t1,rfl,hk,_⟩:=h
  exact vh hk (hw w rfl)
theorem jP {l m:List Bs}{r:List Tk}(h:No l r)(hm:∀ s∈m,s∈l):No m r:=fun s hs=>h s (hm s hs)
theorem oZ {l:List Bs}{r:List Tk}{s:Bs}(h:No l r)(hs:s∈l):bg s r=false:=h s hs
def yG:List Bs:=qJ 0++[xt]
theorem xX {a:Bs}(h:em a=0):a=[]\/(a≠[]/\dl a=true):=by
 unfold em at h
 by_cases ha:a=[]
 ·exact .inl ha
 ·rw [if_neg ha] at h
  refine .inr ⟨ha,?_⟩
  unfold eo at h
  simp only [List.all_cons,List.all_nil,Bool.and_true] at h
  split at h
  ·assumption
  ·cases h
theorem Xb {a:Bs}(h:eo [a]=0):dl a=true:=by
 unfold eo at h
 simp only [List.all_cons,List.all_nil,Bool.and_true] at h
 split at h
 ·assumption
 ·cases h
theorem ZM {en:Int}{a:Bs}{t r:List Tk}(ha:em a=0)(ht:Lk (tM a) t)(hr:bg xt r=false):asM en (t++r)=.ok a r:=by
 rcases xX ha with rfl | ⟨h1,h2⟩
 ·obtain rfl:t=[]:=ht
  rw [List.nil_append,asM,hr,if_neg (by decide)]
 ·unfold tM at ht
  rw [if_neg h1] at ht
  obtain ⟨t0,_,rfl,k0,t1,t2,rfl,k1,h3⟩:=ht
  obtain rfl:t2=[]:=h3
  rw [List.cons_append,List.cons_append,List.nil_append,asM,aR k0,if_pos (by decide)]
  exact iA k1 h2
def jl (i:It):It:=⟨cL i.x,i.as⟩
theorem UP {en:Int}{ex:List Tk ->Rs X}{i:It}{t r:List Tk}(hx:zy ex i.x)(ha:em i.as=0)(ht:Lk (Cl i) t)(hc:No yG r):su en ex (t++r)=.ok (jl i) r:=by
 obtain ⟨tx,ta,rfl,S3,Im⟩:=dV ht
 have dw:mh 0 r:=jP hc (fun s hs=>List.mem_append.2 (.inl hs))
 have r7:bg xt r=false:=oZ hc (List.mem_append.2 (.inr (List.mem_singleton.2 rfl)))
 obtain ⟨x,a⟩:=i
 rw [List.append_assoc]
 rcases xX ha with h | ⟨h1,h2⟩
 ·obtain rfl:a=[]:=h
  obtain rfl:ta=[]:=Im
  rw [List.nil_append,su,hx _ _ S3 dw,aU,r7,if_neg (by decide)]
  rfl
 ·unfold tM at Im
  rw [if_neg h1] at Im
  obtain ⟨t0,_,rfl,k0,t1,t2,rfl,k1,h3⟩:=Im
  obtain rfl:t2=[]:=h3
  rw [List.cons_append,List.cons_append,List.nil_append,su,hx _ _ S3 (fC k0 (by decide)),aU,aR k0,if_pos (by decide)]
  simp only [List.tail_cons]
  rw [iA k1 h2,aU]
  rfl
def qX {α:Type}(P:α ->List Bs):Bool ->List α ->List Bs
 | _,[]=>[]
 | first,a::l=>(if first=true then [] else [ct])++(P a++qX P false l)
theorem my:∀ (l:List X) (b:Bool),sB b (l.map bm)=qX (fun x=>bm x 1) b l
 | [],b=>rfl
 | x::l,b=>by rw [List.map_cons,sB,qX,my l]
theorem qm:∀ (l:List It) (b:Bool),gt b l=qX Cl b l
 | [],b=>rfl
 | x::l,b=>by rw [gt,qX,qm l]
theorem oW {α β:Type}{en:Int}{g:List Tk ->Rs β}{P:α ->List Bs}{f:α ->β}{nol:List Bs}(hC:U3 nol (nL ct)=true):∀ (l:List α) (k:Nat),l≠[] ->l.length<=k ->(∀ a∈l,∀ t r,Lk (P a) t ->No nol r ->g (t++r)=.ok (f a) r) ->
 ∀ (b:Bool) t r,Lk (qX P true l) t ->No nol r ->bg ct r=false ->dt en g k (t++r)=.ok (l.map f) r
 | [],_,h,_,_,_,_,_,_,_,_=>(h rfl).elim
 | [a],k,_,hk,hg,_,t,r,ht,hr,hs=>by
  obtain ⟨k,rfl⟩:∃ g,k=g+1:=⟨k - 1,by simp at hk;omega⟩
  have fU:Lk (P a++[]) t:=ht
  rw [List.append_nil] at fU
  rw [dt,hg a (by simp) t r fU hr,aU,hs,if_neg (by decide)]
  rfl
 | a::c::l,k,_,hk,hg,b,t,r,ht,hr,hs=>by
  obtain ⟨k,rfl⟩:∃ g,k=g+1:=⟨k - 1,by simp at hk;omega⟩
  have fU:Lk (P a++([ct]++qX P true (c::l))) t:=ht
  obtain ⟨t1,_,rfl,h1,t2,t3,rfl,k2,h3⟩:=dV fU
  have ih:=oW (en:=en) hC (c::l) k (by simp) (by simp at hk ⊢;omega) (fun a ha=>hg a (List.mem_cons_of_mem _ ha)) b t3 r h3 hr hs
  rw [List.append_assoc,List.cons_append,dt,hg a (by simp) t1 _ h1 (vh k2 hC),aU,aR k2,if_pos (by decide)]
  simp only [List.tail_cons]
  rw [ih,aU]
  rfl
def ig (first:Bool)(s:So):So:=⟨s.k,s.name,s.as,if first=true then jh else cL s.on⟩
def XR (ex:List Tk ->Rs X)(x:X):Prop:=zy ex x/\qg gA (bm x 1)/\qg dg (bm x 1)
structure SoR (Y:X ->Prop) (first:Bool) (s:So):Prop where
 name:dl s.name=true
 asg:em s.as=0
 k1:first=true ->s.k=1
 k2:first=false ->2<=s.k/\s.k<=5/\Y s.on
theorem VH {en:Int}{ex:List Tk ->Rs X}{s:So}{t r:List Tk}(h:SoR (XR ex) true s)(ht:Lk ([s.name]++(tM s.as++[])) t)(hr:bg xt r=false):jC en ex 1 (t++r)=.ok (ig true s) r:=by
 obtain ⟨t0,t1,rfl,k0,Dr⟩:=ht
 replace Dr:Lk (tM s.as++[]) t1:=Dr
 rw [List.append_nil] at Dr
 rw [List.cons_append,jC,iA k0 h.name,aU,ZM h.asg Dr hr,aU,if_neg (by decide)]
 unfold ig
 rw [h.k1 rfl]
 rfl
theorem Xo {en:Int}{ex:List Tk ->Rs X}{s:So}{t r:List Tk}(h:SoR (XR ex) false s)(ht:Lk ([s.name]++(tM s.as++([NV]++bm s.on 1))) t)(hr:mh 0 r):jC en ex s.k (t++r)=.ok (ig false s) r:=by
 obtain ⟨h2,h5,hx⟩:=h.k2 rfl
 obtain ⟨t0,t1,rfl,k0,Dr⟩:=ht
 obtain ⟨ta,_,rfl,Im,t2,t3,rfl,k2,ht3⟩:=dV (a:=tM s.as) Dr
 have e:t0::(ta++t2::t3)++r=t0::(ta++t2::(t3++r)):=by simp
 rw [e,jC,iA k0 h.name,aU,ZM h.asg Im (by rw [aR k2];decide),aU,if_pos (by omega),cj k2 _ (by decide),aU,hx.1 _ _ ht3 hr,aU]
 rfl
def sZ:List Bs:=qJ 0++[xt,fx,mR,iY,ct]++iF
def ac0:List Bs:=qJ 0++[xt]++iF
theorem Mn {k:Int}(h2:2<=k)(h5:k<=5){en:Int}{t r:List Tk}(ht:Lk (iS k) t):mg en (t++r)=.ok k r:=by
 have:k=2\/k=3\/k=4\/k=5:=by omega
 rcases this with rfl | rfl | rfl | rfl
 ·obtain ⟨t0,t1,rfl,k0,h1⟩:=ht
  obtain rfl:t1=[]:=h1
  have k0:oY hF t0:=k0
  rw [List.cons_append,List.nil_append,mg,gh k0,show oB iF (nL hF)=some 0 by decide]
  rfl
 ·obtain ⟨t0,t1,rfl,k0,t2,t3,rfl,k2,h1⟩:=ht
  obtain rfl:t3=[]:=h1
  have k0:oY Cp t0:=k0
  have k2:oY hF t2:=k2
  rw [List.cons_append,List.cons_append,List.nil_append,mg,gh k0,show oB iF (nL Cp)=some 1 by decide]
  show (bY en [hF] (t2::r)).bind _=_
  rw [cj k2 _ (by decide)]
  rfl
 ·obtain ⟨t0,t1,rfl,k0,t2,t3,rfl,k2,h1⟩:=ht
  obtain rfl:t3=[]:=h1
  have k0:oY Bg t0:=k0
  have k2:oY hF t2:=k2
  rw [List.cons_append,List.cons_append,List.nil_append,mg,gh k0,show oB iF (nL Bg)=some 2 by decide]
  show (bY en [hF] (t2::r)).bind _=_
  rw [cj k2 _ (by decide)]
  rfl
 ·obtain ⟨t0,t1,rfl,k0,t2,t3,rfl,k2,h1⟩:=ht
  obtain rfl:t3=[]:=h1
  have k0:oY B2 t0:=k0
  have k2:oY hF t2:=k2
  rw [List.cons_append,List.cons_append,List.nil_append,mg,gh k0,show oB iF (nL B2)=some 3 by decide]
  show (bY en [hF] (t2::r)).bind _=_
  rw [cj k2 _ (by decide)]
  rfl
theorem E3 {k:Int}(h2:2<=k)(h5:k<=5):∀ w,(iS k).head?=some w ->U3 yG (nL w)=true:=by
 intro w hw
 have:k=2\/k=3\/k=4\/k=5:=by omega
 rcases this with rfl | rfl | rfl | rfl<;>(obtain rfl:=(Option.some.inj hw).symm;decide)
theorem IF {en:Int}{r:List Tk}(h:No iF r):mg en r=.ok 0 r:=by
 rw [mg,uq (l:=iF) h]
theorem Lv {ex:List Tk ->Rs X}{l:List So}(hl:∀ s∈l,SoR (XR ex) false s){t r:List Tk}(ht:Lk (iG false l) t)(hr:No ac0 r):No yG (t++r):=by
 cases l with
 | nil=>
  obtain rfl:t=[]:=ht
  exact jP hr (by decide)
 | cons s l=>
  obtain ⟨h2,h5,_⟩:=(hl s (List.mem_cons_self ..)).k2 rfl
  have fU:Lk (iS s.k++([s.name]++(tM s.as++([NV]++bm s.on 1)))++iG false l) t:=ht
  rw [List.append_assoc] at fU
  obtain ⟨t1,t2,rfl,h1,_⟩:=dV fU
  rw [List.append_assoc]
  obtain ⟨w,m,hw⟩:∃ w m,iS s.k=w::m:=by
   have:s.k=2\/s.k=3\/s.k=4\/s.k=5:=by omega
   rcases this with h | h | h | h<;>rw [h]<;>exact ⟨_,_,rfl⟩
  have hh:=E3 h2 h5 w (by rw [hw];rfl)
  rw [hw] at h1
  obtain ⟨t0,t3,rfl,k0,_⟩:=h1
  exact vh k0 hh
theorem F1 {en:Int}{ex:List Tk ->Rs X}:∀ (l:List So) (eT:Nat),l.length<=eT ->(∀ s∈l,SoR (XR ex) false s) ->∀ t r,Lk (iG false l) t ->No ac0 r ->vN en ex eT (t++r)=.ok (l.map (ig false)) r
 | [],eT,_,_,t,r,ht,hr=>by
  obtain rfl:t=[]:=ht
  rw [List.nil_append,mA,IF (jP hr (by decide)),aU]
  unfold qK
  rw [if_neg (by decide)]
  rfl
 | s::l,eT,hl,hs,t,r,ht,hr=>by
  obtain ⟨eT,rfl⟩:∃ g,eT=g+1:=⟨eT - 1,by simp at hl;omega⟩
  have hss:=hs s (List.mem_cons_self ..)
  obtain ⟨h2,h5,_⟩:=hss.k2 rfl
  have fU:Lk (iS s.k++([s.name]++(tM s.as++([NV]++bm s.on 1)))++iG false l) t:=ht
  rw [List.append_assoc] at fU
  obtain ⟨t1,_,rfl,h1,h4⟩:=dV fU
  obtain ⟨t2,t3,rfl,h3,h4⟩:=dV h4
  have bN:=Lv (fun s h=>hs s (List.mem_cons_of_mem _ h)) h4 hr
  have ih:=F1 (en:=en) l eT (by simp at hl;omega) (fun s h=>hs s (List.mem_cons_of_mem _ h)) t3 r h4 hr
  rw [List.append_assoc,List.append_assoc,mA,Mn h2 h5 h1,aU]
  unfold qK
  rw [if_pos (by omega)]
  simp only
  rw [Xo hss h3 (jP bN (fun s hs=>List.mem_append.2 (.inl hs))),aU,ih,aU]
  rfl
def dC (s:Se):Se:=⟨s.distinct,s.star,if s.star=true then [] else s.items.map jl,(match s.src with | []=>[] | f::l=>ig true f::l.map (ig false)),s.hasW,s.hasH,if s.hasW=true then cL s.wh else jh,if s.hasH=true then cL s.hv else jh,s.group.map cL⟩
theorem Dm {ex:List Tk ->Rs X}{f:Bool}{w:Bs}{x:X}{t r:List Tk}(hw:lM w (nL w)=true)(hx:f=true ->zy ex x)(ht:Lk (fR f w x) t)(hr:mh 0 r)(hn:f=false ->bg w r=false):
 wR ex w (t++r)=.ok (if f=true then cL x else jh) r/\bg w (t++r)=f:=by
 cases f with
 | false=>
  obtain rfl:t=[]:=ht
  have:=hn rfl
  rw [List.nil_append,wR,this]
  exact ⟨rfl,rfl⟩
 | true=>
  obtain ⟨t0,t1,rfl,k0,Dr⟩:=ht
  replace Dr:Lk (bm x 1) t1:=Dr
  rw [List.cons_append,wR,aR k0,hw,if_pos rfl]
  exact ⟨hx rfl _ _ Dr hr,rfl⟩
theorem Va {en:Int}{ex:List Tk ->Rs X}{l:List X}{t r:List Tk}(hl:l.length<=8)(hx:∀ x∈l,zy ex x)(ht:Lk (lg l) t)(hr:mh 0 r)(hs:bg ct r=false)(hn:bg mR r=false):Oh en ex (t++r)=.ok (l.map cL) r:=by
 unfold lg at ht
 by_cases h:l=[]
 ·subst h
  obtain rfl:t=[]:=ht
  rw [List.nil_append,Oh,hn,if_neg (by decide)]
  rfl
 ·rw [if_neg h] at ht
  obtain ⟨t0,_,rfl,k0,t1,t2,rfl,k1,tD⟩:=ht
  replace tD:Lk (lF (l.map bm)) t2:=tD
  unfold lF at tD
  rw [my] at tD
  rw [List.cons_append,List.cons_append,Oh,aR k0,if_pos (by decide)]
  simp only [List.tail_cons]
  rw [cj k1 _ (by decide),aU]
  exact oW (P:=fun x=>bm x 1) (f:=cL) (nol:=qJ 0) (by decide) l 8 h hl (fun a ha t r ht hr=>hx a ha t r ht hr) true t2 r tD hr hs
theorem Bk {s:Bs}{ws rest:List Bs}(h:qg s ws){t r:List Tk}(ht:Lk (ws++rest) t):bg s (t++r)=false:=by
 obtain ⟨w,l,rfl,hw⟩:=h
 obtain ⟨t0,t1,rfl,k0,_⟩:=ht
 rw [List.cons_append,aR k0];exact hw
structure SeR (Y:X ->Prop) (s:Se):Prop where
 items:s.star=false ->s.items≠[]/\s.items.length<=8/\∀ i∈s.items,Y i.x/\em i.as=0
 src:∃ f l,s.src=f::l/\SoR Y true f/\l.length<=3/\∀ s∈l,SoR Y false s
 wh:s.hasW=true ->Y s.wh
 hv:s.hasH=true ->Y s.hv
 group:s.group.length<=8/\∀ x∈s.group,Y x
theorem xV {f:Bool}{w:Bs}{x:X}{l:List Bs}(h:U3 l (nL w)=true):∀ u,(fR f w x).head?=some u ->U3 l (nL u)=true:=by
 intro u hu
 cases f with
 | false=>cases hu
 | true=>obtain rfl:=(Option.some.inj hu).symm;exact h
theorem Ix {g:List X}{l:List Bs}(h:U3 l (nL mR)=true):∀ u,(lg g).head?=some u ->U3 l (nL u)=true:=by
 intro u hu
 unfold lg at hu
 split at hu
 ·cases hu
 ·obtain rfl:=(Option.some.inj hu).symm;exact h
theorem ST {en:Int}{ex:List Tk ->Rs X}{s:Se}(h:SeR (XR ex) s){t r:List Tk}(ht:Lk (pP s) t)(hr:No sZ r):tX en ex (t++r)=.ok (dC s) r:=by
 obtain ⟨t0,t1,rfl,k0,ht⟩:=ht
 replace ht:Lk ((if s.distinct=true then [dg] else [])++((if s.star=true then [gA] else [])++((if s.star=true then [] else gt true s.items)++(iG true s.src++(fR s.hasW fx s.wh++(lg s.group++fR s.hasH iY s.hv)))))) t1:=ht
 obtain ⟨td,t2,rfl,hd,ht⟩:=dV ht
 obtain ⟨ts,t3,rfl,hs,ht⟩:=dV ht
 obtain ⟨ti,t4,rfl,hi,ht⟩:=dV ht
 obtain ⟨tf,t5,rfl,hf,ht⟩:=dV ht
 obtain ⟨tw,t6,rfl,hw,ht⟩:=dV ht
 obtain ⟨tg,th,rfl,hg,hh⟩:=dV ht
 obtain ⟨f0,l,AK,hf0,hl,PD⟩:=h.src
 rw [AK] at hf
 have hf':Lk ([qI]++(([f0.name]++(tM f0.as++[]))++iG false l)) tf:=by
  have e:iG true (f0::l)=iS f0.k++([f0.name]++(tM f0.as++[]))++iG false l:=rfl
  rw [e,hf0.k1 rfl,List.append_assoc] at hf
  exact hf
 obtain ⟨t7,_,rfl,k7,hf'⟩:=hf'
 obtain ⟨t8,t9,rfl,h8,h9⟩:=dV (b:=iG false l) hf'
 have nH:No (qJ 0++[xt,fx,mR,ct]++iF) (th++r):=De hh (xV (by decide)) (jP hr (by decide))
 have nG:No (qJ 0++[xt,fx]++iF) (tg++(th++r)):=De hg (Ix (by decide)) (jP nH (by decide))
 have nW:No ac0 (tw++(tg++(th++r))):=De hw (xV (by decide)) (jP nG (by decide))
 have nF:No yG (t9++(tw++(tg++(th++r)))):=Lv PD h9 nW
 obtain ⟨R2,hR2⟩:∃ R2,R2=t7::(t8++(t9++(tw++(tg++(th++r))))):=⟨_,rfl⟩
 have e:t0::(td++(ts++(ti++(t7::(t8++t9)++(tw++(tg++th))))))++r=t0::(td++(ts++(ti++R2))):=by rw [hR2];simp
 have hI:s.star=false ->bg gA (ti++R2)=false/\bg dg (ti++R2)=false:=by
  intro fG
  obtain ⟨i1,i2,i3⟩:=h.items fG
  rw [fG] at hi
  replace hi:Lk (gt true s.items) ti:=hi
  cases DL:s.items with
  | nil=>exact (i1 DL).elim
  | cons i il=>
   rw [DL] at hi i3
   obtain ⟨⟨-,h1,h2⟩, -⟩:=i3 i (List.mem_cons_self ..)
   have AE:Lk (bm i.x 1++tM i.as++gt false il) ti:=hi
   rw [List.append_assoc] at AE
   exact ⟨Bk h1 AE,Bk h2 AE⟩
 have hS:bg gA (ts++(ti++R2))=s.star/\(ts++(ti++R2)).drop (if s.star=true then 1 else 0)=ti++R2/\bg dg (ts++(ti++R2))=false:=by
  cases fG:s.star with
  | false=>
   rw [fG] at hs
   obtain rfl:ts=[]:=hs
   exact ⟨(hI fG).1,rfl,(hI fG).2⟩
  | true=>
   rw [fG] at hs
   obtain ⟨tt,tr,rfl,kt,hs⟩:=hs
   obtain rfl:tr=[]:=hs
   have kt:oY gA tt:=kt
   rw [List.cons_append,List.nil_append,aR kt,aR kt]
   exact ⟨by decide,rfl,by decide⟩
 have hD:bg dg (td++(ts++(ti++R2)))=s.distinct/\tl s.distinct (td++(ts++(ti++R2)))=ts++(ti++R2):=by
  cases hdt:s.distinct with
  | false=>
   rw [hdt] at hd
   obtain rfl:td=[]:=hd
   exact ⟨hS.2.2,rfl⟩
  | true=>
   rw [hdt] at hd
   obtain ⟨tt,tr,rfl,kt,hs⟩:=hd
   obtain rfl:tr=[]:=hs
   have kt:oY dg tt:=kt
   rw [List.cons_append,List.nil_append,aR kt]
   exact ⟨by decide,rfl⟩
 rw [e,tX,cj k0 _ (by decide),aU]
 rw [hD.1,hD.2,hS.1]
 have DL:(if s.star=true then .ok [] (ts++(ti++R2)).tail else dt en (su en ex) 8 (ts++(ti++R2)))=Rs.ok (if s.star=true then [] else s.items.map jl) R2:=by
  cases fG:s.star with
  | true=>
   have h2:=hS.2.1
   rw [fG] at h2 hi
   obtain rfl:ti=[]:=hi
   rw [if_pos rfl,if_pos rfl]
   congr 1
   rw [if_pos rfl,List.drop_one] at h2
   exact h2
  | false=>
   have h2:=hS.2.1
   rw [fG] at h2 hi
   replace hi:Lk (gt true s.items) ti:=hi
   rw [if_neg (by decide),List.drop_zero] at h2
   rw [if_neg (by decide),if_neg (by decide),h2]
   obtain ⟨i1,i2,i3⟩:=h.items fG
   rw [qm] at hi
   rw [hR2]
   exact oW (P:=Cl) (f:=jl) (nol:=yG) (by decide) s.items 8 i1 i2 (fun i hi t r ht hr=>UP (i3 i hi).1.1 (i3 i hi).2 ht hr) true ti _ hi (vh k7 (by decide)) (by rw [aR k7];decide)
 rw [DL,aU,hR2,QF,cj k7 _ (by decide),aU,VH hf0 h8 (oZ nF (by decide)),aU,F1 l 3 hl PD t9 _ h9 nW,aU,Gh]
 obtain ⟨w1,w2⟩:=Dm (f:=s.hasW) (w:=fx) (x:=s.wh) (t:=tw) (r:=tg++(th++r)) (by decide) (fun h'=>(h.wh h').1) hw (jP nG (by decide)) (fun _=>oZ nG (by decide))
 obtain ⟨v1,v2⟩:=Dm (f:=s.hasH) (w:=iY) (x:=s.hv) (t:=th) (r:=r) (by decide) (fun h'=>(h.hv h').1) hh (jP hr (by decide)) (fun _=>oZ hr (by decide))
 rw [w1,w2,aU,Kp,Va h.group.1 (fun x hx=>(h.group.2 x hx).1) hg (jP nH (by decide)) (oZ nH (by decide)) (oZ nH (by decide)),aU,Lh,v1,v2,aU]
 unfold dC
 rw [AK]
def gd (q:Q):Q:=⟨q.parts.map dC,q.ops,if 0<=q.limit then q.order.map cL else [],if 0<=q.limit then q.limit else -1⟩
def quR:List Bs:=sZ++[l7,jE,pz]
def C8 (ops:List Int)(i n:Nat):List Int:=(List.range' i n).map fun j=>ops.getD (j - 1) 0
theorem Jb {k:Int}:∀ w,(lN k).head?=some w ->U3 sZ (nL w)=true:=by
 intro w hw
 unfold lN at hw
 split at hw
 ·obtain rfl:=(Option.some.inj hw).symm;decide
 split at hw
 ·obtain rfl:=(Option.some.inj hw).symm;decide
 split at hw
 ·obtain rfl:=(Option.some.inj hw).symm;decide
 ·obtain rfl:=(Option.some.inj hw).symm;decide
theorem Pd (k:Int):∃ w l,lN k=w::l:=by
 unfold lN
 split
 ·exact ⟨_,_,rfl⟩
 split
 ·exact ⟨_,_,rfl⟩
 split
 ·exact ⟨_,_,rfl⟩
 ·exact ⟨_,_,rfl⟩
theorem Mc {r:List Tk}(h:No nX r):qi r=.ok 0 r:=by
 rw [qi,uq (l:=nX) h]
theorem TU {k:Int}(h1:1<=k)(h4:k<=4){t r:List Tk}(ht:Lk (lN k) t)(hr:bg qP r=false):qi (t++r)=.ok k r:=by
 have:k=1\/k=2\/k=3\/k=4:=by omega
 rcases this with rfl | rfl | rfl | rfl
 ·obtain ⟨t0,t1,rfl,k0,t2,t3,rfl,k2,h1⟩:=ht
  obtain rfl:t3=[]:=h1
  have k0:oY l7 t0:=k0
  have k2:oY qP t2:=k2
  rw [List.cons_append,List.cons_append,List.nil_append,qi,gh k0,show oB nX (nL l7)=some 0 by decide]
  exact (if_pos (by show bg qP (t2::r)=true;rw [aR k2];decide)).trans rfl
 ·obtain ⟨t0,t1,rfl,k0,h1⟩:=ht
  obtain rfl:t1=[]:=h1
  have k0:oY l7 t0:=k0
  rw [List.cons_append,List.nil_append,qi,gh k0,show oB nX (nL l7)=some 0 by decide]
  exact (if_neg (by show ¬ bg qP r=true;rw [hr];decide)).trans rfl
 ·obtain ⟨t0,t1,rfl,k0,t2,t3,rfl,k2,h1⟩:=ht
  obtain rfl:t3=[]:=h1
  have k0:oY jE t0:=k0
  have k2:oY qP t2:=k2
  rw [List.cons_append,List.cons_append,List.nil_append,qi,gh k0,show oB nX (nL jE)=some 1 by decide]
  exact (if_pos (by show bg qP (t2::r)=true;rw [aR k2];decide)).trans rfl
 ·obtain ⟨t0,t1,rfl,k0,h1⟩:=ht
  obtain rfl:t1=[]:=h1
  have k0:oY jE t0:=k0
  rw [List.cons_append,List.nil_append,qi,gh k0,show oB nX (nL jE)=some 1 by decide]
  exact (if_neg (by show ¬ bg qP r=true;rw [hr];decide)).trans rfl
theorem Gt {ops:List Int}{i:Nat}(hi:i≠0){l:List Se}{t r:List Tk}(ht:Lk (gl ops i l) t)(hr:No sZ r):No sZ (t++r):=by
 cases l with
 | nil=>obtain rfl:t=[]:=ht;exact hr
 | cons s l=>
  rw [gl,if_neg hi] at ht
  obtain ⟨t1,t2,rfl,h1,_⟩:=dV ht
  obtain ⟨w,m,hw⟩:=Pd (ops.getD (i - 1) 0)
  have hh:=Jb w (by rw [hw];rfl)
  rw [hw] at h1
  obtain ⟨t0,t3,rfl,k0,_⟩:=h1
  exact vh k0 hh
theorem Lc {en:Int}{ex:List Tk ->Rs X}{ops:List Int}:∀ (l:List Se) (i eT:Nat),i≠0 ->l.length<=eT ->(∀ s∈l,SeR (XR ex) s) ->(∀ j,i<=j ->j<i+l.length ->1<=ops.getD (j - 1) 0/\ops.getD (j - 1) 0<=4) ->∀ t r,Lk (gl ops i l) t ->No (sZ++nX) r ->
 ∃ k t',qi (t++r)=.ok k t'/\qO en ex eT k t'=.ok (C8 ops i l.length,l.map dC) r
 | [],i,eT,hi,_,_,_,t,r,ht,hr=>by
  obtain rfl:t=[]:=ht
  refine ⟨0,r,Mc (jP hr (by decide)),?_⟩
  unfold qO
  rw [if_neg (by decide)]
  rfl
 | s::l,i,eT,hi,hl,hs,ho,t,r,ht,hr=>by
  obtain ⟨eT,rfl⟩:∃ g,eT=g+1:=⟨eT - 1,by simp at hl;omega⟩
  rw [gl,if_neg hi] at ht
  obtain ⟨t1,_,rfl,h1,h2⟩:=dV ht
  obtain ⟨t2,t3,rfl,h2,h3⟩:=dV h2
  obtain ⟨o1,o4⟩:=ho i (Nat.le_refl _) (by simp)
  obtain ⟨k',t',e1,e2⟩:=Lc l (i+1) eT (by omega) (by simp at hl;omega) (fun s h=>hs s (List.mem_cons_of_mem _ h)) (fun j hj OB=>ho j (by omega) (by simp;omega)) t3 r h3 hr
  have qk:bg qP (t2++(t3++r))=false:=by
   have LG:=h2
   obtain ⟨t0,t4,rfl,k0,_⟩:=LG
   rw [List.cons_append,aR k0];decide
  refine ⟨ops.getD (i - 1) 0,t2++(t3++r),?_,?_⟩
  ·rw [List.append_assoc,List.append_assoc]
   exact TU o1 o4 h1 qk
  ·rw [qO,if_pos (by omega)]
   rw [ST (hs s (List.mem_cons_self ..)) h2 (Gt (by omega) h3 (jP hr (by decide))),aU,e1,aU,e2,aU]
   rfl
structure QuR (Y:X ->Prop) (q:Q):Prop where
 parts:q.parts≠[]/\q.parts.length<=4/\∀ s∈q.parts,SeR Y s
 ops:q.ops.length+1=q.parts.length/\∀ j,j<q.ops.length ->1<=q.ops.getD j 0/\q.ops.getD j 0<=4
 lim:0<=q.limit ->q.limit<=50/\q.order≠[]/\q.order.length<=8/\∀ x∈q.order,Y x
theorem Hs (ops:List Int):C8 ops 1 ops.length=ops:=by
 unfold C8
 apply List.ext_getElem
 ·simp
 ·intro n h1 h2
  simp at h1 ⊢
  rw [List.getElem?_eq_getElem h2]
  rfl
theorem Sc {en:Int}{ex:List Tk ->Rs X}{q:Q}(h:QuR (XR ex) q){t r:List Tk}(ht:Lk (DY q) t)(hr:bg pz r=false):
 vE en ex (t++r)=.ok (if 0<=q.limit then q.order.map cL else [],if 0<=q.limit then q.limit else -1) r:=by
 unfold DY at ht
 by_cases h0:0<=q.limit
 ·rw [if_pos h0] at ht
  obtain ⟨l50,l1,l2,l3⟩:=h.lim h0
  obtain ⟨t0,_,rfl,k0,t1,t2,rfl,k1,ht⟩:=ht
  replace ht:Lk (lF (q.order.map bm)++[zp,Lib.decDigits q.limit.toNat]) t2:=ht
  obtain ⟨t3,_,rfl,h3,t4,_,rfl,k4,t5,t6,rfl,k5,h6⟩:=dV ht
  obtain rfl:t6=[]:=h6
  unfold lF at h3
  rw [my] at h3
  have e:t0::t1::(t3++[t4,t5])++r=t0::t1::(t3++(t4::t5::r)):=by simp
  have k5':=k5
  unfold oY at k5'
  rw [oR] at k5'
  injection k5' with c1 c2
  have hm:bg iW (t5::r)=false:=by simp [bg,c1]
  have vG:S5 en (t5::r)=.ok q.limit r:=by
   unfold S5 sP
   rw [hm,if_neg (by decide),nI,if_pos c1,c2,qd,if_neg (by omega),if_neg (by decide),aU]
   have:((q.limit.toNat:Nat):Int)=q.limit:=by omega
   rw [this,if_neg (by omega)]
  rw [e,vE,aR k0,if_pos (by decide)]
  simp only [List.tail_cons]
  rw [cj k1 _ (by decide),aU,oW (P:=fun x=>bm x 1) (f:=cL) (nol:=qJ 0) (by decide) q.order 8 l1 l2 (fun a ha t r ht hr=>(l3 a ha).1 t r ht hr) true t3 _ h3 (fC k4 (by decide)) (by rw [aR k4];decide),aU,cj k4 _ (by decide),aU,vG,aU,if_pos h0,if_pos h0]
 ·rw [if_neg h0] at ht
  obtain rfl:t=[]:=ht
  rw [List.nil_append,vE,hr,if_neg (by decide),if_neg h0,if_neg h0]
theorem FV {en:Int}{ex:List Tk ->Rs X}{q:Q}(h:QuR (XR ex) q){t r:List Tk}(ht:Lk (im q) t)(hr:No quR r):mG en ex (t++r)=.ok (gd q) r:=by
 obtain ⟨p1,p2,p3⟩:=h.parts
 obtain ⟨o1,o2⟩:=h.ops
 obtain ⟨tp,tl,rfl,hp,hl⟩:=dV ht
 cases hq:q.parts with
 | nil=>exact (p1 hq).elim
 | cons s l=>
  rw [hq] at hp p2 p3 o1
  have vr:Lk (pP s++gl q.ops 1 l) tp:=hp
  obtain ⟨t1,t2,rfl,h1,h2⟩:=dV vr
  have n1:No (sZ++nX) (tl++r):=by
   refine De hl ?_ (jP hr (by decide))
   intro w hw
   unfold DY at hw
   split at hw
   ·obtain rfl:=(Option.some.inj hw).symm;decide
   ·cases hw
  simp only [List.length_cons] at p2 o1
  obtain ⟨k,t',e1,e2⟩:=Lc (en:=en) l 1 3 (by decide) (by omega) (fun s hs=>p3 s (List.mem_cons_of_mem _ hs)) (fun j hj OB=>o2 (j - 1) (by omega)) t2 (tl++r) h2 n1
  have e:t1++t2++tl++r=t1++(t2++(tl++r)):=by simp
  rw [e,mG,ST (p3 s (List.mem_cons_self ..)) h1 (Gt (by decide) h2 (jP n1 (by decide))),aU,e1,aU,e2,aU,yI,Sc h hl (oZ hr (by decide)),aU]
  unfold gd
  rw [hq,show l.length=q.ops.length by omega,Hs]
  rfl
def wb (s:Stm):Stm:=
 if s.k=1 then ⟨1,s.name,s.cols,yR,[],false,jh⟩
 else if s.k=3 then ⟨3,s.name,[],yR,s.rows.map (·.map kT),false,jh⟩
 else if s.k=4 then ⟨4,s.name,[],yR,[],s.hasW,if s.hasW=true then cL s.wh else jh⟩
 else ⟨s.k,if s.k=5 then [] else s.name,[],gd s.q,[],false,jh⟩
structure StR (Y:X ->Prop) (s:Stm):Prop where
 k:1<=s.k/\s.k<=5
 name:s.k≠5 ->dl s.name=true
 cols:s.k=1 ->s.cols≠[]/\s.cols.length<=8/\∀ c∈s.cols,dl c.name=true/\2<=c.ty/\c.ty<=4
 q:s.k=2\/s.k=5 ->QuR Y s.q
 rows:s.k=3 ->s.rows≠[]/\s.rows.length<=400/\∀ r∈s.rows,r≠[]/\r.length<=8/\∀ v∈r,cR v=0
 wh:s.k=4 ->s.hasW=true ->Y s.wh
theorem ac4 {en:Int}{v:V}(h:cR v=0){t r:List Tk}(ht:Lk (ld v) t):Jv en (t++r)=.ok (kT v) r:=by
 rw [Jv,ER h ht,aU]
theorem tm:∀ (l:List Co) (b:Bool),pE b l=qX (fun c=>[c.name,rJ c.ty]) b l
 | [],b=>rfl
 | x::l,b=>by rw [pE,qX,tm l]
theorem sV:∀ (l:List V),kS false l=qX ld false l
 | []=>rfl
 | x::l=>by rw [kS,qX,sV l];rfl
theorem sA:∀ (l:List (List V)) (b:Bool),nn b l=qX (fun r=>kS true r++[cd]) b l
 | [],b=>rfl
 | x::l,b=>by rw [nn,qX,sA l,List.append_assoc]
theorem acx {en:Int}{c:Co}(h:dl c.name=true/\2<=c.ty/\c.ty<=4){t r:List Tk}(ht:Lk [c.name,rJ c.ty] t):nh en (t++r)=.ok c r:=by
 obtain ⟨n,ty⟩:=c
 obtain ⟨h1,h2,h3⟩:=h
 obtain ⟨t0,_,rfl,k0,t1,t2,rfl,k1,h4⟩:=ht
 obtain rfl:t2=[]:=h4
 rw [List.cons_append,List.cons_append,List.nil_append,nh,iA k0 h1,aU]
 simp only at h2 h3 k1
 have:ty=2\/ty=3\/ty=4:=by omega
 rcases this with rfl | rfl | rfl
 ·rw [gh k1,show oB mE (nL (rJ 2))=some 0 by decide];rfl
 ·rw [gh k1,show oB mE (nL (rJ 3))=some 1 by decide];rfl
 ·rw [gh k1,show oB mE (nL (rJ 4))=some 2 by decide];rfl
theorem acr {en:Int}{l:List V}(h:l≠[]/\l.length<=8/\∀ v∈l,cR v=0){t r:List Tk}(ht:Lk (kS true l++[cd]) t):Ia en (t++r)=.ok (l.map kT) r:=by
 obtain ⟨h1,h2,h3⟩:=h
 cases l with
 | nil=>exact (h1 rfl).elim
 | cons v l=>
  have fU:Lk ([dp]++((ld v++kS false l)++[cd])) t:=ht
  rw [sV] at fU
  obtain ⟨t0,_,rfl,k0,fU⟩:=fU
  obtain ⟨t1,_,rfl,hv,t2,t3,rfl,k2,h5⟩:=dV (a:=qX ld true (v::l)) fU
  obtain rfl:t3=[]:=h5
  rw [List.cons_append,List.append_assoc,List.cons_append,List.nil_append,Ia,cj k0 _ (by decide),aU,
   oW (P:=ld) (f:=kT) (nol:=[]) (by decide) (v::l) 8 h1 h2 (fun a ha t r ht hr=>ac4 (h3 a ha) ht) true t1 _ hv (fun s hs=>by cases hs) (by rw [aR k2];decide),aU,cj k2 _ (by decide),aU]
theorem VX {en:Int}{ex:List Tk ->Rs X}{s:Stm}(h:StR (XR ex) s){t r:List Tk}(ht:Lk (lH s) t)(hr:No quR r):lW en ex (t++r)=.ok (wb s) r:=by
 obtain ⟨k,name,cols,q,rows,hasW,wh⟩:=s
 obtain ⟨hk,hn,gy,hq,Fo,ZI⟩:=h
 simp only at hk hn gy hq Fo ZI
 have:k=1\/k=2\/k=3\/k=4\/k=5:=by omega
 rcases this with rfl | rfl | rfl | rfl | rfl
 ·obtain ⟨c1,c2,c3⟩:=gy rfl
  have fU:Lk ([jN,vO,name,dp]++(pE true cols++[cd])) t:=ht
  rw [tm] at fU
  obtain ⟨t0,_,rfl,k0,t1,_,rfl,k1,t2,_,rfl,k2,t3,_,rfl,k3,fU⟩:=fU
  obtain ⟨tc,_,rfl,hc,t4,t5,rfl,k4,h5⟩:=dV (a:=qX (fun c:Co=>[c.name,rJ c.ty]) true cols) fU
  obtain rfl:t5=[]:=h5
  have e:t0::t1::t2::t3::(tc++[t4])++r=t0::t1::t2::t3::(tc++t4::r):=by simp
  have hv:bg tV (t1::t2::t3::(tc++t4::r))=false:=by rw [aR k1];decide
  rw [e,lW,aR k0,if_pos (by decide)]
  simp only [List.tail_cons,hv,Bool.false_eq_true,if_false]
  rw [HK,cj k1 _ (by decide),aU,iA k2 (hn (by decide)),aU,cj k3 _ (by decide),aU,
   oW (P:=fun c:Co=>[c.name,rJ c.ty]) (f:=id) (nol:=[]) (by decide) cols 8 c1 c2 (fun a ha t r ht hr=>acx (c3 a ha) ht) true tc _ hc (fun s hs=>by cases hs) (by rw [aR k4];decide),aU,cj k4 _ (by decide),aU,List.map_id]
  rfl
 ·have fU:Lk ([jN,tV,name,xt]++im q) t:=ht
  obtain ⟨t0,_,rfl,k0,t1,_,rfl,k1,t2,_,rfl,k2,t3,tq,rfl,k3,Td⟩:=fU
  have hv:bg tV (t1::t2::t3::(tq++r))=true:=by rw [aR k1];decide
  simp only [List.cons_append]
  rw [lW,aR k0,if_pos (by decide)]
  simp only [List.tail_cons,hv,if_true]
  rw [Pi,iA k2 (hn (by decide)),aU,cj k3 _ (by decide),aU,FV (hq (.inl rfl)) Td hr,aU]
  rfl
 ·obtain ⟨c1,c2,c3⟩:=Fo rfl
  have fU:Lk ([pC,Ba,name,rC]++nn true rows) t:=ht
  rw [sA] at fU
  obtain ⟨t0,_,rfl,k0,t1,_,rfl,k1,t2,_,rfl,k2,t3,tq,rfl,k3,Td⟩:=fU
  simp only [List.cons_append]
  rw [lW,aR k0,if_neg (by decide),aR k0,if_pos (by decide)]
  simp only [List.tail_cons]
  rw [CU,cj k1 _ (by decide),aU,iA k2 (hn (by decide)),aU,cj k3 _ (by decide),aU,
   oW (P:=fun r=>kS true r++[cd]) (f:=fun r=>r.map kT) (nol:=[]) (by decide) rows 400 c1 c2 (fun a ha t r ht hr=>acr (c3 a ha) ht) true tq _ Td (fun s hs=>by cases hs) (oZ hr (by decide)),aU]
  rfl
 ·have fU:Lk ([pd,qI,name]++fR hasW fx wh) t:=ht
  obtain ⟨t0,_,rfl,k0,t1,_,rfl,k1,t2,tq,rfl,k2,Td⟩:=fU
  obtain ⟨w1,w2⟩:=Dm (ex:=ex) (f:=hasW) (w:=fx) (x:=wh) (t:=tq) (r:=r) (by decide) (fun h'=>(ZI rfl h').1) Td (jP hr (by decide)) (fun _=>oZ hr (by decide))
  simp only [List.cons_append]
  rw [lW,aR k0,if_neg (by decide),aR k0,if_neg (by decide),aR k0,if_pos (by decide)]
  simp only [List.tail_cons]
  rw [C4,cj k1 _ (by decide),aU,iA k2 (hn (by decide)),aU,w1,w2,aU]
  rfl
 ·have fU:Lk ([BA]++im q) t:=ht
  obtain ⟨t0,tq,rfl,k0,Td⟩:=fU
  simp only [List.cons_append]
  rw [lW,aR k0,if_neg (by decide),aR k0,if_neg (by decide),aR k0,if_neg (by decide),Qr,cj k0 _ (by decide),aU,FV (hq (.inr rfl)) Td hr,aU]
  rfl
theorem EA {en:Int}:∀ (l:List Stm) (eT:Nat),l.length<=eT ->(∀ s∈l,StR (XR (Um en)) s) ->∀ t,Lk (hZ l) t ->jS en eT t=.ok (l.map wb) []
 | [],eT,_,_,t,ht=>by
  obtain rfl:t=[]:=ht
  exact yU en eT
 | s::l,eT,hl,hs,t,ht=>by
  obtain ⟨eT,rfl⟩:∃ g,eT=g+1:=⟨eT - 1,by simp at hl;omega⟩
  have fU:Lk ((lH s++[qY])++hZ l) t:=ht
  rw [List.append_assoc] at fU
  obtain ⟨t1,_,rfl,h1,t2,t3,rfl,k2,h3⟩:=dV fU
  have ih:=EA l eT (by simp at hl;omega) (fun s h=>hs s (List.mem_cons_of_mem _ h)) t3 h3
  rw [wE _ _ _ (by simp),IP]
  rw [VX (hs s (List.mem_cons_self ..)) h1 (vh k2 (by decide)),aU,cj k2 _ (by decide),aU]
  show (jS en eT t3).bind _=_
  rw [ih,aU]
  rfl
mutual
def lP:X ->Prop
 | .mk k v _ _ kids=>(k=1 ->1<=v.k/\v.k<=4)/\ii kids
def ii:List X ->Prop
 | []=>True
 | x::l=>lP x/\ii l
end
def rK (v:V):V:=⟨v.k,if v.k=4\/v.k=1 then 0 else v.n,if v.k=4 then v.t else []⟩
theorem Cb {v:V}(h:1<=v.k/\v.k<=4):kT v=rK v:=by
 obtain ⟨k,n,t⟩:=v
 have:k=1\/k=2\/k=3\/k=4:=by simp only at h;omega
 rcases this with rfl | rfl | rfl | rfl<;>simp [rK,kT]
mutual
def cJ:Ex ->Ex
 | .mk k v c kids=> .mk k (if k=1 then rK v else v) c (dF kids)
def dF:List Ex ->List Ex
 | []=>[]
 | x::l=>cJ x::dF l
end
theorem B5 {v:V}(h:1<=v.k/\v.k<=4):CJ (kT v)=CJ v:=by
 obtain ⟨k,n,t⟩:=v
 have:k=1\/k=2\/k=3\/k=4:=by simp only at h;omega
 rcases this with rfl | rfl | rfl | rfl<;>simp [CJ,kT]
mutual
theorem xZ:∀ (x y:X),lP x ->lP y ->fp (cL x) (cL y)=fp x y
 | .mk k v tab name kids,.mk k' v' tab' name' kids',hx,hy=>by
  rw [cL,cL,fp,fp]
  by_cases hk:k=k'
  ·subst hk
   by_cases k1:k=1
   ·rw [if_pos k1,if_pos k1,if_pos k1,if_pos k1,B5 (hx.1 k1),B5 (hy.1 k1)]
   ·by_cases k2:k=2
    ·rw [if_neg k1,if_neg k1,if_pos k2,if_pos k2]
     simp only [if_pos k2]
    ·rw [if_neg k1,if_neg k1,if_neg k2,if_neg k2,wH kids kids' hx.2 hy.2]
  ·simp [hk]
theorem wH:∀ (l m:List X),ii l ->ii m ->fH (eI l) (eI m)=fH l m
 | [],[],_,_=>by rw [eI]
 | [],y::m,_,_=>by simp [eI,fH]
 | x::l,[],_,_=>by simp [eI,fH]
 | x::l,y::m,hx,hy=>by rw [eI,eI,fH,fH,xZ x y hx.1 hy.1,wH l m hx.2 hy.2]
end
theorem XQ (x:X):(cL x).k=x.k:=by cases x;rfl
mutual
theorem Eb:∀ (x:X),mW (cL x)=mW x
 | .mk k v tab name kids=>by rw [cL,mW,mW,AS kids]
theorem AS:∀ (l:List X),GQ (eI l)=GQ l
 | []=>by rw [eI]
 | x::l=>by rw [eI,GQ,GQ,Eb x,AS l]
end
def vJ {α β:Type}(f:α ->β):Except Int α ->Except Int β
 | .ok a=> .ok (f a)
 | .error e=> .error e
theorem u9 (i:Nat):cJ (sS i)=sS i:=by
 unfold sS
 rw [cJ,if_neg (by decide),dF]
theorem sE:cJ dP=dP:=by
 unfold dP
 rw [cJ,if_neg (by decide),dF]
mutual
theorem pt {names:List (Bs×Bs)}:∀ (x:X),lP x ->iH names (cL x)=vJ cJ (iH names x)
 | .mk k v tab name kids,hx=>by
  rw [cL,iH,iH]
  by_cases nd:19<=k
  ·rw [if_pos nd,if_pos nd];rfl
  rw [if_neg nd,if_neg nd]
  by_cases k2:k=2
  ·rw [if_pos k2,if_pos k2]
   simp only [if_pos k2]
   cases l6 names tab name with
   | ok i=>show Except.ok (sS i)=.ok (cJ (sS i));rw [u9]
   | error e=>rfl
  rw [if_neg k2,if_neg k2]
  by_cases k1:k=1
  ·rw [if_pos k1,if_pos k1,if_pos k1]
   show _=Except.ok (cJ _)
   rw [cJ,if_pos rfl,dF,Cb (hx.1 k1)]
  rw [if_neg k1,if_neg k1,lI kids hx.2]
  cases cI names kids with
  | ok l=>
   show Except.ok _=Except.ok (cJ _)
   rw [cJ,if_neg k1]
  | error e=>rfl
theorem lI {names:List (Bs×Bs)}:∀ (l:List X),ii l ->cI names (eI l)=vJ dF (cI names l)
 | [],_=>by rw [eI,cI];show _=Except.ok (dF []);rw [dF]
 | x::l,hx=>by
  rw [eI,cI,cI,pt x hx.1]
  cases iH names x with
  | error e=>rfl
  | ok y=>
   simp only [vJ]
   rw [lI l hx.2]
   cases cI names l with
   | error e=>rfl
   | ok m=>show Except.ok _=Except.ok (dF _);rw [dF]
end
theorem GI {x:X}(hx:lP x):∀ (bd:List X),ii bd ->(bd.map cL).findIdx? (fun y=>fp (cL x) y)=bd.findIdx? (fun y=>fp x y)
 | [],_=>rfl
 | y::l,h=>by
  rw [List.map_cons,List.findIdx?_cons,List.findIdx?_cons,xZ x y hx h.1,GI hx l h.2]
def iX (a:Ag):Ag:=⟨a.k,cJ a.x⟩
theorem oV:∀ l,dF l=l.map cJ
 | []=>by rw [dF];rfl
 | x::l=>by rw [dF,oV l];rfl
theorem Mv {names:List (Bs×Bs)}(l:List X)(hl:ii l):wN names (eI l)=vJ cJ (wN names l):=by
 cases l with
 | nil=>rw [eI];show Except.ok dP=Except.ok (cJ dP);rw [sE]
 | cons x l=>rw [eI];exact pt x hl.1
mutual
theorem zb {names:List (Bs×Bs)}{bd:List X}(hk:ii bd):∀ (x:X) (ags:List Ag),lP x ->kR names (bd.map cL) (cL x) (ags.map iX)=vJ (fun r=>(cJ r.1,r.2.map iX)) (kR names bd x ags)
 | .mk k v tab name kids,ags,hx=>by
  have ij:=GI hx bd hk
  have hb:cL (.mk k v tab name kids)=.mk k (if k=1 then kT v else ⟨0,0,[]⟩) (if k=2 then tab else []) (if k=2 then name else []) (eI kids):=by rw [cL]
  rw [hb] at ij ⊢
  rw [kR,kR,ij]
  cases bd.findIdx? (fun y=>fp (.mk k v tab name kids) y) with
  | some i=>show Except.ok (sS i,_)=Except.ok (cJ (sS i),_);rw [u9]
  | none=>
   simp only
   by_cases nd:19<=k
   ·rw [if_pos nd,if_pos nd,Mv kids hx.2,List.length_map,List.length_map]
    cases wN names kids with
    | ok a=>
     show Except.ok (_,_)=Except.ok (cJ _,_)
     rw [u9,List.map_append];rfl
    | error e=>rfl
   rw [if_neg nd,if_neg nd]
   by_cases k2:k=2
   ·rw [if_pos k2,if_pos k2];rfl
   rw [if_neg k2,if_neg k2]
   by_cases k1:k=1
   ·rw [if_pos k1,if_pos k1,if_pos k1]
    show _=Except.ok (cJ _,_)
    rw [cJ,if_pos rfl,dF,Cb (hx.1 k1)]
   rw [if_neg k1,if_neg k1,qf hk kids ags hx.2]
   cases dq names bd kids ags with
   | ok l=>
    show Except.ok (_,_)=Except.ok (cJ _,_)
    rw [cJ,if_neg k1]
   | error e=>rfl
theorem qf {names:List (Bs×Bs)}{bd:List X}(hk:ii bd):∀ (l:List X) (ags:List Ag),ii l ->dq names (bd.map cL) (eI l) (ags.map iX)=vJ (fun r=>(dF r.1,r.2.map iX)) (dq names bd l ags)
 | [],ags,_=>by rw [eI,dq,dq];show _=Except.ok (dF [],_);rw [dF]
 | x::l,ags,h=>by
  rw [eI,dq,dq,zb hk x ags h.1]
  cases kR names bd x ags with
  | error e=>rfl
  | ok y=>
   simp only [vJ]
   rw [qf hk l y.2 h.2]
   cases dq names bd l y.2 with
   | error e=>rfl
   | ok m=>show Except.ok (_,_)=Except.ok (dF _,_);rw [dF]
end
mutual
def bZ:Pl ->Pl
 | .mk k n x xs ags kids=> .mk k n (cJ x) (dF xs) (ags.map iX) (cD kids)
def cD:List Pl ->List Pl
 | []=>[]
 | p::l=>bZ p::cD l
end
theorem RA (v:V):rK (rK v)=rK v:=by
 obtain ⟨k,n,t⟩:=v
 unfold rK
 by_cases h4:k=4
 ·simp [h4]
 ·by_cases h1:k=1
  ·simp [h1]
  ·simp [h1,h4]
mutual
theorem mM:∀ (x:Ex),cJ (cJ x)=cJ x
 | .mk k v c kids=>by
  rw [cJ,cJ,j2 kids]
  by_cases k1:k=1
  ·rw [if_pos k1,if_pos k1,RA]
  ·rw [if_neg k1,if_neg k1]
theorem j2:∀ (l:List Ex),dF (dF l)=dF l
 | []=>by rw [dF,dF]
 | x::l=>by rw [dF,dF,mM x,j2 l]
end
theorem Gl (l:List Ag):(l.map iX).map iX=l.map iX:=by
 rw [List.map_map]
 congr 1
 funext a
 show (⟨a.k,cJ (cJ a.x)⟩:Ag)=⟨a.k,cJ a.x⟩
 rw [mM]
def DO {α:Type}(a b:Except Int (Pl×α)):Prop:=match a,b with
 | .ok r,.ok r'=>bZ r.1=bZ r'.1/\r.2=r'.2
 | .error e,.error e'=>e=e'
 | _,_=>False
theorem Bz (b:Bool)(s:So):dB (ig b s)=dB s:=rfl
theorem xO {rels:List Rel}:∀ (l:List So) (i:Nat) (p p':Pl) (names:List (Bs×Bs)) (had:List Bs),(∀ s∈l,lP s.on) ->0<i ->bZ p'=bZ p ->DO (iB rels (l.map (ig false)) i p' names had) (iB rels l i p names had)
 | [],i,p,p',names,had,_,_,hp=>by
  rw [List.map_nil,iB,iB]
  exact ⟨hp,rfl⟩
 | s::l,i,p,p',names,had,El,hi,hp=>by
  rw [List.map_cons,iB,iB,Bz]
  show DO (match lQ rels s.name with | .error e=>_ | .ok q=>_) _
  cases lQ rels s.name with
  | error e=>rfl
  | ok q=>
   simp only
   split
   ·rfl
   ·have mm:¬ i=0:=by omega
    have e1:(ig false s).on=cL s.on:=rfl
    have e2:(ig false s).k=s.k:=rfl
    simp only [if_neg mm]
    rw [e1,e2,pt _ (El s (List.mem_cons_self ..))]
    cases iH (names++q.2.map fun c=>(dB s,c.name)) s.on with
    | error e=>rfl
    | ok x=>
     simp only [vJ]
     refine xO l (i+1) _ _ _ _ (fun x hx=>El x (List.mem_cons_of_mem _ hx)) (by omega) ?_
     rw [bZ,bZ,cD,cD,cD,cD,cD,cD,hp,mM]
theorem Iw {rels:List Rel}(l:List So):(∀ s∈l.drop 1,lP s.on) ->DO (mQ rels (match l with | []=>[] | f::l=>ig true f::l.map (ig false))) (mQ rels l):=by
 intro El
 cases l with
 | nil=>exact ⟨rfl,rfl⟩
 | cons s l=>
  unfold mQ
  simp only
  rw [iB,iB,Bz]
  show DO (match lQ rels s.name with | .error e=>_ | .ok q=>_) _
  cases lQ rels s.name with
  | error e=>rfl
  | ok q=>
   simp only
   split
   ·rfl
   ·simp only [if_true]
    exact xO l 1 _ _ _ _ El (by omega) rfl
theorem Ho {x:X}(h:x.k=2):(cL x).name=x.name:=by
 obtain ⟨k,v,tab,name,kids⟩:=x
 have h2:k=2:=h
 subst h2
 rw [cL];rfl
theorem E7 (x:It)(i:Nat):oT (jl x) i=oT x i:=by
 unfold oT
 have e1:(jl x).as=x.as:=rfl
 have e2:(jl x).x=cL x.x:=rfl
 rw [e1,e2,XQ]
 split
 ·rfl
 ·split
  ·rename_i h;exact Ho h
  ·rfl
theorem ug:∀ (l:List It) (i:Nat),ec i (l.map jl)=ec i l
 | [],_=>rfl
 | x::l,i=>by rw [List.map_cons,ec,ec,E7,ug l]
theorem P4 (l:List It):((l.map jl).any fun i=>mW i.x)=l.any fun i=>mW i.x:=by
 rw [List.any_map]
 congr 1
 funext i
 exact Eb i.x
theorem DG (s:Se):dX (dC s)=dX s:=by
 unfold dX
 have e1:(dC s).group.length=s.group.length:=by show (s.group.map cL).length=_;rw [List.length_map]
 have e2:(dC s).hasH=s.hasH:=rfl
 have e3:(dC s).star=s.star:=rfl
 have e4:(dC s).items=if s.star=true then [] else s.items.map jl:=rfl
 rw [e1,e2,e3,e4]
 cases s.star with
 | true=>rfl
 | false=>rw [if_neg (by decide),P4]
theorem xY (l:List It):(l.map jl).map (·.x)=eI (l.map (·.x)):=by
 rw [jU,List.map_map,List.map_map];rfl
theorem H9 {names:List (Bs×Bs)}(h:Bool)(x:X)(hx:h=true ->lP x):nZ names h (if h=true then cL x else jh)=vJ cJ (nZ names h x):=by
 unfold nZ
 cases h with
 | true=>simp only [if_true];exact pt x (hx rfl)
 | false=>simp only [Bool.false_eq_true,if_false];show _=Except.ok (cJ dP);rw [sE]
theorem IN {names:List (Bs×Bs)}{bd:List X}(hk:ii bd)(h:Bool)(x:X)(ags:List Ag)(hx:h=true ->lP x):oy names (bd.map cL) h (if h=true then cL x else jh) (ags.map iX)=vJ (fun r=>(cJ r.1,r.2.map iX)) (oy names bd h x ags):=by
 unfold oy
 cases h with
 | true=>simp only [if_true];exact zb hk x ags (hx rfl)
 | false=>simp only [Bool.false_eq_true,if_false];show _=Except.ok (cJ dP,_);rw [sE]
structure SeLit (s:Se):Prop where
 group:ii s.group
 items:s.star=false ->ii (s.items.map (·.x))
 having:s.hasH=true ->lP s.hv
 wher:s.hasW=true ->lP s.wh
 src:∀ x∈s.src.drop 1,lP x.on
def aej (a b:Except Int Pl):Prop:=match a,b with
 | .ok r,.ok r'=>bZ r=bZ r'
 | .error e,.error e'=>e=e'
 | _,_=>False
theorem ud {x y:Ex}{p q:Pl}(h:bZ p=bZ q)(hx:cJ x=cJ y):bZ (eK x p)=bZ (eK y q):=by
 unfold eK
 rw [bZ,bZ,cD,cD,cD,cD,h,hx]
theorem jZ {k:Int}{p q:Pl}(h:bZ p=bZ q):bZ (iC k p)=bZ (iC k q):=by
 unfold iC
 rw [bZ,bZ,cD,cD,cD,cD,h]
theorem nt {k:Int}{p q p' q':Pl}(h:bZ p=bZ q)(h':bZ p'=bZ q'):bZ (oA k p p')=bZ (oA k q q'):=by
 unfold oA
 rw [bZ,bZ,cD,cD,cD,cD,cD,cD,h,h']
theorem Oi {op:Int}{p q p' q':Pl}(h:bZ p=bZ q)(h':bZ p'=bZ q'):bZ (Ab op p p')=bZ (Ab op q q'):=by
 unfold Ab
 split
 ·exact nt h h'
 ·split
  ·exact jZ (nt h h')
  ·split
   ·exact jZ (nt (jZ h) (jZ h'))
   ·exact jZ (nt h h')
theorem D7 {s:Se}(hs:SeLit s){p q:Pl}(h:bZ p=bZ q)(names:List (Bs×Bs)):aej (gI (dC s) p names) (gI s q names):=by
 unfold gI
 have e3:(dC s).star=s.star:=rfl
 have e1:(dC s).group=s.group.map cL:=rfl
 have e2:(dC s).hasH=s.hasH:=rfl
 have e4:(dC s).items=if s.star=true then [] else s.items.map jl:=rfl
 have e5:(dC s).hv=if s.hasH=true then cL s.hv else jh:=rfl
 rw [e1,e2,e3,e4,e5]
 cases fG:s.star with
 | true=>rfl
 | false=>
  simp only [Bool.false_eq_true,if_false]
  rw [<- jU,lI s.group hs.group]
  cases cI names s.group with
  | error e=>rfl
  | ok bd=>
   simp only [vJ]
   have hg:=qf (names:=names) hs.group (s.items.map (·.x)) [] (hs.items fG)
   rw [List.map_nil] at hg
   rw [xY,jU s.group,hg]
   cases dq names s.group (s.items.map (·.x)) [] with
   | error e=>rfl
   | ok it=>
    simp only [vJ]
    rw [IN hs.group s.hasH s.hv it.2 hs.having]
    cases oy names s.group s.hasH s.hv it.2 with
    | error e=>rfl
    | ok hh=>
     show bZ _=bZ _
     have hgp:bZ (Pl.mk 12 0 dP (dF bd) (hh.2.map iX) [p])=bZ (Pl.mk 12 0 dP bd hh.2 [q]):=by
      rw [bZ,bZ,j2,Gl,cD,cD,cD,cD,h]
     rw [bZ,bZ,j2,cD,cD,cD,cD]
     congr 2
     split
     ·exact ud hgp (mM _)
     ·exact hgp
theorem Nc {s:Se}(hs:SeLit s){p q:Pl}(h:bZ p=bZ q)(names:List (Bs×Bs)):aej (kL (dC s) p names) (kL s q names):=by
 unfold kL
 have e3:(dC s).star=s.star:=rfl
 have e4:(dC s).items=if s.star=true then [] else s.items.map jl:=rfl
 rw [e3,e4]
 cases fG:s.star with
 | true=>exact h
 | false=>
  simp only [Bool.false_eq_true,if_false]
  rw [xY,lI _ (hs.items fG)]
  cases cI names (s.items.map (·.x)) with
  | error e=>rfl
  | ok l=>
   show bZ _=bZ _
   rw [bZ,bZ,j2,cD,cD,cD,cD,h]
theorem Nj {rels:List Rel}{s:Se}(hs:SeLit s):DO (l5 rels (dC s)) (l5 rels s):=by
 unfold l5
 have e0:(dC s).src=(match s.src with | []=>[] | f::l=>ig true f::l.map (ig false)):=rfl
 have e1:(dC s).hasW=s.hasW:=rfl
 have e2:(dC s).wh=if s.hasW=true then cL s.wh else jh:=rfl
 have e3:(dC s).star=s.star:=rfl
 have e4:(dC s).items=if s.star=true then [] else s.items.map jl:=rfl
 have e5:(dC s).distinct=s.distinct:=rfl
 have hf:=Iw (rels:=rels) s.src hs.src
 rw [e0,e1,e2,e3,e4,e5,DG]
 generalize mQ rels (match s.src with | []=>[] | f::l=>ig true f::l.map (ig false))=F at hf ⊢
 generalize mQ rels s.src=G at hf ⊢
 cases F with
 | error e=>cases G with | error e'=>exact hf | ok g=>exact hf.elim
 | ok f=>
  cases G with
  | error e'=>exact hf.elim
  | ok g=>
   obtain ⟨h1,h2⟩:=hf
   simp only
   rw [h2,H9 _ _ hs.wher]
   cases nZ g.2 s.hasW s.wh with
   | error e=>rfl
   | ok w=>
    simp only [vJ]
    have hp:bZ (if s.hasW=true then eK (cJ w) f.1 else f.1)=bZ (if s.hasW=true then eK w g.1 else g.1):=by
     split
     ·exact ud h1 (mM _)
     ·exact h1
    generalize (if s.hasW=true then eK (cJ w) f.1 else f.1)=P at hp ⊢
    generalize (if s.hasW=true then eK w g.1 else g.1)=P' at hp ⊢
    have hm:aej (if dX s=true then gI (dC s) P g.2 else kL (dC s) P g.2) (if dX s=true then gI s P' g.2 else kL s P' g.2):=by
     split
     ·exact D7 hs hp g.2
     ·exact Nc hs hp g.2
    generalize (if dX s=true then gI (dC s) P g.2 else kL (dC s) P g.2)=A at hm ⊢
    generalize (if dX s=true then gI s P' g.2 else kL s P' g.2)=B at hm ⊢
    cases A with
    | error e=>cases B with | error e'=>exact hm | ok b=>exact hm.elim
    | ok a=>
     cases B with
     | error e'=>exact hm.elim
     | ok b=>
      refine ⟨?_,?_⟩
      ·show bZ (if s.distinct=true then iC 11 a else a)=bZ (if s.distinct=true then iC 11 b else b)
       split
       ·exact jZ hm
       ·exact hm
      ·show (if s.star=true then g.2.map (·.2) else ec 0 (if s.star=true then [] else s.items.map jl))=(if s.star=true then g.2.map (·.2) else ec 0 s.items)
       cases s.star with
       | true=>rfl
       | false=>simp only [Bool.false_eq_true,if_false];exact ug s.items 0
theorem qo {rels:List Rel}{ops:List Int}:∀ (l:List Se) (i:Nat) (p p':Pl) (names:List Bs),(∀ s∈l,SeLit s) ->bZ p'=bZ p ->DO (ey rels ops i p' names (l.map dC)) (ey rels ops i p names l)
 | [],i,p,p',names,_,hp=>by
  rw [List.map_nil,ey,ey]
  exact ⟨hp,rfl⟩
 | s::l,i,p,p',names,hs,hp=>by
  rw [List.map_cons,ey,ey]
  have h1:=Nj (rels:=rels) (hs s (List.mem_cons_self ..))
  generalize l5 rels (dC s)=A at h1 ⊢
  generalize l5 rels s=B at h1 ⊢
  cases A with
  | error e=>cases B with | error e'=>exact h1 | ok b=>exact h1.elim
  | ok a=>
   cases B with
   | error e'=>exact h1.elim
   | ok b=>
    obtain ⟨ha,hb⟩:=h1
    simp only
    by_cases hi:i=0
    ·simp only [if_pos hi]
     rw [hb]
     exact qo l 1 _ _ _ (fun s' h'=>hs s' (List.mem_cons_of_mem _ h')) ha
    ·simp only [if_neg hi]
     exact qo l (i+1) _ _ _ (fun s' h'=>hs s' (List.mem_cons_of_mem _ h')) (Oi hp ha)
theorem GY {rels:List Rel}{q:Q}(hs:∀ s∈q.parts,SeLit s)(NI:0<=q.limit ->ii q.order):DO (gJ rels (gd q)) (gJ rels q):=by
 unfold gJ
 have e1:(gd q).parts=q.parts.map dC:=rfl
 have e2:(gd q).ops=q.ops:=rfl
 have e3:(gd q).order=if 0<=q.limit then q.order.map cL else []:=rfl
 have e4:(gd q).limit=if 0<=q.limit then q.limit else -1:=rfl
 have hp:=qo (rels:=rels) (ops:=q.ops) q.parts 0 iZ iZ [] hs rfl
 rw [e1,e2]
 generalize ey rels q.ops 0 iZ [] (q.parts.map dC)=A at hp ⊢
 generalize ey rels q.ops 0 iZ [] q.parts=B at hp ⊢
 cases A with
 | error e=>cases B with | error e'=>exact hp | ok b=>exact hp.elim
 | ok a=>
  cases B with
  | error e'=>exact hp.elim
  | ok b=>
   obtain ⟨ha,hb⟩:=hp
   simp only
   unfold uL
   rw [e3,e4]
   by_cases hl:0<=q.limit
   ·simp only [if_pos hl]
    rw [hb,<- jU,lI _ (NI hl)]
    cases cI (b.2.map fun n=>([],n)) q.order with
    | error e=>rfl
    | ok xs=>
     refine ⟨?_,rfl⟩
     show bZ _=bZ _
     rw [bZ,bZ,j2,cD,cD,cD,cD,ha]
   ·simp only [if_neg hl]
    rw [if_neg (by omega)]
    exact ⟨ha,hb⟩
theorem Ib (v:V):cR (rK v)=cR v:=by
 obtain ⟨k,n,t⟩:=v
 simp only [cR,rK]
 by_cases h1:k=1
 ·simp [h1]
 by_cases h2:k=2
 ·simp [h2]
 by_cases h3:k=3
 ·simp [h3]
 by_cases h4:k=4
 ·simp [h4]
 simp [h1,h2,h3,h4]
theorem tB (l:List Ex):(dF l).length=l.length:=by rw [oV,List.length_map]
mutual
theorem B9 {cols:List Int}:∀ (x:Ex) (d n:Nat),pj cols d n (cJ x)=pj cols d n x
 | .mk k v c kids,d,n=>by
  have e1:cR (if k=1 then rK v else v)=cR v:=by
   split
   ·exact Ib v
   ·rfl
  have e2:(if k=1 then rK v else v).k=v.k:=by split<;>rfl
  rw [cJ,pj,pj,tB,BK kids,e1,e2]
theorem BK {cols:List Int}:∀ (l:List Ex) (d n:Nat),oE cols d n (dF l)=oE cols d n l
 | [],d,n=>by rw [dF]
 | x::l,d,n=>by
  rw [dF,oE,oE,B9 x d n]
  cases pj cols d n x with
  | mk r m=>
   cases r with
   | error e=>rfl
   | ok t=>simp only;rw [BK l d m]
end
theorem tP (cols:List Int)(x:Ex):oG cols (cJ x)=oG cols x:=by
 unfold oG
 rw [B9]
theorem wd (cols:List Int):∀ l,gQ cols (dF l)=gQ cols l
 | []=>by rw [dF]
 | x::l=>by rw [dF,gQ,gQ,tP,wd cols l]
theorem EF (cols:List Int)(l:List Ex):iM cols (dF l)=iM cols l:=by
 unfold iM
 rw [tB,wd]
theorem yk (cols:List Int):∀ l:List Ag,gL cols (l.map iX)=gL cols l
 | []=>rfl
 | a::l=>by
  have e:rM cols (iX a)=rM cols a:=by
   unfold rM
   show (if (iX a).k<1\/_ then _ else _)=_
   have e1:(iX a).k=a.k:=rfl
   have e2:(iX a).x=cJ a.x:=rfl
   rw [e1,e2,tP]
  rw [List.map_cons,gL,gL,e,yk cols l]
theorem Jm (cols:List Int)(x:Ex):oJ cols (cJ x)=oJ cols x:=by
 unfold oJ
 rw [tP]
theorem HP (T:List (List Int))(k n:Int)(x:Ex)(xs:List Ex)(ags:List Ag)(c:List (List Int)):jA T k n (cJ x) (dF xs) (ags.map iX) c=jA T k n x xs ags c:=by
 unfold jA
 simp only [Jm,EF,yk,tB,List.length_map]
mutual
theorem Cd {T:List (List Int)}:∀ (p:Pl) (d m:Nat),fz T d m (bZ p)=fz T d m p
 | .mk k n x xs ags kids,d,m=>by
  have hl:(cD kids).length=kids.length:=xL kids
  rw [bZ,fz,fz,hl,xP kids]
  simp only [HP]
theorem xP {T:List (List Int)}:∀ (l:List Pl) (d m:Nat),gZ T d m (cD l)=gZ T d m l
 | [],d,m=>by rw [cD]
 | p::l,d,m=>by
  rw [cD,gZ,gZ,Cd p d m]
  cases fz T d m p with
  | mk r m'=>
   cases r with
   | error e=>rfl
   | ok t=>simp only;rw [xP l d m']
theorem xL:∀ (l:List Pl),(cD l).length=l.length
 | []=>by rw [cD]
 | p::l=>by rw [cD,List.length_cons,List.length_cons,xL l]
end
theorem yK (T:List (List Int))(p:Pl):kQ T (bZ p)=kQ T p:=by
 unfold kQ
 rw [Cd]
theorem HO {T:List (List Int)}{p q:Pl}(h:bZ p=bZ q):kQ T p=kQ T q:=by rw [<- yK T p,h,yK]
theorem Iu {rels:List Rel}{q:Q}(hs:∀ s∈q.parts,SeLit s)(NI:0<=q.limit ->ii q.order):DO (gm rels (gd q)) (gm rels q):=by
 have h:=GY (rels:=rels) hs NI
 unfold gm
 generalize gJ rels (gd q)=A at h ⊢
 generalize gJ rels q=B at h ⊢
 cases A with
 | error e=>cases B with | error e'=>exact h | ok b=>exact h.elim
 | ok a=>
  cases B with
  | error e'=>exact h.elim
  | ok b=>
   obtain ⟨ha,hb⟩:=h
   simp only
   rw [HO ha,hb]
   cases kQ (cA rels) b.1 with
   | error e=>rfl
   | ok t=>exact ⟨ha,rfl⟩
theorem fW {a b:Int}(h:sj a b=0):a=0/\b=0:=by
 unfold sj at h
 split at h
 ·rename_i h1;exact (h1 h).elim
 ·rename_i h1;exact ⟨Classical.not_not.1 h1,h⟩
mutual
theorem B4 (d n:Nat):∀ (x:X),(eC d n x).1=0 ->lP x
 | .mk k v tab name kids,h=>by
  rw [eC] at h
  split at h
  ·cases h
  ·split at h
   ·cases h
   ·split at h
    ·cases h
    ·rename_i US
     split at h
     ·rename_i k1
      subst k1
      refine ⟨fun _=> ?_,?_⟩
      ·have hw:cR v=0:=h
       unfold cR at hw
       by_cases a1:v.k=1
       ·omega
       ·by_cases a2:v.k=2
        ·omega
        ·by_cases a3:v.k=3
         ·omega
         ·by_cases a4:v.k=4
          ·omega
          ·rw [if_neg a1,if_neg a2,if_neg a3,if_neg a4] at hw;cases hw
      ·have:kids=[]:=by
        have h0:(kids.length:Int)=dE 1:=Classical.not_not.1 US
        have h1:dE 1=0:=by decide
        exact List.length_eq_zero_iff.1 (by omega)
       subst this;exact trivial
     ·rename_i k1
      split at h
      ·cases h
      ·exact ⟨fun hk=>(k1 hk).elim,xC (d+1) (n+1) kids h⟩
theorem xC (d n:Nat):∀ (l:List X),(eN d n l).1=0 ->ii l
 | [],_=>trivial
 | x::l,h=>by
  rw [eN] at h
  split at h
  ·rename_i hx;exact (hx h).elim
  ·rename_i hx
   exact ⟨B4 d n x (Classical.not_not.1 hx),xC d _ l h⟩
end
theorem oF {x:X}(h:gX x=0):lP x:=B4 1 0 x h
theorem tz:∀ {l:List X},iq l=0 ->ii l
 | [],_=>trivial
 | x::l,h=>by
  rw [iq] at h
  obtain ⟨h1,h2⟩:=fW h
  exact ⟨oF h1,tz h2⟩
theorem Ac:∀ {l:List It},kW l=0 ->ii (l.map (·.x))
 | [],_=>trivial
 | x::l,h=>by
  rw [kW] at h
  obtain ⟨h1,h2⟩:=fW h
  simp only [fT] at h1
  exact ⟨oF (fW h1).1,Ac h2⟩
theorem zL:∀ {l:List So} {i:Nat},eu i l=0 ->∀ (j:Nat) (s:So),l[j]?=some s ->0<i+j ->2<=s.k/\s.k<=5
 | [],i,_,j,s,hj,_=>by simp at hj
 | x::l,i,h,j,s,hj,h0=>by
  rw [eu] at h
  obtain ⟨h1,h2⟩:=fW h
  cases j with
  | zero=>
   simp only [List.getElem?_cons_zero,Option.some.injEq] at hj
   subst hj
   unfold i6 at h1
   split at h1
   ·cases h1
   ·rename_i hb
    have hi:¬ (i:Int)=0:=by omega
    simp only [hi,decide_false,beq_false] at hb
    simp at hb
    omega
  | succ j=>exact zL h2 j s (by simpa using hj) (by omega)
theorem wM:∀ {l:List So} {i:Nat},eu i l=0 ->0<i ->∀ s∈l,lP s.on
 | [],i,_,_,s,hs=>by cases hs
 | x::l,i,h,hi,s,hs=>by
  rw [eu] at h
  obtain ⟨h1,h2⟩:=fW h
  rcases List.mem_cons.1 hs with rfl | hs
  ·unfold i6 at h1
   split at h1
   ·cases h1
   ·split at h1
    ·rename_i hf
     rcases hf with hf | hf
     ·exact (hf h1).elim
     ·omega
    ·exact oF h1
  ·exact wM h2 (by omega) s hs
theorem GT {l:List So}(h:eu 0 l=0):∀ s∈l.drop 1,lP s.on:=by
 cases l with
 | nil=>intro s hs;simp at hs
 | cons x l=>
  rw [eu] at h
  exact wM (fW h).2 (by omega)
theorem TB {s:Se}(h:qu s=0):SeLit s/\Ej s.src:=by
 unfold qu at h
 split at h
 ·cases h
 ·rename_i hm
  obtain ⟨h1,h2⟩:=fW h
  unfold xI at h2
  obtain ⟨h3,h4⟩:=fW h2
  unfold zJ at h4
  obtain ⟨h5,h6⟩:=fW h4
  unfold B0 at h6
  obtain ⟨h7,h8⟩:=fW h6
  unfold zj at h8
  refine ⟨⟨tz h7,fun fG=> ?_,fun hh=> ?_,fun hw=> ?_,GT h3⟩,?_,fun j x hj h0=>zL h3 j x hj (by omega)⟩
  ·rw [fG,if_neg (by decide)] at h1
   exact Ac h1
  ·rw [if_pos hh] at h8
   exact oF h8
  ·rw [if_pos hw] at h5
   exact oF h5
  ·rintro h0
   apply hm
   unfold mj
   simp [h0]
theorem uy {ops:List Int}:∀ {l:List Se} {i:Nat},jT ops i l=0 ->∀ s∈l,qu s=0
 | [],_,_,s,hs=>by cases hs
 | x::l,i,h,s,hs=>by
  rw [jT] at h
  split at h
  ·cases h
  ·obtain ⟨h1,h2⟩:=fW h
   rcases List.mem_cons.1 hs with rfl | hs
   ·exact h1
   ·exact uy h2 s hs
theorem yl {q:Q}(h:gR q=0):q.parts≠[]/\(∀ s∈q.parts,SeLit s/\Ej s.src)/\(0<=q.limit ->ii q.order):=by
 unfold gR at h
 split at h
 ·cases h
 ·rename_i hm
  split at h
  ·cases h
  ·obtain ⟨h1,h2⟩:=fW h
   refine ⟨?_,fun s hs=>TB (uy h1 s hs),fun hl=> ?_⟩
   rotate_left
   ·unfold lA at h2
    rw [if_neg (by omega)] at h2
    exact tz h2
   rintro h0
   apply hm
   unfold fl
   simp [h0]
def Yw (x:X):Prop:=gX x=0
theorem gC {a b:Int}:sj a b=0 ↔ a=0/\b=0:=⟨kM,fun ⟨h1,h2⟩=>by rw [Eh h1];exact h2⟩
theorem oU {a b:Int}:fT [a,b]=0 ↔ a=0/\b=0:=by
 simp only [fT]
 rw [gC,gC]
 simp
theorem mF {s:Bs}:eo [s]=0 ↔ dl s=true:=by
 refine ⟨Xb,fun h=> ?_⟩
 unfold eo
 rw [if_pos (by simp [h])]
theorem tO:∀ {l:List X},iq l=0 ↔ ∀ x∈l,Yw x
 | []=>by simp [iq]
 | x::l=>by
  rw [iq,gC,tO (l:=l)]
  simp [Yw]
theorem yF:∀ {l:List It},kW l=0 ↔ ∀ i∈l,Yw i.x/\em i.as=0
 | []=>by simp [kW]
 | x::l=>by
  rw [kW,gC,oU,yF (l:=l)]
  simp [Yw]
theorem Aw {s:So}:i6 0 s=0 ↔ SoR Yw true s:=by
 unfold i6
 by_cases h1:s.k=1
 ·rw [if_neg (by rw [h1];decide),if_pos (.inr rfl),oU,mF]
  exact ⟨fun ⟨a,b⟩=>⟨a,b,fun _=>h1,fun h=>by cases h⟩,fun h=>⟨h.name,h.asg⟩⟩
 ·rw [if_pos (by left;left;rw [decide_eq_false h1];decide)]
  exact ⟨fun h=>(by cases h),fun h=>(h1 (h.k1 rfl)).elim⟩
theorem C7 {i:Nat}{s:So}(hi:i≠0):i6 i s=0 ↔ SoR Yw false s:=by
 unfold i6
 by_cases h1:2<=s.k/\s.k<=5
 ·rw [if_neg (by
   rintro ((h | h) | h)
   ·apply h
    rw [decide_eq_false (by omega),decide_eq_false (by omega)]
    rfl
   ·omega
   ·omega)]
  by_cases h2:fT [eo [s.name],em s.as]≠0
  ·rw [if_pos (.inl h2)]
   refine ⟨fun h=>(h2 h).elim,fun h=>(h2 ?_).elim⟩
   rw [oU,mF]
   exact ⟨h.name,h.asg⟩
  ·rw [if_neg (by rintro (h | h);exact h2 h;exact hi h)]
   have h3:fT [eo [s.name],em s.as]=0:=Classical.byContradiction h2
   rw [oU,mF] at h3
   exact ⟨fun h=>⟨h3.1,h3.2,fun h=>(by cases h),fun _=>⟨h1.1,h1.2,h⟩⟩,fun h=>(h.k2 rfl).2.2⟩
 ·rw [if_pos]
  ·exact ⟨fun h=>(by cases h),fun h=>by obtain ⟨a,b,_⟩:=h.k2 rfl;exact (h1 ⟨a,b⟩).elim⟩
  ·by_cases h2:s.k=1
   ·left;left
    rw [decide_eq_true h2,decide_eq_false (by omega)]
    decide
   ·by_cases h3:s.k<1
    ·left;right;exact h3
    ·right;omega
theorem rX:∀ {l:List So} {n:Nat},n≠0 ->(eu n l=0 ↔ ∀ s∈l,SoR Yw false s)
 | [],n,_=>by simp [eu]
 | x::l,n,h=>by
  rw [eu,gC,C7 h,rX (l:=l) (n:=n+1) (by omega)]
  simp
theorem Dj {f:Bool}{x:X}:(if f=true then gX x else 0)=0 ↔ (f=true ->Yw x):=by
 cases f
 ·simp
 ·simp [Yw]
theorem Qj {s:Se}:qu s=0 ↔ SeR Yw s:=by
 unfold qu
 by_cases hm:mj s=true
 ·rw [if_pos hm]
  refine ⟨fun h=>(by cases h),fun h=> ?_⟩
  exfalso
  obtain ⟨f,l,hs,_,hl,_⟩:=h.src
  unfold mj at hm
  rw [Bool.or_eq_true,decide_eq_true_eq,Bool.and_eq_true,Bool.or_eq_true,decide_eq_true_eq,decide_eq_true_eq] at hm
  have h8:=h.group.1
  have gF:s.src.length=l.length+1:=by rw [hs];rfl
  rcases hm with h1 | ⟨h1,h2⟩
  ·omega
  ·obtain ⟨i1,i2,_⟩:=h.items (by simpa using h1)
   have:=List.length_pos_iff.2 i1
   omega
 ·rw [if_neg hm]
  unfold mj at hm
  rw [Bool.or_eq_true,decide_eq_true_eq,Bool.and_eq_true,Bool.or_eq_true,decide_eq_true_eq,decide_eq_true_eq] at hm
  have UD:¬ (((s.src.length:Int)<1\/4<(s.src.length:Int))\/8<(s.group.length:Int)):=fun h=>hm (.inl h)
  have hm2:s.star=false ->¬ ((s.items.length:Int)<1\/8<(s.items.length:Int)):=fun h h'=>hm (.inr ⟨by simp [h],h'⟩)
  unfold xI zJ B0 zj
  rw [gC,gC,gC,gC,Dj,Dj,tO]
  cases hs:s.src with
  | nil=>rw [hs] at UD;exact (UD (.inl (.inl (by decide)))).elim
  | cons f l=>
   rw [eu,gC,Aw,rX (by omega)]
   rw [hs] at UD
   have hi:(if s.star=true then 0 else kW s.items)=0 ↔ (s.star=false ->∀ i∈s.items,Yw i.x/\em i.as=0):=by
    cases s.star
    ·simp [yF]
    ·simp
   rw [hi]
   simp only [List.length_cons] at UD
   constructor
   ·rintro ⟨h1,⟨h2,h3⟩,h4,h5,h6⟩
    refine ⟨fun fG=>⟨?_,?_,h1 fG⟩,⟨f,l,hs,h2,by omega,h3⟩,h4,h6,⟨by omega,h5⟩⟩
    ·rintro h;have:=hm2 fG;rw [h] at this;exact this (.inl (by decide))
    ·have:=hm2 fG;omega
   ·intro h
    obtain ⟨f',l',oD,h2,_,h3⟩:=h.src
    rw [hs] at oD
    injection oD with e1 e2
    subst e1 e2
    exact ⟨fun fG=>(h.items fG).2.2,⟨h2,h3⟩,h.wh,h.group.2,h.hv⟩
theorem xA {ops:List Int}:∀ {l:List Se} {n:Nat},jT ops n l=0 ↔ (∀ s∈l,SeR Yw s)/\∀ j,n<=j ->j<n+l.length ->0<j ->1<=ops.getD (j - 1) 0/\ops.getD (j - 1) 0<=4
 | [],n=>by
  simp only [jT,List.length_nil,true_iff]
  exact ⟨fun s hs=>by (cases hs),fun j h1 h2=>by omega⟩
 | x::l,n=>by
  rw [jT]
  by_cases hk:0<n/\(ops.getD (n - 1) 0<1\/4<ops.getD (n - 1) 0)
  ·rw [if_pos hk]
   refine ⟨fun h=>(by cases h),fun h=> ?_⟩
   have:=h.2 n (Nat.le_refl _) (by simp) hk.1
   omega
  ·rw [if_neg hk,gC,Qj,xA (l:=l) (n:=n+1)]
   constructor
   ·rintro ⟨h1,h2,h3⟩
    refine ⟨fun s hs=> ?_,fun j hj1 OB hj3=> ?_⟩
    ·rcases List.mem_cons.1 hs with rfl | hs
     ·exact h1
     ·exact h2 s hs
    ·by_cases hjn:j=n
     ·subst hjn;omega
     ·exact h3 j (by omega) (by simp at OB;omega) hj3
   ·rintro ⟨h1,h2⟩
    exact ⟨h1 x (List.mem_cons_self ..),fun s hs=>h1 s (List.mem_cons_of_mem _ hs),fun j hj1 OB hj3=>h2 j (by omega) (by simp;omega) hj3⟩
theorem yT {q:Q}:gR q=0 ↔ QuR Yw q:=by
 unfold gR
 by_cases hm:fl q=true
 ·rw [if_pos hm]
  refine ⟨fun h=>(by cases h),fun h=> ?_⟩
  exfalso
  unfold fl at hm
  rw [decide_eq_true_eq] at hm
  obtain ⟨p1,p2,p3⟩:=h.parts
  have o1:=h.ops.1
  have:=List.length_pos_iff.2 p1
  rcases hm with h1 | ⟨h1,h2⟩
  ·omega
  ·obtain ⟨l1,l2,l3,l4⟩:=h.lim h1
   have:=List.length_pos_iff.2 l2
   omega
 ·rw [if_neg hm]
  unfold fl at hm
  rw [decide_eq_true_eq] at hm
  have hp:¬ ((q.parts.length:Int)<1\/4<(q.parts.length:Int)):=fun h=>hm (.inl (.inl h))
  have ho:(q.ops.length:Int)=(q.parts.length:Int) - 1:=Classical.byContradiction fun h=>hm (.inl (.inr h))
  have hd:0<=q.limit ->¬ ((q.order.length:Int)<1\/8<(q.order.length:Int)):=fun h h'=>hm (.inr ⟨h,h'⟩)
  by_cases hl:50<q.limit
  ·rw [if_pos hl]
   refine ⟨fun h=>(by cases h),fun h=> ?_⟩
   have:=(h.lim (by omega)).1
   omega
  ·rw [if_neg hl,gC,xA]
   unfold lA
   have hw:(if q.limit<0 then 0 else iq q.order)=0 ↔ (0<=q.limit ->∀ x∈q.order,Yw x):=by
    by_cases h0:q.limit<0
    ·rw [if_pos h0];exact ⟨fun _ h=>by omega,fun _=>rfl⟩
    ·rw [if_neg h0,tO];exact ⟨fun h _=>h,fun h=>h (by omega)⟩
   rw [hw]
   constructor
   ·rintro ⟨⟨h1,h2⟩,h3⟩
    refine ⟨⟨by rintro h;rw [h] at hp;exact hp (.inl (by decide)),by omega,h1⟩,⟨by omega,fun j hj=> ?_⟩,fun h0=>⟨by omega,?_,?_,h3 h0⟩⟩
    ·have:=h2 (j+1) (by omega) (by omega) (by omega)
     rwa [Nat.add_sub_cancel] at this
    ·rintro h;have:=hd h0;rw [h] at this;exact this (.inl (by decide))
    ·have:=hd h0;omega
   ·intro h
    exact ⟨⟨h.parts.2.2,fun j hj1 OB hj3=>h.ops.2 (j - 1) (by omega)⟩,fun h0=>(h.lim h0).2.2.2⟩
theorem Bd:∀ {l:List Co},ur l=0 ↔ ∀ c∈l,dl c.name=true/\2<=c.ty/\c.ty<=4
 | []=>by simp [ur]
 | c::l=>by
  rw [ur,gC,mF]
  by_cases h:c.ty<2\/4<c.ty
  ·rw [if_pos h]
   refine ⟨fun ⟨_,h⟩=>(by cases h),fun hh=> ?_⟩
   have:=hh c (List.mem_cons_self ..)
   omega
  ·rw [if_neg h,Bd (l:=l)]
   simp only [List.mem_cons,forall_eq_or_imp]
   exact ⟨fun ⟨a,b⟩=>⟨⟨a,by omega,by omega⟩,b⟩,fun ⟨a,b⟩=>⟨a.1,b⟩⟩
theorem Cj:∀ {l:List V},ul l=0 ↔ ∀ v∈l,cR v=0
 | []=>by simp [ul]
 | x::l=>by
  rw [ul,gC,Cj (l:=l)]
  simp
theorem AU:∀ {l:List (List V)},qh l=0 ↔ ∀ r∈l,r≠[]/\r.length<=8/\∀ v∈r,cR v=0
 | []=>by simp [qh]
 | r::l=>by
  rw [qh]
  by_cases h:(r.length:Int)<1\/8<(r.length:Int)
  ·rw [if_pos h]
   refine ⟨fun h=>(by cases h),fun hh=> ?_⟩
   obtain ⟨h1,h2,_⟩:=hh r (List.mem_cons_self ..)
   have:=List.length_pos_iff.2 h1
   omega
  ·rw [if_neg h,gC,Cj,AU (l:=l)]
   simp only [List.mem_cons,forall_eq_or_imp]
   refine ⟨fun ⟨a,b⟩=>⟨⟨fun h0=>h (.inl (by rw [h0];decide)),by omega,a⟩,b⟩,fun ⟨a,b⟩=>⟨a.2.2,b⟩⟩
theorem vk {s:Stm}:mi s=0 ↔ StR Yw s:=by
 unfold mi
 by_cases hk:s.k<1\/5<s.k
 ·rw [if_pos hk]
  refine ⟨fun h=>(by cases h),fun h=> ?_⟩
  have:=h.k
  omega
 rw [if_neg hk]
 have vA:1<=s.k/\s.k<=5:=by omega
 by_cases h5:s.k=5
 ·rw [if_pos h5,yT]
  exact ⟨fun h=>⟨vA,fun h=>(h h5).elim,fun h=>by omega,fun _=>h,fun h=>by omega,fun h=>by omega⟩,fun h=>h.q (.inr h5)⟩
 rw [if_neg h5,gC,mF]
 by_cases h2:s.k=2
 ·rw [if_pos h2,yT]
  exact ⟨fun ⟨n,h⟩=>⟨vA,fun _=>n,fun h=>by omega,fun _=>h,fun h=>by omega,fun h=>by omega⟩,fun h=>⟨h.name h5,h.q (.inl h2)⟩⟩
 rw [if_neg h2]
 by_cases h1:s.k=1
 ·rw [if_pos h1]
  by_cases hc:(s.cols.length:Int)<1\/8<(s.cols.length:Int)
  ·rw [if_pos hc]
   refine ⟨fun ⟨_,h⟩=>(by cases h),fun h=> ?_⟩
   obtain ⟨c1,c2,_⟩:=h.cols h1
   have:=List.length_pos_iff.2 c1
   omega
  ·rw [if_neg hc,Bd]
   exact ⟨fun ⟨n,h⟩=>⟨vA,fun _=>n,fun _=>⟨fun h0=>hc (.inl (by rw [h0];decide)),by omega,h⟩,fun h=>by omega,fun h=>by omega,fun h=>by omega⟩,fun h=>⟨h.name h5,(h.cols h1).2.2⟩⟩
 rw [if_neg h1]
 by_cases h3:s.k=3
 ·rw [if_pos h3]
  by_cases hc:(s.rows.length:Int)<1\/400<(s.rows.length:Int)
  ·rw [if_pos hc]
   refine ⟨fun ⟨_,h⟩=>(by cases h),fun h=> ?_⟩
   obtain ⟨c1,c2,_⟩:=h.rows h3
   have:=List.length_pos_iff.2 c1
   omega
  ·rw [if_neg hc,AU]
   exact ⟨fun ⟨n,h⟩=>⟨vA,fun _=>n,fun h=>by omega,fun h=>by omega,fun _=>⟨fun h0=>hc (.inl (by rw [h0];decide)),by omega,h⟩,fun h=>by omega⟩,fun h=>⟨h.name h5,(h.rows h3).2.2⟩⟩
 rw [if_neg h3]
 have h4:s.k=4:=by omega
 rw [if_pos h4,Dj]
 exact ⟨fun ⟨n,h⟩=>⟨vA,fun _=>n,fun h=>by omega,fun h=>by omega,fun h=>by omega,fun _=>h⟩,fun h=>⟨h.name h5,h.wh h4⟩⟩
section
variable {Y Z:X ->Prop} (h:∀ x,Y x ->Z x)
include h
theorem SoR.mono {f:Bool}{s:So}(hs:SoR Y f s):SoR Z f s:=⟨hs.name,hs.asg,hs.k1,fun hf=>⟨(hs.k2 hf).1,(hs.k2 hf).2.1,h _ (hs.k2 hf).2.2⟩⟩
theorem SeR.mono {s:Se}(hs:SeR Y s):SeR Z s:=by
 obtain ⟨f,l,h1,h2,h3,h4⟩:=hs.src
 exact ⟨fun fG=>⟨(hs.items fG).1,(hs.items fG).2.1,fun i hi=>⟨h _ ((hs.items fG).2.2 i hi).1,((hs.items fG).2.2 i hi).2⟩⟩,⟨f,l,h1,h2.mono h,h3,fun s hs=>(h4 s hs).mono h⟩,fun hw=>h _ (hs.wh hw),fun hw=>h _ (hs.hv hw),hs.group.1,fun x hx=>h _ (hs.group.2 x hx)⟩
theorem QuR.mono {q:Q}(hq:QuR Y q):QuR Z q:=
 ⟨⟨hq.parts.1,hq.parts.2.1,fun s hs=>(hq.parts.2.2 s hs).mono h⟩,hq.ops,fun h0=>⟨(hq.lim h0).1,(hq.lim h0).2.1,(hq.lim h0).2.2.1,fun x hx=>h _ ((hq.lim h0).2.2.2 x hx)⟩⟩
theorem StR.mono {s:Stm}(hs:StR Y s):StR Z s:=⟨hs.k,hs.name,hs.cols,fun hk=>(hs.q hk).mono h,hs.rows,fun hk hw=>h _ (hs.wh hk hw)⟩
end
theorem wF (v:V):cR (kT v)=cR v:=by
 obtain ⟨k,n,t⟩:=v
 unfold cR kT
 simp only
 by_cases h1:k=1
 ·simp [h1]
 by_cases h2:k=2
 ·simp [h2]
 by_cases h3:k=3
 ·simp [h3]
 by_cases h4:k=4
 ·simp [h4]
 simp [h1,h2,h3,h4]
mutual
theorem xM (d n:Nat):∀ (x:X),eC d n (cL x)=eC d n x
 | .mk k v tab name kids=>by
  have hk:=wn (d+1) (n+1) kids
  have hl:(eI kids).length=kids.length:=by rw [jU,List.length_map]
  rw [cL,eC,eC,hl,hk]
  by_cases h1:k=1
  ·subst h1
   simp [wF]
  ·by_cases h2:k=2
   ·subst h2
    simp
   ·simp [h1,h2]
theorem wn (d n:Nat):∀ (l:List X),eN d n (eI l)=eN d n l
 | []=>rfl
 | x::l=>by
  rw [eI,eN,eN,xM d n x]
  have:=fun m=>wn d m l
  simp only [this]
end
theorem po {x:X}(h:Yw x):Yw (cL x):=by
 unfold Yw gX at*
 rw [xM];exact h
theorem Ed {f:Bool}{s:So}(h:SoR Yw f s):SoR Yw f (ig f s):=by
 refine ⟨h.name,h.asg,h.k1,fun hf=>⟨(h.k2 hf).1,(h.k2 hf).2.1,?_⟩⟩
 subst hf
 exact po (h.k2 rfl).2.2
theorem RW {s:Se}(h:SeR Yw s):SeR Yw (dC s):=by
 obtain ⟨f,l,h1,h2,h3,h4⟩:=h.src
 refine ⟨fun fG=> ?_,⟨ig true f,l.map (ig false),?_,Ed h2,by rw [List.length_map];exact h3,fun s hs=> ?_⟩,fun hw=> ?_,fun hw=> ?_,by show (s.group.map cL).length<=8;rw [List.length_map];exact h.group.1,fun x hx=> ?_⟩
 ·have fG:s.star=false:=fG
  obtain ⟨i1,i2,i3⟩:=h.items fG
  have e:(dC s).items=s.items.map jl:=by
   show (if s.star=true then [] else s.items.map jl)=_
   rw [if_neg (by rw [fG];decide)]
  rw [e]
  refine ⟨by simpa using i1,by rw [List.length_map];exact i2,fun i hi=> ?_⟩
  obtain ⟨j,hj,rfl⟩:=List.mem_map.1 hi
  exact ⟨po (i3 j hj).1,(i3 j hj).2⟩
 ·unfold dC;rw [h1]
 ·obtain ⟨j,hj,rfl⟩:=List.mem_map.1 hs
  exact Ed (h4 j hj)
 ·have hw:s.hasW=true:=hw
  show Yw (if s.hasW=true then cL s.wh else jh)
  rw [if_pos hw];exact po (h.wh hw)
 ·have hw:s.hasH=true:=hw
  show Yw (if s.hasH=true then cL s.hv else jh)
  rw [if_pos hw];exact po (h.hv hw)
 ·obtain ⟨j,hj,rfl⟩:=List.mem_map.1 hx
  exact po (h.group.2 j hj)
theorem GF {q:Q}(h:QuR Yw q):QuR Yw (gd q):=by
 obtain ⟨p1,p2,p3⟩:=h.parts
 refine ⟨⟨by simpa [gd] using p1,by show (q.parts.map dC).length<=4;rw [List.length_map];exact p2,fun s hs=> ?_⟩,⟨by show q.ops.length+1=(q.parts.map dC).length;rw [List.length_map];exact h.ops.1,h.ops.2⟩,fun h0=> ?_⟩
 ·obtain ⟨j,hj,rfl⟩:=List.mem_map.1 hs
  exact RW (p3 j hj)
 ·have h0':0<=q.limit:=by
   by_cases h1:0<=q.limit
   ·exact h1
   ·have:(gd q).limit= -1:=by show (if 0<=q.limit then q.limit else -1)= -1;rw [if_neg h1]
    omega
  have e1:(gd q).limit=q.limit:=by show (if 0<=q.limit then q.limit else -1)=_;rw [if_pos h0']
  have e2:(gd q).order=q.order.map cL:=by show (if 0<=q.limit then q.order.map cL else [])=_;rw [if_pos h0']
  obtain ⟨l1,l2,l3,l4⟩:=h.lim h0'
  rw [e1,e2]
  refine ⟨l1,by simpa using l2,by rw [List.length_map];exact l3,fun x hx=> ?_⟩
  obtain ⟨j,hj,rfl⟩:=List.mem_map.1 hx
  exact po (l4 j hj)
theorem Pb {s:Stm}(h:StR Yw s):StR Yw (wb s):=by
 obtain ⟨k,name,cols,q,rows,hasW,wh⟩:=s
 obtain ⟨hk,hn,gy,hq,Fo,ZI⟩:=h
 simp only at hk hn gy hq Fo ZI
 have:k=1\/k=2\/k=3\/k=4\/k=5:=by omega
 rcases this with rfl | rfl | rfl | rfl | rfl
 ·exact ⟨show (1:Int)<=1/\(1:Int)<=5 by decide,fun _=>hn (by decide),fun _=>gy rfl,fun h=>absurd h (show ¬ ((1:Int)=2\/(1:Int)=5) by decide),fun h=>absurd h (show ¬ (1:Int)=3 by decide),fun h=>absurd h (show ¬ (1:Int)=4 by decide)⟩
 ·exact ⟨show (1:Int)<=2/\(2:Int)<=5 by decide,fun _=>hn (by decide),fun h=>absurd h (show ¬ (2:Int)=1 by decide),fun _=>GF (hq (.inl rfl)),fun h=>absurd h (show ¬ (2:Int)=3 by decide),fun h=>absurd h (show ¬ (2:Int)=4 by decide)⟩
 ·refine ⟨show (1:Int)<=3/\(3:Int)<=5 by decide,fun _=>hn (by decide),fun h=>absurd h (show ¬ (3:Int)=1 by decide),fun h=>absurd h (show ¬ ((3:Int)=2\/(3:Int)=5) by decide),fun _=> ?_,fun h=>absurd h (show ¬ (3:Int)=4 by decide)⟩
  obtain ⟨r1,r2,r3⟩:=Fo rfl
  show rows.map (·.map kT)≠[]/\(rows.map (·.map kT)).length<=400/\∀ r∈rows.map (·.map kT),_
  refine ⟨by simpa using r1,by rw [List.length_map];exact r2,fun r hr=> ?_⟩
  obtain ⟨r',hr',rfl⟩:=List.mem_map.1 hr
  obtain ⟨a1,a2,a3⟩:=r3 r' hr'
  refine ⟨by simpa using a1,by rw [List.length_map];exact a2,fun v hv=> ?_⟩
  obtain ⟨v',hv',rfl⟩:=List.mem_map.1 hv
  rw [wF];exact a3 v' hv'
 ·refine ⟨show (1:Int)<=4/\(4:Int)<=5 by decide,fun _=>hn (by decide),fun h=>absurd h (show ¬ (4:Int)=1 by decide),fun h=>absurd h (show ¬ ((4:Int)=2\/(4:Int)=5) by decide),fun h=>absurd h (show ¬ (4:Int)=3 by decide),fun _ hw=> ?_⟩
  have hw:hasW=true:=hw
  show Yw (if hasW=true then cL wh else jh)
  rw [if_pos hw];exact po (ZI rfl hw)
 ·exact ⟨show (1:Int)<=5/\(5:Int)<=5 by decide,fun h=>(h rfl).elim,fun h=>absurd h (show ¬ (5:Int)=1 by decide),fun _=>GF (hq (.inr rfl)),fun h=>absurd h (show ¬ (5:Int)=3 by decide),fun h=>absurd h (show ¬ (5:Int)=4 by decide)⟩
theorem vT:∀ {l:List Stm} (i:Nat),(∀ s∈l,mi s=0) ->nx i l=(0,0)
 | [],i,_=>rfl
 | s::l,i,h=>by
  rw [nx,if_neg (by rw [h s (List.mem_cons_self ..)];decide)]
  exact vT (i+1) fun s hs=>h s (List.mem_cons_of_mem _ hs)
theorem Fn {l:List Stm}(h:(eH l).1=0):eH (l.map wb)=(0,0):=by
 obtain ⟨h1,h2⟩:=vo h
 unfold eH
 rw [List.length_map,if_neg (by omega)]
 refine vT 0 fun s hs=> ?_
 obtain ⟨j,hj,rfl⟩:=List.mem_map.1 hs
 exact vk.2 (Pb (vk.1 (h2 j hj)))
def Gd (ws:List Bs):Prop:=∀ w∈ws,pI w
theorem eA:Gd []:=fun _ h=>by cases h
theorem dD {w:Bs}{l:List Bs}(h:pI w)(hl:Gd l):Gd (w::l):=fun u hu=>by
 rcases List.mem_cons.1 hu with rfl | hu
 ·exact h
 ·exact hl u hu
theorem cQ {a b:List Bs}(ha:Gd a)(hb:Gd b):Gd (a++b):=fun u hu=>by
 rcases List.mem_append.1 hu with hu | hu
 ·exact ha u hu
 ·exact hb u hu
def gw:Bs ->Bool
 | []=>false
 | c::l=>(ez c.toNat && (c::l).all sm) || io.contains (c::l)
theorem jw {w:Bs}(h:gw w=true):pI w:=by
 cases w with
 | nil=>cases h
 | cons c l=>
  unfold gw at h
  rw [Bool.or_eq_true,Bool.and_eq_true] at h
  rcases h with ⟨h1,h2⟩ | h
  ·exact Bh h1 h2
  ·exact Na (List.contains_iff_mem.1 h)
theorem dL {l:List Bs}(h:l.all gw=true):Gd l:=fun w hw=>jw (List.all_eq_true.1 h w hw)
theorem IZ {v:V}(h:cR v=0):Gd (ld v):=by
 obtain ⟨k,n,t⟩:=v
 unfold cR at h
 unfold ld
 simp only at h ⊢
 by_cases h1:k=1
 ·rw [if_pos h1];exact dL (by decide)
 rw [if_neg h1] at h ⊢
 by_cases h2:k=2
 ·rw [if_pos h2]
  split
  ·exact dL (by decide)
  ·exact dL (by decide)
 rw [if_neg h2] at h ⊢
 by_cases h4:k=4
 ·subst h4
  rw [if_pos rfl,xe]
  rw [if_neg (by decide),if_pos rfl] at h
  refine dD (LS ?_) eA
  by_cases hh:t.length>60
  ·rw [if_pos hh] at h;cases h
  ·omega
 rw [if_neg h4]
 by_cases h3:k=3
 ·subst h3
  rw [if_pos rfl] at h ⊢
  have hr:n<=1000000000000000/\ -1000000000000000<=n:=by
   by_cases hh:n>1000000000000000\/n< -1000000000000000
   ·rw [if_pos hh] at h;cases h
   ·omega
  rw [vt]
  refine cQ ?_ (dD (wy (by omega)) eA)
  split
  ·exact dL (by decide)
  ·exact eA
 ·rw [if_neg h3];exact eA
theorem mX {α:Type}{P:α ->List Bs}:∀ (l:List α) (b:Bool),(∀ a∈l,Gd (P a)) ->Gd (qX P b l)
 | [],b,_=>eA
 | a::l,b,h=>by
  rw [qX]
  refine cQ ?_ (cQ (h a (List.mem_cons_self ..)) (mX l false fun a ha=>h a (List.mem_cons_of_mem _ ha)))
  split
  ·exact eA
  ·exact dL (by decide)
theorem VB:∀ (sz:Nat) (x:X),SizeOf.sizeOf x<=sz ->HZ x ->∀ (need:Int),Gd (bm x need):=by
 intro sz
 induction sz with
 | zero=>intro x hx;cases x;simp at hx
 | succ sz ih=>
  intro x hx dG need
  obtain ⟨k,v,tab,name,kids⟩:=x
  rw [HZ] at dG
  obtain ⟨hl,h0,hv,hn,vW⟩:=dG
  have ihk:∀ y∈kids,∀ (need:Int),Gd (bm y need):=by
   intro y hy need
   refine ih y ?_ (ut vW y hy) need
   have:=List.sizeOf_lt_of_mem hy
   simp at hx
   omega
  have r6:Gd (nU k v tab name (qj kids)):=by
   rw [rE]
   unfold nU
   by_cases k1:k=1
   ·rw [if_pos k1];exact IZ (hv k1)
   rw [if_neg k1]
   by_cases k2:k=2
   ·rw [if_pos k2]
    obtain ⟨sM,nJ⟩:=hn k2
    refine cQ ?_ (dD (jp sM) eA)
    by_cases ht:tab=[]
    ·rw [if_pos ht];exact eA
    ·rw [if_neg ht];exact dD (jp (nJ.resolve_left ht)) (dL (by decide))
   rw [if_neg k2]
   have eE:∀ (i:Nat) (need:Int),Gd ((kids.map bm).getD i (fun _=>[]) need):=by
    intro i need
    rw [List.getD_eq_getElem?_getD,List.getElem?_map]
    cases hi:kids[i]? with
    | none=>exact eA
    | some y=>exact ihk y (List.mem_of_getElem? hi) need
   by_cases k3:k=3
   ·rw [if_pos k3];exact dD (jw (by decide)) (eE 0 3)
   rw [if_neg k3]
   by_cases k16:k=16
   ·rw [if_pos k16];exact cQ (eE 0 5) (dL (by decide))
   rw [if_neg k16]
   by_cases k17:k=17
   ·rw [if_pos k17]
    exact cQ (dL (by decide)) (cQ (eE 0 1) (dD (jw (by decide)) (cQ (eE 1 1) (dD (jw (by decide)) (cQ (eE 2 1) (dL (by decide)))))))
   rw [if_neg k17]
   by_cases k19:k=19
   ·rw [if_pos k19];exact dL (by decide)
   rw [if_neg k19]
   by_cases k18:k=18\/(20<=k/\k<=23)
   ·rw [if_pos k18]
    refine cQ (dD ?_ (dL (by decide))) (cQ ?_ (dL (by decide)))
    ·have:k=18\/k=20\/k=21\/k=22\/k=23:=by omega
     rcases this with rfl | rfl | rfl | rfl | rfl<;>exact jw (by decide)
    ·unfold lF
     rw [my]
     exact mX _ _ fun y hy=>ihk y hy 1
   rw [if_neg k18]
   have hk:=zz h0
   obtain ⟨n,j,sg,ea⟩:=JA (k:=k) (by omega)
   refine cQ (eE 0 _) (dD ?_ (eE 1 _))
   have:k=4\/k=5\/k=6\/k=7\/k=8\/k=9\/k=10\/k=11\/k=12\/k=13\/k=14\/k=15:=by omega
   rcases this with rfl | rfl | rfl | rfl | rfl | rfl | rfl | rfl | rfl | rfl | rfl | rfl<;>exact jw (by decide)
  rw [bm]
  split
  ·exact dD (jw (by decide)) (cQ r6 (dL (by decide)))
  ·exact r6
theorem Pf {x:X}(h:Yw x)(need:Int):Gd (bm x need):=VB _ x (Nat.le_refl _) (rG h).1 need
theorem ZQ {a:Bs}(h:em a=0):Gd (tM a):=by
 unfold tM
 rcases xX h with rfl | ⟨h1,h2⟩
 ·exact eA
 ·rw [if_neg h1];exact dD (jw (by decide)) (dD (jp h2) eA)
theorem yc {f:Bool}{w:Bs}{x:X}(hw:gw w=true)(h:f=true ->Yw x):Gd (fR f w x):=by
 cases f with
 | false=>exact eA
 | true=>exact cQ (dD (jw hw) eA) (Pf (h rfl) 1)
theorem TM {f:Bool}{s:So}(h:SoR Yw f s):Gd (NY f s):=by
 unfold NY
 refine cQ ?_ (cQ (dD (jp h.name) eA) (cQ (ZQ h.asg) ?_))
 ·unfold iS
  split
  ·exact dL (by decide)
  split
  ·exact dL (by decide)
  split
  ·exact dL (by decide)
  split
  ·exact dL (by decide)
  ·exact dL (by decide)
 ·cases f with
  | true=>exact eA
  | false=>exact cQ (dL (by decide)) (Pf (h.k2 rfl).2.2 1)
theorem Kd:∀ {l:List So},(∀ s∈l,SoR Yw false s) ->Gd (iG false l)
 | [],_=>eA
 | s::l,h=>cQ (TM (h s (List.mem_cons_self ..))) (Kd fun s hs=>h s (List.mem_cons_of_mem _ hs))
theorem ad3 {s:Se}(h:SeR Yw s):Gd (pP s):=by
 obtain ⟨f,l,h1,h2,_,h4⟩:=h.src
 unfold pP
 refine cQ (dL (by decide)) (cQ ?_ (cQ ?_ (cQ ?_ (cQ ?_ (cQ (yc (by decide) h.wh) (cQ ?_ (yc (by decide) h.hv)))))))
 ·split
  ·exact dL (by decide)
  ·exact eA
 ·split
  ·exact dL (by decide)
  ·exact eA
 ·split
  ·exact eA
  ·rename_i fG
   obtain ⟨_,_,i3⟩:=h.items (by simpa using fG)
   rw [qm]
   exact mX _ _ fun i hi=>cQ (Pf (i3 i hi).1 1) (ZQ (i3 i hi).2)
 ·rw [h1];exact cQ (TM h2) (Kd h4)
 ·unfold lg
  split
  ·exact eA
  ·unfold lF
   rw [my]
   exact cQ (dL (by decide)) (mX _ _ fun x hx=>Pf (h.group.2 x hx) 1)
theorem Gc {ops:List Int}:∀ {l:List Se} {i:Nat},(∀ s∈l,SeR Yw s) ->Gd (gl ops i l)
 | [],_,_=>eA
 | s::l,i,h=>by
  rw [gl]
  refine cQ ?_ (cQ (ad3 (h s (List.mem_cons_self ..))) (Gc fun s hs=>h s (List.mem_cons_of_mem _ hs)))
  split
  ·exact eA
  ·unfold lN
   split
   ·exact dL (by decide)
   split
   ·exact dL (by decide)
   split
   ·exact dL (by decide)
   ·exact dL (by decide)
theorem Gq {q:Q}(h:QuR Yw q):Gd (im q):=by
 unfold im DY
 refine cQ (Gc h.parts.2.2) ?_
 split
 ·rename_i h0
  obtain ⟨l1,_,_,l4⟩:=h.lim h0
  unfold lF
  rw [my]
  exact cQ (dL (by decide)) (cQ (mX _ _ fun x hx=>Pf (l4 x hx) 1) (dD (jw (by decide)) (dD (wy (by omega)) eA)))
 ·exact eA
theorem Xs {s:Stm}(h:StR Yw s):Gd (kb s):=by
 unfold kb lH
 refine cQ ?_ (dL (by decide))
 split
 ·rename_i h1
  obtain ⟨_,_,c3⟩:=h.cols h1
  rw [tm]
  refine cQ (dD (jw (by decide)) (dD (jw (by decide)) (dD (jp (h.name (by omega))) (dL (by decide))))) (cQ (mX _ _ fun c hc=>dD (jp (c3 c hc).1) (dD ?_ eA)) (dL (by decide)))
  unfold rJ
  split
  ·exact jw (by decide)
  split
  ·exact jw (by decide)
  ·exact jw (by decide)
 split
 ·rename_i h1
  exact cQ (dD (jw (by decide)) (dD (jw (by decide)) (dD (jp (h.name (by omega))) (dL (by decide))))) (Gq (h.q (.inl h1)))
 split
 ·rename_i h1
  obtain ⟨_,_,c3⟩:=h.rows h1
  rw [sA]
  refine cQ (dD (jw (by decide)) (dD (jw (by decide)) (dD (jp (h.name (by omega))) (dL (by decide))))) (mX _ _ fun r hr=>cQ ?_ (dL (by decide)))
  obtain ⟨r1,_,r3⟩:=c3 r hr
  cases r with
  | nil=>exact eA
  | cons v l=>
   rw [kS,sV]
   exact cQ (dL (by decide)) (cQ (IZ (r3 v (List.mem_cons_self ..))) (mX _ _ fun v hv=>IZ (r3 v (List.mem_cons_of_mem _ hv))))
 split
 ·rename_i h1
  exact cQ (dD (jw (by decide)) (dD (jw (by decide)) (dD (jp (h.name (by omega))) eA))) (yc (by decide) (h.wh h1))
 split
 ·rename_i h1
  exact cQ (dL (by decide)) (Gq (h.q (.inr h1)))
 ·exact eA
theorem Ew:∀ {l:List Stm},(∀ s∈l,StR Yw s) ->Gd (hZ l)
 | [],_=>eA
 | s::l,h=>cQ (Xs (h s (List.mem_cons_self ..))) (Ew fun s hs=>h s (List.mem_cons_of_mem _ hs))
theorem ana {en:Int}(x:X)(h:Yw x):XR (Um en) x:=
 ⟨aaJ h,re _ x (Nat.le_refl _) (rG h).1 1 gA (.inl (.inl rfl)),re _ x (Nat.le_refl _) (rG h).1 1 dg (.inl (.inr rfl))⟩
theorem OV {l:List Stm}(hw:(eH l).1=0)(hl:(bB [] (hZ l)).length<=4000):kz (bB [] (hZ l))=(l.map wb,0,0):=by
 obtain ⟨h1,h2⟩:=vo hw
 have h3:∀ s∈l,StR Yw s:=fun s hs=>vk.1 (h2 s hs)
 obtain ⟨ts,ht,hk⟩:=Hd (Ew h3) hl
 unfold kz
 rw [ht]
 simp only
 rw [EA l 60 h1 (fun s hs=>(h3 s hs).mono fun x hx=>ana x hx) ts hk]
 simp only
 rw [Fn hw]
 simp
theorem Ji {l:List Stm}(h:(lw l).2.1=0):(eH l).1=0/\lw l=(bB [] (hZ l),0,0)/\kz (lw l).1=(l.map wb,0,0):=by
 unfold lw at h ⊢
 split at h
 ·rename_i h1;exact (h1 h).elim
 rename_i h1
 have h1:(eH l).1=0:=Classical.byContradiction h1
 split at h
 ·cases h
 rename_i h2
 rw [if_neg (by rw [h1];decide),if_neg h2]
 exact ⟨h1,rfl,OV h1 (by omega)⟩
def kH (q:Q):Stm:=⟨5,[],[],q,[],false,jh⟩
theorem yE {q:Q}(h:(eH [kH q]).1=0):gR q=0:=by
 unfold eH at h
 rw [if_neg (by simp)] at h
 rw [nx] at h
 by_cases hw:mi (kH q)=0
 ·unfold mi at hw
  have k5:(kH q).k=5:=rfl
  rw [if_neg (by rw [k5];decide),if_pos k5] at hw
  exact hw
 ·rw [if_pos hw] at h
  exact (hw h).elim
theorem Of (q:Q):wb (kH q)=kH (gd q):=by
 unfold wb
 have k5:(kH q).k=5:=rfl
 rw [if_neg (by rw [k5];decide),if_neg (by rw [k5];decide),if_neg (by rw [k5];decide)]
 rfl
theorem Ao {rels:List Rel}{q:Q}(h:(lw [kH q]).2.1=0):
 kz (lw [kH q]).1=([kH (gd q)],0,0)/\gR q=0/\DO (gm rels (gd q)) (gm rels q):=by
 obtain ⟨h1,_,h3⟩:=Ji h
 have hq:=yE h1
 refine ⟨?_,hq,Iu (fun s hs=>((yl hq).2.1 s hs).1) (yl hq).2.2⟩
 rw [h3,List.map_cons,List.map_nil,Of]
set_option maxHeartbeats 1000000 in
theorem vj:∀ (n:Nat) (x:Ex),SizeOf.sizeOf x<=n ->∀ {M:aV} {bx:Nat} {cs:List Value},M bx=some [.func (.func 52) #[] #[.pointer (some ⟨bx,0,none⟩)]] ->jL M x cs ->∀ (T:Tm),
 ep Tryz.prog 52 [.agg ⟨cs⟩,.pointer (some ⟨bx,0,none⟩)] T M [] [] (fun r M' _ _=>∃ cs',r=.agg ⟨cs'⟩/\jL M' (cJ x) cs') bj:=by
 intro n
 induction n with
 | zero=>intro x hx;cases x;simp at hx
 | succ n ih=>
  intro x eF M bx cs hbx hx T
  obtain ⟨k,v,c,kids⟩:=x
  obtain ⟨s,rfl,gH,hs⟩:=cg hx
  obtain ⟨Uu,ka,kc,rfl,aw3,_,hkg⟩:=aI (by decide) (fun _ _=>ed) hs
  simp only [Ex.k,Ex.v,Ex.c,Ex.kids] at*
  have acF:∀ y∈kids,SizeOf.sizeOf y<=n:=by
   intro y hy
   have:=List.sizeOf_lt_of_mem hy
   simp only [Ex.mk.sizeOf_spec] at eF
   omega
  refine aT mx Yp Tryz.func52 rfl (by rw [atx];exact Nat.le_of_ble_eq_true rfl) (dr:=ai6) (by kernel_rfl) asJ ?_
  intro bN _
  simp +contextual only [go_sem,sevalprocAttr]
  intro b2 T2 eG fu ju b3 T3 fh bT fD ja
  have eD:¬ b3=b2/\¬ b2=b3:=bT
  refine dI (fun e ds h=>ds=[]/\aG e [(1,.pointer (some ⟨bx,0,none⟩)),(2,.pointer (some ⟨b2,0,none⟩)),(3,.pointer (some ⟨b3,0,none⟩))]/\h=⟨T3,M,[(b3,[.int .i64 0,.int .i64 0,.int .i64 0,st [],.int .i64 0,.slice none 0 0]),(b2,[.int .i64 k,.int .i64 v.k,.int .i64 v.n,st (if k=1/\v.k≠4 then [] else v.t),.int .i64 c,.slice ka kids.length kc])],[]⟩) (fun S' dW=> ?_) ?_
  ·by_cases k1:k=1
   ·by_cases k4:v.k=4
    ·simp +contextual only [go_sem,ak,sevalprocAttr,k1,k4,eG,fh,eD,bC eG,bC fh]
     refine dW _ _ _ ⟨rfl,?_,?_⟩
     ·simp only [aG,go_sem,ak,sevalprocAttr]
     ·simp [k1,k4,st]
    ·simp +contextual only [go_sem,ak,sevalprocAttr,k1,k4,eG,fh,eD,bC eG,bC fh]
     refine dW _ _ _ ⟨rfl,?_,?_⟩
     ·simp only [aG,go_sem,ak,sevalprocAttr]
     ·simp [k1,k4,st]
   ·simp +contextual only [go_sem,ak,sevalprocAttr,k1,eG,fh,eD,bC eG,bC fh]
    refine dW _ _ _ ⟨rfl,?_,?_⟩
    ·simp only [aG,go_sem,ak,sevalprocAttr]
    ·simp [k1,st]
  rintro e ds h ⟨rfl,aD,rfl⟩
  simp only [aG] at aD
  generalize hTt:(if k=1/\v.k≠4 then [] else v.t)=t'
  simp +contextual only [go_sem,sevalprocAttr,aD,eG,fh,eD,bC eG,bC fh]
  refine dI (fun e ds h=>ds=[]/\aG e [(1,.pointer (some ⟨bx,0,none⟩)),(2,.pointer (some ⟨b2,0,none⟩)),(3,.pointer (some ⟨b3,0,none⟩))]/\h=⟨T3,M,[(b3,[.int .i64 0,.int .i64 0,.int .i64 0,st [],.int .i64 0,.slice none 0 0]),(b2,[.int .i64 k,.int .i64 v.k,.int .i64 (if k=1/\(v.k=4\/v.k=1) then 0 else v.n),st t',.int .i64 c,.slice ka kids.length kc])],[]⟩) (fun S' dW=> ?_) ?_
  ·by_cases k1:k=1
   ·by_cases k4:v.k=4
    ·simp +contextual only [go_sem,ak,sevalprocAttr,aD,k1,k4,eG,fh,eD,bC eG,bC fh]
     refine dW _ _ _ ⟨rfl,?_,?_⟩
     ·simp only [aG,aD,go_sem,ak,sevalprocAttr]
     ·simp [k1,k4,st]
    ·by_cases kk:v.k=1
     ·simp +contextual only [go_sem,ak,sevalprocAttr,aD,k1,k4,kk,eG,fh,eD,bC eG,bC fh]
      refine dW _ _ _ ⟨rfl,?_,?_⟩
      ·simp only [aG,aD,go_sem,ak,sevalprocAttr]
      ·simp [k1,kk,st]
     ·simp +contextual only [go_sem,ak,sevalprocAttr,aD,k1,k4,kk,eG,fh,eD,bC eG,bC fh]
      refine dW _ _ _ ⟨rfl,?_,?_⟩
      ·simp only [aG,aD,go_sem,ak,sevalprocAttr]
      ·simp [k1,kk,k4,st]
   ·simp +contextual only [go_sem,ak,sevalprocAttr,aD,k1,eG,fh,eD,bC eG,bC fh]
    refine dW _ _ _ ⟨rfl,?_,?_⟩
    ·simp only [aG,aD,go_sem,ak,sevalprocAttr]
    ·simp [k1,st]
  rintro e ds h ⟨rfl,aD,rfl⟩
  simp only [aG] at aD
  generalize hNn:(if k=1/\(v.k=4\/v.k=1) then 0 else v.n)=n'
  simp +contextual only [go_sem,ak,sevalprocAttr,aD,eG,fh,eD,bC eG,bC fh]
  refine bh kids.length 38 [(1,.pointer (some ⟨bx,0,none⟩)),(2,.pointer (some ⟨b2,0,none⟩)),(3,.pointer (some ⟨b3,0,none⟩)),(36,.slice ka kids.length kc),(37,.int .i64 (kids.length:Int))]
   (fun i e h=>∃ N' M' R' L' fv,aH T3 N'/\bG M M'/\M' b2=none/\M' b3=none/\e 4=fv/\h=⟨N',M',L'++[(b3,[.int .i64 0,.int .i64 0,.int .i64 0,st [],.int .i64 0,.slice none 0 0]),(b2,[.int .i64 k,.int .i64 v.k,.int .i64 n',st t',.int .i64 c,.slice ka kids.length kc])],R'⟩/\L'=[]/\nK 38 6 (jL M') [] R' fv ((kids.take i).map cJ))
   0 (by omega) (by simp only [aG,aD,go_sem,ak,sevalprocAttr]) (by simp only [go_sem,ak,sevalprocAttr]) ⟨T3,M,[],[],_,aH.rfl',bG.rfl',eG,fh,by simp only [aD,go_sem,ak,sevalprocAttr],rfl,rfl,ew⟩ ?_
  rintro i e h hi aD ht ⟨N1,M1,R1,_,fv,iy,aP,nJ,AL,e4,rfl,rfl,cy⟩
  simp only [aG] at aD
  by_cases aF:i<kids.length
  ·obtain ⟨b',o',cs',rfl,cC,eL⟩:=hkg i kids[i] (List.getElem?_eq_getElem aF)
   have s9:=bS aP _ _ eL
   obtain ⟨s0,rfl,Ar,oI⟩:=cg s9
   obtain ⟨x0,x1,x2,x3,x4,x5⟩:=As (cC.ext aP)
   have eW:(kids.take (i+1)).map cJ=(kids.take i).map cJ++[cJ kids[i]]:=by
    rw [<- List.take_append_getElem aF,List.map_append];rfl
   have acN:=aP _ _ hbx
   simp +contextual only [go_sem,ak,sevalprocAttr,aD,ht,aF,x0,x1,x2,x3,x4,x5,Ar,eD]
   intro b6 T6 mB de u6 AC
   simp +contextual only [go_sem,ak,sevalprocAttr,aD,ht,aF,acN,aY acN,mB,bC mB]
   refine am (ih kids[i] (acF _ (List.getElem_mem aF)) acN s9 T6) ?_ (fun _ _ _ _ h=>h.elim)
   rintro r M4 ce bH ⟨cs4,rfl,Ak⟩
   obtain ⟨s4,rfl,hs4,Q0⟩:=cg Ak
   simp only [List.cons_append,List.nil_append,aB,and_true] at bH
   have yg:=eX (r':=jL M4) (fun x cs h=>bS ce x cs h) cy
   simp +contextual only [go_sem,ak,sevalprocAttr,aD,ht,aF,hs4,e4]
   intro b7 km dj
   refine dH (Tryz.underlying36) yL yV (x:=cJ kids[i]) yg Ak (fun _ _=>ed) (j9 Ak) km (by rw [List.length_map,List.length_take];omega) (by decide) ?_
   intro fv' R' cF
   simp +contextual only [go_sem,ak,sevalprocAttr,aD,ht,aF]
   refine bf (al (al (aA ⟨kids.length - (i+1),by omega,rfl,i+1,by omega,rfl,?_,?_,T6,M4,R',[],fv',iy.trans u6,aP.trans ce,bH.2.2,bH.2.1,?_,rfl,rfl,by rw [eW];exact cF⟩)))
   ·simp only [aG,aD,go_sem,ak,sevalprocAttr]
   ·simp only [ht,go_sem,ak,sevalprocAttr,aC i (by omega)]
   ·simp only [go_sem,ak,sevalprocAttr]
  ·have:i=kids.length:=by omega
   subst this
   rw [List.take_length] at cy
   obtain ⟨Ug,CA⟩:=uz cy
   simp only [Value.cells] at CA
   have gV:¬ b2=b3:=eD.2
   simp +contextual only [go_sem,ak,sevalprocAttr,aD,ht,aF,e4,Ug,CA,nJ,AL,eD,bC nJ,bC AL]
   have hT:=((fu.trans fD).trans iy)
   refine al (al (cU cy (by rw [List.length_map];omega) (by decide) trivial fun M2 aX aQ ff=>az hT ⟨_,rfl,?_⟩))
   rw [cJ,oV]
   refine gD.2 ⟨fv,?_,aN bG.rfl' (bS aX) ff⟩
   have v1:(if k=1 then rK v else v).k=v.k:=by split<;>rfl
   have v2:(if k=1 then rK v else v).n=n':=by
    rw [<- hNn]
    by_cases k1:k=1<;>simp [k1,rK]
   have v3:(if k=1 then rK v else v).t=t':=by
    rw [<- hTt]
    by_cases k1:k=1<;>by_cases k4:v.k=4<;>simp [k1,k4,rK]
   simp only [Ex.k,Ex.v,Ex.c]
   rw [v1,v2,v3]
   rfl
theorem P1 (p:Pl):bZ p=.mk p.k p.n (cJ p.x) (p.xs.map cJ) (p.ags.map iX) (p.kids.map bZ):=by
 have hk:∀ l:List Pl,cD l=l.map bZ:=by
  intro l
  induction l with
  | nil=>rw [cD];rfl
  | cons x l ih=>rw [cD,ih];rfl
 obtain ⟨k,n,x,xs,ags,kids⟩:=p
 rw [bZ,oV,hk]
 rfl
set_option maxHeartbeats 2000000 in
theorem wI:∀ (n:Nat) (p:Pl),SizeOf.sizeOf p<=n ->∀ {M:aV} {cs:List Value},j5 M p cs ->∀ (T:Tm),
 ep Tryz.prog 21 [.agg ⟨cs⟩] T M [] [] (fun r M' _ _=>∃ cs',r=.agg ⟨cs'⟩/\j5 M' (bZ p) cs') bj:=by
 intro n
 induction n with
 | zero=>intro p hp;cases p;simp at hp
 | succ n ih=>
  intro p eF M cs hp T
  have acF:∀ y∈p.kids,SizeOf.sizeOf y<=n:=by
   intro y hy
   have:=List.sizeOf_lt_of_mem hy
   obtain ⟨_,_,_,_,_,kids⟩:=p
   simp only [Pl.mk.sizeOf_spec,Pl.kids] at eF hy this
   omega
  obtain ⟨s1,a1,n1,a2,n2,a3,n3,gU,gH,hx0,kD,arb,lD⟩:=gK hp
  subst gU
  obtain ⟨jK,_,_,oN,_,_,mC⟩:=aI (by decide) (fun _ _=>ed) kD
  cases oN
  obtain ⟨eG,_,_,tU,_,_,BB⟩:=aI (by decide) (fun _ _=>ml) arb
  cases tU
  obtain ⟨fh,_,_,hv3,_,_,hg3⟩:=aI (by decide) (fun _ _=>jI) lD
  cases hv3
  refine aT mx anm Tryz.func21 rfl (by rw [arT];exact Nat.le_of_ble_eq_true rfl) (dr:=aoA) (by kernel_rfl) aqE ?_
  intro bN _
  simp +contextual only [go_sem,ak,sevalprocAttr,pO,gH]
  intro b1 T1 jK jt pV b2 T2 eG cr fu ju b3 T3 fh bT fD ja b4 T4 iR cN j6 pp
  have Lu:=((jt.trans fu).trans fD).trans j6
  have p42:¬ b4=b2/\¬ b2=b4:=cN.2.1
  have p41:¬ b4=b1/\¬ b1=b4:=cN.2.2
  have p21:¬ b2=b1/\¬ b1=b2:=cr
  refine gu [(b4,_)] Yp fun M1 aP h3 bL=> ?_
  refine am (vj _ p.x (Nat.le_refl _) h3 (bS aP _ _ (gD.2 ⟨s1,rfl,hx0⟩)) T4) ?_ (fun _ _ _ _ h=>h.elim)
  rintro r M2 aX aQ ⟨cs5,rfl,Hj⟩
  obtain ⟨s5,rfl,hs5,_⟩:=cg Hj
  simp only [List.cons_append,List.nil_append,aB,and_true] at aQ
  have gz:=aP.trans aX
  have h3b:=aX _ _ h3
  simp +contextual only [go_sem,ak,sevalprocAttr,hs5,aQ,p42,p41,p21,pO]
  obtain ⟨y5,hy5⟩:∃ y,y=cJ p.x:=⟨_,rfl⟩
  rw [<- hy5] at Hj ⊢
  refine bA p.xs.length 24 [(1,.pointer (some ⟨b1,0,none⟩)),(2,.pointer (some ⟨b2,0,none⟩)),(3,.pointer (some ⟨b3,0,none⟩)),(4,.pointer (some ⟨b4,0,none⟩)),(22,.slice a1 p.xs.length n1),(23,.int .i64 (p.xs.length:Int))]
   (fun i e h=>∃ N' M' R' fv,aH T4 N'/\bG M2 M'/\(M' b4=none/\M' b2=none/\M' b1=none)/\fv.oneCell'=true/\fv.cells.toList=[fv]/\h=⟨N',M',[(b4,[.int .i64 p.k,.int .i64 p.n,.int .i64 y5.k,.int .i64 y5.v.k,.int .i64 y5.v.n,st y5.v.t,.int .i64 y5.c,s5,fv,.slice none 0 0,.slice none 0 0]),(b2,Ch),(b1,pO p s1 (.slice a1 p.xs.length n1) (.slice a2 p.ags.length n2) (.slice a3 p.kids.length n3))],R'⟩/\nK 38 6 (jL M') [] R' fv ((p.xs.take i).map cJ))
   0 (by omega) (by simp only [aG,go_sem,ak,sevalprocAttr]) (by simp only [go_sem,ak,sevalprocAttr]) (aA ⟨T4,M2,[],_,aH.rfl',bG.rfl',aQ,rfl,rfl,rfl,ew⟩) ?_
  rintro i e h hi aD ht ⟨N1,M3,R1,fv,iy,bD,AL,Ug,CA,rfl,cy⟩
  simp only [aG] at aD
  simp only [Value.cells] at CA
  have aeJ:=gz.trans bD
  by_cases aF:i<p.xs.length
  ·obtain ⟨b',o',cs',rfl,cC,eL⟩:=mC i p.xs[i] (List.getElem?_eq_getElem aF)
   have s9:=bS aeJ _ _ eL
   obtain ⟨s0,rfl,Ar,oI⟩:=cg s9
   obtain ⟨x0,x1,x2,x3,x4,x5⟩:=As (cC.ext aeJ)
   have eW:(p.xs.take (i+1)).map cJ=(p.xs.take i).map cJ++[cJ p.xs[i]]:=by
    rw [<- List.take_append_getElem aF,List.map_append];rfl
   have h3c:=bD _ _ h3b
   simp +contextual only [go_sem,ak,sevalprocAttr,aD,ht,aF,x0,x1,x2,x3,x4,x5,Ar]
   intro b6 T6 mB de u6 AC
   have p64:¬ b6=b4/\¬ b4=b6:=de.1
   refine bq ?_
   simp +contextual only [go_sem,ak,sevalprocAttr,aD,ht,aF,h3c,aY h3c,mB,AL,bC mB,Ug,p64]
   refine am (vj _ p.xs[i] (Nat.le_refl _) h3c s9 T6) ?_ (fun _ _ _ _ h=>h.elim)
   rintro r M4 ce bH ⟨cs4,rfl,Ak⟩
   obtain ⟨s4,rfl,hs4,Q0⟩:=cg Ak
   have pN:=bH
   simp only [List.cons_append,List.nil_append,aB,and_true] at pN
   have yg:=eX (r':=jL M4) (fun x cs h=>bS ce x cs h) cy
   simp +contextual only [go_sem,ak,sevalprocAttr,hs4]
   refine ⟨dK ce bH,?_⟩
   intro b7 km dj
   refine ⟨iw ce bH ⟨⟨fun h=>dj.1.1 h,fun h=>dj.1.2 h⟩,⟨fun h=>dj.2.1.1 h,fun h=>dj.2.1.2 h⟩,⟨fun h=>dj.2.2.1.1 h,fun h=>dj.2.2.1.2 h⟩,⟨fun h=>dj.2.2.2.1 h,fun h=>dj.2.2.2.2 h⟩,trivial⟩,?_⟩
   refine dH (Tryz.underlying36) yL yV (x:=cJ p.xs[i]) yg Ak (fun _ _=>ed) (j9 Ak) km (by rw [List.length_map,List.length_take];omega) (by decide) ?_
   intro fv' R' cF
   obtain ⟨P6,AN⟩:=uz cF
   have Rx:=AN
   simp only [Value.cells] at AN
   have p76:¬ b7=b6/\¬ b6=b7:=dj.1
   have p74:¬ b7=b4/\¬ b4=b7:=dj.2.1
   simp +contextual only [go_sem,ak,sevalprocAttr,pN,p64,p76,p74,P6,AN]
   refine ⟨iw ce bH ⟨⟨fun h=>dj.1.1 h,fun h=>dj.1.2 h⟩,⟨fun h=>dj.2.1.1 h,fun h=>dj.2.1.2 h⟩,⟨fun h=>dj.2.2.1.1 h,fun h=>dj.2.2.1.2 h⟩,⟨fun h=>dj.2.2.2.1 h,fun h=>dj.2.2.2.2 h⟩,trivial⟩,?_⟩
   simp +contextual only [go_sem,ak,sevalprocAttr,aD,ht,aF,pN,p64,p76,p74,P6,AN]
   refine bf (al (al (aA ⟨p.xs.length - (i+1),by omega,rfl,i+1,by omega,rfl,?_,?_,T6,M4,R',fv',iy.trans u6,bD.trans ce,pN.2,P6,Rx,rfl,by rw [eW];exact cF⟩)))
   ·simp only [aG,aD,go_sem,ak,sevalprocAttr]
   ·simp only [ht,go_sem,ak,sevalprocAttr,aC i (by omega)]
  ·have:i=p.xs.length:=by omega
   subst this
   rw [List.take_length] at cy
   simp +contextual only [go_sem,ak,sevalprocAttr,aD,ht,aF,p42,p41,p21,AL,bC AL.2.2,pO]
   refine bA p.ags.length 40 [(1,.pointer (some ⟨b1,0,none⟩)),(2,.pointer (some ⟨b2,0,none⟩)),(3,.pointer (some ⟨b3,0,none⟩)),(4,.pointer (some ⟨b4,0,none⟩)),(38,.slice a2 p.ags.length n2),(39,.int .i64 (p.ags.length:Int))]
    (fun i e h=>∃ N' M' R' fv2,aH N1 N'/\bG M3 M'/\(M' b4=none/\M' b2=none/\M' b1=none)/\fv2.oneCell'=true/\fv2.cells.toList=[fv2]/\h=⟨N',M',[(b4,[.int .i64 p.k,.int .i64 p.n,.int .i64 y5.k,.int .i64 y5.v.k,.int .i64 y5.v.n,st y5.v.t,.int .i64 y5.c,s5,fv,fv2,.slice none 0 0]),(b2,Ch),(b1,pO p s1 (.slice a1 p.xs.length n1) (.slice a2 p.ags.length n2) (.slice a3 p.kids.length n3))],R'⟩/\nK 38 6 (jL M') [] R1 fv (p.xs.map cJ)/\nK 119 7 (DK M') R1 R' fv2 ((p.ags.take i).map iX))
    0 (by omega) (by simp only [aG,aD,go_sem,ak,sevalprocAttr]) (by simp only [go_sem,ak,sevalprocAttr]) (aA ⟨N1,M3,R1,_,aH.rfl',bG.rfl',AL,rfl,rfl,rfl,cy,ew⟩) ?_
   rintro i e h hi aD ht ⟨N2,M5,R2,fv2,CG,dy,Uy,ho6,hc6,rfl,Gj,kK⟩
   simp only [aG] at aD
   simp only [Value.cells] at hc6
   have adk:=aeJ.trans dy
   by_cases aF:i<p.ags.length
   ·obtain ⟨b',o',cs',rfl,cC,eL⟩:=BB i p.ags[i] (List.getElem?_eq_getElem aF)
    have s9:=ki adk _ _ eL
    obtain ⟨s0,rfl,Ar,wX⟩:=uS s9
    obtain ⟨x0,x1,x2,x3,x4,x5,x6⟩:=At7 (cC.ext adk)
    have eW:(p.ags.take (i+1)).map iX=(p.ags.take i).map iX++[iX p.ags[i]]:=by
     rw [<- List.take_append_getElem aF,List.map_append];rfl
    have h3c:=(bD.trans dy) _ _ h3b
    simp +contextual only [go_sem,ak,sevalprocAttr,aD,ht,aF,x0,x1,x2,x3,x4,x5,x6,Ar]
    intro b6 T6 mB de u6 AC
    have p64:¬ b6=b4/\¬ b4=b6:=de.1
    refine bq ?_
    simp +contextual only [go_sem,ak,sevalprocAttr,aD,ht,aF,h3c,aY h3c,mB,Uy,bC mB,ho6,p64]
    refine am (vj _ p.ags[i].x (Nat.le_refl _) h3c wX T6) ?_ (fun _ _ _ _ h=>h.elim)
    rintro r M4 ce bH ⟨cs4,rfl,Ak⟩
    obtain ⟨s4,rfl,hs4,Q0⟩:=cg Ak
    have pN:=bH
    simp only [List.cons_append,List.nil_append,aB,and_true] at pN
    have yg:=eX (r':=DK M4) (fun x cs h=>ki ce x cs h) kK
    simp +contextual only [go_sem,ak,sevalprocAttr,hs4]
    refine ⟨dK ce bH,?_⟩
    intro b7 km dj
    refine ⟨iw ce bH ⟨⟨fun h=>dj.1.1 h,fun h=>dj.1.2 h⟩,⟨fun h=>dj.2.1.1 h,fun h=>dj.2.1.2 h⟩,⟨fun h=>dj.2.2.1.1 h,fun h=>dj.2.2.1.2 h⟩,⟨fun h=>dj.2.2.2.1 h,fun h=>dj.2.2.2.2 h⟩,trivial⟩,?_⟩
    refine dH (Tryz.underlying39) PT Pe (x:=iX p.ags[i]) yg ⟨_,Ak,rfl⟩ (fun _ _=>ml) (by intro u hu;rcases List.mem_cons.1 hu with rfl | hu;rfl;exact j9 Ak u hu) km (by rw [List.length_map,List.length_take];omega) (by decide) ?_
    intro fv' R' cF
    obtain ⟨P6,AN⟩:=uz cF
    have Rx:=AN
    simp only [Value.cells] at AN
    have p76:¬ b7=b6/\¬ b6=b7:=dj.1
    have p74:¬ b7=b4/\¬ b4=b7:=dj.2.1
    simp +contextual only [go_sem,ak,sevalprocAttr,aD,ht,aF,pN,p64,p76,p74,P6,AN]
    refine ⟨iw ce bH ⟨⟨fun h=>dj.1.1 h,fun h=>dj.1.2 h⟩,⟨fun h=>dj.2.1.1 h,fun h=>dj.2.1.2 h⟩,⟨fun h=>dj.2.2.1.1 h,fun h=>dj.2.2.1.2 h⟩,⟨fun h=>dj.2.2.2.1 h,fun h=>dj.2.2.2.2 h⟩,trivial⟩,?_⟩
    refine bf (al (al (aA ⟨p.ags.length - (i+1),by omega,rfl,i+1,by omega,rfl,?_,?_,T6,M4,R',fv',CG.trans u6,dy.trans ce,pN.2,P6,Rx,rfl,eX (fun x cs h=>bS ce x cs h) Gj,by rw [eW];exact cF⟩)))
    ·simp only [aG,aD,go_sem,ak,sevalprocAttr]
    ·simp only [ht,go_sem,ak,sevalprocAttr,aC i (by omega)]
   ·have:i=p.ags.length:=by omega
    subst this
    rw [List.take_length] at kK
    simp +contextual only [go_sem,ak,sevalprocAttr,aD,ht,aF,p42,p41,p21,Uy,bC Uy.2.2,pO]
    refine bA p.kids.length 60 [(1,.pointer (some ⟨b1,0,none⟩)),(2,.pointer (some ⟨b2,0,none⟩)),(3,.pointer (some ⟨b3,0,none⟩)),(4,.pointer (some ⟨b4,0,none⟩)),(58,.slice a3 p.kids.length n3),(59,.int .i64 (p.kids.length:Int))]
     (fun i e h=>∃ N' M' R' fv3,aH N2 N'/\bG M5 M'/\(M' b4=none/\M' b2=none/\M' b1=none)/\fv3.oneCell'=true/\fv3.cells.toList=[fv3]/\h=⟨N',M',[(b4,[.int .i64 p.k,.int .i64 p.n,.int .i64 y5.k,.int .i64 y5.v.k,.int .i64 y5.v.n,st y5.v.t,.int .i64 y5.c,s5,fv,fv2,fv3]),(b2,Ch),(b1,pO p s1 (.slice a1 p.xs.length n1) (.slice a2 p.ags.length n2) (.slice a3 p.kids.length n3))],R'⟩/\nK 38 6 (jL M') [] R1 fv (p.xs.map cJ)/\nK 119 7 (DK M') R1 R2 fv2 (p.ags.map iX)/\nK 42 11 (j5 M') R2 R' fv3 ((p.kids.take i).map bZ))
     0 (by omega) (by simp only [aG,aD,go_sem,ak,sevalprocAttr]) (by simp only [go_sem,ak,sevalprocAttr]) (aA ⟨N2,M5,R2,_,aH.rfl',bG.rfl',Uy,rfl,rfl,rfl,Gj,kK,ew⟩) ?_
    rintro i e h hi aD ht ⟨N3,M6,R3,fv3,Af,dM,hn6,ho7,hc7,rfl,Gj,kK,OR⟩
    simp only [aG] at aD
    simp only [Value.cells] at hc7
    have adf:=adk.trans dM
    by_cases aF:i<p.kids.length
    ·obtain ⟨b',o',cs',rfl,cC,eL⟩:=hg3 i p.kids[i] (List.getElem?_eq_getElem aF)
     have s9:=bO adf _ _ eL
     obtain ⟨c0,c1,c2,c3,c4,c5,c6,c7,c8,c9,c10,rfl,hcc⟩:=bK s9
     have x:=fY (cC.ext adf)
     have xx:=ku (cC.ext adf)
     have eW:(p.kids.take (i+1)).map bZ=(p.kids.take i).map bZ++[bZ p.kids[i]]:=by
      rw [<- List.take_append_getElem aF,List.map_append];rfl
     simp +contextual only [go_sem,ak,sevalprocAttr,aD,ht,aF,x,xx,hcc]
     intro b6 T6 mB de u6 AC
     have p64:¬ b6=b4/\¬ b4=b6:=de.1
     refine bq ?_
     simp +contextual only [go_sem,ak,sevalprocAttr,aD,ht,aF,mB,hn6,bC mB,ho7,p64,hcc]
     refine am (ih p.kids[i] (acF _ (List.getElem_mem aF)) s9 T6) ?_ (fun _ _ _ _ h=>h.elim)
     rintro r M4 ce bH ⟨cs4,rfl,Ak⟩
     obtain ⟨d0,d1,d2,d3,d4,d5,d6,d7,d8,d9,d10,rfl,hdd⟩:=bK Ak
     have pN:=bH
     simp only [List.cons_append,List.nil_append,aB,and_true] at pN
     have yg:=eX (r':=j5 M4) (fun x cs h=>bO ce x cs h) OR
     simp +contextual only [go_sem,ak,sevalprocAttr,hdd]
     refine ⟨dK ce bH,?_⟩
     intro b7 km dj
     refine ⟨iw ce bH ⟨⟨fun h=>dj.1.1 h,fun h=>dj.1.2 h⟩,⟨fun h=>dj.2.1.1 h,fun h=>dj.2.1.2 h⟩,⟨fun h=>dj.2.2.1.1 h,fun h=>dj.2.2.1.2 h⟩,⟨fun h=>dj.2.2.2.1 h,fun h=>dj.2.2.2.2 h⟩,trivial⟩,?_⟩
     refine dH (Tryz.underlying40) YU Ym (x:=bZ p.kids[i]) yg Ak (fun _ _=>jI) (yH Ak) km (by rw [List.length_map,List.length_take];omega) (by decide) ?_
     intro fv' R' cF
     obtain ⟨P6,AN⟩:=uz cF
     have Rx:=AN
     simp only [Value.cells] at AN
     have p76:¬ b7=b6/\¬ b6=b7:=dj.1
     have p74:¬ b7=b4/\¬ b4=b7:=dj.2.1
     simp +contextual only [go_sem,ak,sevalprocAttr,aD,ht,aF,pN,p64,p76,p74,P6,AN]
     refine ⟨iw ce bH ⟨⟨fun h=>dj.1.1 h,fun h=>dj.1.2 h⟩,⟨fun h=>dj.2.1.1 h,fun h=>dj.2.1.2 h⟩,⟨fun h=>dj.2.2.1.1 h,fun h=>dj.2.2.1.2 h⟩,⟨fun h=>dj.2.2.2.1 h,fun h=>dj.2.2.2.2 h⟩,trivial⟩,?_⟩
     refine bf (al (al (aA ⟨p.kids.length - (i+1),by omega,rfl,i+1,by omega,rfl,?_,?_,T6,M4,R',fv',Af.trans u6,dM.trans ce,pN.2,P6,Rx,rfl,eX (fun x cs h=>bS ce x cs h) Gj,eX (fun x cs h=>ki ce x cs h) kK,by rw [eW];exact cF⟩)))
     ·simp only [aG,aD,go_sem,ak,sevalprocAttr]
     ·simp only [ht,go_sem,ak,sevalprocAttr,aC i (by omega)]
    ·have:i=p.kids.length:=by omega
     subst this
     rw [List.take_length] at OR
     simp +contextual only [go_sem,ak,sevalprocAttr,aD,ht,aF,p42,p41,p21,hn6,bC hn6.1,Ug,CA,ho6,hc6,ho7,hc7,hs5]
     have hTZ:=((Lu.trans iy).trans CG).trans Af
     refine al (al (al (cU OR (by rw [List.length_map];omega) (by decide) trivial fun M7 iz _ Wi=>cU (eX (fun x cs h=>ki iz x cs h) kK) (by rw [List.length_map];omega) (by decide) trivial fun M8 jv _ Aj=>cU (eX (fun x cs h=>bS (iz.trans jv) x cs h) Gj) (by rw [List.length_map];omega) (by decide) trivial fun M9 lK _ hr1=>az hTZ ⟨_,rfl,?_⟩)))
     rw [P1,<- hy5]
     have h79:=(iz.trans jv).trans lK
     have h29:=((bD.trans dy).trans dM).trans h79
     exact mp.2 ⟨_,fv,fv2,fv3,rfl,bS h29 _ _ Hj,aN bG.rfl' (bS lK) hr1,aN lK (ki (jv.trans lK)) Aj,aN (jv.trans lK) (bO h79) Wi⟩
def OkR {α:Type}(P:α ->Prop)(r:Rs α):Prop:=∀ a t,r=.ok a t ->P a
def BX (x:X):Prop:=cL x=x
section
variable {en:Int} {ex:List Tk ->Rs X} (hx:∀ t,OkR BX (ex t))
include hx
end
theorem Ha (s:Bs):(eH (kz s).1).1=0:=by
 unfold kz
 split
 ·rfl
 split
 ·rfl
 ·rfl
 ·split
  ·rfl
  ·rename_i h;exact Classical.byContradiction h
set_option maxHeartbeats 4000000 in
theorem yC {M:aV}{rels:List Rel}{rv:Value}{q:Q}{qc:List Value}(hG:jB M)(hr:RS M (qH M) 14 rels rv)(hq:RQ M q qc)(bQ:rels.length<=1048576)(gy:∀ r∈rels,r.cols.length<=1048576)(T:Tm):
 ep Tryz.prog 5 [rv,.agg ⟨qc⟩] T M [] [] (fun r _ _ _=>r=.bool true) bj:=by
 have J4:=hr
 have hq0:=hq
 obtain ⟨lh,ra,rc,rfl,jo,_,hg⟩:=aI (by decide) (fun _ _=>jf) hr
 obtain ⟨pv,ov,dv,rfl,o1,o2,o3⟩:=xm hq
 refine aT mx ats Tryz.func5 rfl (by rw [nt5];exact Nat.le_of_ble_eq_true rfl) (dr:=dr5) (by kernel_rfl) rs5 ?_
 intro bN _
 simp +contextual only [go_sem,ak,sevalprocAttr,o1,o2,o3]
 intro b3 T3 fh fD ja
 refine am (JF hG.1 T3) ?_ (fun _ _ _ _ h=>h.elim)
 rintro r M1 aP bL rfl
 simp only [aB,and_true] at bL
 simp +contextual only [go_sem,ak,sevalprocAttr,o1,o2,o3,bL,bC bL]
 refine am (SE (aN aP (gb aP) J4) bQ gy T3) ?_ (fun _ _ _ _ h=>h.elim)
 rintro r M2 aX aQ ⟨g,rfl,DN⟩
 simp only [aB,and_true] at aQ
 have gz:=aP.trans aX
 cases g with
 | false=>
  simp +contextual only [go_sem,ak,sevalprocAttr]
  exact al (az fD rfl)
 | true=>
 replace DN:=DN rfl
 simp +contextual only [go_sem,ak,sevalprocAttr,o1,o2,o3,aQ,bC aQ]
 intro b4 iR cN
 have p43:¬ b4=b3/\¬ b3=b4:=cN
 refine aW Zg fun M3 bD h4 aZ=> ?_
 have Al:=gz.trans bD
 have fG:RS M3 (o9 M3) 16 [kH q] (.slice (some ⟨b4,0,none⟩) 1 1):=by
  refine df (fun _ _=>kg) h4 (cP ?_) rfl (by decide)
  exact ⟨_,_,_,_,bR,nl (gz.trans bD) hq0,bR,lB,rfl⟩
 refine am (TO (hG.ext Al) fG T3) ?_ (fun _ _ _ _ h=>h.elim)
 rintro r M5 dy bE rfl
 simp only [aB,and_true] at bE
 have yx:=Al.trans dy
 by_cases VF:(lw [kH q]).2.1=0
 rotate_left
 ·simp +contextual only [go_sem,ak,sevalprocAttr,OJ,bE,VF]
  intro b6 T6 mB de u6 AC
  exact al (al (az (fD.trans u6) rfl))
 obtain ⟨pH,G1,nD⟩:=Ao (rels:=rels) VF
 have akU:gR (gd q)=0:=by
  have h:=Ha (lw [kH q]).1
  rw [pH] at h
  exact yE h
 simp +contextual only [go_sem,ak,sevalprocAttr,OJ,bE,VF]
 intro b6 T6 mB de u6 AC
 have p63:¬ b6=b3/\¬ b3=b6:=de
 refine am (Li _ (hG.1.ext yx) T6) ?_ (fun _ _ _ _ h=>h.elim)
 rintro r M6 dM bP ⟨sv,rfl,hs⟩
 rw [pH] at hs
 simp only [aB,and_true] at bP
 have us:=yx.trans dM
 have hs:RS M6 (o9 M6) 16 [kH (gd q)] sv:=hs
 obtain ⟨_,sa,sc,rfl,IE,_⟩:=aI (by decide) (fun _ _=>kg) hs
 obtain ⟨b,o,cs,rfl,cC,gH⟩:=tK (i:=0) (x:=kH (gd q)) (by decide) (fun _ _=>kg) hs rfl
 obtain ⟨ac,ad,ap,aq,ao,an,ar,ae,au,av,aw,rfl,ho1,xq,_⟩:=Bv gH
 obtain ⟨y0,y1,y2,y3,y4,y5,y6,y7,y8,y9,y10,y11,y12,y13,y14,y15⟩:=ajX cC
 simp only [Nat.zero_mul,Nat.add_zero,List.length_cons,List.length_nil,Nat.zero_add] at y3 y4 y5 y6
 rw [pH]
 simp +contextual only [go_sem,ak,sevalprocAttr,OJ,bP,p63,o1,o2,o3]
 obtain ⟨hoq,aw6,ke,Eg,rT⟩:=rH G1
 obtain ⟨air,axV,axA,Ps,KM⟩:=rH akU
 refine am (vK (aN us (gb us) J4) (nl us hq0) bQ gy (fun s hs=>(rT s hs).1) hoq.len (by omega) (fun hl=>⟨by have:=(Eg hl).1;omega,(Eg hl).2⟩) (vD hoq) (SU DN G1) T6) ?_ (fun _ _ _ _ h=>h.elim)
 rintro r M7 iz fN lJ
 simp only [aB,and_true] at fN
 have Ve:=us.trans iz
 have FM:∀ {M':aV},bG M7 M' ->∀ (T':Tm),ep Tryz.prog 10 [.slice ra rels.length rc,.agg ⟨[.slice ap (kH (gd q)).q.parts.length aq,.slice ao (kH (gd q)).q.ops.length an,.slice ar (kH (gd q)).q.order.length ae,.int .i64 (kH (gd q)).q.limit]⟩] T' M' [] [] (mb rels (gd q)) bj:=
  fun he T'=>vK (q:=gd q) (aN (Ve.trans he) (gb (Ve.trans he)) J4) (nl (iz.trans he) xq) bQ gy (fun s hs=>(KM s hs).1) air.len (by omega) (fun hl=>⟨by have:=(Ps hl).1;omega,(Ps hl).2⟩) (vD air) (SU DN akU) T'
 have z3:=ax iz y3
 have z4:=ax iz y4
 have z5:=ax iz y5
 have z6:=ax iz y6
 unfold mb at lJ
 cases hB:gm rels q with
 | error e=>
  rw [hB] at lJ nD
  cases hB2:gm rels (gd q) with
  | ok w=>rw [hB2] at nD;exact nD.elim
  | error e'=>
   rw [hB2] at nD
   have he:e'=e:=nD
   subst he
   obtain ⟨dh,cs1,rfl,hz1⟩:=lJ
   obtain ⟨c0,c1,c2,c3,c4,c5,c6,c7,c8,c9,c10,rfl,hc⟩:=bK hz1
   simp +contextual only [go_sem,ak,sevalprocAttr,hc,fN]
   intro b8 T8 sd fj rV z8
   simp +contextual only [go_sem,ak,sevalprocAttr,hc,fN,z3,z4,z5,z6]
   refine am (FM bG.rfl' T8) ?_ (fun _ _ _ _ h=>h.elim)
   rintro r M8 jv gS s8
   unfold mb at s8
   rw [hB2] at s8
   obtain ⟨_,cs2,rfl,hz2⟩:=s8
   obtain ⟨d0,d1,d2,d3,d4,d5,d6,d7,d8,d9,d10,rfl,hd⟩:=bK hz2
   simp +contextual only [go_sem,ak,sevalprocAttr,hd,dh]
   intro b9 T9 rF je pG oP
   refine bq ?_
   simp +contextual only [go_sem,ak,sevalprocAttr,hd,dh]
   repeat refine ⟨Vc.lr.refl _,?_⟩
   exact az (((fD.trans u6).trans rV).trans pG) rfl
 | ok w=>
  rw [hB] at lJ nD
  cases hB2:gm rels (gd q) with
  | error e=>rw [hB2] at nD;exact nD.elim
  | ok w2=>
   rw [hB2] at nD
   have Wz:bZ w2.1=bZ w.1:=nD.1
   obtain ⟨cs1,cv1,rfl,hz1,_⟩:=lJ
   obtain ⟨c0,c1,c2,c3,c4,c5,c6,c7,c8,c9,c10,rfl,hc⟩:=bK hz1
   simp +contextual only [go_sem,ak,sevalprocAttr,hc,fN]
   intro b8 T8 sd fj rV z8
   simp +contextual only [go_sem,ak,sevalprocAttr,hc,fN,z3,z4,z5,z6]
   refine am (FM bG.rfl' T8) ?_ (fun _ _ _ _ h=>h.elim)
   rintro r M8 jv gS s8
   simp only [aB,and_true] at gS
   unfold mb at s8
   rw [hB2] at s8
   obtain ⟨cs2,cv2,rfl,hz2,_⟩:=s8
   obtain ⟨d0,d1,d2,d3,d4,d5,d6,d7,d8,d9,d10,rfl,hd⟩:=bK hz2
   simp +contextual only [go_sem,ak,sevalprocAttr,hd]
   intro b9 T9 rF je pG oP
   have p98:¬ b9=b8/\¬ b8=b9:=je.1
   refine bq ?_
   simp +contextual only [go_sem,ak,sevalprocAttr,hd,hc,rF,gS,bC rF,bC gS.1,p98]
   have n9:aB M8 [(b9,[d0,d1,d2,d3,d4,d5,d6,d7,d8,d9,d10]),(b8,[c0,c1,c2,c3,c4,c5,c6,c7,c8,c9,c10]),(b6,[.int .i64 0,.int .i64 0]),(b3,[pv,ov,dv,.int .i64 q.limit])]:=⟨rF,gS.1,gS.2.1,gS.2.2,trivial⟩
   refine am (wI _ w.1 (Nat.le_refl _) (bO jv _ _ hz1) T9) ?_ (fun _ _ _ _ h=>h.elim)
   rintro r M9 lK mc ⟨cs3,rfl,hx3⟩
   obtain ⟨e0,e1,e2,e3,e4,e5,e6,e7,e8,e9,e10,rfl,he⟩:=bK hx3
   simp +contextual only [go_sem,ak,sevalprocAttr,hd,hc]
   refine ⟨dK lK mc,?_⟩
   refine am (wI _ w2.1 (Nat.le_refl _) (bO lK _ _ hz2) T9) ?_ (fun _ _ _ _ h=>h.elim)
   rintro r M10 qB agY ⟨cs4,rfl,Ak⟩
   obtain ⟨f0,f1,f2,f3,f4,f5,f6,f7,f8,f9,f10,rfl,hf⟩:=bK Ak
   rw [Wz] at Ak
   simp +contextual only [go_sem,ak,sevalprocAttr,he,hf]
   refine ⟨dK (lK.trans qB) agY,?_⟩
   refine am (RZ _ (bZ w.1) (Nat.le_refl _) (bO qB _ _ hx3) Ak T9) ?_ (fun _ _ _ _ h=>h.elim)
   rintro r M11 pA kA rfl
   simp +contextual only [go_sem,ak,sevalprocAttr]
   exact ⟨dK ((lK.trans qB).trans pA) kA,az (((fD.trans u6).trans rV).trans pG) rfl⟩
open Go.ChangeMaps
open Go.ChangeShapes Go.WideShapes Go.ChangeAt Go.RowKit
set_option maxRecDepth 100000
theorem wW (os:Os)(args:Array Value):laidMet Tryz.prog Rows.bindWrittenUptoRow.laid ((o7 os).forCall (fun _ _=>0) ⟨#[],args,[]⟩).memory:=
 CZ 8 (by kernel_rfl) (by kernel_rfl)
theorem rO (os:Os){H:Type}(enc:TypeId×Value ->H):
 (Rows.OpenSpec.upto Rows.bindWrittenSpec).preRow enc Tryz.prog Tryz.f5 Rows.bindWrittenUptoRow.domain false Rows.bindWrittenUptoRow.laid ((o7 os).forCall (fun _ _=>0) ⟨#[],#[.slice none 0 0,.agg #[.slice none 0 0,.slice none 0 0,.slice none 0 0,.int .i64 0]],[]⟩).memory #[.slice none 0 0,.agg #[.slice none 0 0,.slice none 0 0,.slice none 0 0,.int .i64 0]]:=by
 have hw:(DataW.whole enc Tryz.prog ((o7 os).forCall (fun _ _=>0) ⟨#[],#[.slice none 0 0,.agg #[.slice none 0 0,.slice none 0 0,.slice none 0 0,.int .i64 0]],[]⟩).memory Tryz.f5.params.toList Rows.bindWrittenSpec.vars false (#[.slice none 0 0,.agg #[.slice none 0 0,.slice none 0 0,.slice none 0 0,.int .i64 0]]:Array Value).toList 8).map (fun x=>(x.1,x.2.1))=
  some ([.nil,.agg [.nil,.nil,.nil,.lit (.int .i64 0)]],[]):=by kernel_rfl
 obtain ⟨⟨x1,x2,x3⟩,hx,JB⟩:=Option.map_eq_some_iff.1 hw
 simp only [Prod.mk.injEq] at JB
 obtain ⟨rfl,rfl⟩:=JB
 exact OpenSpec.preRow_of_cond 8 hx (by kernel_rfl) (fun k hk=>by cases hk;kernel_rfl) (by kernel_rfl) (wW os _)
theorem qM (H:Type)(enc:TypeId×Value ->H)(W:World)(base:Nat)(args:Array Value)(ds gs:List (DataW H))(before:List MemPlace)
 (DJ:∀ (j:Nat) t v,Tryz.f5.params[j]?=some t ->args[j]?=some v ->Value.okWide Tryz.prog W .any base t v)
 (hW:DataW.Whole enc Tryz.prog Tryz.f5.params.toList Rows.bindWrittenSpec.vars false W args.toList ds gs before) (Ln:Rows.uptoSmall H (ds++gs)=true)
 (hL:laidMetH Tryz.prog Rows.bindWrittenUptoRow.laid W) (hS:W.ShapedOpen Tryz.prog):
 Calls Tryz.prog 5 args W fun e W'=>∃ v,e=.returned v/\Rows.bindWrittenSpec.post enc Tryz.prog Tryz.f5 false true false false W args v W':=by
 have hW':=hW
 obtain ⟨p,q,G9,hV,rfl,hfz,mS⟩:=hW
 have hA:DataW.TrodAll enc Tryz.prog W 0 (fun _=>true) true Tryz.f5.params.toList args.toList ds p:=G9
 clear G9
 have hA':=hA
 rw [Tryz.params5] at hA DJ
 have hA:DataW.TrodAll enc Tryz.prog W 0 (fun _=>true) true [22,27] args.toList ds p:=hA
 obtain ⟨v0,vs0,d0,ds0,p0,q0,aaa,asw,VF,h0,r0⟩:=trodAll_cons hA
 obtain ⟨v1,vs1,d1,ds1,p1,q1,aap,atn,iT,h1,r1⟩:=trodAll_cons r0
 obtain ⟨hvn,hdn,hpn⟩:=trodAll_nil r1
 subst asw atn hdn
 have Ox:args.toList=[v0,v1]:=by rw [aaa,aap,hvn]
 obtain rfl:args= #[v0,v1]:=by cases args;simp_all
 obtain ⟨rfl,rfl⟩:=trodVars_none hV
 simp only [List.append_nil] at hW' Ln
 have hG:jB (fQ W):=Pg (by kernel_rfl) (by kernel_rfl) hL hS
 have hk:=of_decide_eq_true Ln
 simp only [Rows.uptoBulkAll] at hk
 obtain ⟨a0,m0,c0,rfl⟩:=okWide_slice Tryz.underlying22 (DJ 0 _ _ rfl rfl)
 obtain ⟨n0,k0⟩:=h0
 obtain ⟨l0,u0,eu0,J4,GS,hc0⟩:=HC k0 (show Rows.uptoBulk d0<=1048576 by omega)
 obtain rfl:Value.slice a0 m0 c0=u0:=by simpa [Value.cells] using eu0
 obtain ⟨⟨y1⟩,rfl, -⟩:=okWide_struct Tryz.underlying27 (DJ 1 _ _ rfl rfl)
 obtain ⟨n1,k1⟩:=h1
 obtain ⟨x1,hr1⟩:=atO n1 _ n1 (Nat.le_refl _) _ _ k1 (show Rows.uptoBulk d1<=1048576 by omega)
 replace hr1:RQ (fQ W) x1 y1:=by simpa [Value.cells] using hr1
 have hc:=SP (yC hG J4 hr1 GS hc0 (fun _=>none)) (EX W)
 refine hc.mono fun e W' ⟨v,M',he,hk,_,_,hv⟩=> ?_
 subst he;subst hv
 refine ⟨_,rfl,_,_,_,[],p,[],hW',?_,?_,?_,lU.but hk _,fun h=>by cases h⟩
 ·exact trodAll_mk1 (shut_bool Tryz.underlying4 true)
 ·exact Cs hk (by decide +kernel) hA'
 ·rfl
end Go.Proofs.YtmccpbcbofhmlaaGreatDoor

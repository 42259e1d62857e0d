import Derived.Test.YtmccpbcbofhmlaaGreatDoorD
import Derived.Test.YtmccpbcbofhmlaaGreatDoorC
import Derived.Shelf.Strings.Builder1
import Derived.Shelf.Strings.Builder2
import Derived.Shelf.Small.Strs
import Derived.Shelf.Strconv.Itoa0
import Derived.Shelf.Strconv.Itoa1
import Derived.Shelf.LaysM
import Derived.Shelf.Strconv.Itoa2
import Derived.Shelf.Strconv.Itoa3
import Derived.Shelf.Strconv.Itoa4
import Derived.Shelf.Strconv.ParseIntEmpty
import Derived.Shelf.Strconv.Clone
import Derived.Shelf.Strconv.SyntaxError
import Derived.Shelf.LaysC
import Derived.Shelf.Strconv.ToError
import Derived.Shelf.Strconv.Lower
import Derived.Shelf.Strconv.ParseUint10
import Derived.Shelf.Strconv.ParseUint10Empty
import Derived.Shelf.Strconv.ParseUint10Any
import Derived.Shelf.Strconv.ParseInt10
import Derived.Shelf.Strconv.RangeError
import Derived.Shelf.Strconv.ToErrorRange
import Derived.Shelf.Strconv.ParseUintEmpty
import Derived.Shelf.Strconv.ParseUint10b64
import Derived.Shelf.Strconv.ParseUint10b32
import Derived.Shelf.Strconv.ParseUint10b16
import Derived.Shelf.Strconv.ParseUint10b8
import Derived.Shelf.Strconv.ParseUint10At
import Derived.Shelf.Strconv.ParseInt10At64
import Derived.Shelf.Strconv.ParseInt10At32
import Derived.Shelf.Strconv.ParseInt10At16
import Derived.Shelf.Strconv.ParseInt10At8
import Derived.Shelf.Strconv.ParseInt10All
import Derived.Shelf.Strconv.ParseIntPublic10
import Derived.Shelf.Strings.Search1
import Derived.Shelf.Strings.Search2
import Derived.Shelf.Strings.Search3
import Derived.Shelf.Strings.Count
import Derived.Shelf.Strings.Shaped
import Derived.Shelf.Strings.Prefix
import Derived.Shelf.Strings.Split
import Derived.Shelf.Strings.Fields
import Derived.Shelf.Strings.Replace
import Derived.Shelf.Unicode.Latin
import Derived.Shelf.Unicode.DecodeSlow
import Derived.Shelf.Unicode.Is16White
import Derived.Shelf.Unicode.IsSpaceAny
import Derived.Shelf.Unicode.Is16Any
import Derived.Shelf.Unicode.Is32Any
import Derived.Shelf.Unicode.ExclAny
import Derived.Test.YtmccpbcbofhmlaaGreatDoorProg
import Derived.Lib.ItoaLen
import Derived.Test.YtmccpbcbofhmlaaGreatDoorB
set_option linter.all false
namespace Go.Proofs.YtmccpbcbofhmlaaGreatDoor
open Go Vc
set_option maxRecDepth 10000
def kc (k:Int):Int:=if k=1 then 119 else if k=2 then 110 else if k=3 then 116 else 115
def wL (b:Nat)(lv:Value)(en op be ba:Int):LL:=[(b,[lv,.int .i64 en,.int .i64 op,.int .i64 be,.int .i64 ba])]
def Rl {α:Type}(r:Rs α)(be ba:Int)(a:α)(t:List Tk)(be' ba':Int):Prop:=
 if be=0 then (match r with
  | .ok a0 t0=>a=a0/\t=t0/\be'=0/\ba'=ba
  | .err e x=>e≠0/\be'=e/\ba'=x
  | .out=>True)
 else be'=be/\ba'=ba
def Up {α:Type}(cur:Rs α)(be1 ba1:Int)(res:Rs α)(be ba:Int):Prop:=∀ a t be' ba',Rl cur be1 ba1 a t be' ba' ->Rl res be ba a t be' ba'
theorem Up.rfl' {α:Type}{r:Rs α}{be ba:Int}:Up r be ba r be ba:=fun _ _ _ _ h=>h
theorem Up.congr {α:Type}{c c' res:Rs α}{be1 ba1 be ba:Int}(h:Up c be1 ba1 res be ba)(hc:be1=0 ->c=c'):Up c' be1 ba1 res be ba:=by
 intro a t be' ba' h1
 refine h a t be' ba' ?_
 unfold Rl at h1 ⊢
 split at h1
 ·rename_i h0
  rw [if_pos h0,hc h0];exact h1
 ·rename_i h0
  rw [if_neg h0];exact h1
theorem Up.bind {α β:Type}{g:Rs α}{F:α ->List Tk ->Rs β}{res:Rs β}{be1 ba1 be ba:Int}(h:Up (g.bind F) be1 ba1 res be ba){a:α}{t:List Tk}{be2 ba2:Int}(hg:Rl g be1 ba1 a t be2 ba2):Up (F a t) be2 ba2 res be ba:=by
 intro x t' be' ba' h1
 refine h x t' be' ba' ?_
 unfold Rl at hg h1 ⊢
 by_cases h0:be1=0
 ·rw [if_pos h0] at hg ⊢
  cases g with
  | ok a0 t0=>
   obtain ⟨rfl,rfl,h2,rfl⟩:=hg
   rw [if_pos h2] at h1
   exact h1
  | err e x=>
   obtain ⟨h2,rfl,rfl⟩:=hg
   rw [if_neg h2] at h1
   obtain ⟨rfl,rfl⟩:=h1
   exact ⟨h2,rfl,rfl⟩
  | out=>trivial
 ·rw [if_neg h0] at hg ⊢
  obtain ⟨rfl,rfl⟩:=hg
  rw [if_neg h0] at h1
  exact h1
theorem Up.ok {α:Type}{res:Rs α}{a:α}{t:List Tk}{be1 ba1 be ba:Int}(h:Up (.ok a t) be1 ba1 res be ba):Rl res be ba a t be1 ba1:=by
 refine h a t be1 ba1 ?_
 unfold Rl
 split
 ·rename_i h0;exact ⟨rfl,rfl,h0,rfl⟩
 ·exact ⟨rfl,rfl⟩
theorem Up.bad {α:Type}{c res:Rs α}{a:α}{t:List Tk}{be1 ba1 be ba:Int}(h:Up c be1 ba1 res be ba)(h0:be1≠0):Rl res be ba a t be1 ba1:=by
 refine h a t be1 ba1 ?_
 unfold Rl
 rw [if_neg h0];exact ⟨rfl,rfl⟩
def O7 (e a:Int)(be ba:Int):Int×Int:=if be=0 then (e,a) else (be,ba)
theorem Up.err {α:Type}{c res:Rs α}{e x:Int}{a:α}{t:List Tk}{be1 ba1 be ba:Int}(h:Up c be1 ba1 res be ba)(hc:be1=0 ->c=.err e x)(he:e≠0):Rl res be ba a t (O7 e x be1 ba1).1 (O7 e x be1 ba1).2:=by
 refine (h.congr hc) a t _ _ ?_
 unfold Rl O7
 by_cases h0:be1=0
 ·rw [if_pos h0,if_pos h0];exact ⟨he,rfl,rfl⟩
 ·rw [if_neg h0,if_neg h0];exact ⟨rfl,rfl⟩
theorem QJ (b lv en op be ba k o):dK (wL b lv en op be ba) ⟨k,o,none⟩=if k=b then some ([lv,.int .i64 en,.int .i64 op,.int .i64 be,.int .i64 ba][o]?) else none:=(rfl)
theorem Tn (b lv en op be ba v):od (wL b lv en op be ba) b 0 [v]=some (wL b v en op be ba):=by simp [od,wL,mC]
theorem Tj (b lv en op be ba n):od (wL b lv en op be ba) b 2 [.int .i64 n]=some (wL b lv en n be ba):=by simp [od,wL,mC]
theorem OX (b lv en op be ba e a):od (wL b lv en op be ba) b 3 [.int .i64 e,.int .i64 a]=some (wL b lv en op e a):=by simp [od,wL,mC]
theorem OU (M b lv en op be ba):aJ M (wL b lv en op be ba)=(M b=none):=by simp [aJ,wL]
theorem Lt (k b lv en op be ba):ce k (wL b lv en op be ba)=(k≠b/\b≠k):=by simp [ce,wL]
attribute [go_sem] QJ Tn Tj OX OU Lt
theorem DB {M:aS}(s:Bs)(T:Tm):cw Tryz.prog 55 [st s] T M [] [] (fun r _ _ _=>r=.bool (iM.contains s)) aO:=by
 refine aC F55 rfl rfl ?_
 intro bi _
 simp +contextual only [go_sem,aE,sevalprocAttr]
 intro b5 mp
 refine br 46 7 [(0,st s),(5,.slice (some ⟨b5,0,none⟩) 46 46),(6,.int .i64 46)] (fun i e h=>(∃ M',h=⟨T,M',[],[]⟩/\M' b5=some (iM.map st))/\iM.contains s=(iM.drop i).contains s)
  0 (by omega) (by simp only [aG,go_sem,sevalprocAttr]) (by simp only [go_sem,sevalprocAttr]) (aT fun he hb bi=>az ⟨⟨_,rfl,hb⟩,rfl⟩) ?_
 rintro i e h hi aI ht ⟨⟨M2,rfl,hw⟩,ax⟩
 simp only [aG,st] at aI
 by_cases aN:i<46
 ·have kD:i<iM.length:=aN
  have bA:iM.drop i=iM[i]::iM.drop (i+1):=dq kD
  rw [bA,List.contains_cons] at ax
  have hx:aQ M2 ⟨b5,i,none⟩=some (.string (bs iM[i])):=by
   rw [aX hw,List.getElem?_map,gq kD]
   rfl
  have Nr:(i:Int)<46:=by omega
  simp +contextual only [go_sem,aE,sevalprocAttr,aI,ht,Nr,hx]
  by_cases he:iM[i]=s
  ·simp +contextual only [go_sem,sevalprocAttr,he]
   refine am aH.rfl' ?_
   rw [ax,he];simp
  ·simp +contextual only [go_sem,sevalprocAttr,he]
   refine cI aN ?_ ?_ ⟨⟨M2,rfl,hw⟩,?_⟩
   ·simp only [aG,aI,go_sem,sevalprocAttr]
   ·simp only [go_sem,sevalprocAttr,aB i (by omega)]
   ·rw [ax]
    have:(s==iM[i])=false:=by simpa using Ne.symm he
    rw [this,Bool.false_or]
 ·have:i=46:=by omega
  subst this
  have h33:¬ ((46:Nat):Int)<46:=by omega
  simp +contextual only [go_sem,aE,sevalprocAttr,aI,ht]
  refine am aH.rfl' ?_
  rw [ax];rfl
theorem u7:∀ (s:Bs) (i:Nat),gV i s=true ->∀ c∈s,(eF c.toNat || eH c.toNat)=true
 | [],_,_,_,hc=>by cases hc
 | a::s,i,h,c,hc=>by
  simp only [gV,zU,Bool.and_eq_true,Bool.or_eq_true] at h
  rcases rP hc with rfl | hc
  ·simp only [Bool.or_eq_true]
   rcases h.1 with h | h
   ·exact .inl h
   ·exact .inr h.2
  ·exact u7 s (i+1) h.2 c hc
theorem xP:∀ (s:Bs) (i:Nat),i≠0 ->(∀ c∈s,(eF c.toNat || eH c.toNat)=true) ->gV i s=true
 | [],_,_,_=>rfl
 | a::s,i,hi,h=>by
  have ha:=h a (List.mem_cons_self ..)
  simp only [Bool.or_eq_true] at ha
  simp only [gV,zU,Bool.and_eq_true,Bool.or_eq_true,decide_eq_true_eq]
  refine ⟨?_,xP s (i+1) (by omega) fun c hc=>h c (p5 hc)⟩
  rcases ha with ha | ha
  ·exact .inl ha
  ·exact .inr ⟨hi,ha⟩
theorem Mo {s:Bs}{i:Nat}(h:i<s.length)(ha:s[i].toNat<128):Utf8.decode (bs s) i=(s[i].toNat,1):=by
 have h1:i<(bs s).size:=by rw [ws];exact h
 have h2:(bs s)[i]'h1=s[i]:=rfl
 exact decode_ascii (bs s) i h1 (by rw [h2];exact ha)
theorem HW {c:UInt8}(h:(eF c.toNat || eH c.toNat)=true):c.toNat<128:=by
 simp only [eF,eH,Bool.or_eq_true,Bool.and_eq_true,decide_eq_true_eq] at h
 omega
theorem mZ {M:aS}(s:Bs)(T:Tm):cw Tryz.prog 22 [st s] T M [] [] (fun r _ _ _=>r=.bool (eM s)) aO:=by
 refine aC F22 rfl rfl ?_
 intro bi _
 by_cases h0:s=[]
 ·subst h0
  simp +contextual only [go_sem,aE,sevalprocAttr]
  exact am aH.rfl' rfl
 have dG:0<s.length:=List.length_pos_iff.2 h0
 have XP:bs s=bs [] ↔ False:=by rw [G5];simp [h0]
 by_cases eh:12<s.length
 ·have OB:(12:Int)<((s.length:Nat):Int):=by omega
  simp +contextual only [go_sem,aE,sevalprocAttr,h0,OB]
  refine am aH.rfl' ?_
  have:¬ (1<=s.length/\s.length<=12):=by omega
  simp [eM,this]
 have OB:¬ (12:Int)<((s.length:Nat):Int):=by omega
 have zr:=iF dG
 have Fw:(0:Int)<((s.length:Nat):Int):=by omega
 simp +contextual only [go_sem,sevalprocAttr,h0,OB,zr,Fw]
 refine aD (rf _ _ T) ?_
 rintro v M1 aV bG rfl
 obtain ⟨c0,s0,rfl⟩:∃ c l,s=c::l:=by cases s with | nil=>exact (h0 rfl).elim | cons c l=>exact ⟨c,l,rfl⟩
 simp only [List.getElem_cons_zero]
 by_cases pC:eF c0.toNat=true
 rotate_left
 ·simp +contextual only [go_sem,aE,sevalprocAttr,pC]
  refine am aH.rfl' ?_
  simp [eM,gV,zU,pC]
 generalize hs:c0::s0=s at*
 simp +contextual only [go_sem,aE,sevalprocAttr,pC]
 intro g
 refine fE (fun m e ds h=>ds=[]/\(e 0=st s/\e 18=.pointer (some ⟨g,0,none⟩))/\∃ i M1,i<=s.length/\m=s.length - i/\h=⟨T,M1,[],[(.pointer (some ⟨g,0,none⟩),9,0,[st s,.int .i64 ((i:Nat):Int)])]⟩/\∀ j (hj:j<s.length),j<i ->(eF s[j].toNat || eH s[j].toNat)=true) ⟨s.length,rfl,⟨(by simp only [go_sem,sevalprocAttr]),(by simp only [go_sem,sevalprocAttr])⟩,0,M1,by omega,rfl,rfl,fun j _ h=>by omega⟩ ?_
 rintro m e ds h ⟨rfl,⟨e0,e18⟩,i,M1',hi,rfl,rfl,jM⟩
 simp only [st] at e0
 by_cases aN:i<s.length
 ·have hx:=iF aN
  have kD:((i:Nat):Int)<((s.length:Nat):Int):=by omega
  simp +contextual only [go_sem,aE,sevalprocAttr,e0,e18,aN,hx,kD]
  refine aD (rf _ _ T) ?_
  rintro v M2 bg aZ rfl
  have back:∀ (hw:(eF s[i].toNat || eH s[i].toNat)=true) (e':dj),e' 0=st s ->e' 18=.pointer (some ⟨g,0,none⟩) ->∀ M3,∃ m',m'<s.length - i/\([]:List Deferred)=[]/\(e' 0=st s/\e' 18=.pointer (some ⟨g,0,none⟩))/\∃ k M4,k<=s.length/\m'=s.length - k/\(⟨T,M3,[],[(.pointer (some ⟨g,0,none⟩),9,0,[st s,.int .i64 ((i+(Utf8.decode (bs s) i).2:Nat):Int)])]⟩:Sh)=⟨T,M4,[],[(.pointer (some ⟨g,0,none⟩),9,0,[st s,.int .i64 ((k:Nat):Int)])]⟩/\∀ j (hj:j<s.length),j<k ->(eF s[j].toNat || eH s[j].toNat)=true:=by
   intro hw e' q0 q18 M3
   refine ⟨s.length - (i+1),by omega,rfl,⟨q0,q18⟩,i+1,M3,aN,rfl,by rw [Mo aN (HW hw)],fun j hj Bx=> ?_⟩
   by_cases h:j=i
   ·subst h;exact hw
   ·exact jM j hj (by omega)
  by_cases hl:eF s[i].toNat=true
  ·simp +contextual only [go_sem,aE,sevalprocAttr,hl]
   refine aR (az (back (by rw [hl];rfl) _ ?_ ?_ M2))
   ·simp only [e0,go_sem,sevalprocAttr]
   ·simp only [e18,go_sem,sevalprocAttr]
  ·simp +contextual only [go_sem,sevalprocAttr,e0,hl,hx,kD]
   refine aD (CO _ _ T) ?_
   rintro v M3 bM bj rfl
   by_cases hd:eH s[i].toNat=true
   ·simp +contextual only [go_sem,aE,sevalprocAttr,hl,hd]
    refine aR (az (back (by rw [hd];simp) _ ?_ ?_ M3))
    ·simp only [e0,go_sem,sevalprocAttr]
    ·simp only [e18,go_sem,sevalprocAttr]
   ·simp +contextual only [go_sem,aE,sevalprocAttr,hl,hd]
    refine am aH.rfl' ?_
    have cq:gV 0 s=false:=by
     cases ho:gV 0 s with
     | false=>rfl
     | true=>
      have:=u7 s 0 ho s[i] (gm _)
      simp only [Bool.not_eq_true] at hl hd
      rw [hl,hd] at this
      cases this
    simp [eM,cq]
 ·have:i=s.length:=by omega
  subst this
  simp +contextual only [go_sem,aE,sevalprocAttr,e0,e18,aN]
  refine aD (DB s T) ?_
  rintro v M2 bg aZ rfl
  simp +contextual only [go_sem,sevalprocAttr]
  refine am aH.rfl' ?_
  have cq:gV 0 s=true:=by
   subst hs
   simp only [gV,zU,pC,Bool.true_or,Bool.true_and]
   refine xP s0 1 (by omega) fun c hc=> ?_
   obtain ⟨j,hj,rfl⟩:=List.getElem_of_mem hc
   have:=jM (j+1) (by simpa using hj) (by simpa using hj)
   simpa using this
  have agB:(1<=s.length/\s.length<=12):=by omega
  simp [eM,cq,agB]
set_option maxHeartbeats 2000000
theorem WS (k:Int)(M:aS):Ct Tryz.prog 59 [.int .i64 k] M [] [] (fun r _ _ _=>r=.int .i64 (kW k)) aO:=by
 intro T
 refine aC F59 rfl rfl ?_
 intro bi _
 by_cases h1:k<1
 ·simp +contextual only [go_sem,aE,sevalprocAttr,h1]
  refine am aH.rfl' (cS ?_)
  simp only [kW];grind
 by_cases h2:23<k
 ·simp +contextual only [go_sem,aE,sevalprocAttr,h1,h2]
  refine am aH.rfl' (cS ?_)
  simp only [kW];grind
 have h:k=1\/k=2\/k=3\/k=4\/k=5\/k=6\/k=7\/k=8\/k=9\/k=10\/k=11\/k=12\/k=13\/k=14\/k=15\/k=16\/k=17\/k=18\/k=19\/k=20\/k=21\/k=22\/k=23:=by omega
 clear h1 h2
 rcases h with rfl | rfl | rfl | rfl | rfl | rfl | rfl | rfl | rfl | rfl | rfl | rfl | rfl | rfl | rfl | rfl | rfl | rfl | rfl | rfl | rfl | rfl | rfl
 all_goals
  simp +contextual only [go_sem,aE,sevalprocAttr]
  intro b hb
  exact am aH.rfl' (cS (by decide))
theorem Uy:∀ (sz:Nat) (x:X),SizeOf.sizeOf x<=sz ->∀ (M:aS) (T:Tm) (hb bq n:Nat) (cs:List Value),RX M x cs ->n<=200 ->bq<=21 ->
 cw Tryz.prog 26 [.agg ⟨cs⟩,.int .i64 (bq:Int),.pointer (some ⟨hb,0,none⟩)] T M [(hb,[.int .i64 (n:Int)])] [] (fun r M' L' R'=>r=.int .i64 (fN bq n x).1/\L'=[(hb,[.int .i64 ((fN bq n x).2:Int)])]/\R'=[]) aO:=by
 intro sz
 induction sz with
 | zero=>intro x hx;cases x;simp at hx
 | succ sz ih=>
  intro x ej M T hb bq n cs hx hn Q0
  obtain ⟨s,rfl,h1,hs⟩:=bR hx
  obtain ⟨fS,a,c,rfl,dJ,_,fU⟩:=aF (by decide) (fun _ _=>dl) hs
  refine aC F26 rfl rfl ?_
  intro bi _
  simp only [aJ,and_true] at bi
  have ZA:=aB n (by omega)
  have Z1:=aB bq (by omega)
  cases x with | mk k v tab name kids=>
  simp only [X.k,X.v,X.tab,X.name,X.kids] at fU dJ hs fS ⊢
  obtain ⟨S,hS⟩:∃ S,S=fN bq n (.mk k v tab name kids):=⟨_,rfl⟩
  rw [<- hS]
  rw [fN] at hS
  simp +contextual only [go_sem,aE,sevalprocAttr,bi,ZA]
  intro b T1 fD IS cV ig
  by_cases pr:200<n+1\/20<bq
  ·rw [if_pos pr] at hS
   rw [if_pos (by omega)]
   exact ak (aM cV rfl rfl ⟨by rw [hS],by rw [hS],rfl⟩)
  rw [if_neg pr] at hS
  rw [if_neg (by omega)]
  refine aD (WS k M T1) ?_
  rintro r M1 aV bG rfl
  simp only [aJ,and_true] at bG
  by_cases kd:kW k<0
  ·rw [if_pos kd] at hS
   simp +contextual only [go_sem,aE,sevalprocAttr,kd]
   exact ak (aM cV rfl rfl ⟨by rw [hS],by rw [hS],rfl⟩)
  rw [if_neg kd] at hS
  by_cases oJ:kW k=(kids.length:Int)
  rotate_left
  ·rw [if_pos (fun h=>oJ h.symm)] at hS
   simp +contextual only [go_sem,aE,sevalprocAttr,kd,oJ,bG]
   exact ak (aM cV rfl rfl ⟨by rw [hS],by rw [hS],rfl⟩)
  rw [if_neg (fun h=>h oJ.symm)] at hS
  by_cases h1:k=1
  ·subst h1
   rw [if_pos rfl] at hS
   simp +contextual only [go_sem,aE,sevalprocAttr,oJ,bG]
   refine aD (zT v M1 T1) ?_
   rintro r M2 bg aZ rfl
   simp +contextual only [go_sem,sevalprocAttr]
   exact ak (aM cV rfl rfl ⟨by rw [hS],by rw [hS],rfl⟩)
  rw [if_neg h1] at hS
  simp +contextual only [go_sem,sevalprocAttr,kd]
  simp only [cd,Bool.false_eq_true,if_false,kG,nI]
  simp +contextual only [go_sem,sevalprocAttr,oJ,bG]
  simp only [cd,Bool.false_eq_true,if_false,kG,nI]
  simp +contextual only [go_sem,sevalprocAttr,h1,bG]
  simp only [cd,Bool.false_eq_true,if_false,kG,nI]
  refine je (fun e ds h=>ds=[]/\(e 1=.int .i64 (bq:Int)/\e 2=.pointer (some ⟨hb,0,none⟩)/\e 3=.pointer (some ⟨b,0,none⟩))/\∃ M' B,bh M1 M'/\M' b=none/\M' hb=none/\e 61=.bool B/\S=(if B=true then (7,n+1) else gE (bq+1) (n+1) kids)/\h=⟨T1,M',[(b,[.int .i64 k,.int .i64 v.k,.int .i64 v.n,st v.t,st tab,st name,.slice a kids.length c]),(hb,[.int .i64 ((n+1:Nat):Int)])],[]⟩) (fun S' dU=> ?_) ?_
  ·by_cases h2:k=2
   ·subst h2
    simp +contextual only [go_sem,sevalprocAttr,bG]
    refine aD (mZ name T1) ?_
    rintro r M2 bg aZ rfl
    simp only [aJ,and_true] at aZ
    by_cases zn:eM name=true
    ·by_cases TW:tab=[]
     ·rw [if_neg (by rintro ⟨_,h | ⟨h,_⟩⟩;rw [zn] at h;cases h;exact h TW)] at hS
      subst TW
      simp +contextual only [go_sem,sevalprocAttr,zn,aZ]
      exact dU _ _ _ ⟨rfl,⟨by simp only [go_sem,sevalprocAttr],by simp only [go_sem,sevalprocAttr],by simp only [go_sem,sevalprocAttr]⟩,M2,false,bg,aZ.1,aZ.2,by simp only [go_sem,sevalprocAttr],hS,rfl⟩
     ·have anb:¬ tab.length=0:=fun h=>TW (List.length_eq_zero_iff.1 h)
      have ag8:0<tab.length:=by omega
      have aiV:(0:Int)<(tab.length:Int):=by omega
      simp +contextual only [go_sem,sevalprocAttr,zn,aZ,aiV]
      refine aD (mZ tab T1) ?_
      rintro r M3 bM bj rfl
      simp only [aJ,and_true] at bj
      by_cases rW:eM tab=true
      ·rw [if_neg (by rintro ⟨_,h | ⟨_,h⟩⟩;rw [zn] at h;cases h;rw [rW] at h;cases h)] at hS
       simp +contextual only [go_sem,sevalprocAttr,zn,rW]
       exact dU _ _ _ ⟨rfl,⟨by simp only [go_sem,sevalprocAttr],by simp only [go_sem,sevalprocAttr],by simp only [go_sem,sevalprocAttr]⟩,M3,false,bg.trans bM,bj.1,bj.2,by simp only [go_sem,sevalprocAttr],hS,rfl⟩
      ·rw [if_pos ⟨rfl,.inr ⟨TW,by simpa using rW⟩⟩] at hS
       simp +contextual only [go_sem,sevalprocAttr,zn,rW]
       exact dU _ _ _ ⟨rfl,⟨by simp only [go_sem,sevalprocAttr],by simp only [go_sem,sevalprocAttr],by simp only [go_sem,sevalprocAttr]⟩,M3,true,bg.trans bM,bj.1,bj.2,by simp only [go_sem,sevalprocAttr],hS,rfl⟩
    ·rw [if_pos ⟨rfl,.inl (by simpa using zn)⟩] at hS
     simp +contextual only [go_sem,sevalprocAttr,zn]
     exact dU _ _ _ ⟨rfl,⟨by simp only [go_sem,sevalprocAttr],by simp only [go_sem,sevalprocAttr],by simp only [go_sem,sevalprocAttr]⟩,M2,true,bg,aZ.1,aZ.2,by simp only [go_sem,sevalprocAttr],hS,rfl⟩
   ·rw [if_neg (fun h=>h2 h.1)] at hS
    simp +contextual only [go_sem,sevalprocAttr,h2,bG]
    exact dU _ _ _ ⟨rfl,⟨by simp only [go_sem,sevalprocAttr],by simp only [go_sem,sevalprocAttr],by simp only [go_sem,sevalprocAttr]⟩,M1,false,bh.rfl',bG.1,bG.2,by simp only [go_sem,sevalprocAttr],hS,rfl⟩
  clear hS
  rintro e ds h ⟨rfl,⟨e1,e2,e3⟩,M2,B,bg,n2,n2',e61,hS,rfl⟩
  cases B with
  | true=>
   rw [if_pos rfl] at hS
   simp +contextual only [go_sem,aE,sevalprocAttr,e61]
   exact ak (aM cV rfl rfl ⟨by rw [hS],by rw [hS],rfl⟩)
  | false=>
  rw [if_neg (by decide)] at hS
  simp +contextual only [go_sem,aE,sevalprocAttr,e61,e3,n2]
  refine aY kids.length 65 [(1,.int .i64 (bq:Int)),(2,.pointer (some ⟨hb,0,none⟩)),(63,.slice a kids.length c),(64,.int .i64 (kids.length:Int))] (fun i e h=>∃ (N:Tm) (M':aS) (n':Nat),aH T1 N/\bh M1 M'/\M' b=none/\M' hb=none/\n'<=200/\h=⟨N,M',[(b,[.int .i64 k,.int .i64 v.k,.int .i64 v.n,st v.t,st tab,st name,.slice a kids.length c]),(hb,[.int .i64 (n':Int)])],[]⟩/\S=gE (bq+1) n' (kids.drop i))
   0 (by omega) (by simp only [aG,e1,e2,go_sem,sevalprocAttr]) (by simp only [go_sem,sevalprocAttr]) ⟨T1,M2,n+1,aH.rfl',bg,n2,n2',by omega,rfl,hS⟩ ?_
  clear hS e1 e2 e3 e61
  rintro i e h hi aI ht ⟨N,M3,n',hN,bM,n3,n3',NJ,rfl,hS⟩
  simp only [aG] at aI
  by_cases aN:i<kids.length
  ·obtain ⟨b',o',cs',rfl,cG,fy⟩:=fU i kids[i] (gq aN)
   have lW:=aV.trans bM
   obtain ⟨sg,rfl,og,g0,g1,g2,g3,g4,g5,g6⟩:=my fy cG
   have bA:kids.drop i=kids[i]::kids.drop (i+1):=dq aN
   rw [bA,gE] at hS
   have De:SizeOf.sizeOf kids[i]<=sz:=by
    have h1:=List.sizeOf_lt_of_mem (gm aN)
    simp only [X.mk.sizeOf_spec] at ej
    omega
   have mz:=qf (bq+1) n' kids[i] NJ
   simp +contextual only [go_sem,aE,sevalprocAttr,aI,ht,aN,Z1,ay lW g0,ay lW g1,ay lW g2,ay lW g3,ay lW g4,ay lW g5,ay lW g6,og]
   intro b9 N9 lu eN Cq l4
   refine dz [(b9,_),(b,_)] (ih kids[i] De M3 N9 hb (bq+1) n' _ (bB lW _ _ fy) NJ (by omega)) ?_ (fun _ _ _ _ _ _ h=>h.elim)
   rintro r M4 L' dh X9 cE ⟨rfl,rfl, -⟩
   simp only [nn,aJ,and_true] at cE
   by_cases hr:(fN (bq+1) n' kids[i]).1=0
   ·rw [if_neg (fun h=>h hr)] at hS
    simp +contextual only [go_sem,aE,sevalprocAttr,ht,hr]
    rw [dB]
    refine ak (az ⟨kids.length - (i+1),by omega,rfl,i+1,by omega,rfl,?_,?_,N9,M4,_,hN.trans Cq,bM.trans dh,cE.2.1,cE.2.2,mz.2 hr,rfl,hS⟩)
    ·simp only [aG,aI,go_sem,sevalprocAttr]
    ·simp only [go_sem,sevalprocAttr,aB i (by omega)]
   ·rw [if_pos hr] at hS
    simp +contextual only [go_sem,aE,sevalprocAttr,hr]
    exact ak (ak (aM ((cV.trans hN).trans Cq) rfl rfl ⟨by rw [hS],by rw [hS],rfl⟩))
  ·have:i=kids.length:=by omega
   subst this
   rw [List.drop_length,gE] at hS
   simp +contextual only [go_sem,aE,sevalprocAttr,aI,ht,aN]
   exact ak (aM (cV.trans hN) rfl rfl ⟨by rw [hS],by rw [hS],rfl⟩)
theorem wm {M:aS}{x:X}{cs:List Value}(hx:RX M x cs):Ct Tryz.prog 8 [.agg ⟨cs⟩] M [] [] (fun r _ _ _=>r=.int .i64 (gt x)) aO:=by
 intro T
 obtain ⟨s,rfl,h1,_⟩:=bR hx
 refine aC F8 rfl rfl ?_
 intro bi _
 simp +contextual only [go_sem,sevalprocAttr]
 intro b1 T1 fD cV ig b3 T3 gj cL fB hZ
 refine rH F26.bd fun M1 aV Wd bG=> ?_
 refine dz [] (Uy _ x (Nat.le_refl _) M1 T3 b3 1 0 _ (bB aV _ _ hx) (by omega) (by omega)) ?_ (fun _ _ _ _ _ _ h=>h.elim)
 rintro r M2 L' bg iJ aZ ⟨rfl,rfl, -⟩
 simp +contextual only [go_sem,sevalprocAttr]
 exact am (cV.trans fB) rfl
theorem ut {M:aS}(s:Bs)(must:Bool):Ct Tryz.prog 58 [st s,.bool must] M [] [] (fun r _ _ _=>r=.int .i64 (if must=true then ee [s] else eB s)) aO:=by
 intro T
 have hnw:ee [s]=if eM s=true then 0 else 7:=by simp [ee]
 refine aC F58 rfl rfl ?_
 intro bi _
 cases must with
 | true=>
  simp +contextual only [go_sem,sevalprocAttr]
  refine aD (mZ s T) ?_
  rintro v M1 aV bG rfl
  by_cases hn:eM s=true
  ·simp +contextual only [go_sem,aE,sevalprocAttr,hn]
   exact am aH.rfl' (cS (by rw [hnw,if_pos hn]))
  ·simp +contextual only [go_sem,aE,sevalprocAttr,hn]
   exact am aH.rfl' (cS (by rw [hnw,if_neg hn]))
 | false=>
  by_cases hs:s=[]
  ·simp +contextual only [go_sem,aE,sevalprocAttr,hs]
   exact am aH.rfl' (cS (by simp [eB]))
  ·simp +contextual only [go_sem,sevalprocAttr,hs]
   refine aD (mZ s T) ?_
   rintro v M1 aV bG rfl
   by_cases hn:eM s=true
   ·simp +contextual only [go_sem,aE,sevalprocAttr,hn]
    exact am aH.rfl' (cS (by simp only [eB];rw [if_neg hs,hnw,if_pos hn]))
   ·simp +contextual only [go_sem,aE,sevalprocAttr,hn]
    exact am aH.rfl' (cS (by simp only [eB];rw [if_neg hs,hnw,if_neg hn]))
set_option maxHeartbeats 4000000
theorem wF {P:Program}{F:Fi}{a b:Code}{s:List Vc.Item}{e:dj}{ds:List Deferred}{h:Sh}{t t':Bool}(ht:t=t')(k:sj P F (.bool t') a b s e ds h ⟨⟩):sj P F (.bool t) a b s e ds h ⟨⟩:=by subst ht;exact k
theorem sB {α:Type}{el:TypeId}{sz:Nat}{r:α ->List Value ->Prop}{R0 R:RR}{fv:Value}{acc l:List α}{P:Program}{F:Fi}{s:List Vc.Item}{e:dj}{ds:List Deferred}{dd:Option Nat}{T:Tm}{M:aS}{L:LL}{t:TypeId}{z ys:List Value}{y:Value}(bP:eC P t=some (el,sz,z))(cq:kX P t=true)
 (h:kV el sz r R0 R fv acc) (zu:RL r l ys) (hs:∀ R,Srcs P t sz ⟨T,M,L,R⟩ y ys) (bw:∀ x cs,r x cs ->cs.length=sz) (hl:acc.length*sz+l.length*sz<=4398046511104) (dG:0<sz)
 (k:∀ fv' R',kV el sz r R0 R' fv' (acc++l) ->cj P F s (cB e dd fv') ds ⟨T,M,L,R'⟩ ⟨⟩):pA P F t t fv y dd s e ds ⟨T,M,L,R⟩ ⟨⟩:=by
 have Mn:=dO bw zu
 rcases h with ⟨rfl,rfl,rfl⟩ | ⟨a,c,xs,rfl,h3,rfl⟩
 ·refine ma bP cq (hs _) (by rw [Mn];simp at hl;omega) ?_
  intro ra rm rc iL
  have:rm=([]++l).length:=by
   rw [Mn] at iL
   exact Nat.eq_of_mul_eq_mul_right dG (by simpa using iL)
  subst this
  exact k _ _ (.inr ⟨_,_,_,rfl,by simpa using zu,rfl⟩)
 ·have jP:=dO bw h3
  refine fK bP cq (hs _) (by rw [Mn,jP];omega) ?_
  intro ra rm rc iL
  have:rm=(acc++l).length:=by
   rw [Mn,jP] at iL
   rw [List.length_append]
   refine Nat.eq_of_mul_eq_mul_right dG ?_
   rw [Nat.add_mul]
   simpa using iL
  subst this
  exact k _ _ (.inr ⟨_,_,_,rfl,cM h3 zu,rfl⟩)
theorem AO {b:Nat}{cs:List Value}{L2:LL}:∀ {L1:LL},ce b L1 ->∀ o,dK (L1++(b,cs)::L2) ⟨b,o,none⟩=some cs[o]?
 | [],_,o=>by simp [dK]
 | (k,x)::L1,h,o=>by
  have ih:=AO (cs:=cs) (L2:=L2) h.2 o
  have cD:¬ b=k:=h.1.1
  simp only [List.cons_append,dK,cD,if_false]
  exact ih
theorem rG:∀ (a b:List X),ec (a++b)=qH (ec a) (ec b)
 | [],b=>by rw [List.nil_append,ec,gS]
 | x::a,b=>by
  rw [List.cons_append,ec,rG a b,ec]
  by_cases h:gt x=0
  ·rw [h,gS,gS]
  ·rw [bO h,bO h,bO h]
def mO (x:Se):List X:=((if x.hasW=true then [x.wh] else [])++x.group)++(if x.hasH=true then [x.hv] else [])
theorem yi (x:X):ec [x]=gt x:=by
 rw [ec,ec]
 by_cases h:gt x=0
 ·rw [h];rfl
 ·rw [bO h]
theorem Q8 (x:Se):si x=ec (mO x):=by
 unfold si Gl An mO
 rw [rG,rG]
 have h1:ec (if x.hasW=true then [x.wh] else [])=if x.hasW=true then gt x.wh else 0:=by split;exact yi _;rfl
 have h2:ec (if x.hasH=true then [x.hv] else [])=if x.hasH=true then gt x.hv else 0:=by split;exact yi _;rfl
 rw [h1,h2]
 generalize (if x.hasW=true then gt x.wh else 0)=A
 by_cases h:A=0
 ·rw [h,gS,gS]
 ·rw [bO h,bO h,bO h]
abbrev Lo (x:Se)(ai:Option Addr)(aj:Nat)(af:Option Addr)(ag:Nat)(aw ah:Value)(ap:Option Addr)(aq:Nat):List Value:=[.bool x.distinct,.bool x.star,.slice ai x.items.length aj,.slice af x.src.length ag,.bool x.hasW,.bool x.hasH,.int .i64 x.wh.k,.int .i64 x.wh.v.k,.int .i64 x.wh.v.n,st x.wh.v.t,st x.wh.tab,st x.wh.name,aw,.int .i64 x.hv.k,.int .i64 x.hv.v.k,.int .i64 x.hv.v.n,st x.hv.v.t,st x.hv.tab,st x.hv.name,ah,.slice ap x.group.length aq]
theorem uH {M:aS}{x:Se}{cs:List Value}(hx:Cv M x cs):Ct Tryz.prog 25 [.agg ⟨cs⟩] M [] [] (fun r _ _ _=>r=.int .i64 (qE x)) aO:=by
 intro T
 obtain ⟨ai,aj,af,ag,aw,ah,ap,aq,rfl,hi,hf,hw,hv,vj,ow,ov⟩:=yA hx
 obtain ⟨S,hS⟩:∃ S,S=qE x:=⟨_,rfl⟩
 rw [<- hS]
 unfold qE at hS
 have hib:=hi.1
 have NY:=hf.1
 refine aC F25 rfl rfl ?_
 intro bi _
 simp +contextual only [go_sem,sevalprocAttr]
 intro b1 T1 fD cV ig
 refine wF (t':=l9 x) ?_ ?_
 ·rw [Bool.eq_iff_iff];unfold l9;cases x.star<;>simp [-List.length_eq_zero_iff]<;>omega
 cases QG:l9 x with
 | true=>
  rw [if_pos QG] at hS
  simp +contextual only [go_sem,aE,sevalprocAttr]
  exact am cV (by rw [hS])
 | false=>
 rw [if_neg (by rw [QG];exact Bool.false_ne_true)] at hS
 have ak1:x.group.length<=8:=by
  unfold l9 at QG
  cases kE:x.star<;>simp [kE] at QG<;>omega
 rw [cd,if_neg Bool.false_ne_true]
 simp +contextual only [go_sem,sevalprocAttr,fD]
 refine dQ (fun e ds h=>ds=[]/\e 1=.pointer (some ⟨b1,0,none⟩)/\S=xE x/\∃ N M',aH T N/\bh M M'/\M' b1=none/\h=⟨N,M',[(b1,Lo x ai aj af ag aw ah ap aq)],[]⟩) (fun S' dU=> ?_) ?_
 ·cases kE:x.star with
  | true=>
   rw [if_pos kE,gS] at hS
   simp +contextual only [go_sem,aE,sevalprocAttr]
   exact dU _ _ _ ⟨rfl,by simp only [go_sem,sevalprocAttr],hS,T1,M,cV,bh.rfl',fD,by simp only [Lo,kE,st]⟩
  | false=>
   rw [if_neg (by rw [kE];exact Bool.false_ne_true)] at hS
   simp +contextual only [go_sem,aE,sevalprocAttr,fD]
   refine aY x.items.length 55 [(1,.pointer (some ⟨b1,0,none⟩)),(53,.slice ai x.items.length aj),(54,.int .i64 (x.items.length:Int))]
    (fun i e h=>∃ N M',aH T N/\bh M M'/\M' b1=none/\h=⟨N,M',[(b1,Lo x ai aj af ag aw ah ap aq)],[]⟩/\S=qH (ol (x.items.drop i)) (xE x))
    0 (by have:=hi.1;omega) (by simp only [aG,go_sem,sevalprocAttr]) (by simp only [go_sem,sevalprocAttr]) ⟨T1,M,cV,bh.rfl',fD,by simp only [Lo,kE,st],hS⟩ ?_
   clear hS
   rintro i e h qL aI ht ⟨N,M1,hN,aV,n1,rfl,hS⟩
   simp only [aG] at aI
   by_cases aN:i<x.items.length
   ·obtain ⟨b',o',cs',rfl,cG,cC⟩:=pB (by decide) (fun _ _=>jE) hi (gq aN)
    obtain ⟨aw',rfl,fy,ow'⟩:=lK cC
    have bA:x.items.drop i=x.items[i]::x.items.drop (i+1):=dq aN
    rw [bA,ol] at hS
    have g:=cG.ext aV
    have g0:=g.1
    have g1:=g.2.1
    have g2:=g.2.2.1
    have g3:=g.2.2.2.1
    have g4:=g.2.2.2.2.1
    have g5:=g.2.2.2.2.2.1
    have g6:=g.2.2.2.2.2.2.1
    have g7:=g.2.2.2.2.2.2.2.1
    simp +contextual only [go_sem,aE,sevalprocAttr,aI,ht,aN,g0,g1,g2,g3,g4,g5,g6,g7,ow']
    intro b4 N4 dI dY Di gH
    refine aD (wm (bB aV _ _ fy) N4) ?_
    rintro v M2 bg aZ rfl
    simp only [aJ,and_true] at aZ
    by_cases hE:gt x.items[i].x=0
    ·simp +contextual only [go_sem,aE,sevalprocAttr,hE,aZ]
     refine aD (ut x.items[i].as false N4) ?_
     rintro v M3 bM bj rfl
     simp only [aJ,and_true] at bj
     rw [if_neg Bool.false_ne_true]
     by_cases tE:eB x.items[i].as=0
     ·simp +contextual only [go_sem,aE,sevalprocAttr,ht,tE]
      rw [dB]
      refine ak (az ⟨x.items.length - (i+1),by omega,rfl,i+1,by omega,rfl,?_,?_,N4,M3,hN.trans Di,(aV.trans bg).trans bM,bj.2,rfl,?_⟩)
      ·simp only [aG,aI,go_sem,sevalprocAttr]
      ·simp only [go_sem,sevalprocAttr,aB i (by omega)]
      ·rw [hS];simp only [eY];rw [hE,tE,gS,gS,gS]
     ·simp +contextual only [go_sem,aE,sevalprocAttr,tE]
      exact am (hN.trans Di) (by rw [hS];simp only [eY];rw [hE,gS,bO tE,bO tE,bO tE])
    ·simp +contextual only [go_sem,aE,sevalprocAttr,hE]
     exact am (hN.trans Di) (by rw [hS];simp only [eY];rw [bO hE,bO hE,bO hE])
   ·have:i=x.items.length:=by omega
    subst this
    rw [List.drop_length,ol,gS] at hS
    simp +contextual only [go_sem,aE,sevalprocAttr,aI,ht,aN]
    exact dU _ _ _ ⟨rfl,by simp only [aI,go_sem,sevalprocAttr],hS,N,M1,hN,aV,n1,rfl⟩
 clear hS
 rintro e ds h ⟨rfl,e1,hS,N,M1,hN,aV,n1,rfl⟩
 simp +contextual only [go_sem,sevalprocAttr,e1,n1]
 refine je (fun e ds h=>ds=[]/\e 1=.pointer (some ⟨b1,0,none⟩)/\S=si x/\∃ N M',aH T N/\bh M M'/\M' b1=none/\h=⟨N,M',[(b1,Lo x ai aj af ag aw ah ap aq)],[]⟩) (fun S' dU=> ?_) ?_
 ·simp +contextual only [go_sem,aE,sevalprocAttr]
  refine aY x.src.length 75 [(1,.pointer (some ⟨b1,0,none⟩)),(73,.slice af x.src.length ag),(74,.int .i64 (x.src.length:Int))]
   (fun i e h=>∃ N M',aH T N/\bh M M'/\M' b1=none/\h=⟨N,M',[(b1,Lo x ai aj af ag aw ah ap aq)],[]⟩/\S=qH (iQ i (x.src.drop i)) (si x))
   0 (by omega) (by simp only [aG,e1,go_sem,sevalprocAttr]) (by simp only [go_sem,sevalprocAttr]) ⟨N,M1,hN,aV,n1,rfl,hS⟩ ?_
  clear hS e1 aV hN n1
  rintro i e h qL aI ht ⟨N,M1,hN,aV,n1,rfl,hS⟩
  simp only [aG] at aI
  by_cases aN:i<x.src.length
  ·obtain ⟨b',o',cs',rfl,cG,cC⟩:=pB (by decide) (fun _ _=>lj) hf (gq aN)
   obtain ⟨aw',rfl,fy,ow'⟩:=AM cC
   have bA:x.src.drop i=x.src[i]::x.src.drop (i+1):=dq aN
   rw [bA,iQ] at hS
   have g:=cG.ext aV
   have g0:=g.1
   have g1:=g.2.1
   have g2:=g.2.2.1
   have g3:=g.2.2.2.1
   have g4:=g.2.2.2.2.1
   have g5:=g.2.2.2.2.2.1
   have g6:=g.2.2.2.2.2.2.1
   have g7:=g.2.2.2.2.2.2.2.1
   have g8:=g.2.2.2.2.2.2.2.2.1
   have g9:=g.2.2.2.2.2.2.2.2.2.1
   generalize x.src[i]=f at fy hS g0 g1 g2 g3 g4 g5 g6 g7 g8 cC
   obtain ⟨W,hW⟩:∃ W,W=ld i f:=⟨_,rfl⟩
   rw [<- hW] at hS
   unfold ld at hW
   simp +contextual only [go_sem,sevalprocAttr,aI,ht,aN]
   simp only [cd,if_true,kG,nI,AV]
   simp +contextual only [go_sem,sevalprocAttr,aI,ht,aN,g0,g1,g2,g3,g4,g5,g6,g7,g8,g9,ow']
   intro b8 N8 mG eA hN8 vH
   refine wF (t':=decide ((¬ (decide (f.k=1)==decide ((i:Int)=0))=true\/f.k<1)\/5<f.k)) ?_ ?_
   ·rw [Bool.eq_iff_iff];simp;omega
   by_cases D3:(¬ (decide (f.k=1)==decide ((i:Int)=0))=true\/f.k<1)\/5<f.k
   ·rw [if_pos D3] at hW
    rw [hW,bO (a:=(1:Int)) (by decide),bO (by decide)] at hS
    rw [decide_eq_true D3]
    simp +contextual only [go_sem,aE,sevalprocAttr]
    exact am (hN.trans hN8) (by rw [hS])
   rw [if_neg D3] at hW
   rw [decide_eq_false D3]
   simp +contextual only [go_sem,aE,sevalprocAttr,mG]
   refine aD (ut f.name true N8) ?_
   rintro v M2 bg aZ rfl
   simp only [aJ,and_true] at aZ
   rw [if_pos rfl]
   by_cases hE:ee [f.name]=0
   rotate_left
   ·have Dn:eY [ee [f.name],eB f.as]=ee [f.name]:=by simp only [eY];rw [bO hE]
    have hW1:W=ee [f.name]:=by rw [hW,if_pos (.inl (by rw [Dn];exact hE)),Dn]
    rw [hW1,bO hE,bO hE] at hS
    simp +contextual only [go_sem,aE,sevalprocAttr,hE]
    exact am (hN.trans hN8) (by rw [hS])
   simp +contextual only [go_sem,aE,sevalprocAttr,hE,aZ]
   refine aD (ut f.as false N8) ?_
   rintro v M3 bM bj rfl
   simp only [aJ,and_true] at bj
   rw [if_neg Bool.false_ne_true]
   by_cases tE:eB f.as=0
   rotate_left
   ·have Dn:eY [ee [f.name],eB f.as]=eB f.as:=by simp only [eY];rw [hE,gS,bO tE]
    have hW1:W=eB f.as:=by rw [hW,if_pos (.inl (by rw [Dn];exact tE)),Dn]
    rw [hW1,bO tE,bO tE] at hS
    simp +contextual only [go_sem,aE,sevalprocAttr,tE]
    exact am (hN.trans hN8) (by rw [hS])
   have hfw:eY [ee [f.name],eB f.as]=0:=by simp only [eY];rw [hE,tE,gS,gS]
   have lW:=(aV.trans bg).trans bM
   by_cases rU:i=0
   ·rw [if_pos (.inr rU),hfw] at hW
    rw [hW,gS] at hS
    have H4:¬ (0:Int)<(i:Int):=by omega
    simp +contextual only [go_sem,aE,sevalprocAttr,ht,tE,H4]
    rw [dB]
    refine ak (az ⟨x.src.length - (i+1),by omega,rfl,i+1,by omega,rfl,?_,?_,N8,M3,hN.trans hN8,lW,bj.2,rfl,hS⟩)
    ·simp only [aG,aI,go_sem,sevalprocAttr]
    ·simp only [go_sem,sevalprocAttr,aB i (by omega)]
   ·rw [if_neg (by rintro (h | h);exact h hfw;exact rU h)] at hW
    have H4:(0:Int)<(i:Int):=by omega
    simp +contextual only [go_sem,aE,sevalprocAttr,tE,H4,bj]
    refine aD (wm (bB lW _ _ fy) N8) ?_
    rintro v M4 dh cE rfl
    simp only [aJ,and_true] at cE
    rw [hW] at hS
    by_cases hE3:gt f.on=0
    ·rw [hE3,gS] at hS
     simp +contextual only [go_sem,aE,sevalprocAttr,ht,hE3]
     rw [dB]
     refine ak (az ⟨x.src.length - (i+1),by omega,rfl,i+1,by omega,rfl,?_,?_,N8,M4,hN.trans hN8,lW.trans dh,cE.2,rfl,hS⟩)
     ·simp only [aG,aI,go_sem,sevalprocAttr]
     ·simp only [go_sem,sevalprocAttr,aB i (by omega)]
    ·rw [bO hE3,bO hE3] at hS
     simp +contextual only [go_sem,aE,sevalprocAttr,hE3]
     exact am (hN.trans hN8) (by rw [hS])
  ·have:i=x.src.length:=by omega
   subst this
   rw [List.drop_length,iQ,gS] at hS
   simp +contextual only [go_sem,aE,sevalprocAttr,aI,ht,aN]
   exact dU _ _ _ ⟨rfl,by simp only [aI,go_sem,sevalprocAttr],hS,N,M1,hN,aV,n1,rfl⟩
 clear hS e1 aV hN n1
 rintro e ds h ⟨rfl,e1,hS,N,M1,hN,aV,n1,rfl⟩
 rw [Q8] at hS
 simp +contextual only [go_sem,sevalprocAttr,e1,n1]
 refine dQ (fun e ds h=>ds=[]/\e 1=.pointer (some ⟨b1,0,none⟩)/\∃ fv R Lx,e 12=fv/\kV 31 7 (RX M1) [] R fv (if x.hasW=true then [x.wh] else [])/\ce b1 Lx/\aJ M1 (Lx++[(b1,Lo x ai aj af ag aw ah ap aq)])/\h=⟨N,M1,Lx++[(b1,Lo x ai aj af ag aw ah ap aq)],R⟩) (fun S' dU=> ?_) ?_
 ·cases hW:x.hasW with
  | true=>
   simp +contextual only [go_sem,aE,sevalprocAttr,e1,n1]
   intro b hb fX
   refine cy (z:=_) Tryz.underlying25 uG uQ (r:=RX M1) (dg (R0:=[])) (bB aV _ _ hw) (fun _ _=>dl) (jf hw) hb (by simp) (by decide) ?_
   intro fv' R' bI
   simp +contextual only [go_sem,sevalprocAttr]
   exact dU _ _ _ ⟨rfl,by simp only [e1,go_sem,sevalprocAttr],fv',R',[(b,[.int .i64 x.wh.k,.int .i64 x.wh.v.k,.int .i64 x.wh.v.n,st x.wh.v.t,st x.wh.tab,st x.wh.name,aw])],by simp only [go_sem,sevalprocAttr],by rw [if_pos hW];simpa using bI,⟨⟨fX.2,fX.1⟩,trivial⟩,⟨hb,n1,trivial⟩,by simp only [Lo,hW,st,nn]⟩
  | false=>
   simp +contextual only [go_sem,aE,sevalprocAttr]
   exact dU _ _ _ ⟨rfl,by simp only [e1,go_sem,sevalprocAttr],.slice none 0 0,[],[],by simp only [go_sem,sevalprocAttr],by rw [if_neg (by rw [hW];decide)];exact dg,trivial,⟨n1,trivial⟩,by simp only [Lo,hW,st,List.nil_append]⟩
 clear e1
 rintro e ds h ⟨rfl,e1,fv,R,Lx,e12,bC,aeP,My,rfl⟩
 have hlc:=fun o=>AO (b:=b1) (cs:=Lo x ai aj af ag aw ah ap aq) (L2:=[]) aeP o
 obtain ⟨ys,Mn,zu,vn⟩:=kx (P:=Tryz.prog) Tryz.underlying25 (fun _ _=>dl) (fun _ _ h=>jf h) (aL aV (bB aV) vj)
 simp +contextual only [go_sem,sevalprocAttr,e1,e12,n1,hlc]
 refine sB (z:=_) uG uQ bC zu (vn _ _) (fun _ _=>dl) (by split<;>simp<;>omega) (by decide) ?_
 intro fv2 R2 lI
 clear bC e12
 simp +contextual only [go_sem,sevalprocAttr,e1,n1,hlc]
 refine dQ (fun e ds h=>ds=[]/\∃ fv R Lx,e 12=fv/\kV 31 7 (RX M1) [] R fv (mO x)/\aJ M1 (Lx++[(b1,Lo x ai aj af ag aw ah ap aq)])/\h=⟨N,M1,Lx++[(b1,Lo x ai aj af ag aw ah ap aq)],R⟩) (fun S' dU=> ?_) ?_
 ·cases hH:x.hasH with
  | true=>
   simp +contextual only [go_sem,aE,sevalprocAttr,e1,n1,hlc]
   intro b hb fX
   refine cy (z:=_) Tryz.underlying25 uG uQ lI (bB aV _ _ hv) (fun _ _=>dl) (jf hv) hb (by rw [List.length_append];split<;>simp<;>omega) (by decide) ?_
   intro fv' R' bI
   simp +contextual only [go_sem,sevalprocAttr]
   refine dU _ _ _ ⟨rfl,fv',R',(b,_)::Lx,by simp only [go_sem,sevalprocAttr],?_,⟨hb,My⟩,rfl⟩
   simp only [mO,hH,if_true];exact bI
  | false=>
   simp +contextual only [go_sem,aE,sevalprocAttr]
   refine dU _ _ _ ⟨rfl,fv2,R2,Lx,by simp only [go_sem,sevalprocAttr],?_,My,rfl⟩
   simp only [mO,hH,if_false,Bool.false_eq_true,List.append_nil];exact lI
 clear lI e1 hlc aeP My
 rintro e ds h ⟨rfl,fv,R,Lx,e12,bC,My,rfl⟩
 obtain ⟨fa,fc,rfl⟩:=il bC
 have hll:(mO x).length<=10:=by
  unfold mO
  rw [List.length_append,List.length_append]
  split<;>split<;>simp<;>omega
 simp +contextual only [go_sem,aE,sevalprocAttr,e12]
 refine br (mO x).length 142 [(140,.slice fa (mO x).length fc),(141,.int .i64 ((mO x).length:Int))]
  (fun i e h=>∃ N M',aH T N/\RS M' (RX M') 7 (mO x) (.slice fa (mO x).length fc)/\h=⟨N,M',[],[]⟩/\S=ec ((mO x).drop i))
  0 (by omega) (by simp only [aG,go_sem,sevalprocAttr]) (by simp only [go_sem,sevalprocAttr]) (ct bC (by omega) (by decide) My fun M' mW oX cC=>cX (az ⟨N,M',hN,aL bh.rfl' (bB mW) cC,rfl,hS⟩)) ?_
 clear hS e12 bC My hN aV n1
 rintro i e h qL aI ht ⟨N,M2,hN,cC,rfl,hS⟩
 simp only [aG] at aI
 by_cases aN:i<(mO x).length
 ·obtain ⟨b',o',cs',rfl,cG,fy⟩:=pB (by decide) (fun _ _=>dl) cC (gq aN)
  obtain ⟨sg,rfl,og,g0,g1,g2,g3,g4,g5,g6⟩:=my fy cG
  have bA:(mO x).drop i=(mO x)[i]::(mO x).drop (i+1):=dq aN
  rw [bA,ec] at hS
  simp +contextual only [go_sem,aE,sevalprocAttr,aI,ht,aN,g0,g1,g2,g3,g4,g5,g6,og]
  intro b9 N9 lu Cq l4
  refine aD (wm fy N9) ?_
  rintro v M3 bM _ rfl
  by_cases hE:gt (mO x)[i]=0
  ·rw [hE,gS] at hS
   simp +contextual only [go_sem,aE,sevalprocAttr,ht,hE]
   rw [dB]
   refine ak (az ⟨(mO x).length - (i+1),by omega,rfl,i+1,by omega,rfl,?_,?_,N9,M3,hN.trans Cq,aL bM (bB bM) cC,rfl,hS⟩)
   ·simp only [aG,aI,go_sem,sevalprocAttr]
   ·simp only [go_sem,sevalprocAttr,aB i (by omega)]
  ·rw [bO hE] at hS
   simp +contextual only [go_sem,aE,sevalprocAttr,hE]
   exact am (hN.trans Cq) (by rw [hS])
 ·have:i=(mO x).length:=by omega
  subst this
  rw [List.drop_length,ec] at hS
  simp +contextual only [go_sem,aE,sevalprocAttr,aI,ht,aN]
  exact am hN (by rw [hS])
set_option maxHeartbeats 4000000
theorem Pm {M:aS}{x:Q}{cs:List Value}(hx:RQ M x cs):Ct Tryz.prog 7 [.agg ⟨cs⟩] M [] [] (fun r _ _ _=>r=.int .i64 (jn x)) aO:=by
 intro T
 obtain ⟨pv,fv,gv,hp,hf,vj,rfl⟩:=hx
 obtain ⟨hpb,pa,pc,rfl,oF,_,_⟩:=aF (by decide) (fun _ _=>jd) hp
 obtain ⟨NY,fa,fc,rfl,Ad,_,Gi⟩:=aF (by decide) (fun _ _=>bV) hf
 obtain ⟨hgb,ga,gc,rfl,Jt,_,EA⟩:=aF (by decide) (fun _ _=>dl) vj
 have zq:IntKind.i64.wrap ((x.ops.length:Int)+1)=((x.ops.length+1:Nat):Int):=by rw [bJ (by omega) (by omega)];omega
 obtain ⟨S,hS⟩:∃ S,S=jn x:=⟨_,rfl⟩
 rw [<- hS]
 unfold jn at hS
 refine aC F7 rfl rfl ?_
 intro bi _
 simp +contextual only [go_sem,sevalprocAttr,zq]
 intro b1 T1 fD cV ig
 refine wF (t':=fC x) ?_ ?_
 ·rw [Bool.eq_iff_iff];unfold fC;simp [-List.length_eq_zero_iff];omega
 cases QG:fC x with
 | true=>
  rw [if_pos QG] at hS
  simp +contextual only [go_sem,aE,sevalprocAttr]
  exact am cV (by rw [hS])
 | false=>
 rw [if_neg (by rw [QG];exact Bool.false_ne_true)] at hS
 have qG:x.ops.length+1=x.parts.length:=by
  have:=of_decide_eq_false QG
  omega
 rw [cd,if_neg Bool.false_ne_true]
 by_cases VZ:50<x.limit
 ·rw [if_pos VZ] at hS
  simp +contextual only [go_sem,aE,sevalprocAttr,VZ,fD]
  exact am cV (by rw [hS])
 rw [if_neg VZ] at hS
 simp +contextual only [go_sem,sevalprocAttr,fD,VZ]
 simp only [cd,Bool.false_eq_true,if_false,kG,nI]
 simp +contextual only [go_sem,sevalprocAttr,fD]
 refine je (fun e ds h=>ds=[]/\e 1=.pointer (some ⟨b1,0,none⟩)/\S=ku x/\∃ N M',aH T N/\bh M M'/\M' b1=none/\h=⟨N,M',[(b1,[.slice pa x.parts.length pc,.slice fa x.ops.length fc,.slice ga x.order.length gc,.int .i64 x.limit])],[]⟩) (fun S' dU=> ?_) ?_
 ·simp +contextual only [go_sem,aE,sevalprocAttr]
  refine aY x.parts.length 52 [(1,.pointer (some ⟨b1,0,none⟩)),(50,.slice pa x.parts.length pc),(51,.int .i64 (x.parts.length:Int))]
   (fun i e h=>∃ N M',aH T N/\bh M M'/\M' b1=none/\h=⟨N,M',[(b1,[.slice pa x.parts.length pc,.slice fa x.ops.length fc,.slice ga x.order.length gc,.int .i64 x.limit])],[]⟩/\S=qH (kR x.ops i (x.parts.drop i)) (ku x))
   0 (by omega) (by simp only [aG,go_sem,sevalprocAttr]) (by simp only [go_sem,sevalprocAttr]) ⟨T1,M,cV,bh.rfl',fD,rfl,hS⟩ ?_
  clear hS
  rintro i e h qL aI ht ⟨N,M1,hN,aV,n1,rfl,hS⟩
  simp only [aG] at aI
  by_cases aN:i<x.parts.length
  ·obtain ⟨b',o',cs',rfl,cG,cC⟩:=pB (by decide) (fun _ _=>jd) hp (gq aN)
   have ai0:=cC
   obtain ⟨ai,aj,af,ag,aw,ah,ap,aq,rfl, -, -, -, -, -,ow,ov⟩:=yA ai0
   have bA:x.parts.drop i=x.parts[i]::x.parts.drop (i+1):=dq aN
   rw [bA,kR] at hS
   have g:=cG.ext aV
   have g0:=g.1
   have g1:=g.2.1
   have g2:=g.2.2.1
   have g3:=g.2.2.2.1
   have g4:=g.2.2.2.2.1
   have g5:=g.2.2.2.2.2.1
   have g6:=g.2.2.2.2.2.2.1
   have g7:=g.2.2.2.2.2.2.2.1
   have g8:=g.2.2.2.2.2.2.2.2.1
   have g9:=g.2.2.2.2.2.2.2.2.2.1
   have g10:=g.2.2.2.2.2.2.2.2.2.2.1
   have g11:=g.2.2.2.2.2.2.2.2.2.2.2.1
   have g12:=g.2.2.2.2.2.2.2.2.2.2.2.2.1
   have g13:=g.2.2.2.2.2.2.2.2.2.2.2.2.2.1
   have g14:=g.2.2.2.2.2.2.2.2.2.2.2.2.2.2.1
   have g15:=g.2.2.2.2.2.2.2.2.2.2.2.2.2.2.2.1
   have g16:=g.2.2.2.2.2.2.2.2.2.2.2.2.2.2.2.2.1
   have g17:=g.2.2.2.2.2.2.2.2.2.2.2.2.2.2.2.2.2.1
   have g18:=g.2.2.2.2.2.2.2.2.2.2.2.2.2.2.2.2.2.2.1
   have g19:=g.2.2.2.2.2.2.2.2.2.2.2.2.2.2.2.2.2.2.2.1
   have g20:=g.2.2.2.2.2.2.2.2.2.2.2.2.2.2.2.2.2.2.2.2.1
   clear g cG
   generalize x.parts[i]=f at*
   have key:¬ (0<i/\(x.ops.getD (i - 1) 0<1\/4<x.ops.getD (i - 1) 0)) ->S=qH (qH (qE f) (kR x.ops (i+1) (x.parts.drop (i+1)))) (ku x):=fun h=>by rw [hS,if_neg h]
   by_cases hz:i=0
   ·have Iu:¬ (0:Int)<(i:Int):=by omega
    replace hS:=key (fun h=>by omega)
    clear key
    simp +contextual only [go_sem,aE,sevalprocAttr,aI,ht,aN,Iu,g0,g1,g2,g3,g4,g5,g6,g7,g8,g9,g10,g11,g12,g13,g14,g15,g16,g17,g18,g19,g20,ow,ov]
    intro b4 N4 dI dY Di gH
    refine aD (uH (jb aV _ _ cC) N4) ?_
    rintro v M2 bg aZ rfl
    simp only [aJ,and_true] at aZ
    by_cases hE:qE f=0
    ·rw [hE,gS] at hS
     simp +contextual only [go_sem,aE,sevalprocAttr,ht,hE]
     rw [dB]
     refine ak (az ⟨x.parts.length - (i+1),by omega,rfl,i+1,by omega,rfl,?_,?_,N4,M2,hN.trans Di,aV.trans bg,aZ.2,rfl,hS⟩)
     ·simp only [aG,aI,go_sem,sevalprocAttr]
     ·simp only [go_sem,sevalprocAttr,aB i (by omega)]
    ·rw [bO hE,bO hE] at hS
     simp +contextual only [go_sem,aE,sevalprocAttr,hE]
     exact am (hN.trans Di) (by rw [hS])
   ·have Iu:(0:Int)<(i:Int):=by omega
    have A2:i - 1<x.ops.length:=by omega
    obtain ⟨bo,oo,co,rfl,ZG,hro⟩:=Gi (i - 1) x.ops[i - 1] (gq A2)
    unfold RI at hro;subst hro
    have hx:=ay aV ZG.1
    rw [Nat.mul_one] at hx
    have Rm:x.ops.getD (i - 1) 0=x.ops[i - 1]:=by simp [List.getD,gq A2]
    have VU:IntKind.i64.wrap ((i:Int) - 1)=((i - 1:Nat):Int):=by rw [bJ (by omega) (by omega)];omega
    rw [Rm] at hS key
    by_cases c1:x.ops[i - 1]<1
    ·rw [if_pos ⟨by omega,.inl c1⟩,bO (by decide)] at hS
     simp +contextual only [go_sem,aE,sevalprocAttr,aI,ht,aN,Iu,n1,g0,g1,g2,g3,g4,g5,g6,g7,g8,g9,g10,g11,g12,g13,g14,g15,g16,g17,g18,g19,g20,ow,ov]
     intro b4 N4 dI dY Di gH
     simp +contextual only [go_sem,aE,sevalprocAttr,VU,A2,hx,c1]
     exact am (hN.trans Di) (by rw [hS])
    ·by_cases c2:4<x.ops[i - 1]
     ·rw [if_pos ⟨by omega,.inr c2⟩,bO (by decide)] at hS
      simp +contextual only [go_sem,aE,sevalprocAttr,aI,ht,aN,Iu,n1,g0,g1,g2,g3,g4,g5,g6,g7,g8,g9,g10,g11,g12,g13,g14,g15,g16,g17,g18,g19,g20,ow,ov]
      intro b4 N4 dI dY Di gH
      simp +contextual only [go_sem,aE,sevalprocAttr,aI,n1,dY,VU,A2,hx,c1,c2]
      exact am (hN.trans Di) (by rw [hS])
     ·replace hS:=key (fun h=>by rcases h.2 with h | h;exact c1 h;exact c2 h)
      clear key
      simp +contextual only [go_sem,aE,sevalprocAttr,aI,ht,aN,Iu,n1,g0,g1,g2,g3,g4,g5,g6,g7,g8,g9,g10,g11,g12,g13,g14,g15,g16,g17,g18,g19,g20,ow,ov]
      intro b4 N4 dI dY Di gH
      simp +contextual only [go_sem,aE,sevalprocAttr,aI,dI,n1,dY,VU,A2,hx,c1,c2]
      refine aD (uH (jb aV _ _ cC) N4) ?_
      rintro v M2 bg aZ rfl
      simp only [aJ,and_true] at aZ
      by_cases hE:qE f=0
      ·rw [hE,gS] at hS
       simp +contextual only [go_sem,aE,sevalprocAttr,ht,hE]
       rw [dB]
       refine ak (az ⟨x.parts.length - (i+1),by omega,rfl,i+1,by omega,rfl,?_,?_,N4,M2,hN.trans Di,aV.trans bg,aZ.2,rfl,hS⟩)
       ·simp only [aG,aI,go_sem,sevalprocAttr]
       ·simp only [go_sem,sevalprocAttr,aB i (by omega)]
      ·rw [bO hE,bO hE] at hS
       simp +contextual only [go_sem,aE,sevalprocAttr,hE]
       exact am (hN.trans Di) (by rw [hS])
  ·have:i=x.parts.length:=by omega
   subst this
   rw [List.drop_length,kR,gS] at hS
   simp +contextual only [go_sem,aE,sevalprocAttr,aI,ht,aN]
   exact dU _ _ _ ⟨rfl,by simp only [aI,go_sem,sevalprocAttr],hS,N,M1,hN,aV,n1,rfl⟩
 clear hS
 rintro e ds h ⟨rfl,e1,hS,N,M1,hN,aV,n1,rfl⟩
 unfold ku at hS
 by_cases FM:x.limit<0
 ·rw [if_pos FM] at hS
  have TK:¬ 0<=x.limit:=by omega
  simp +contextual only [go_sem,aE,sevalprocAttr,e1,n1,TK]
  exact am hN (by rw [hS])
 rw [if_neg FM] at hS
 have TK:0<=x.limit:=by omega
 simp +contextual only [go_sem,aE,sevalprocAttr,e1,n1,TK]
 refine aY x.order.length 89 [(87,.slice ga x.order.length gc),(88,.int .i64 (x.order.length:Int))]
  (fun i e h=>∃ N M',aH T N/\bh M M'/\M' b1=none/\h=⟨N,M',[(b1,[.slice pa x.parts.length pc,.slice fa x.ops.length fc,.slice ga x.order.length gc,.int .i64 x.limit])],[]⟩/\S=ec (x.order.drop i))
  0 (by omega) (by simp only [aG,go_sem,sevalprocAttr]) (by simp only [go_sem,sevalprocAttr]) ⟨N,M1,hN,aV,n1,rfl,hS⟩ ?_
 clear hS e1 aV hN n1
 rintro i e h hi aI ht ⟨N,M1,hN,aV,n1,rfl,hS⟩
 simp only [aG] at aI
 by_cases aN:i<x.order.length
 ·obtain ⟨b',o',cs',rfl,cG,cC⟩:=EA i x.order[i] (gq aN)
  obtain ⟨sg,rfl,og,g0,g1,g2,g3,g4,g5,g6⟩:=my cC cG
  have bA:x.order.drop i=x.order[i]::x.order.drop (i+1):=dq aN
  rw [bA,ec] at hS
  simp +contextual only [go_sem,aE,sevalprocAttr,aI,ht,aN,ay aV g0,ay aV g1,ay aV g2,ay aV g3,ay aV g4,ay aV g5,ay aV g6,og]
  intro b9 N9 lu eN Cq l4
  refine aD (wm (bB aV _ _ cC) N9) ?_
  rintro v M2 bg aZ rfl
  simp only [aJ,and_true] at aZ
  by_cases hE:gt x.order[i]=0
  ·rw [hE,gS] at hS
   simp +contextual only [go_sem,aE,sevalprocAttr,ht,hE]
   rw [dB]
   refine ak (az ⟨x.order.length - (i+1),by omega,rfl,i+1,by omega,rfl,?_,?_,N9,M2,hN.trans Cq,aV.trans bg,aZ.2,rfl,hS⟩)
   ·simp only [aG,aI,go_sem,sevalprocAttr]
   ·simp only [go_sem,sevalprocAttr,aB i (by omega)]
  ·rw [bO hE] at hS
   simp +contextual only [go_sem,aE,sevalprocAttr,hE]
   exact am (hN.trans Cq) (by rw [hS])
 ·have:i=x.order.length:=by omega
  subst this
  rw [List.drop_length,ec] at hS
  simp +contextual only [go_sem,aE,sevalprocAttr,aI,ht,aN]
  exact am hN (by rw [hS])
inductive Ex where
 | mk (k:Int) (v:V) (c:Int) (kids:List Ex)
namespace Ex
def k:Ex ->Int | mk k _ _ _=>k
def v:Ex ->V | mk _ v _ _=>v
def c:Ex ->Int | mk _ _ c _=>c
def kids:Ex ->List Ex | mk _ _ _ l=>l
end Ex
mutual
def gU (M:aS):Ex ->List Value ->Prop
 | .mk k v c kids,cs=>∃ s xs,cs=[.int .i64 k,.int .i64 v.k,.int .i64 v.n,st v.t,.int .i64 c,s]/\kids.length*6<=4398046511104/\Sl M s 6 xs/\HI M kids xs
def HI (M:aS):List Ex ->List Value ->Prop
 | [],xs=>xs=[]
 | x::l,xs=>∃ cs rest,xs=cs++rest/\gU M x cs/\HI M l rest
end
theorem KM {M:aS}:∀ {l xs},HI M l xs ↔ RL (gU M) l xs
 | [],_=>by simp [HI,RL]
 | x::l,xs=>by simp only [HI,RL,KM (l:=l)]
theorem jc {M:aS}{x:Ex}{cs}:gU M x cs ↔ ∃ s,cs=[.int .i64 x.k,.int .i64 x.v.k,.int .i64 x.v.n,st x.v.t,.int .i64 x.c,s]/\RS M (gU M) 6 x.kids s:=by
 obtain ⟨k,v,c,kids⟩:=x
 simp only [gU,RS,Ex.k,Ex.v,Ex.c,Ex.kids,KM]
 constructor
 ·rintro ⟨s,xs,h1,h0,h2,h3⟩;exact ⟨s,h1,h0,xs,h2,h3⟩
 ·rintro ⟨s,h1,h0,xs,h2,h3⟩;exact ⟨s,xs,h1,h0,h2,h3⟩
theorem dW {M:aS}{x:Ex}{cs}(h:gU M x cs):cs.length=6:=by
 obtain ⟨s,rfl,_⟩:=jc.1 h;rfl
mutual
theorem cu {M M':aS}(he:bh M M'):∀ (x:Ex) (cs:List Value),gU M x cs ->gU M' x cs
 | .mk _ _ _ kids,_,h=>by
  obtain ⟨s,xs,h1,h0,h2,h3⟩:=h
  exact ⟨s,xs,h1,h0,h2.ext he,Dz he kids xs h3⟩
theorem Dz {M M':aS}(he:bh M M'):∀ (l:List Ex) (xs:List Value),HI M l xs ->HI M' l xs
 | [],_,h=>h
 | x::l,_,h=>by
  obtain ⟨cs,rest,h1,h2,h3⟩:=h
  exact ⟨cs,rest,h1,cu he x cs h2,Dz he l rest h3⟩
end
theorem dt {M:aS}{x:Ex}{cs:List Value}(h:gU M x cs):∃ s,cs=[.int .i64 x.k,.int .i64 x.v.k,.int .i64 x.v.n,st x.v.t,.int .i64 x.c,s]/\s.oneCell'=true/\RS M (gU M) 6 x.kids s:=by
 obtain ⟨s,rfl,hs⟩:=jc.1 h
 exact ⟨s,rfl,(cR hs).1,hs⟩
theorem mV {M:aS}{x:Ex}{cs:List Value}(h:gU M x cs):∀ u∈cs,u.oneCell'=true:=by
 obtain ⟨s,rfl,h1,_⟩:=dt h
 intro u hu
 simp only [mn] at hu
 rcases hu with rfl | rfl | rfl | rfl | rfl | rfl<;>first | rfl | exact h1
structure Ag where
 k:Int
 x:Ex
def F5 (M:aS)(a:Ag)(cs:List Value):Prop:=∃ c,gU M a.x c/\cs=.int .i64 a.k::c
theorem oB {M:aS}{a:Ag}{cs}(h:F5 M a cs):cs.length=7:=by
 obtain ⟨c,h1,rfl⟩:=h;simp [dW h1]
theorem lg {M M':aS}(he:bh M M')(a:Ag)(cs)(h:F5 M a cs):F5 M' a cs:=by
 obtain ⟨c,h1,h2⟩:=h;exact ⟨c,cu he _ _ h1,h2⟩
inductive Pl where
 | mk (k n:Int) (x:Ex) (xs:List Ex) (ags:List Ag) (kids:List Pl)
namespace Pl
def k:Pl ->Int | mk k _ _ _ _ _=>k
def n:Pl ->Int | mk _ n _ _ _ _=>n
def x:Pl ->Ex | mk _ _ x _ _ _=>x
def xs:Pl ->List Ex | mk _ _ _ l _ _=>l
def ags:Pl ->List Ag | mk _ _ _ _ l _=>l
def kids:Pl ->List Pl | mk _ _ _ _ _ l=>l
end Pl
mutual
def jV (M:aS):Pl ->List Value ->Prop
 | .mk k n x xs ags kids,cs=>∃ xc xv av s ys,cs=[.int .i64 k,.int .i64 n]++(xc++[xv,av,s])/\gU M x xc/\RS M (gU M) 6 xs xv/\RS M (F5 M) 7 ags av/\kids.length*11<=4398046511104/\Sl M s 11 ys/\IO M kids ys
def IO (M:aS):List Pl ->List Value ->Prop
 | [],xs=>xs=[]
 | x::l,xs=>∃ cs rest,xs=cs++rest/\jV M x cs/\IO M l rest
end
theorem Cj {M:aS}:∀ {l xs},IO M l xs ↔ RL (jV M) l xs
 | [],_=>by simp [IO,RL]
 | x::l,xs=>by simp only [IO,RL,Cj (l:=l)]
theorem lw {M:aS}{p:Pl}{cs}:jV M p cs ↔ ∃ xc xv av s,cs=[.int .i64 p.k,.int .i64 p.n]++(xc++[xv,av,s])/\gU M p.x xc/\RS M (gU M) 6 p.xs xv/\RS M (F5 M) 7 p.ags av/\RS M (jV M) 11 p.kids s:=by
 obtain ⟨k,n,x,xs,ags,kids⟩:=p
 constructor
 ·intro h
  obtain ⟨xc,xv,av,s,ys,h1,h2,h3,h4,h5,h6,h7⟩:=h
  exact ⟨xc,xv,av,s,h1,h2,h3,h4,h5,ys,h6,Cj.1 h7⟩
 ·rintro ⟨xc,xv,av,s,h1,h2,h3,h4,h5,ys,h6,h7⟩
  exact ⟨xc,xv,av,s,ys,h1,h2,h3,h4,h5,h6,Cj.2 h7⟩
theorem lh {M:aS}{p:Pl}{cs}(h:jV M p cs):cs.length=11:=by
 obtain ⟨xc,xv,av,s,rfl,h1,_⟩:=lw.1 h;simp [dW h1]
mutual
theorem bY {M M':aS}(he:bh M M'):∀ (p:Pl) (cs:List Value),jV M p cs ->jV M' p cs
 | .mk _ _ _ _ _ kids,_,h=>by
  obtain ⟨xc,xv,av,s,ys,h1,h2,h3,h4,h5,h6,h7⟩:=h
  exact ⟨xc,xv,av,s,ys,h1,cu he _ _ h2,aL he (cu he) h3,aL he (lg he) h4,h5,h6.ext he,DH he kids ys h7⟩
theorem DH {M M':aS}(he:bh M M'):∀ (l:List Pl) (xs:List Value),IO M l xs ->IO M' l xs
 | [],_,h=>h
 | x::l,_,h=>by
  obtain ⟨cs,rest,h1,h2,h3⟩:=h
  exact ⟨cs,rest,h1,bY he x cs h2,DH he l rest h3⟩
end
structure Rel where
 name:Bs
 cols:List Co
 view:Bool
 plan:Pl
def mD (M:aS)(r:Rel)(cs:List Value):Prop:=∃ c p,RS M sA 2 r.cols c/\jV M r.plan p/\cs=[st r.name,c,.bool r.view]++p
theorem ew {M:aS}{r:Rel}{cs}(h:mD M r cs):cs.length=14:=by
 obtain ⟨c,p,_,h2,rfl⟩:=h;simp [lh h2]
theorem eu {M M':aS}(he:bh M M')(r:Rel)(cs)(h:mD M r cs):mD M' r cs:=by
 obtain ⟨c,p,h1,h2,h3⟩:=h;exact ⟨c,p,aL he (fun _ _ h=>h) h1,bY he _ _ h2,h3⟩
def qP:V:=⟨0,0,[]⟩
def ei:Ex:=.mk 0 qP 0 []
def fY (v:V):V:=if v.k=1 then ⟨1,0,[]⟩ else if v.k=4 then ⟨4,0,v.t⟩ else ⟨v.k,v.n,[]⟩
def BP (a b:V):Bool:=decide (a.k=b.k) && (decide (a.n=b.n) && decide (a.t=b.t))
mutual
def gW:X ->X ->Bool
 | .mk k v tab name kids,.mk k' v' tab' name' kids'=>decide (k=k') && (if k=1 then BP (fY v) (fY v') else if k=2 then decide (tab=tab') && decide (name=name') else im kids kids')
def im:List X ->List X ->Bool
 | [],[]=>true
 | x::l,y::m=>gW x y && im l m
 | _,_=>false
end
def kP (tab name:Bs):Nat ->Option Nat ->List (Bs×Bs) ->Option (Option Nat)
 | _,k,[]=>some k
 | i,k,c::l=>if c.2=name/\(tab=[]\/c.1=tab) then (match k with | none=>kP tab name (i+1) (some i) l | some _=>none) else kP tab name (i+1) k l
def lG (l:List (Bs×Bs))(tab name:Bs):Except Int Nat:=match kP tab name 0 none l with
 | some (some i)=> .ok i
 | _=> .error 7
def DP (i:Nat):Ex:=.mk 2 qP i []
mutual
def jJ (names:List (Bs×Bs)):X ->Except Int Ex
 | .mk k v tab name kids=>if 19<=k then .error 8 else if k=2 then (match lG names tab name with | .ok i=> .ok (DP i) | .error e=> .error e) else if k=1 then .ok (.mk 1 v 0 [])
  else match dn names kids with | .ok l=> .ok (.mk k qP 0 l) | .error e=> .error e
def dn (names:List (Bs×Bs)):List X ->Except Int (List Ex)
 | []=> .ok []
 | x::l=>match jJ names x with
  | .error e=> .error e
  | .ok y=>match dn names l with | .ok m=> .ok (y::m) | .error e=> .error e
end
def Df (names:List (Bs×Bs))(kids:List X):Except Int Ex:=match kids with
 | []=> .ok ei
 | x::_=>jJ names x
mutual
def nq (names:List (Bs×Bs))(keys:List X):X ->List Ag ->Except Int (Ex×List Ag)
 | .mk k v tab name kids,ags=>match keys.findIdx? (fun y=>gW (.mk k v tab name kids) y) with
  | some i=> .ok (DP i,ags)
  | none=>if 19<=k then (match Df names kids with | .ok a=> .ok (DP (keys.length+ags.length),ags++[⟨k - 18,a⟩]) | .error e=> .error e)
   else if k=2 then .error 8 else if k=1 then .ok (.mk 1 v 0 [],ags)
   else match dP names keys kids ags with | .ok l=> .ok (.mk k qP 0 l.1,l.2) | .error e=> .error e
def dP (names:List (Bs×Bs))(keys:List X):List X ->List Ag ->Except Int (List Ex×List Ag)
 | [],ags=> .ok ([],ags)
 | x::l,ags=>match nq names keys x ags with
  | .error e=> .error e
  | .ok y=>match dP names keys l y.2 with | .ok m=> .ok (y.1::m.1,m.2) | .error e=> .error e
end
mutual
def qO:X ->Bool
 | .mk k _ _ _ kids=>decide (19<=k) || UO kids
def UO:List X ->Bool
 | []=>false
 | x::l=>qO x || UO l
end
def bQ (rels:List Rel):List (List Int):=(rels.filter fun r=> !r.view).map fun r=>r.cols.map (·.ty)
def jy (k:Int)(p:Pl):Pl:=.mk k 0 ei [] [] [p]
def qU (k:Int)(p q:Pl):Pl:=.mk k 0 ei [] [] [p,q]
def Cs (n:Nat):Pl:=.mk 1 n ei [] [] []
def iR (name:Bs):Nat ->List Rel ->Option (Pl×List Co)
 | _,[]=>none
 | n,r::l=>if r.name=name then some (if r.view=true then r.plan else Cs n,r.cols) else iR name (if r.view=true then n else n+1) l
def mc (rels:List Rel)(name:Bs):Except Int (Pl×List Co):=match iR name 0 rels with | some x=> .ok x | none=> .error 7
def dp (s:So):Bs:=if s.as=[] then s.name else s.as
def kU (k:Int):Int:=if k=2 then 4 else if k=3 then 5 else if k=4 then 6 else if k=5 then 7 else 0
def j0 (rels:List Rel):List So ->Nat ->Pl ->List (Bs×Bs) ->List Bs ->Except Int (Pl×List (Bs×Bs))
 | [],_,p,names,_=> .ok (p,names)
 | s::l,i,p,names,had=>match mc rels s.name with
  | .error e=> .error e
  | .ok q=>if had.contains (dp s)=true then .error 7 else
   if i=0 then j0 rels l 1 q.1 (names++q.2.map fun c=>(dp s,c.name)) (had++[dp s])
   else match jJ (names++q.2.map fun c=>(dp s,c.name)) s.on with
    | .error e=> .error e
    | .ok x=>j0 rels l (i+1) (.mk (kU s.k) 0 x [] [] [p,q.1]) (if s.k=2\/s.k=5 then names++q.2.map fun c=>(dp s,c.name) else names) (had++[dp s])
def jw:Pl:=.mk 0 0 ei [] [] []
def oH (rels:List Rel)(l:List So):Except Int (Pl×List (Bs×Bs)):=j0 rels l 0 jw [] []
def vW (x:It)(i:Nat):Bs:=if x.as≠[] then x.as else if x.x.k=2 then x.x.name else 99::Lib.decDigits (i+1)
def eT:Nat ->List It ->List Bs
 | _,[]=>[]
 | i,x::l=>vW x i::eT (i+1) l
def gz (x:Ex)(p:Pl):Pl:=.mk 2 0 x [] [] [p]
def eQ (s:Se):Bool:=(decide (0<s.group.length) || s.hasH) || (!s.star && s.items.any fun i=>qO i.x)
def q8 (names:List (Bs×Bs))(h:Bool)(x:X):Except Int Ex:=if h=true then jJ names x else .ok ei
def tn (names:List (Bs×Bs))(keys:List X)(h:Bool)(x:X)(ags:List Ag):Except Int (Ex×List Ag):=if h=true then nq names keys x ags else .ok (ei,ags)
def j2 (s:Se)(p:Pl)(names:List (Bs×Bs)):Except Int Pl:=if s.star=true then .error 8 else
 match dn names s.group with
 | .error e=> .error e
 | .ok keys=>match dP names s.group (s.items.map (·.x)) [] with
  | .error e=> .error e
  | .ok it=>match tn names s.group s.hasH s.hv it.2 with
   | .error e=> .error e
   | .ok h=>let g:Pl:=.mk 12 0 ei keys h.2 [p]
    .ok (.mk 3 0 ei it.1 [] [if s.hasH=true then gz h.1 g else g])
def oI (s:Se)(p:Pl)(names:List (Bs×Bs)):Except Int Pl:=if s.star=true then .ok p else
 match dn names (s.items.map (·.x)) with
 | .error e=> .error e
 | .ok l=> .ok (.mk 3 0 ei l [] [p])
def mt (rels:List Rel)(s:Se):Except Int (Pl×List Bs):=match oH rels s.src with
 | .error e=> .error e
 | .ok f=>match q8 f.2 s.hasW s.wh with
  | .error e=> .error e
  | .ok w=>let p:=if s.hasW=true then gz w f.1 else f.1
   match (if eQ s=true then j2 s p f.2 else oI s p f.2) with
   | .error e=> .error e
   | .ok q=> .ok (if s.distinct=true then jy 11 q else q,if s.star=true then f.2.map (·.2) else eT 0 s.items)
def Er (op:Int)(a b:Pl):Pl:=if op=1 then qU 8 a b else if op=2 then jy 11 (qU 8 a b) else if op=4 then jy 10 (qU 9 (jy 11 a) (jy 11 b)) else jy 10 (qU 9 a b)
def fA (rels:List Rel)(ops:List Int):Nat ->Pl ->List Bs ->List Se ->Except Int (Pl×List Bs)
 | _,p,names,[]=> .ok (p,names)
 | i,p,names,s::l=>match mt rels s with
  | .error e=> .error e
  | .ok r=>if i=0 then fA rels ops 1 r.1 r.2 l else fA rels ops (i+1) (Er (ops.getD (i - 1) 0) p r.1) names l
def s8 (q:Q)(r:Pl×List Bs):Except Int Pl:=if 0<=q.limit then (match dn (r.2.map fun n=>([],n)) q.order with
 | .error e=> .error e
 | .ok xs=> .ok (.mk 13 q.limit ei xs [] [r.1])) else .ok r.1
def gR (rels:List Rel)(q:Q):Except Int (Pl×List Bs):=match fA rels q.ops 0 jw [] q.parts with
 | .error e=> .error e
 | .ok r=>match s8 q r with
  | .error e=> .error e
  | .ok p=> .ok (p,r.2)
def fR (k:Int):Int:=if k=1\/k=2 then 0 else if k=3\/k=16 then 1 else if (4<=k/\k<=15)\/k=18 then 2 else if k=17 then 3 else -1
def jS (a b:Int):Option Int:=if a=b\/b=1 then some a else if a=1 then some b else none
def sF (a want:Int):Bool:=(jS a want).isSome
def ud (k:Int)(t:List Int):Except Int Int:=
 if k<=5 then (if t.all (sF · 2)=true then .ok 2 else .error 9)
 else if k<=11 then (if (jS (t.getD 0 0) (t.getD 1 0)).isSome=true then .ok 2 else .error 9)
 else if k<=14 then (if t.all (sF · 3)=true then .ok 3 else .error 9)
 else if k=15 then (if t.all (sF · 4)=true then .ok 4 else .error 9)
 else if k=17 then (match jS (t.getD 1 0) (t.getD 2 0) with | some o=>if sF (t.getD 0 0) 2=true then .ok o else .error 9 | none=> .error 9)
 else (match jS (t.getD 0 0) (t.getD 1 0) with | some o=> .ok o | none=> .error 9)
mutual
def oW (cols:List Int)(bq n:Nat):Ex ->Except Int Int×Nat
 | .mk k v c kids=>if 200<n+1\/20<bq then (.error 4,n+1) else if fR k<0 then (.error 1,n+1) else if (kids.length:Int)≠fR k then (.error 5,n+1)
  else match mE cols (bq+1) (n+1) kids with
   | (.error e,m)=>(.error e,m)
   | (.ok t,m)=>(if k=1 then (if gC v=0 then .ok v.k else .error (gC v)) else if k=2 then (if 0<=c/\c<cols.length then .ok (cols.getD c.toNat 0) else .error 7) else if k=16 then .ok 2 else ud k t,m)
def mE (cols:List Int)(bq n:Nat):List Ex ->Except Int (List Int)×Nat
 | []=>(.ok [],n)
 | x::l=>match oW cols bq n x with
  | (.error e,m)=>(.error e,m)
  | (.ok t,m)=>match mE cols bq m l with
   | (.error e,m')=>(.error e,m')
   | (.ok ts,m')=>(.ok (t::ts),m')
end
def jr (cols:List Int)(x:Ex):Except Int Int:=if 16<cols.length then .error 5 else if cols.all (fun t=>decide (1<=t/\t<=4))=true then (oW cols 1 0 x).1 else .error 1
def ge (cols:List Int):List Ex ->Except Int (List Int)
 | []=> .ok []
 | x::l=>match jr cols x with
  | .error e=> .error e
  | .ok t=>match ge cols l with | .ok ts=> .ok (t::ts) | .error e=> .error e
def dZ (cols:List Int)(xs:List Ex):Except Int (List Int):=if 8<xs.length then .error 5 else ge cols xs
def oK (cols:List Int)(a:Ag):Except Int Int:=if a.k<1\/5<a.k then .error 1 else if a.k=1 then .ok 3 else match jr cols a.x with
 | .error e=> .error e
 | .ok u=>if a.k=3/\u≠3/\u≠1 then .error 9 else .ok (if 4<=a.k then u else 3)
def fx (cols:List Int):List Ag ->Except Int (List Int)
 | []=> .ok []
 | a::l=>match oK cols a with
  | .error e=> .error e
  | .ok t=>match fx cols l with | .ok ts=> .ok (t::ts) | .error e=> .error e
def oG (cols:List Int)(x:Ex):Except Int Unit:=match jr cols x with
 | .error e=> .error e
 | .ok t=>if t=2\/t=1 then .ok () else .error 9
def gd (k:Int):Int:=if k=1 then 0 else if 4<=k/\k<=9 then 2 else if 1<k/\k<=13 then 1 else -1
def j1:List Int ->List Int ->Except Int (List Int)
 | t::a,u::b=>match jS t u with
  | none=> .error 9
  | some o=>match j1 a b with | .ok l=> .ok (o::l) | .error e=> .error e
 | _,_=> .ok []
def lz (a b:List Int):Except Int (List Int):=if a.length≠b.length then .error 8 else j1 a b
def jK (tables:List (List Int))(k n:Int)(x:Ex)(xs:List Ex)(ags:List Ag)(c:List (List Int)):Except Int (List Int):=
 let a:=c.getD 0 []
 let b:=c.getD 1 []
 if k=1 then (if 0<=n/\n<tables.length then .ok (tables.getD n.toNat []) else .error 7)
 else if k=2 then (match oG a x with | .ok _=> .ok a | .error e=> .error e)
 else if k=3 then dZ a xs
 else if k=8\/k=9 then lz a b
 else if k=10\/k=11 then .ok a
 else if k=12 then (if 8<xs.length+ags.length then .error 5 else match dZ a xs with
  | .error e=> .error e
  | .ok ks=>match fx a ags with | .ok g=> .ok (ks++g) | .error e=> .error e)
 else if k=13 then (match dZ a xs with
  | .error e=> .error e
  | .ok _=>if n<0\/50<n then .error 3 else .ok a)
 else if 8<(a++b).length then .error 5
 else match oG (a++b) x with
  | .error e=> .error e
  | .ok _=> .ok (if k=5\/k=6 then a else a++b)
mutual
def ek (tables:List (List Int))(bq m:Nat):Pl ->Except Int (List Int)×Nat
 | .mk k n x xs ags kids=>if 60<m+1\/15<bq then (.error 4,m+1) else if gd k<0 then (.error 1,m+1) else if (kids.length:Int)≠gd k then (.error 5,m+1)
  else match fM tables (bq+1) (m+1) kids with
   | (.error e,m')=>(.error e,m')
   | (.ok c,m')=>(jK tables k n x xs ags c,m')
def fM (tables:List (List Int))(bq m:Nat):List Pl ->Except Int (List (List Int))×Nat
 | []=>(.ok [],m)
 | p::l=>match ek tables bq m p with
  | (.error e,m')=>(.error e,m')
  | (.ok c,m')=>match fM tables bq m' l with
   | (.error e,m'')=>(.error e,m'')
   | (.ok cs,m'')=>(.ok (c::cs),m'')
end
def vG:List (List Int) ->Int
 | []=>0
 | t::l=>if 8<t.length then 5 else if t.all (fun k=>decide (1<=k/\k<=4))=true then vG l else 1
def gh (tables:List (List Int))(p:Pl):Except Int (List Int):=if 8<tables.length then .error 5 else if vG tables≠0 then .error (vG tables) else (ek tables 1 0 p).1
def ns:List Bs ->List Int ->List Co
 | n::l,t::m=>⟨n,t⟩::ns l m
 | _,_=>[]
def gT (rels:List Rel)(q:Q):Except Int (Pl×List Co):=match gR rels q with
 | .error e=> .error e
 | .ok r=>match gh (bQ rels) r.1 with
  | .error e=> .error e
  | .ok t=> .ok (r.1,ns r.2 t)
def Ea (e:Int):List PanicEntry:=[{v:=.iface 89 (.agg #[.int .i64 e]),recovered:=false}]
theorem Ew (e:Int)(M:aS)(T:Tm):cw Tryz.prog 66 [.int .i64 e] T M [] [] (fun _ _ _ _=>False) (fun ch _ _ _=>ch=Ea e):=by
 refine aC F66 rfl rfl ?_
 intro _ _
 simp +contextual only [go_sem,sevalprocAttr]
 exact am aH.rfl' rfl
def GL (c:Bs×Bs)(cs:List Value):Prop:=cs=[st c.1,st c.2]
theorem qz {c:Bs×Bs}{cs}(h:GL c cs):cs.length=2:=by rw [h];rfl
def uY {α:Type}(enc:α ->Value ->aS ->Prop)(res:Except Int α):ez:=fun v M' _ _=>∃ a,res=.ok a/\enc a v M'
def qD {α:Type}(res:Except Int α):lX:=fun ch _ _ _=>∃ e,res=.error e/\ch=Ea e
theorem me {α:Type}{T N:Tm}{M:aS}{L:LL}{R:RR}{dr ts e post}{res:Except Int α}{c:Int}(hT:aH T N)(h:res=.error c):(fi Tryz.prog T dr ts (keys []) 0 post (qD res)).pan (Ea c) e [] ⟨N,M,L,R⟩:=by
 rw [lT,jG]
 exact am hT ⟨c,h,rfl⟩
theorem tN {α:Type}{T N:Tm}{M:aS}{L:LL}{R:RR}{dr ts e post d s}{res:Except Int α}{c:Int}(hT:aH T N)(h:res=.error c):dk Tryz.prog (fi Tryz.prog T dr ts (keys []) 0 post (qD res)) 66 [.int .i64 c] d s e [] ⟨N,M,L,R⟩ ⟨⟩:=by
 refine bS (Ew c M N) (fun _ _ _ _ h=>h.elim) ?_
 rintro ch M1 aV bG rfl
 exact me hT h
theorem F0 (tab name:Bs)(i:Nat)(k:Option Nat)(c:Bs×Bs)(l:List (Bs×Bs)):kP tab name i k (c::l)=if c.2=name/\(tab=[]\/c.1=tab) then (match k with | none=>kP tab name (i+1) (some i) l | some _=>none) else kP tab name (i+1) k l:=by
 cases k<;>rfl
def oO:Option Nat ->Int | none=> -1 | some i=>(i:Int)
theorem WG {M:aS}{names:List (Bs×Bs)}{lv kv av rv:Value}{sb b o:Nat}{x:X}{cs:List Value}(hl:RS M GL 2 names lv)(TN:M sb=some [lv,kv,av,rv])(ha:At M b o cs)(hx:RX M x cs)(T:Tm):
 cw Tryz.prog 80 [.pointer (some ⟨sb,0,none⟩),.pointer (some ⟨b,o,none⟩)] T M [] [] (uY (fun (i:Nat) v _=>v=.int .i64 (i:Int)) (lG names x.tab x.name)) (qD (lG names x.tab x.name)):=by
 obtain ⟨s,hs,m0,m1,m2,m3,m4,m5,m6⟩:=uJ hx ha
 obtain ⟨fS,la,c,rfl,dJ,_,fU⟩:=aF (by decide) (fun _ _=>qz) hl
 have D3:kP x.tab x.name 0 none names=none ->lG names x.tab x.name=.error 7:=fun h=>by unfold lG;rw [h]
 have adG:kP x.tab x.name 0 none names=some none ->lG names x.tab x.name=.error 7:=fun h=>by unfold lG;rw [h]
 refine aC F80 rfl rfl ?_
 intro bi _
 simp +contextual only [go_sem,aE,sevalprocAttr,aX TN]
 refine aY names.length 13 [(0,.pointer (some ⟨sb,0,none⟩)),(1,.pointer (some ⟨b,o,none⟩)),(11,.slice la names.length c),(12,.int .i64 (names.length:Int))] (fun i e h=>∃ T' k,aH T T'/\h=⟨T',M,[],[]⟩/\e 5=.int .i64 (oO k)/\kP x.tab x.name i k (names.drop i)=kP x.tab x.name 0 none names) 0 (by omega) (by simp only [aG,go_sem,sevalprocAttr]) (by simp only [go_sem,sevalprocAttr]) ⟨T,none,aH.rfl',rfl,by simp only [go_sem,sevalprocAttr,oO],rfl⟩ ?_
 rintro i e h hi aI ht ⟨T1,k,cV,rfl,e5,ax⟩
 simp only [aG] at aI
 by_cases aN:i<names.length
 ·obtain ⟨b',o',cs',rfl,cG,fy⟩:=fU i names[i] (gq aN)
  unfold GL at fy;subst fy
  obtain ⟨y0,y1⟩:=Wa cG
  have bA:names.drop i=names[i]::names.drop (i+1):=dq aN
  rw [bA,F0] at ax
  simp +contextual only [go_sem,aE,sevalprocAttr,aI,ht,aN,y0,y1]
  intro b7 T7 iN mX tj
  refine aU ?_
  have hT:=cV.trans mX
  by_cases Kq:names[i].2=x.name/\(x.tab=[]\/names[i].1=x.tab)
  ·rw [if_pos Kq] at ax
   have iE:(names[i].2=x.name/\x.tab=[]/\True)\/(names[i].2=x.name/\¬ x.tab=[]/\names[i].1=x.tab):=by
    by_cases h2:x.tab=[]
    ·exact .inl ⟨Kq.1,h2,trivial⟩
    ·exact .inr ⟨Kq.1,h2,Kq.2.resolve_left h2⟩
   rcases iE with ⟨h1,h2,h3⟩ | ⟨h1,h2,h3⟩
   all_goals
    cases k with
    | none=>
     simp only at ax
     simp +contextual only [go_sem,aE,sevalprocAttr,aI,ht,m4,m5,iN,e5,oO,h1,h2,h3]
     refine aR (ak (az ⟨names.length - (i+1),by omega,rfl,i+1,by omega,?_,?_,?_,T7,some i,hT,rfl,?_,ax⟩))
     ·rfl
     ·simp only [aG,aI,go_sem,sevalprocAttr]
     ·simp only [go_sem,sevalprocAttr,aB i (by omega)]
     ·simp only [go_sem,sevalprocAttr]
    | some j=>
     simp only at ax
     simp +contextual only [go_sem,aE,sevalprocAttr,aI,m4,m5,iN,e5,oO,h1,h2,h3]
     exact tN hT (D3 ax.symm)
  ·rw [if_neg Kq] at ax
   have iE:(¬ names[i].2=x.name/\True/\True)\/(names[i].2=x.name/\¬ x.tab=[]/\¬ names[i].1=x.tab):=by
    by_cases h1:names[i].2=x.name
    ·exact .inr ⟨h1,fun h2=>Kq ⟨h1,.inl h2⟩,fun h3=>Kq ⟨h1,.inr h3⟩⟩
    ·exact .inl ⟨h1,trivial,trivial⟩
   rcases iE with ⟨h1,h2,h3⟩ | ⟨h1,h2,h3⟩
   all_goals
    simp +contextual only [go_sem,aE,sevalprocAttr,aI,ht,m4,m5,iN,h1,h2,h3]
    refine aR (ak (az ⟨names.length - (i+1),by omega,rfl,i+1,by omega,?_,?_,?_,T7,k,hT,rfl,?_,ax⟩))
    ·rfl
    ·simp only [aG,aI,go_sem,sevalprocAttr]
    ·simp only [go_sem,sevalprocAttr,aB i (by omega)]
    ·simp only [e5,go_sem,sevalprocAttr]
 ·have:i=names.length:=by omega
  subst this
  rw [List.drop_length] at ax
  cases k with
  | none=>
   simp +contextual only [go_sem,aE,sevalprocAttr,aI,ht,aN,e5,oO]
   exact tN cV (adG ax.symm)
  | some j=>
   have hj:¬ (j:Int)<0:=by omega
   simp +contextual only [go_sem,aE,sevalprocAttr,aI,ht,aN,e5,oO,hj]
   refine am cV ⟨j,?_,rfl⟩
   unfold lG
   rw [<- ax];rfl
theorem Yx (k n:Int)(t:Bs)(k' n':Int)(t':Bs):gZ Tryz.prog .eql 29 (.agg ⟨[.int .i64 k,.int .i64 n,.string (bs t)]⟩) (.agg ⟨[.int .i64 k',.int .i64 n',.string (bs t')]⟩)=some (.bool (BP ⟨k,n,t⟩ ⟨k',n',t'⟩)):=by
 show (match IM Tryz.prog 29 with | some ks=>(Nn ks _ _).map Value.bool | none=>none)=_
 rw [SP];simp only [Nn,Zk,BP,G5,Option.map]
 cases decide (k=k')<;>cases decide (n=n')<;>cases decide (t=t')<;>simp
theorem fL {M:aS}(T:Tm):cw Tryz.prog 173 [] T M [] [] (fun r _ _ _=>r=.agg ⟨[.int .i64 1,.int .i64 0,st []]⟩) aO:=by
 refine aC ajD rfl rfl ?_
 intro _ _
 simp +contextual only [go_sem,sevalprocAttr]
 intro b1 T1 fD cV ig
 exact am cV rfl
theorem lB {M:aS}(v:V)(T:Tm):cw Tryz.prog 119 [.agg ⟨[.int .i64 v.k,.int .i64 v.n,st v.t]⟩] T M [] [] (fun r _ _ _=>r=.agg ⟨[.int .i64 (fY v).k,.int .i64 (fY v).n,st (fY v).t]⟩) aO:=by
 obtain ⟨k,n,t⟩:=v
 unfold fY
 refine aC ais rfl rfl ?_
 intro bi _
 by_cases h1:k=1
 ·subst h1
  simp +contextual only [go_sem,aE,sevalprocAttr]
  intro b1 T1 fD cV ig b2 T2 ey gx dV fG
  refine aD (fL T2) ?_
  rintro v M1 aV bG rfl
  simp only [aJ,and_true] at bG
  simp +contextual only [go_sem,sevalprocAttr,bG]
  exact am (cV.trans dV) rfl
 by_cases h4:k=4
 ·subst h4
  simp +contextual only [go_sem,aE,sevalprocAttr]
  intro b1 T1 fD cV ig b2 T2 ey gx dV fG
  exact am (cV.trans dV) rfl
 simp +contextual only [go_sem,aE,sevalprocAttr,h1,h4]
 intro b1 T1 fD cV ig b2 T2 ey gx dV fG
 exact am (cV.trans dV) rfl
theorem At7 {M:aS}{b o:Nat}{v0 v1 v2 v3 v4 v5 v6:Value}(h:At M b o [v0,v1,v2,v3,v4,v5,v6]):aQ M ⟨b,o,none⟩=some v0/\aQ M ⟨b,o+1,none⟩=some v1/\aQ M ⟨b,o+2,none⟩=some v2/\aQ M ⟨b,o+3,none⟩=some v3/\aQ M ⟨b,o+4,none⟩=some v4/\aQ M ⟨b,o+5,none⟩=some v5/\aQ M ⟨b,o+6,none⟩=some v6:=
 ⟨h.1,h.2.1,h.2.2.1,h.2.2.2.1,h.2.2.2.2.1,h.2.2.2.2.2.1,h.2.2.2.2.2.2.1⟩
theorem xH:∀ {l m:List X},¬ l.length=m.length ->im l m=false
 | [],[],h=>(h rfl).elim
 | [],_::_,_=>rfl
 | _::_,[],_=>rfl
 | x::l,y::m,h=>by
  rw [im,xH (l:=l) (m:=m) (fun h1=>h (by simp [h1])),Bool.and_false]
def SmB (x:X):Prop:=∀ (M:aS) (T:Tm) (b o b' o':Nat) (y:X) (cs cs':List Value),At M b o cs ->RX M x cs ->At M b' o' cs' ->RX M y cs' ->
 cw Tryz.prog 78 [.pointer (some ⟨b,o,none⟩),.pointer (some ⟨b',o',none⟩)] T M [] [] (fun r _ _ _=>r=.bool (gW x y)) aO
theorem Oy {x y:X}(h:SmB x){M:aS}{cs cs':List Value}(hx:RX M x cs)(hy:RX M y cs')(T:Tm):cw Tryz.prog 121 [.agg ⟨cs⟩,.agg ⟨cs'⟩] T M [] [] (fun r _ _ _=>r=.bool (gW x y)) aO:=by
 have hl:=dl hx
 have gG:=dl hy
 refine aC ahM rfl rfl ?_
 intro bi _
 simp +contextual only [go_sem,sevalprocAttr]
 intro b2 T2 ey dV fG b3 T3 gj cL fB hZ
 refine oz F78.bd fun M1 aV hL1=> ?_
 obtain ⟨zO,Ie,_⟩:=hL1
 refine aD (h M1 T3 b2 0 b3 0 y _ _ (kJ Ie _ 0 (by simp)) (bB aV _ _ hx) (kJ zO _ 0 (by simp)) (bB aV _ _ hy)) ?_
 rintro v M2 bg _ rfl
 simp +contextual only [go_sem,sevalprocAttr]
 exact am (dV.trans fB) rfl
theorem Mr {l m:List X}(h:∀ x∈l,SmB x){M:aS}{v1 v2:Value}(h1:RS M (RX M) 7 l v1)(h2:RS M (RX M) 7 m v2)(T:Tm):
 cw Tryz.prog 120 [v1,v2,.func (.func 121) #[] #[]] T M [] [] (fun r _ _ _=>r=.bool (im l m)) aO:=by
 obtain ⟨adJ,a1,c1,rfl,anP,_,ly⟩:=aF (by decide) (fun _ _=>dl) h1
 obtain ⟨r6,a2,c2,rfl,mz,_,tg⟩:=aF (by decide) (fun _ _=>dl) h2
 refine aC agH rfl rfl ?_
 intro bi _
 by_cases bw:l.length=m.length
 ·simp +contextual only [go_sem,aE,sevalprocAttr,bw]
  refine aY m.length 17 [(1,.slice a2 m.length c2),(2,.func (.func 121) #[] #[]),(15,.slice a1 m.length c1),(16,.int .i64 (m.length:Int))] (fun i e h=>∃ T' M',aH T T'/\bh M M'/\h=⟨T',M',[],[]⟩/\im (l.drop i) (m.drop i)=im l m) 0 (by omega) (by simp only [aG,bw,go_sem,sevalprocAttr]) (by simp only [go_sem,sevalprocAttr]) ⟨T,M,aH.rfl',bh.rfl',rfl,rfl⟩ ?_
  rintro i e h hi aI ht ⟨T1,M1,cV,aV,rfl,ax⟩
  simp only [aG] at aI
  by_cases aN:i<m.length
  ·have kD:i<l.length:=by omega
   obtain ⟨p1,o1,cs1,rfl,Ch,vC⟩:=ly i l[i] (gq kD)
   obtain ⟨p2,o2,cs2,rfl,kf,wu⟩:=tg i m[i] (gq aN)
   have hdl:l.drop i=l[i]::l.drop (i+1):=dq kD
   have hdm:m.drop i=m[i]::m.drop (i+1):=dq aN
   rw [hdl,hdm,im] at ax
   obtain ⟨s1,Dn,gF,_⟩:=bR vC
   obtain ⟨s2,QN,lZ,_⟩:=bR wu
   subst Dn QN
   obtain ⟨y0,y1,y2,y3,y4,y5,y6⟩:=At7 (Ch.ext aV)
   obtain ⟨z0,z1,z2,z3,z4,z5,z6⟩:=At7 (kf.ext aV)
   simp +contextual only [go_sem,aE,sevalprocAttr,aI,ht,aN,y0,y1,y2,y3,y4,y5,y6,z0,z1,z2,z3,z4,z5,z6,gF,lZ]
   intro b8 T8 mG qI vH b9 T9 lu eN oY l4
   refine aD (Oy (h l[i] (gm kD)) (bB aV _ _ vC) (bB aV _ _ wu) T9) ?_
   rintro v M2 bg _ rfl
   have hT:=(cV.trans qI).trans oY
   cases hb:gW l[i] m[i] with
   | true=>
    rw [hb,Bool.true_and] at ax
    simp +contextual only [go_sem,aE,sevalprocAttr,ht]
    refine aR (cX (az ⟨m.length - (i+1),by omega,rfl,i+1,by omega,rfl,?_,?_,T9,M2,hT,aV.trans bg,rfl,ax⟩))
    ·simp only [aG,aI,go_sem,sevalprocAttr]
    ·simp only [go_sem,sevalprocAttr,aB i (by omega)]
   | false=>
    rw [hb,Bool.false_and] at ax
    simp +contextual only [go_sem,aE,sevalprocAttr]
    exact am hT (by rw [<- ax])
  ·have:i=m.length:=by omega
   subst this
   have pC:l.drop m.length=[]:=by rw [<- bw];exact List.drop_length
   rw [List.drop_length,pC] at ax
   simp +contextual only [go_sem,aE,sevalprocAttr,aI,ht,aN]
   exact am cV (by rw [<- ax];rfl)
 ·have cD:¬ (l.length:Int)=m.length:=by omega
  have:im l m=false:=xH bw
  simp +contextual only [go_sem,aE,sevalprocAttr,cD]
  exact am aH.rfl' (by rw [this])
theorem MN:∀ (sz:Nat) (x:X),SizeOf.sizeOf x<=sz ->SmB x:=by
 intro sz
 induction sz with
 | zero=>intro x hx;cases x;simp at hx
 | succ sz ih=>
  intro x ej M T b o b' o' y cs cs' ha hx ha' hy
  obtain ⟨s,hs,m0,m1,m2,m3,m4,m5,m6⟩:=uJ hx ha
  obtain ⟨s',Dm,n0,n1,n2,n3,n4,n5,n6⟩:=uJ hy ha'
  cases x with | mk k v tab name kids=>
  cases y with | mk k' v' tab' name' kids'=>
  simp only [X.k,X.v,X.tab,X.name,X.kids] at m0 m1 m2 m3 m4 m5 m6 hs n0 n1 n2 n3 n4 n5 n6 Dm
  rw [gW]
  refine aC F78 rfl rfl ?_
  intro bi _
  by_cases hk:k=k'
  ·subst hk
   by_cases h1:k=1
   ·subst h1
    simp +contextual only [go_sem,sevalprocAttr]
    refine aU ?_
    simp +contextual only [go_sem,aE,sevalprocAttr,m0,n0]
    refine aU ?_
    simp +contextual only [go_sem,sevalprocAttr,m1,m2,m3,n1,n2,n3]
    refine aD (lB v T) ?_
    rintro r M1 aV _ rfl
    replace n1:=ay aV n1
    replace n2:=ay aV n2
    replace n3:=ay aV n3
    simp +contextual only [go_sem,sevalprocAttr]
    refine ⟨ql aV,?_⟩
    refine aD (lB v' T) ?_
    rintro r M2 bg _ rfl
    simp +contextual only [go_sem,sevalprocAttr,Yx]
    refine ⟨ql (aV.trans bg),?_⟩
    exact am aH.rfl' rfl
   ·by_cases h2:k=2
    ·subst h2
     simp +contextual only [go_sem,sevalprocAttr]
     refine aU ?_
     simp +contextual only [go_sem,aE,sevalprocAttr,m0,n0]
     refine aU ?_
     simp +contextual only [go_sem,sevalprocAttr,m4,m5,n4,n5]
     by_cases ht:tab=tab'
     ·rw [if_pos ht]
      refine am aH.rfl' ?_
      subst ht
      simp
     ·rw [if_neg ht]
      refine am aH.rfl' ?_
      simp
    ·simp +contextual only [go_sem,sevalprocAttr]
     refine aU ?_
     simp +contextual only [go_sem,aE,sevalprocAttr,m0,n0,h1,h2]
     refine aU ?_
     simp +contextual only [go_sem,sevalprocAttr,m6,n6]
     refine aD (Mr (fun x hx=>ih x ?_) hs Dm T) ?_
     ·have h1:=List.sizeOf_lt_of_mem hx
      simp only [X.mk.sizeOf_spec] at ej
      omega
     rintro r M1 aV _ rfl
     simp +contextual only [go_sem,sevalprocAttr]
     exact am aH.rfl' (by simp [h1,h2])
  ·simp +contextual only [go_sem,sevalprocAttr]
   refine aU ?_
   simp +contextual only [go_sem,aE,sevalprocAttr,m0,n0,hk]
   exact am aH.rfl' rfl
mutual
def zx:X ->Prop
 | .mk k v tab name kids=>(kids.length:Int)=kW k/\(k=1 ->1<=v.k/\v.k<=4)/\Xd kids
def Xd:List X ->Prop
 | []=>True
 | x::l=>zx x/\Xd l
end
theorem xg:∀ {l:List X},Xd l ->∀ x∈l,zx x
 | _::_,h,_,hy=>by
  rcases rP hy with rfl | hy
  ·exact h.1
  ·exact xg h.2 _ hy
theorem Gg (k:Int):kW k<=3:=by unfold kW;repeat' split<;>omega
theorem ZV {a:Option Addr}:gZ Tryz.prog .neq 98 (.pointer a) (.pointer none)=some (.bool (!a.isNone)):=by
 show (if xR Tryz.prog 98=true then some (Value.bool (!a.isNone)) else none)=_
 rw [if_pos (by kernel_rfl)]
theorem adP {a:Option Addr}:gZ Tryz.prog .eql 98 (.pointer a) (.pointer none)=some (.bool a.isNone):=by
 show (if xR Tryz.prog 98=true then some (Value.bool a.isNone) else none)=_
 rw [if_pos (by kernel_rfl)]
theorem xb:∀ {L:LL} {M:aS} {a:Addr} {o:Option Value},aJ M L ->dK L a=some o ->M a.block=none
 | (b,cs)::L,M,a,o,hn,h=>by
  by_cases hb:a.block=b
  ·rw [hb];exact hn.1
  ·rw [dK,if_neg hb] at h
   exact xb hn.2 h
theorem em {T0 T:Tm}{M M':aS}{L:LL}{R0 R:RR}(h:bh M M')(hn:aJ M' L):fZ ⟨T0,M,L,R0⟩ ⟨T,M',L,R⟩:=by
 intro a v hv
 simp only [Sh.cell] at hv ⊢
 cases hm:aQ M a with
 | some u=>
  rw [hm] at hv
  rw [ay h hm];exact hv
 | none=>
  rw [hm] at hv
  cases hl:dK L a with
  | none=>rw [hl] at hv;simp at hv
  | some o=>
   have hb:=xb hn hl
   have:aQ M' a=none:=by
    obtain ⟨k,f,sp⟩:=a
    unfold aQ
    cases sp with
    | none=>simp only at hb ⊢;rw [hb];rfl
    | some q=>simp
   rw [this]
   rw [hl] at hv
   exact hv
theorem dX {T0 T:Tm}{M M':aS}{L:LL}{R0 R:RR}{b:Nat}{cs:List Value}(h:bh M M')(hn:aJ M' L)(hb:ce b L):fZ ⟨T0,M,L,R0⟩ ⟨T,M',(b,cs)::L,R⟩:=by
 intro a v hv
 have h1:=em (T:=T) (R:=R) h hn a v hv
 simp only [Sh.cell] at h1 hv ⊢
 cases hm:aQ M' a with
 | some u=>rw [hm] at h1;exact h1
 | none=>
  rw [hm] at h1
  cases hl:dK L a with
  | none=>rw [hl] at h1;simp at h1
  | some o=>
   have cD:a.block≠b:=fun TO=>by
    have:∀ {L:LL},ce b L ->dK L a=none:=by
     intro L
     induction L with
     | nil=>intro _;rfl
     | cons p l ih=>
      obtain ⟨k,ds⟩:=p
      intro fX
      rw [dK,if_neg (by rw [TO];exact fX.1.1)]
      exact ih fX.2
    rw [this hb] at hl;cases hl
   rw [dK,if_neg cD]
   exact h1
def Wl (y:Ex)(v:Value)(M:aS):Prop:=∃ cs,v=.agg ⟨cs⟩/\gU M y cs
theorem fk (M:aS):gU M ei [.int .i64 0,.int .i64 0,.int .i64 0,st [],.int .i64 0,.slice none 0 0]:=jc.2 ⟨_,rfl,bu⟩
theorem GY (M:aS)(i:Nat):gU M (DP i) [.int .i64 2,.int .i64 0,.int .i64 0,st [],.int .i64 (i:Int),.slice none 0 0]:=jc.2 ⟨_,rfl,bu⟩
theorem SU (M:aS)(v:V):gU M (.mk 1 v 0 []) [.int .i64 1,.int .i64 v.k,.int .i64 v.n,st v.t,.int .i64 0,.slice none 0 0]:=jc.2 ⟨_,rfl,bu⟩
def qK {α:Type}(acc:List α):Except Int (List α) ->Except Int (List α)
 | .ok l=> .ok (acc++l)
 | .error e=> .error e
theorem pI {α:Type}(r:Except Int (List α)):qK [] r=r:=by cases r<;>rfl
def BL {α:Type}(a:α):Except Int (List α) ->Except Int (List α)
 | .ok l=> .ok (a::l)
 | .error e=> .error e
theorem ni {α:Type}(acc:List α)(a:α)(r:Except Int (List α)):qK (acc++[a]) r=qK acc (BL a r):=by
 cases r with
 | ok l=>simp [qK,BL]
 | error e=>rfl
theorem AW {names:List (Bs×Bs)}{x:X}{l:List X}{y:Ex}(h:jJ names x=.ok y):dn names (x::l)=BL y (dn names l):=by
 rw [dn,h]
 cases dn names l<;>rfl
theorem zi {names:List (Bs×Bs)}{x:X}{l:List X}{e:Int}(h:jJ names x=.error e):dn names (x::l)=.error e:=by
 rw [dn,h]
def ExB (names:List (Bs×Bs))(x:X):Prop:=∀ (M:aS) (T:Tm) (sb:Nat) (lv kv av:Value) (b o:Nat) (cs:List Value),RS M GL 2 names lv ->M sb=some [lv,kv,av,.pointer none] ->At M b o cs ->RX M x cs ->
 cw Tryz.prog 37 [.pointer (some ⟨sb,0,none⟩),.pointer (some ⟨b,o,none⟩)] T M [] [] (uY Wl (jJ names x)) (qD (jJ names x))
theorem Cl {names:List (Bs×Bs)}{l:List X}(h:∀ x∈l,ExB names x)(bw:l.length<=1048576){M:aS}{sb:Nat}{lv kv av sv:Value}(hl:RS M GL 2 names lv)(TN:M sb=some [lv,kv,av,.pointer none])(hs:RS M (RX M) 7 l sv)(T:Tm):
 cw Tryz.prog 31 [.pointer (some ⟨sb,0,none⟩),sv] T M [] [] (uY (fun l v M=>RS M (gU M) 6 l v) (dn names l)) (qD (dn names l)):=by
 obtain ⟨fS,a,c,rfl,dJ,_,hg⟩:=aF (by decide) (fun _ _=>dl) hs
 refine aC F31 rfl rfl ?_
 intro bi _
 simp +contextual only [go_sem,aE,sevalprocAttr]
 refine aY l.length 9 [(0,.pointer (some ⟨sb,0,none⟩)),(1,.slice a l.length c),(7,.slice a l.length c),(8,.int .i64 (l.length:Int))] (fun i e h=>∃ M' fv R acc,bh M M'/\h=⟨T,M',[],R⟩/\e 5=fv/\acc.length=i/\kV 38 6 (gU M') [] R fv acc/\qK acc (dn names (l.drop i))=dn names l) 0 (by omega) (by simp only [aG,go_sem,sevalprocAttr]) (by simp only [go_sem,sevalprocAttr]) ⟨M,_,_,[],bh.rfl',rfl,by simp only [go_sem,sevalprocAttr],rfl,dg,pI _⟩ ?_
 rintro i e h hi aI ht ⟨M1,fv,R,acc,aV,rfl,e5,iz,bC,ax⟩
 simp only [aG] at aI
 by_cases aN:i<l.length
 ·obtain ⟨b',o',cs',rfl,cG,fy⟩:=hg i l[i] (gq aN)
  have bA:l.drop i=l[i]::l.drop (i+1):=dq aN
  rw [bA] at ax
  simp +contextual only [go_sem,aE,sevalprocAttr,aI,ht,aN]
  refine bS (h l[i] (gm aN) M1 T sb lv kv av b' _ cs' (aL aV (fun _ _ h=>h) hl) (aV _ _ TN) (cG.ext aV) (bB aV _ _ fy)) ?_ ?_
  ·rintro v M2 bg aZ ⟨y,hy,cs,rfl,wN⟩
   rw [AW hy,<- ni] at ax
   have cO:=dW wN
   simp +contextual only [go_sem,sevalprocAttr,e5,cO]
   intro b6 oZ
   refine cy (Tryz.underlying36) Eh Gd (gJ (cu bg) bC) wN (fun _ _=>dW) (mV wN) oZ (by omega) (by decide) ?_
   intro fv' R' bI
   simp +contextual only [go_sem,sevalprocAttr,ht]
   refine aR (ak (az ⟨l.length - (i+1),by omega,rfl,i+1,by omega,rfl,?_,?_,M2,fv',R',acc++[y],aV.trans bg,rfl,?_,?_,bI,ax⟩))
   ·simp only [aG,aI,go_sem,sevalprocAttr]
   ·simp only [go_sem,sevalprocAttr,aB i (by omega)]
   ·simp only [go_sem,sevalprocAttr]
   ·rw [List.length_append,iz];rfl
  ·rintro ch M2 bg aZ ⟨er,he,rfl⟩
   rw [zi he] at ax
   exact me aH.rfl' ax.symm
 ·have:i=l.length:=by omega
  subst this
  rw [List.drop_length,dn] at ax
  simp +contextual only [go_sem,aE,sevalprocAttr,aI,ht,aN,e5]
  refine ct bC (by omega) (by decide) bi fun M2 bg aZ cC=>am aH.rfl' ⟨acc,?_,?_⟩
  ·rw [<- ax];simp [qK]
  ·exact aL bh.rfl' (cu bg) cC
theorem Nw {M:aS}{sb:Nat}{lv kv av xv:Value}(TN:M sb=some [lv,kv,av,.pointer none])(T:Tm):
 cw Tryz.prog 79 [.pointer (some ⟨sb,0,none⟩),xv] T M [] [] (fun _ _ _ _=>False) (qD (.error 8:Except Int Ex)):=by
 refine aC F79 rfl rfl ?_
 intro bi _
 simp +contextual only [go_sem,aE,sevalprocAttr,aX TN,adP]
 intro b4 T4 dI fj gH
 exact tN fj rfl
theorem exB (names:List (Bs×Bs)):∀ (sz:Nat) (x:X),SizeOf.sizeOf x<=sz ->zx x ->ExB names x:=by
 intro sz
 induction sz with
 | zero=>intro x hx;cases x;simp at hx
 | succ sz ih=>
  intro x ej cq M T sb lv kv av b o cs hl TN ha hx
  obtain ⟨s,hs,m0,m1,m2,m3,m4,m5,m6⟩:=uJ hx ha
  cases x with | mk k v tab name kids=>
  have Ds:=hx
  simp only [X.k,X.v,X.tab,X.name,X.kids] at m0 m1 m2 m3 m4 m5 m6 hs
  obtain ⟨oJ,_,Nu⟩:=cq
  have Oi:=Gg k
  obtain ⟨E,hE⟩:∃ E,E=jJ names (.mk k v tab name kids):=⟨_,rfl⟩
  rw [<- hE]
  rw [jJ] at hE
  refine aC F37 rfl rfl ?_
  intro bi _
  simp +contextual only [go_sem,aE,sevalprocAttr,aX TN,m0,ZV]
  intro b3 T3 gj fB hZ b4 T4 dI dY fj gH
  have hT:=fB.trans fj
  by_cases p7:19<=k
  ·rw [if_pos p7] at hE
   simp +contextual only [go_sem,sevalprocAttr,p7]
   refine bS (Nw TN T4) (fun _ _ _ _ h=>h.elim) ?_
   rintro ch M1 aV bG ⟨er,he,rfl⟩
   injection he with he
   subst he
   exact me hT hE
  rw [if_neg p7] at hE
  by_cases h2:k=2
  ·subst h2
   rw [if_pos rfl] at hE
   simp +contextual only [go_sem,sevalprocAttr]
   refine bS (WG hl TN ha hx T4) ?_ ?_
   ·rintro r M1 aV bG ⟨i,hi,rfl⟩
    simp only [X.tab,X.name] at hi
    rw [hi] at hE
    simp only [aJ,and_true] at bG
    simp +contextual only [go_sem,sevalprocAttr,bG]
    exact am hT ⟨_,hE,_,rfl,GY _ _⟩
   ·rintro ch M1 aV bG ⟨er,he,rfl⟩
    simp only [X.tab,X.name] at he
    rw [he] at hE
    exact me hT hE
  rw [if_neg h2] at hE
  by_cases h1:k=1
  ·subst h1
   rw [if_pos rfl] at hE
   simp +contextual only [go_sem,sevalprocAttr,dI,m1,m2,m3]
   exact am hT ⟨_,hE,_,rfl,SU _ v⟩
  rw [if_neg h1] at hE
  simp +contextual only [go_sem,sevalprocAttr,p7,h1,h2]
  refine aU ?_
  simp +contextual only [go_sem,sevalprocAttr,gj,dY,m0,m6]
  refine bS (Cl (fun x hx=>ih x (by
   have h1:=List.sizeOf_lt_of_mem hx
   simp only [X.mk.sizeOf_spec] at ej
   omega) (xg Nu x hx)) (by omega) hl TN hs T4) ?_ ?_
  ·rintro r M1 aV bG ⟨l,hl,cC⟩
   rw [hl] at hE
   simp only [aJ,and_true] at bG
   obtain ⟨r1,r2⟩:=cR cC
   have r2m:=r2
   simp only [Value.cells] at r2m
   simp +contextual only [go_sem,sevalprocAttr,bG,r1,r2m]
   refine ⟨em aV ⟨bG.1,bG.2,trivial⟩,?_⟩
   exact am hT ⟨_,hE,_,rfl,jc.2 ⟨_,rfl,cC⟩⟩
  ·rintro ch M1 aV bG ⟨er,he,rfl⟩
   rw [he] at hE
   exact me hT hE
theorem df {F:Fi}{f:FuncId}{args:List Value}{dd:Option Nat}{s:List Vc.Item}{e:dj}{ds:List Deferred}{N:Tm}{M:aS}(L1:LL){b:Nat}{cs:List Value}{L2:LL}{R:RR}(hb:de Tryz.prog f=true)
 (h:∀ M',bh M M' ->M' b=some cs ->aJ M' (L1++L2) ->dk Tryz.prog F f args dd s e ds ⟨N,M',L1++L2,R⟩ ⟨⟩):dk Tryz.prog F f args dd s e ds ⟨N,M,L1++(b,cs)::L2,R⟩ ⟨⟩:=
 cQ (k:=fun h'=>∃ M',bh M M'/\M' b=some cs/\aJ M' (L1++L2)/\h'=⟨N,M',L1++L2,R⟩) (dm List.perm_middle (aT fun he h1 h2=>az ⟨_,he,h1,h2,rfl⟩))
  (by rintro h' ⟨M',he,h1,h2,rfl⟩;exact h M' he h1 h2) hb
theorem AI {p:X ->Bool}{l:List X}{gf:FuncId}{fa fc:List Value}{M:aS}{lv:Value}(hs:RS M (RX M) 7 l lv)(aco:de Tryz.prog gf=true)
 (hf:∀ x∈l,∀ (M':aS) (T:Tm) (cs:List Value),bh M M' ->RX M' x cs ->cw Tryz.prog gf (fa++(.agg ⟨cs⟩::fc)) T M' [] [] (fun r _ _ _=>r=.bool (p x)) aO) (T:Tm):
 cw Tryz.prog 76 [lv,.func (.func gf) ⟨fa⟩ ⟨fc⟩] T M [] [] (fun r _ _ _=>r=.int .i64 (oO (l.findIdx? p))) aO:=by
 obtain ⟨fS,a,c,rfl,dJ,_,hg⟩:=aF (by decide) (fun _ _=>dl) hs
 refine aC F76 rfl rfl ?_
 intro bi _
 simp +contextual only [go_sem,aE,sevalprocAttr]
 refine aY l.length 8 [(0,.slice a l.length c),(1,.func (.func gf) ⟨fa⟩ ⟨fc⟩),(7,.int .i64 (l.length:Int))] (fun i e h=>∃ M',bh M M'/\h=⟨T,M',[],[]⟩/\l.findIdx? p=((l.drop i).findIdx? p).map (·+i)) 0 (by omega) (by simp only [aG,go_sem,sevalprocAttr]) (by simp only [go_sem,sevalprocAttr]) ⟨M,bh.rfl',rfl,by simp⟩ ?_
 rintro i e h hi aI ht ⟨M1,aV,rfl,ax⟩
 simp only [aG] at aI
 by_cases aN:i<l.length
 ·obtain ⟨p1,o1,cs1,rfl,Ch,vC⟩:=hg i l[i] (gq aN)
  have hdl:l.drop i=l[i]::l.drop (i+1):=dq aN
  rw [hdl,List.findIdx?_cons] at ax
  obtain ⟨s1,Dn,gF,_⟩:=bR vC
  subst Dn
  obtain ⟨y0,y1,y2,y3,y4,y5,y6⟩:=At7 (Ch.ext aV)
  simp +contextual only [go_sem,aE,sevalprocAttr,aI,ht,aN,y0,y1,y2,y3,y4,y5,y6]
  refine aD (hf l[i] (gm aN) M1 T _ aV (bB aV _ _ vC)) ?_
  rintro v M2 bg _ rfl
  cases hb:p l[i] with
  | true=>
   rw [hb] at ax
   simp +contextual only [go_sem,aE,sevalprocAttr]
   exact am aH.rfl' (by rw [ax];simp [oO])
  | false=>
   rw [hb] at ax
   simp +contextual only [go_sem,aE,sevalprocAttr,ht]
   refine cI aN ?_ ?_ ⟨M2,aV.trans bg,rfl,?_⟩
   ·simp only [aG,aI,go_sem,sevalprocAttr]
   ·simp only [go_sem,sevalprocAttr,aB i (by omega)]
   ·rw [ax]
    cases (l.drop (i+1)).findIdx? p<;>simp;omega
 ·have:i=l.length:=by omega
  subst this
  rw [List.drop_length] at ax
  simp +contextual only [go_sem,aE,sevalprocAttr,aI,ht,aN]
  exact am aH.rfl' (by rw [ax];rfl)
theorem FC {α:Type}(p:α ->Bool):∀ (l:List α),decide ((0:Int)<=oO (l.findIdx? p))=l.any p:=by
 intro l
 cases h:l.findIdx? p with
 | none=>
  have:∀ x∈l,p x=false:=by
   rw [List.findIdx?_eq_none_iff] at h
   simpa using h
  rw [List.any_eq_false.2 (by simpa using this)]
  rfl
 | some i=>
  have hi:=List.findIdx?_eq_some_iff_getElem.1 h
  obtain ⟨aN,hp,_⟩:=hi
  rw [List.any_eq_true.2 ⟨l[i],gm aN,hp⟩]
  simp [oO]
theorem B0 {p:X ->Bool}{l:List X}{gf:FuncId}{fa fc:List Value}{M:aS}{lv:Value}(hs:RS M (RX M) 7 l lv)(aco:de Tryz.prog gf=true)
 (hf:∀ x∈l,∀ (M':aS) (T:Tm) (cs:List Value),bh M M' ->RX M' x cs ->cw Tryz.prog gf (fa++(.agg ⟨cs⟩::fc)) T M' [] [] (fun r _ _ _=>r=.bool (p x)) aO) (T:Tm):
 cw Tryz.prog 109 [lv,.func (.func gf) ⟨fa⟩ ⟨fc⟩] T M [] [] (fun r _ _ _=>r=.bool (l.any p)) aO:=by
 refine aC ajz rfl rfl ?_
 intro bi _
 simp +contextual only [go_sem,sevalprocAttr]
 refine aD (AI hs aco hf T) ?_
 rintro v M1 aV _ rfl
 simp +contextual only [go_sem,sevalprocAttr]
 exact am aH.rfl' (by rw [FC])
def SpX (x:X):Prop:=∀ (M:aS) (T:Tm) (b o:Nat) (cs:List Value),At M b o cs ->RX M x cs ->cw Tryz.prog 65 [.pointer (some ⟨b,o,none⟩)] T M [] [] (fun r _ _ _=>r=.bool (qO x)) aO
theorem Hh {x:X}(h:SpX x){M:aS}{cs:List Value}(hx:RX M x cs)(T:Tm):cw Tryz.prog 110 [.agg ⟨cs⟩] T M [] [] (fun r _ _ _=>r=.bool (qO x)) aO:=by
 have hl:=dl hx
 refine aC ad6 rfl rfl ?_
 intro bi _
 simp +contextual only [go_sem,sevalprocAttr]
 intro b2 T2 ey dV fG
 refine di F65.bd fun M1 aV Ie bG=> ?_
 refine aD (h M1 T2 b2 0 _ (kJ Ie _ 0 (by simp)) (bB aV _ _ hx)) ?_
 rintro v M2 bg _ rfl
 simp +contextual only [go_sem,sevalprocAttr]
 exact am dV rfl
theorem FI:∀ (l:List X),UO l=l.any qO
 | []=>rfl
 | x::l=>by rw [UO,List.any_cons,FI l]
theorem spX:∀ (sz:Nat) (x:X),SizeOf.sizeOf x<=sz ->SpX x:=by
 intro sz
 induction sz with
 | zero=>intro x hx;cases x;simp at hx
 | succ sz ih=>
  intro x ej M T b o cs ha hx
  obtain ⟨s,hs,m0,m1,m2,m3,m4,m5,m6⟩:=uJ hx ha
  cases x with | mk k v tab name kids=>
  simp only [X.k,X.v,X.tab,X.name,X.kids] at m0 m1 m2 m3 m4 m5 m6 hs
  refine aC F65 rfl rfl ?_
  intro bi _
  by_cases p7:19<=k
  ·simp +contextual only [go_sem,sevalprocAttr,m0,p7]
   exact am aH.rfl' (by rw [qO];simp [p7])
  ·simp +contextual only [go_sem,sevalprocAttr,m0,m6,p7]
   refine aD (B0 (p:=qO) (fa:=[]) (fc:=[]) hs ad6.bd (fun x hx M' T' cs mW hc=>Hh (ih x ?_) hc T') T) ?_
   ·have h1:=List.sizeOf_lt_of_mem hx
    simp only [X.mk.sizeOf_spec] at ej
    omega
   rintro r M1 aV _ rfl
   simp +contextual only [go_sem,sevalprocAttr]
   exact am aH.rfl' (by rw [qO,FI];simp [p7])
def WQ (M:aS)(ab:Nat)(L:LL)(R:RR)(ags:List Ag):Prop:=∃ a c xs,L=[(ab,[.slice a ags.length c])]/\R=[(.slice a ags.length c,119,7,xs)]/\RL (F5 M) ags xs
theorem KJ {M M':aS}(he:bh M M'){ab L R ags}(h:WQ M ab L R ags):WQ M' ab L R ags:=by
 obtain ⟨a,c,xs,h1,h2,h3⟩:=h
 exact ⟨a,c,xs,h1,h2,cH (lg he) h3⟩
def Rj {α:Type}(ab:Nat)(enc:α ->Value ->aS ->Prop)(res:Except Int (α×List Ag)):ez:=fun v M' L' R'=>∃ a ags,res=.ok (a,ags)/\enc a v M'/\WQ M' ab L' R' ags
theorem Fh {α:Type}{T N:Tm}{M:aS}{L1 L:LL}{R1 R:RR}{dr ts e post}{ks:List Nat}{n:Nat}{res:Except Int α}{c:Int}(hT:aH T N)(hk:keys L=ks)(hn:R.length=n)(h:res=.error c):(fi Tryz.prog T dr ts ks n post (qD res)).pan (Ea c) e [] ⟨N,M,L1++L,R1++R⟩:=by
 rw [lT,jG]
 refine gp L1 ?_
 induction R1 with
 | nil=>exact aM hT hk hn ⟨c,h,rfl⟩
 | cons r R1 ih=>exact jt ih
theorem YB {α:Type}{T N:Tm}{M:aS}{L1 L:LL}{R1 R:RR}{dr ts e post d s}{ks:List Nat}{n:Nat}{res:Except Int α}{c:Int}(hT:aH T N)(hk:keys L=ks)(hn:R.length=n)(h:res=.error c):
 dk Tryz.prog (fi Tryz.prog T dr ts ks n post (qD res)) 66 [.int .i64 c] d s e [] ⟨N,M,L1++L,R1++R⟩ ⟨⟩:=by
 refine bS (Ew c M N) (fun _ _ _ _ h=>h.elim) ?_
 rintro ch M1 aV bG rfl
 exact Fh hT hk hn h
structure Gs (M:aS) (sb ab rb:Nat) (names:List (Bs×Bs)) (keys:List X) (lv kv cv kw aw:Value):Prop where
 s:M sb=some [cv,kv,.pointer (some ⟨ab,0,none⟩),.pointer (some ⟨rb,0,none⟩)]
 r:M rb=some [lv,kw,aw,.pointer none]
 n:RS M GL 2 names lv
 k:RS M (RX M) 7 keys kv
theorem Gs.ext {M M':aS}(he:bh M M'){sb ab rb names keys lv kv cv kw aw}(h:Gs M sb ab rb names keys lv kv cv kw aw):Gs M' sb ab rb names keys lv kv cv kw aw:=
 ⟨he _ _ h.s,he _ _ h.r,aL he (fun _ _ h=>h) h.n,aL he (bB he) h.k⟩
def Lz (names:List (Bs×Bs))(nk:Nat)(k:Int)(kids:List X)(ags:List Ag):Except Int (Ex×List Ag):=match Df names kids with
 | .ok a=> .ok (DP (nk+ags.length),ags++[⟨k - 18,a⟩])
 | .error e=> .error e
theorem PT {names nk k kids ags e}(h:Df names kids=.error e):Lz names nk k kids ags=.error e:=by unfold Lz;rw [h]
theorem U2 {names nk k kids ags a}(h:Df names kids=.ok a):Lz names nk k kids ags=.ok (DP (nk+ags.length),ags++[⟨k - 18,a⟩]):=by unfold Lz;rw [h]
theorem UZ {M:aS}{k:Int}{y:Ex}{cs:List Value}(h:gU M y cs):F5 M ⟨k,y⟩ (.int .i64 k::cs):=⟨cs,h,rfl⟩
theorem ZS {M:aS}{sb ab rb:Nat}{names:List (Bs×Bs)}{keys':List X}{lv kv cv kw aw:Value}{k:Int}{v:V}{tab name:Bs}{kids:List X}{b o:Nat}{cs:List Value}{ags:List Ag}{L:LL}{R:RR}(hG:Gs M sb ab rb names keys' lv kv cv kw aw)
 (ha:At M b o cs) (hx:RX M (.mk k v tab name kids) cs) (cq:zx (.mk k v tab name kids)) (hk:19<=k) (hA:WQ M ab L R ags) (bw:ags.length<=1048576) (oJ:keys'.length<=1048576) (T:Tm):
 cw Tryz.prog 79 [.pointer (some ⟨sb,0,none⟩),.pointer (some ⟨b,o,none⟩)] T M L R (Rj ab Wl (Lz names keys'.length k kids ags)) (qD (Lz names keys'.length k kids ags)):=by
 obtain ⟨s,hs,m0,m1,m2,m3,m4,m5,m6⟩:=uJ hx ha
 simp only [X.k,X.v,X.tab,X.name,X.kids] at m0 m1 m2 m3 m4 m5 m6 hs
 obtain ⟨Un,_,Nu⟩:=cq
 have an5:k<=23:=by
  unfold kW at Un
  repeat' split at Un
  all_goals omega
 obtain ⟨fS,sa,sc,rfl,dJ,_,hg⟩:=aF (by decide) (fun _ _=>dl) hs
 obtain ⟨aa,ac,xs,rfl,rfl,eJ⟩:=hA
 have jP:=dO (fun _ _=>oB) eJ
 refine aC F79 rfl rfl ?_
 intro bi _
 simp only [aJ,and_true] at bi
 have w1:IntKind.i64.wrap (k - 19)=k - 19:=bJ (by omega) (by omega)
 have w2:IntKind.i64.wrap (k - 19+1)=k - 18:=by rw [bJ (by omega) (by omega)];omega
 simp +contextual only [go_sem,sevalprocAttr,aX hG.s,adP]
 intro b4 T4 dI dY fj gH
 rw [cd,if_neg (by decide),kG]
 simp +contextual only [go_sem,sevalprocAttr,m0,m6,w1,w2]
 intro b5 T5 mp gK nw o9
 have hT:=fj.trans nw
 refine dQ (fun e ds h=>ds=[]/\e 0=.pointer (some ⟨sb,0,none⟩)/\e 4=.pointer (some ⟨b4,0,none⟩)/\e 5=.pointer (some ⟨b5,0,none⟩)/\∃ M' y c0 c1 c2 c3 c4 c5,bh M M'/\Df names kids=.ok y/\gU M' y [c0,c1,c2,c3,c4,c5]/\(∀ u∈[c0,c1,c2,c3,c4,c5],u.oneCell'=true)/\M' b5=none/\M' b4=none/\M' ab=none/\
  h=⟨T5,M',[(b5,[.int .i64 (k - 18),c0,c1,c2,c3,c4,c5]),(b4,[.int .i64 0,.int .i64 0,.int .i64 0,st [],.int .i64 0,.slice none 0 0]),(ab,[.slice aa ags.length ac])],[(.slice aa ags.length ac,119,7,xs)]⟩) (fun S' dU=> ?_) ?_
 ·cases kids with
  | nil=>
   have hz:¬ ((0:Int)<(([]:List X).length:Int)):=by decide
   simp +contextual only [go_sem,aE,sevalprocAttr]
   refine dU _ _ _ ⟨rfl,?_,?_,?_,M,ei,_,_,_,_,_,_,bh.rfl',rfl,fk M,?_,mp,dI,bi,rfl⟩
   ·simp only [go_sem,sevalprocAttr]
   ·simp only [go_sem,sevalprocAttr]
   ·simp only [go_sem,sevalprocAttr]
   ·exact mV (fk M)
  | cons x0 kr=>
   have hz:(0:Int)<((x0::kr:List X).length:Int):=by simp only [List.length_cons];omega
   have hz2:(1:Int)<=((x0::kr:List X).length:Int):=by simp only [List.length_cons];omega
   obtain ⟨b',o',cs',rfl,cG,fy⟩:=hg 0 x0 rfl
   rw [Nat.zero_mul,Nat.add_zero] at cG
   simp +contextual only [go_sem,aE,sevalprocAttr]
   refine aU ?_
   simp +contextual only [go_sem,sevalprocAttr,aX hG.s,m6]
   refine bS (exB names _ x0 (Nat.le_refl _) Nu.1 M T5 rb lv kw aw b' o' cs' hG.n hG.r cG fy) ?_ ?_
   ·rintro r M1 aV bG ⟨y,hy,cs1,rfl,wN⟩
    obtain ⟨s1,rfl,gF,_⟩:=dt wN
    simp only [aJ] at bG
    simp +contextual only [go_sem,sevalprocAttr,gF]
    refine ⟨em aV ⟨bG.1,bG.2.1,bG.2.2.1,trivial⟩,?_⟩
    refine dU _ _ _ ⟨rfl,?_,?_,?_,M1,y,_,_,_,_,_,_,aV,?_,wN,mV wN,bG.1,bG.2.1,bG.2.2.1,rfl⟩
    ·simp only [go_sem,sevalprocAttr]
    ·simp only [go_sem,sevalprocAttr]
    ·simp only [go_sem,sevalprocAttr]
    ·simp only [Df];exact hy
   ·rintro ch M1 aV bG ⟨er,he,rfl⟩
    refine Fh (L1:=[(b5,_),(b4,_)]) (R1:=[]) hT rfl rfl ?_
    exact PT (by simp only [Df];exact he)
 ·rintro e ds h ⟨rfl,e0,e4,e5,M1,y,c0,c1,c2,c3,c4,c5,aV,hy,wN,dL,n5,n4,na,rfl⟩
  have hG1:=hG.ext aV
  have ade:=cH (fun x cs h=>lg aV x cs h) eJ
  simp +contextual only [go_sem,sevalprocAttr]
  refine aU ?_
  simp +contextual only [go_sem,sevalprocAttr,e0,e5,aX hG1.s,n5,na,dY,gK]
  intro b6 oZ fq
  refine ⟨dX bh.rfl' ⟨n5,n4,na,trivial⟩ ⟨fq.1,fq.2.1,fq.2.2,trivial⟩,?_⟩
  have CR:=UZ (k:=k - 18) wN
  have adp:=dO (fun _ _=>oB) ade
  refine fK XY X3 (.slice _ 1 _ _ _ Tryz.underlying39 (bL [] oZ trivial rfl) (by
   intro u hu
   rcases rP hu with rfl | hu
   ·rfl
   ·exact dL u hu)) (by rw [adp];simp only [ln];omega) ?_
  intro ra rm rc iL
  have iH:rm=(ags++[⟨k - 18,y⟩]:List Ag).length:=by
   rw [adp] at iL
   simp only [List.length_append,ln] at iL ⊢
   omega
  subst iH
  obtain ⟨_,ka,kc,rfl,_⟩:=aF (by decide) (fun _ _=>dl) hG1.k
  have w3:IntKind.i64.wrap ((keys'.length:Int)+((ags++[⟨k - 18,y⟩]:List Ag).length:Int))=((keys'.length+ags.length+1:Nat):Int):=by
   rw [bJ (by simp only [List.length_append,ln];omega) (by simp only [List.length_append,ln];omega)]
   simp only [List.length_append,ln];omega
  have w4:IntKind.i64.wrap (((keys'.length+ags.length+1:Nat):Int) - 1)=((keys'.length+ags.length:Nat):Int):=by
   rw [bJ (by omega) (by omega)];omega
  simp +contextual only [go_sem,sevalprocAttr,dY,gK,fq]
  refine ⟨dX bh.rfl' ⟨n5,n4,na,trivial⟩ ⟨fq.1,fq.2.1,fq.2.2,trivial⟩,?_⟩
  refine aU ?_
  simp +contextual only [go_sem,sevalprocAttr,e0,e4,aX hG1.s,n4,na,dY,gK,fq,w3,w4]
  refine ak (ak (ak (aM hT rfl rfl ⟨_,_,U2 hy,⟨_,rfl,GY _ _⟩,ra,rc,_,rfl,rfl,cM ade (cA CR)⟩)))
theorem lL {F:Fi}{f:FuncId}{args:List Value}{dd:Option Nat}{s:List Vc.Item}{e:dj}{ds:List Deferred}{N:Tm}{M:aS}(L1:LL){Lp:LL}(R1:RR){Rp:RR}{post:ez}{pan:lX}
 (hc:cw Tryz.prog f args N M Lp Rp post pan)
 (hn:∀ v M' L' R',bh M M' ->keys L'=keys Lp ->R'.length=Rp.length ->aJ M' (L1++L') ->post v M' L' R' ->cj Tryz.prog F s (cB e dd v) ds ⟨N,M',L1++L',R1++R'⟩ ⟨⟩)
 (hp:∀ ch M' L' R',bh M M' ->keys L'=keys Lp ->R'.length=Rp.length ->pan ch M' L' R' ->F.pan ch e ds ⟨N,M',L1++L',R1++R'⟩):dk Tryz.prog F f args dd s e ds ⟨N,M,L1++Lp,R1++Rp⟩ ⟨⟩:=by
 have key:∀ (L2:LL) (R2:RR),L2=L1++Lp++[] ->R2=R1++Rp++[] ->dk Tryz.prog F f args dd s e ds ⟨N,M,L2,R2⟩ ⟨⟩:=by
  rintro _ _ rfl rfl
  refine fH L1 Lp [] R1 Rp [] hc (fun v M' L' R' hM hk hR bi hq=> ?_) (fun ch M' L' R' hM hk hR bi hq=> ?_)
  ·have k2:∀ (L2:LL) (R2:RR),L2=L1++L' ->R2=R1++R' ->cj Tryz.prog F s (cB e dd v) ds ⟨N,M',L2,R2⟩ ⟨⟩:=by
    rintro _ _ rfl rfl
    exact hn v M' L' R' hM hk hR (by simpa using bi) hq
   exact k2 _ _ (by simp) (by simp)
  ·have:=hp ch M' L' R' hM hk hR hq
   simpa using this
 exact key _ _ (by simp) (by simp)
theorem tK {α:Type}{F:Fi}{f:FuncId}{args:List Value}{dd:Option Nat}{s:List Vc.Item}{e:dj}{ds:List Deferred}{N:Tm}{M:aS}{el:TypeId}{sz:Nat}{r:α ->List Value ->Prop}{R0 R:RR}{fv:Value}{acc:List α}{post:ez}{pan:lX}(L1:LL){Lp:LL}
 (hc:cw Tryz.prog f args N M Lp R0 post pan) (h:kV el sz r R0 R fv acc)
 (hn:∀ v M' L' R0' R',bh M M' ->keys L'=keys Lp ->R0'.length=R0.length ->aJ M' (L1++L') ->post v M' L' R0' ->kV el sz r R0' R' fv acc ->cj Tryz.prog F s (cB e dd v) ds ⟨N,M',L1++L',R'⟩ ⟨⟩)
 (hp:∀ ch M' L' R1 R0',bh M M' ->keys L'=keys Lp ->R0'.length=R0.length ->pan ch M' L' R0' ->F.pan ch e ds ⟨N,M',L1++L',R1++R0'⟩):dk Tryz.prog F f args dd s e ds ⟨N,M,L1++Lp,R⟩ ⟨⟩:=by
 have key:∀ (R1:RR) (R2:RR) (L2:LL),L2=L1++Lp++[] ->R2=R1++R0++[] ->(∀ R0',kV el sz r R0' (R1++R0') fv acc) ->dk Tryz.prog F f args dd s e ds ⟨N,M,L2,R2⟩ ⟨⟩:=by
  rintro R1 _ _ rfl rfl bC
  refine fH L1 Lp [] R1 R0 [] hc (fun v M' L' R' hM hk hR bi hq=> ?_) (fun ch M' L' R' hM hk hR bi hq=> ?_)
  ·have k2:∀ (L2:LL) (R2:RR),L2=L1++L' ->R2=R1++R' ->cj Tryz.prog F s (cB e dd v) ds ⟨N,M',L2,R2⟩ ⟨⟩:=by
    rintro _ _ rfl rfl
    exact hn v M' L' R' _ hM hk hR (by simpa using bi) hq (bC R')
   exact k2 _ _ (by simp) (by simp)
  ·have:=hp ch M' L' R1 R' hM hk hR hq
   simpa using this
 rcases h with ⟨rfl,rfl,rfl⟩ | ⟨a,c,xs,rfl,h3,rfl⟩
 ·exact key [] _ _ (by simp) (by simp) fun R0'=> .inl ⟨rfl,rfl,rfl⟩
 ·exact key [(.slice a acc.length c,el,sz,xs)] _ _ (by simp) (by simp) fun R0'=> .inr ⟨a,c,xs,rfl,h3,rfl⟩
mutual
def vQ:X ->Nat
 | .mk _ _ _ _ kids=>1+oR kids
def oR:List X ->Nat
 | []=>0
 | x::l=>vQ x+oR l
end
mutual
theorem qh {names:List (Bs×Bs)}{keys:List X}:∀ (x:X) (ags:List Ag) (y:Ex) (ags':List Ag),nq names keys x ags=.ok (y,ags') ->ags'.length<=ags.length+vQ x
 | .mk k v tab name kids,ags,y,ags',h=>by
  rw [nq] at h
  rw [vQ]
  split at h
  ·injection h with h;injection h with h1 h2;subst h2;omega
  ·split at h
   ·split at h
    ·injection h with h;injection h with h1 h2;subst h2;simp
    ·cases h
   ·split at h
    ·cases h
    ·split at h
     ·injection h with h;injection h with h1 h2;subst h2;omega
     ·split at h
      ·rename_i l hl
       injection h with h;injection h with h1 h2;subst h2
       have:=wD kids ags l.1 l.2 hl
       omega
      ·cases h
theorem wD {names:List (Bs×Bs)}{keys:List X}:∀ (l:List X) (ags:List Ag) (ys:List Ex) (ags':List Ag),dP names keys l ags=.ok (ys,ags') ->ags'.length<=ags.length+oR l
 | [],ags,ys,ags',h=>by
  rw [dP] at h
  injection h with h;injection h with h1 h2;subst h2;omega
 | x::l,ags,ys,ags',h=>by
  rw [dP] at h
  rw [oR]
  split at h
  ·cases h
  ·rename_i y hy
   split at h
   ·rename_i m hm
    injection h with h;injection h with h1 h2;subst h2
    have h1:=qh x ags y.1 y.2 hy
    have h2:=wD l y.2 m.1 m.2 hm
    omega
   ·cases h
end
def FA {α:Type}(acc:List α):Except Int (List α×List Ag) ->Except Int (List α×List Ag)
 | .ok (l,g)=> .ok (acc++l,g)
 | .error e=> .error e
def TL {α:Type}(a:α):Except Int (List α×List Ag) ->Except Int (List α×List Ag)
 | .ok (l,g)=> .ok (a::l,g)
 | .error e=> .error e
theorem Fa {α:Type}(r:Except Int (List α×List Ag)):FA [] r=r:=by cases r<;>rfl
theorem Bt {α:Type}(acc:List α)(a:α)(r:Except Int (List α×List Ag)):FA (acc++[a]) r=FA acc (TL a r):=by
 cases r with
 | ok l=>simp [FA,TL]
 | error e=>rfl
theorem A9 {names:List (Bs×Bs)}{keys:List X}{x:X}{l:List X}{ags ags':List Ag}{y:Ex}(h:nq names keys x ags=.ok (y,ags')):dP names keys (x::l) ags=TL y (dP names keys l ags'):=by
 rw [dP,h]
 simp only
 cases dP names keys l ags'<;>rfl
theorem yZ {names:List (Bs×Bs)}{keys:List X}{x:X}{l:List X}{ags:List Ag}{e:Int}(h:nq names keys x ags=.error e):dP names keys (x::l) ags=.error e:=by
 rw [dP,h]
def ExG (names:List (Bs×Bs))(keys':List X)(x:X):Prop:=∀ (M:aS) (T:Tm) (sb ab rb:Nat) (lv kv cv kw aw:Value) (b o:Nat) (cs:List Value) (ags:List Ag) (L:LL) (R:RR),Gs M sb ab rb names keys' lv kv cv kw aw ->At M b o cs ->RX M x cs ->WQ M ab L R ags ->ags.length+vQ x<=1048576 ->
 cw Tryz.prog 37 [.pointer (some ⟨sb,0,none⟩),.pointer (some ⟨b,o,none⟩)] T M L R (Rj ab Wl (nq names keys' x ags)) (qD (nq names keys' x ags))
theorem su {M:aS}{ab:Nat}{L:LL}{R:RR}{ags:List Ag}(h:WQ M ab L R ags):keys L=[ab]/\R.length=1:=by
 obtain ⟨a,c,xs,rfl,rfl,_⟩:=h
 exact ⟨rfl,rfl⟩
theorem Wm {names:List (Bs×Bs)}{keys':List X}{l:List X}(h:∀ x∈l,ExG names keys' x)(bw:l.length<=1048576){M:aS}{sb ab rb:Nat}{lv kv cv kw aw sv:Value}{ags:List Ag}{L:LL}{R:RR}(hG:Gs M sb ab rb names keys' lv kv cv kw aw)(hs:RS M (RX M) 7 l sv)(hA:WQ M ab L R ags)(Vm:ags.length+oR l<=1048576)(T:Tm):
 cw Tryz.prog 31 [.pointer (some ⟨sb,0,none⟩),sv] T M L R (Rj ab (fun l v M=>RS M (gU M) 6 l v) (dP names keys' l ags)) (qD (dP names keys' l ags)):=by
 obtain ⟨fS,a,c,rfl,dJ,_,hg⟩:=aF (by decide) (fun _ _=>dl) hs
 obtain ⟨kd,tB⟩:=su hA
 refine aC F31 rfl rfl ?_
 intro bi _
 simp +contextual only [go_sem,aE,sevalprocAttr]
 refine aY l.length 9 [(0,.pointer (some ⟨sb,0,none⟩)),(1,.slice a l.length c),(7,.slice a l.length c),(8,.int .i64 (l.length:Int))] (fun i e h=>∃ M' L' R0 R' fv acc agi,bh M M'/\h=⟨T,M',L',R'⟩/\aJ M' L'/\e 5=fv/\acc.length=i/\WQ M' ab L' R0 agi/\kV 38 6 (gU M') R0 R' fv acc/\agi.length+oR (l.drop i)<=1048576/\FA acc (dP names keys' (l.drop i) agi)=dP names keys' l ags) 0 (by omega) (by simp only [aG,go_sem,sevalprocAttr]) (by simp only [go_sem,sevalprocAttr]) ⟨M,L,R,R,_,[],ags,bh.rfl',rfl,bi,by simp only [go_sem,sevalprocAttr],rfl,hA,dg,Vm,Fa _⟩ ?_
 rintro i e h hi aI ht ⟨M1,L1,R0,R1,fv,acc,agi,aV,rfl,bG,e5,iz,hA1,bC,Yw,ax⟩
 simp only [aG] at aI
 obtain ⟨kY,Za⟩:=su hA1
 by_cases aN:i<l.length
 ·obtain ⟨b',o',cs',rfl,cG,fy⟩:=hg i l[i] (gq aN)
  have bA:l.drop i=l[i]::l.drop (i+1):=dq aN
  rw [bA] at ax Yw
  rw [oR] at Yw
  simp +contextual only [go_sem,aE,sevalprocAttr,aI,ht,aN]
  refine tK [] (h l[i] (gm aN) M1 T sb ab rb lv kv cv kw aw b' _ cs' agi L1 R0 (hG.ext aV) (cG.ext aV) (bB aV _ _ fy) hA1 (by omega)) bC ?_ ?_
  ·rintro v M2 L2 R2 R3 bg iJ hr2 aZ ⟨y,ag2,hy,⟨cs,rfl,wN⟩,Oe⟩ lI
   rw [A9 hy,<- Bt] at ax
   have uO:=qh _ _ _ _ hy
   have cO:=dW wN
   simp only [List.nil_append] at aZ
   simp +contextual only [go_sem,sevalprocAttr,e5,cO]
   intro b6 oZ fq
   refine cy (Tryz.underlying36) Eh Gd (gJ (cu bg) lI) wN (fun _ _=>dW) (mV wN) oZ (by omega) (by decide) ?_
   intro fv' R' bI
   simp +contextual only [go_sem,sevalprocAttr,ht]
   refine aR (ak (az ⟨l.length - (i+1),by omega,rfl,i+1,by omega,rfl,?_,?_,M2,L2,R2,R',fv',acc++[y],ag2,aV.trans bg,rfl,aZ,?_,?_,Oe,bI,by omega,ax⟩))
   ·simp only [aG,aI,go_sem,sevalprocAttr]
   ·simp only [go_sem,sevalprocAttr,aB i (by omega)]
   ·simp only [go_sem,sevalprocAttr]
   ·rw [List.length_append,iz];rfl
  ·rintro ch M2 L2 R2 R3 bg iJ hr2 ⟨er,he,rfl⟩
   rw [yZ he] at ax
   exact Fh (L1:=[]) (R1:=R2) aH.rfl' ((iJ.trans kY).trans kd.symm) (by omega) ax.symm
 ·have:i=l.length:=by omega
  subst this
  rw [List.drop_length,dP] at ax
  simp +contextual only [go_sem,aE,sevalprocAttr,aI,ht,aN,e5]
  refine ct bC (by omega) (by decide) bG fun M2 bg aZ cC=>aM aH.rfl' (kY.trans kd.symm) (by omega) ⟨acc,agi,?_,?_,KJ bg hA1⟩
  ·rw [<- ax];simp [FA]
  ·exact aL bh.rfl' (cu bg) cC
theorem NQ {x y:X}{M:aS}{b3 b o:Nat}{cs cs':List Value}(h3:M b3=some [.pointer (some ⟨b,o,none⟩)])(ha:At M b o cs)(hx:RX M x cs)(hy:RX M y cs')(T:Tm):
 cw Tryz.prog 77 [.agg ⟨cs'⟩,.pointer (some ⟨b3,0,none⟩)] T M [] [] (fun r _ _ _=>r=.bool (gW x y)) aO:=by
 have hl:=dl hy
 refine aC F77 rfl rfl ?_
 intro bi _
 simp +contextual only [go_sem,sevalprocAttr,aX h3]
 intro b2 T2 ey dV fG
 refine di F78.bd fun M1 aV Ie bG=> ?_
 refine aD (MN _ x (Nat.le_refl _) M1 T2 b o b2 0 y _ _ (ha.ext aV) (bB aV _ _ hx) (kJ Ie _ 0 (by simp)) (bB aV _ _ hy)) ?_
 rintro v M2 bg _ rfl
 simp +contextual only [go_sem,sevalprocAttr]
 exact am dV rfl
theorem exG (names:List (Bs×Bs))(keys':List X)(oJ:keys'.length<=1048576):∀ (sz:Nat) (x:X),SizeOf.sizeOf x<=sz ->zx x ->ExG names keys' x:=by
 intro sz
 induction sz with
 | zero=>intro x hx;cases x;simp at hx
 | succ sz ih=>
  intro x ej cq M T sb ab rb lv kv cv kw aw b o cs ags L R hG ha hx hA Vm
  obtain ⟨s,hs,m0,m1,m2,m3,m4,m5,m6⟩:=uJ hx ha
  obtain ⟨kd,tB⟩:=su hA
  cases x with | mk k v tab name kids=>
  have Ds:=hx
  simp only [X.k,X.v,X.tab,X.name,X.kids] at m0 m1 m2 m3 m4 m5 m6 hs
  obtain ⟨Un,Hk,Nu⟩:=cq
  have Oi:=Gg k
  rw [vQ] at Vm
  obtain ⟨E,hE⟩:∃ E,E=nq names keys' (.mk k v tab name kids) ags:=⟨_,rfl⟩
  rw [<- hE]
  rw [nq] at hE
  refine aC F37 rfl rfl ?_
  intro bi _
  simp +contextual only [go_sem,sevalprocAttr,aX hG.s,ZV]
  intro b3 T3 gj cL fB hZ b4 T4 dI dY fj gH
  have hT:=fB.trans fj
  rw [cd,if_pos (by rfl)]
  simp +contextual only [go_sem,sevalprocAttr,aX hG.s]
  refine df [(b4,_)] F76.bd fun M1 aV zO bG=> ?_
  have hG1:=hG.ext aV
  have ha1:=ha.ext aV
  have vC:=bB aV _ _ hx
  refine aD (AI (p:=fun y=>gW (.mk k v tab name kids) y) (fa:=[]) (fc:=[.pointer (some ⟨b3,0,none⟩)]) hG1.k F77.bd (fun y _ M' T' cs mW hc=>NQ (mW _ _ zO) (ha1.ext mW) (bB mW _ _ vC) hc T') T4) ?_
  rintro r M2 bg aZ rfl
  have eh:=aV.trans bg
  replace zO:=bg _ _ zO
  have hG2:=hG.ext eh
  have Zc:=ha.ext eh
  have wu:=bB eh _ _ hx
  have lZ:=aL eh (bB eh) hs
  have Oe:=KJ eh hA
  replace m0:=ay eh m0
  replace m1:=ay eh m1
  replace m2:=ay eh m2
  replace m3:=ay eh m3
  replace m6:=ay eh m6
  simp only [nn,aJ] at aZ
  cases hf:keys'.findIdx? (fun y=>gW (.mk k v tab name kids) y) with
  | some j=>
   rw [hf] at hE
   simp only at hE
   simp +contextual only [go_sem,aE,sevalprocAttr,oO,aZ]
   exact ak (aM hT rfl rfl ⟨_,_,hE,⟨_,rfl,GY _ _⟩,Oe⟩)
  | none=>
   rw [hf] at hE
   simp only at hE
   by_cases p7:19<=k
   ·rw [if_pos p7] at hE
    simp +contextual only [go_sem,aE,sevalprocAttr,oO,aX zO,m0,p7]
    refine lL [(b4,_)] [] (ZS hG2 Zc wu ⟨Un,Hk,Nu⟩ p7 Oe (by omega) oJ T4) ?_ ?_
    ·rintro r M3 L3 R3 bM wB W8 bj ⟨y,ag3,hy,⟨cs3,rfl,wN⟩,hA3⟩
     obtain ⟨s3,rfl,FU,_⟩:=dt wN
     simp only [nn,aJ] at bj
     simp +contextual only [go_sem,sevalprocAttr,bj,FU]
     refine ak (aM hT wB W8 ⟨y,ag3,?_,⟨_,rfl,wN⟩,hA3⟩)
     rw [hE];exact hy
    ·rintro ch M3 L3 R3 bM wB W8 ⟨er,he,rfl⟩
     exact Fh (L1:=[(b4,_)]) (R1:=[]) hT wB W8 (hE.trans he)
   rw [if_neg p7] at hE
   by_cases h2:k=2
   ·subst h2
    rw [if_pos rfl] at hE
    simp +contextual only [go_sem,aE,sevalprocAttr,oO,aX zO,m0,p7,ZV,aX hG2.s]
    exact YB (L1:=[(b4,_)]) (R1:=[]) hT rfl rfl hE
   rw [if_neg h2] at hE
   by_cases h1:k=1
   ·subst h1
    rw [if_pos rfl] at hE
    simp +contextual only [go_sem,aE,sevalprocAttr,oO,aZ,aX zO,m0,m1,m2,m3,p7]
    exact ak (aM hT rfl rfl ⟨_,_,hE,⟨_,rfl,SU _ v⟩,Oe⟩)
   rw [if_neg h1] at hE
   simp +contextual only [go_sem,aE,sevalprocAttr,oO,aX zO,m0,p7,h1,h2]
   refine eL ⟨T,M2,[],[]⟩ (ql bh.rfl') ?_
   simp +contextual only [go_sem,sevalprocAttr,aX zO,m0,m6]
   refine lL [(b4,_)] [] (Wm (fun x hx=>ih x (by
    have h1:=List.sizeOf_lt_of_mem hx
    simp only [X.mk.sizeOf_spec] at ej
    omega) (xg Nu x hx)) (by omega) hG2 lZ Oe (by omega) T4) ?_ ?_
   ·rintro r M3 L3 R3 bM wB W8 bj ⟨l,ag3,hl,cC,hA3⟩
    rw [hl] at hE
    simp only at hE
    obtain ⟨r1,r2⟩:=cR cC
    have r2m:=r2
    simp only [Value.cells] at r2m
    simp only [nn,aJ] at bj
    simp +contextual only [go_sem,sevalprocAttr,bj,r1,r2m]
    refine ⟨ql bM,ak (aM hT wB W8 ⟨.mk k qP 0 l,ag3,hE,⟨_,rfl,jc.2 ⟨r,rfl,cC⟩⟩,hA3⟩)⟩
   ·rintro ch M3 L3 R3 bM wB W8 ⟨er,he,rfl⟩
    rw [he] at hE
    exact Fh (L1:=[(b4,_)]) (R1:=[]) hT wB W8 hE
abbrev XZ (p:Pl)(s1 xv av s:Value):List Value:=[.int .i64 p.k,.int .i64 p.n,.int .i64 p.x.k,.int .i64 p.x.v.k,.int .i64 p.x.v.n,st p.x.v.t,.int .i64 p.x.c,s1,xv,av,s]
theorem fJ {M:aS}{p:Pl}{cs:List Value}(h:jV M p cs):∃ s1 a1 n1 a2 n2 a3 n3,cs=XZ p s1 (.slice a1 p.xs.length n1) (.slice a2 p.ags.length n2) (.slice a3 p.kids.length n3)/\s1.oneCell'=true/\
 RS M (gU M) 6 p.x.kids s1/\RS M (gU M) 6 p.xs (.slice a1 p.xs.length n1)/\RS M (F5 M) 7 p.ags (.slice a2 p.ags.length n2)/\RS M (jV M) 11 p.kids (.slice a3 p.kids.length n3):=by
 obtain ⟨xc,xv,av,s,rfl,h1,h2,h3,h4⟩:=lw.1 h
 obtain ⟨s1,rfl,gF,hk⟩:=dt h1
 obtain ⟨_,a1,n1,rfl,_⟩:=aF (by decide) (fun _ _=>dW) h2
 obtain ⟨_,a2,n2,rfl,_⟩:=aF (by decide) (fun _ _=>oB) h3
 obtain ⟨_,a3,n3,rfl,_⟩:=aF (by decide) (fun _ _=>lh) h4
 exact ⟨s1,a1,n1,a2,n2,a3,n3,rfl,gF,hk,h2,h3,h4⟩
theorem yX {M:aS}{p:Pl}{cs:List Value}(h:jV M p cs):∀ u∈cs,u.oneCell'=true:=by
 obtain ⟨s1,a1,n1,a2,n2,a3,n3,rfl,h1,_⟩:=fJ h
 intro u hu
 simp only [XZ,mn] at hu
 rcases hu with rfl | rfl | rfl | rfl | rfl | rfl | rfl | rfl | rfl | rfl | rfl<;>first | rfl | exact h1
theorem jx {M:aS}{r:Rel}{cs:List Value}(h:mD M r cs):∃ ca cn s1 a1 n1 a2 n2 a3 n3,cs=[st r.name,.slice ca r.cols.length cn,.bool r.view,.int .i64 r.plan.k,.int .i64 r.plan.n,.int .i64 r.plan.x.k,.int .i64 r.plan.x.v.k,.int .i64 r.plan.x.v.n,st r.plan.x.v.t,.int .i64 r.plan.x.c,s1,.slice a1 r.plan.xs.length n1,.slice a2 r.plan.ags.length n2,.slice a3 r.plan.kids.length n3]/\
 s1.oneCell'=true/\RS M sA 2 r.cols (.slice ca r.cols.length cn)/\jV M r.plan (XZ r.plan s1 (.slice a1 r.plan.xs.length n1) (.slice a2 r.plan.ags.length n2) (.slice a3 r.plan.kids.length n3)):=by
 obtain ⟨c,p,h1,h2,rfl⟩:=h
 obtain ⟨_,ca,cn,rfl,_⟩:=aF (by decide) (fun _ _=>eU) h1
 obtain ⟨s1,a1,n1,a2,n2,a3,n3,rfl,gF,_⟩:=fJ h2
 exact ⟨ca,cn,s1,a1,n1,a2,n2,a3,n3,rfl,gF,h1,h2⟩
theorem I4 {M:aS}{b o:Nat}{v0 v1 v2 v3 v4 v5 v6 v7 v8 v9 v10 v11 v12 v13:Value}(h:At M b o [v0,v1,v2,v3,v4,v5,v6,v7,v8,v9,v10,v11,v12,v13]):aQ M ⟨b,o,none⟩=some v0/\aQ M ⟨b,o+1,none⟩=some v1/\aQ M ⟨b,o+2,none⟩=some v2/\aQ M ⟨b,o+3,none⟩=some v3/\aQ M ⟨b,o+4,none⟩=some v4/\aQ M ⟨b,o+5,none⟩=some v5/\aQ M ⟨b,o+6,none⟩=some v6/\aQ M ⟨b,o+7,none⟩=some v7/\aQ M ⟨b,o+8,none⟩=some v8/\aQ M ⟨b,o+9,none⟩=some v9/\aQ M ⟨b,o+10,none⟩=some v10/\aQ M ⟨b,o+11,none⟩=some v11/\aQ M ⟨b,o+12,none⟩=some v12/\aQ M ⟨b,o+13,none⟩=some v13:=by
 obtain ⟨h0,h1,h2,h3,h4,h5,h6,h7,h8,h9,Jp,Yn,eh,lW,_⟩:=h
 exact ⟨h0,h1,h2,h3,h4,h5,h6,h7,h8,h9,Jp,Yn,eh,lW⟩
def YK (p:Pl)(v:Value)(M:aS):Prop:=∃ cs,v=.agg ⟨cs⟩/\jV M p cs
def adV (r:Pl×List Co)(v:Value)(M:aS):Prop:=∃ cs cv,v=.tuple ⟨[.agg ⟨cs⟩,cv]⟩/\jV M r.1 cs/\RS M sA 2 r.2 cv
theorem We (M:aS):jV M jw [.int .i64 0,.int .i64 0,.int .i64 0,.int .i64 0,.int .i64 0,st [],.int .i64 0,.slice none 0 0,.slice none 0 0,.slice none 0 0,.slice none 0 0]:=
 lw.2 ⟨_,_,_,_,rfl,fk M,bu,bu,bu⟩
theorem Qa (M:aS)(n:Nat):jV M (Cs n) [.int .i64 1,.int .i64 (n:Int),.int .i64 0,.int .i64 0,.int .i64 0,st [],.int .i64 0,.slice none 0 0,.slice none 0 0,.slice none 0 0,.slice none 0 0]:=
 lw.2 ⟨_,_,_,_,rfl,fk M,bu,bu,bu⟩
theorem wS (name:Bs)(n:Nat)(r:Rel)(l:List Rel):iR name n (r::l)=if r.name=name then some (if r.view=true then r.plan else Cs n,r.cols) else iR name (if r.view=true then n else n+1) l:=rfl
theorem aaz {M:aS}{bb:Nat}{rels:List Rel}{rv:Value}(name:Bs)(hr:RS M (mD M) 14 rels rv)(hbb:M bb=some [rv])(T:Tm):
 cw Tryz.prog 105 [.pointer (some ⟨bb,0,none⟩),st name] T M [] [] (uY adV (mc rels name)) (qD (mc rels name)):=by
 obtain ⟨fS,a,c,rfl,dJ,_,hg⟩:=aF (by decide) (fun _ _=>ew) hr
 have D3:iR name 0 rels=none ->mc rels name=.error 7:=fun h=>by unfold mc;rw [h]
 have KU:∀ {x},iR name 0 rels=some x ->mc rels name=.ok x:=fun h=>by unfold mc;rw [h]
 refine aC agP rfl rfl ?_
 intro bi _
 simp +contextual only [go_sem,aE,sevalprocAttr,aX hbb]
 intro b4 T4 dI fj gH
 refine aY rels.length 14 [(1,st name),(4,.pointer (some ⟨b4,0,none⟩)),(12,.slice a rels.length c),(13,.int .i64 (rels.length:Int))] (fun i e h=>∃ T' n,aH T4 T'/\h=⟨T',M,[(b4,[.int .i64 0,.int .i64 0,.int .i64 0,.int .i64 0,.int .i64 0,st [],.int .i64 0,.slice none 0 0,.slice none 0 0,.slice none 0 0,.slice none 0 0])],[]⟩/\e 6=.int .i64 ((n:Nat):Int)/\n<=i/\iR name n (rels.drop i)=iR name 0 rels) 0 (by omega) (by simp only [aG,go_sem,sevalprocAttr]) (by simp only [go_sem,sevalprocAttr]) ⟨T4,0,aH.rfl',rfl,by simp only [go_sem,sevalprocAttr],by omega,rfl⟩ ?_
 rintro i e h hi aI ht ⟨T1,n,cV,rfl,e6,hni,ax⟩
 simp only [aG] at aI
 by_cases aN:i<rels.length
 ·obtain ⟨b',o',cs',rfl,cG,fy⟩:=hg i rels[i] (gq aN)
  obtain ⟨ca,cn,s1,a1,n1,a2,n2,a3,n3,rfl,gF,eI,oF⟩:=jx fy
  obtain ⟨y0,y1,y2,y3,y4,y5,y6,y7,y8,y9,y10,y11,y12,y13⟩:=I4 cG
  have bA:rels.drop i=rels[i]::rels.drop (i+1):=dq aN
  rw [bA,wS] at ax
  have hT:=fj.trans cV
  by_cases hn:rels[i].name=name
  ·rw [if_pos hn] at ax
   cases hv:rels[i].view with
   | true=>
    rw [hv,if_pos rfl] at ax
    simp +contextual only [go_sem,aE,sevalprocAttr,aI,ht,aN,y0,y1,y2,y3,y4,y5,y6,y7,y8,y9,y10,y11,y12,y13,gF,hn,hv]
    intro b8 T8 mG eA qI vH
    refine eL ⟨T,fun _=>none,[(b8,_)],[]⟩ (gA mG) ?_
    simp +contextual only [go_sem,sevalprocAttr,aI,dI,gF,eA]
    exact ⟨gA mG,am (hT.trans qI) ⟨_,KU ax.symm,_,_,rfl,oF,eI⟩⟩
   | false=>
    rw [hv,if_neg (by decide)] at ax
    simp +contextual only [go_sem,aE,sevalprocAttr,aI,ht,aN,y0,y1,y2,y3,y4,y5,y6,y7,y8,y9,y10,y11,y12,y13,gF,hn,hv]
    intro b8 T8 mG eA qI vH
    refine eL ⟨T,fun _=>none,[(b8,_)],[]⟩ (gA mG) ?_
    simp +contextual only [go_sem,sevalprocAttr,aI,dI,eA,e6]
    exact ⟨gA mG,am (hT.trans qI) ⟨_,KU ax.symm,_,_,rfl,Qa M n,eI⟩⟩
  ·rw [if_neg hn] at ax
   cases hv:rels[i].view with
   | true=>
    rw [hv,if_pos rfl] at ax
    simp +contextual only [go_sem,aE,sevalprocAttr,aI,ht,aN,y0,y1,y2,y3,y4,y5,y6,y7,y8,y9,y10,y11,y12,y13,gF,hn,hv]
    intro b8 T8 mG eA qI vH
    refine aR (ak (az ⟨rels.length - (i+1),by omega,rfl,i+1,by omega,rfl,?_,?_,T8,n,cV.trans qI,rfl,?_,by omega,ax⟩))
    ·simp only [aG,aI,go_sem,sevalprocAttr]
    ·simp only [go_sem,sevalprocAttr,aB i (by omega)]
    ·simp only [e6,go_sem,sevalprocAttr]
   | false=>
    rw [hv,if_neg (by decide)] at ax
    simp +contextual only [go_sem,aE,sevalprocAttr,aI,ht,aN,y0,y1,y2,y3,y4,y5,y6,y7,y8,y9,y10,y11,y12,y13,gF,hn,hv,e6]
    intro b8 T8 mG eA qI vH
    refine aR (ak (az ⟨rels.length - (i+1),by omega,rfl,i+1,by omega,rfl,?_,?_,T8,n+1,cV.trans qI,rfl,?_,by omega,ax⟩))
    ·simp only [aG,aI,go_sem,sevalprocAttr]
    ·simp only [go_sem,sevalprocAttr,aB i (by omega)]
    ·simp only [go_sem,sevalprocAttr,aB n (by omega)]
 ·have:i=rels.length:=by omega
  subst this
  rw [List.drop_length] at ax
  simp +contextual only [go_sem,aE,sevalprocAttr,aI,ht,aN]
  exact tN (fj.trans cV) (D3 ax.symm)
theorem cU {M:aS}{p:Pl}{cs:List Value}(h:jV M p cs):∃ c0 c1 c2 c3 c4 c5 c6 c7 c8 c9 c10,cs=[c0,c1,c2,c3,c4,c5,c6,c7,c8,c9,c10]/\c0.oneCell'=true/\c1.oneCell'=true/\c2.oneCell'=true/\c3.oneCell'=true/\c4.oneCell'=true/\c5.oneCell'=true/\c6.oneCell'=true/\c7.oneCell'=true/\c8.oneCell'=true/\c9.oneCell'=true/\c10.oneCell'=true:=by
 obtain ⟨s1,a1,n1,a2,n2,a3,n3,rfl,h1,_⟩:=fJ h
 exact ⟨_,_,_,_,_,_,_,_,_,_,_,rfl,rfl,rfl,rfl,rfl,rfl,rfl,rfl,h1,rfl,rfl,rfl⟩
theorem jk {M:aS}{k n:Int}{x:Ex}{xs:List Ex}{ags:List Ag}{kids:List Pl}{s1 xv av s:Value}(hx:gU M x [.int .i64 x.k,.int .i64 x.v.k,.int .i64 x.v.n,st x.v.t,.int .i64 x.c,s1])(h2:RS M (gU M) 6 xs xv)(h3:RS M (F5 M) 7 ags av)(h4:RS M (jV M) 11 kids s):
 jV M (.mk k n x xs ags kids) [.int .i64 k,.int .i64 n,.int .i64 x.k,.int .i64 x.v.k,.int .i64 x.v.n,st x.v.t,.int .i64 x.c,s1,xv,av,s]:=lw.2 ⟨_,_,_,_,rfl,hx,h2,h3,h4⟩
theorem ko {M:aS}{b:Nat}{p:Pl}{cs:List Value}(hb:M b=some cs)(hp:jV M p cs):RS M (jV M) 11 [p] (.slice (some ⟨b,0,none⟩) 1 1):=cK (fun _ _=>lh) hb (cA hp) rfl (by decide)
theorem sC {M:aS}{b:Nat}{p q:Pl}{cs ds:List Value}(hb:M b=some (cs++ds))(hp:jV M p cs)(hq:jV M q ds):RS M (jV M) 11 [p,q] (.slice (some ⟨b,0,none⟩) 2 2):=cK (fun _ _=>lh) hb ⟨cs,ds,rfl,hp,cA hq⟩ rfl (by decide)
theorem Az {M:aS}{x:Ex}{p:Pl}{cs ds:List Value}(hx:gU M x cs)(hp:jV M p ds)(T:Tm):cw Tryz.prog 62 [.agg ⟨cs⟩,.agg ⟨ds⟩] T M [] [] (fun r M' _ _=>YK (gz x p) r M') aO:=by
 obtain ⟨s0,rfl,tF,kd⟩:=dt hx
 obtain ⟨s1,a1,n1,a2,n2,a3,n3,rfl,gF,_⟩:=fJ hp
 refine aC F62 rfl rfl ?_
 intro bi _
 simp +contextual only [go_sem,sevalprocAttr,tF]
 intro b2 T2 ey dV fG b3 T3 gj cL fB hZ b4 T4 dI dY fj gH b5 mp gK
 exact aT fun he h5 _=>am ((dV.trans fB).trans fj) ⟨_,rfl,jk (cu he _ _ hx) bu bu (ko h5 (bY he _ _ hp))⟩
theorem CI {M:aS}{p:Pl}{ds:List Value}(hp:jV M p ds)(T:Tm):cw Tryz.prog 68 [.agg ⟨ds⟩] T M [] [] (fun r M' _ _=>YK (jy 11 p) r M') aO:=by
 obtain ⟨s1,a1,n1,a2,n2,a3,n3,rfl,gF,_⟩:=fJ hp
 refine aC F68 rfl rfl ?_
 intro bi _
 simp +contextual only [go_sem,sevalprocAttr]
 intro b2 T2 ey dV fG b3 T3 gj cL fB hZ b5 mp gK
 exact aT fun he h5 _=>am (dV.trans fB) ⟨_,rfl,jk (fk _) bu bu (ko h5 (bY he _ _ hp))⟩
theorem Wo {M:aS}{op:Int}{p q:Pl}{cs ds:List Value}(hp:jV M p cs)(hq:jV M q ds)(T:Tm):cw Tryz.prog 30 [.int .i64 op,.agg ⟨cs⟩,.agg ⟨ds⟩] T M [] [] (fun r M' _ _=>YK (Er op p q) r M') aO:=by
 obtain ⟨c0,c1,c2,c3,c4,c5,c6,c7,c8,c9,c10,rfl,hc⟩:=cU hp
 obtain ⟨d0,d1,d2,d3,d4,d5,d6,d7,d8,d9,d10,rfl,hd⟩:=cU hq
 unfold Er
 refine aC F30 rfl rfl ?_
 intro bi _
 by_cases h1:op=1
 ·subst h1
  simp +contextual only [go_sem,aE,sevalprocAttr]
  intro b2 T2 ey dV fG b3 T3 gj cL fB hZ b4 T4 dI dY fj gH b5 mp gK
  exact aT fun he h5 _=>am ((dV.trans fB).trans fj) ⟨_,rfl,jk (fk _) bu bu (sC h5 (bY he _ _ hp) (bY he _ _ hq))⟩
 by_cases h2:op=2
 ·subst h2
  simp +contextual only [go_sem,aE,sevalprocAttr]
  intro b2 T2 ey dV fG b3 T3 gj cL fB hZ b4 T4 dI dY fj gH b5 mp gK
  refine di F68.bd fun M1 he h5 bG=> ?_
  refine aD (CI (jk (k:=8) (n:=0) (fk _) bu bu (sC h5 (bY he _ _ hp) (bY he _ _ hq))) T4) ?_
  rintro r M2 bg aZ ⟨c2,rfl,h2⟩
  obtain ⟨e0,e1,e2,e3,e4,e5,e6,e7,e8,e9,e10,rfl,he⟩:=cU h2
  simp only [aJ] at aZ
  simp +contextual only [go_sem,sevalprocAttr,aZ,he]
  exact am ((dV.trans fB).trans fj) ⟨_,rfl,h2⟩
 by_cases h4:op=4
 ·subst h4
  simp +contextual only [go_sem,aE,sevalprocAttr]
  intro b2 T2 ey dV fG b3 T3 gj cL fB hZ b4 T4 dI dY fj gH
  refine aU ?_
  simp +contextual only [go_sem,sevalprocAttr,ey,gj,cL,dY]
  refine aD (CI hp T4) ?_
  rintro r M2 bg aZ ⟨_,rfl,h2⟩
  obtain ⟨e0,e1,e2,e3,e4,e5,e6,e7,e8,e9,e10,rfl,he⟩:=cU h2
  simp only [aJ] at aZ
  simp +contextual only [go_sem,sevalprocAttr]
  refine ⟨em bg ⟨aZ.1,aZ.2.1,aZ.2.2.1,trivial⟩,?_⟩
  refine aD (CI (bY bg _ _ hq) T4) ?_
  rintro r M3 bM bj ⟨_,rfl,h3⟩
  obtain ⟨f0,f1,f2,f3,f4,f5,f6,f7,f8,f9,f10,rfl,hf⟩:=cU h3
  simp only [aJ] at bj
  simp +contextual only [go_sem,sevalprocAttr,bj,he,hf,cL,dY]
  intro b5 mp gK b6 oZ fq
  refine dm (List.Perm.swap _ _ _) (aT fun vP h5 _=>aT fun nF h6 _=>am ((dV.trans fB).trans fj) ⟨_,rfl,jk (fk _) bu bu (ko h6 (jk (fk _) bu bu ?_))⟩)
  exact sC (cs:=[e0,e1,e2,e3,e4,e5,e6,e7,e8,e9,e10]) (ds:=[f0,f1,f2,f3,f4,f5,f6,f7,f8,f9,f10]) (nF _ _ h5) (bY ((bM.trans vP).trans nF) _ _ h2) (bY (vP.trans nF) _ _ h3)
 ·simp +contextual only [go_sem,aE,sevalprocAttr,h1,h2,h4]
  intro b2 T2 ey dV fG b3 T3 gj cL fB hZ b4 T4 dI dY fj gH b5 mp gK b6 oZ fq
  refine dm (List.Perm.swap _ _ _) (aT fun vP h5 _=>aT fun nF h6 _=>am ((dV.trans fB).trans fj) ⟨_,rfl,jk (fk _) bu bu (ko h6 (jk (fk _) bu bu ?_))⟩)
  exact sC (cs:=[c0,c1,c2,c3,c4,c5,c6,c7,c8,c9,c10]) (ds:=[d0,d1,d2,d3,d4,d5,d6,d7,d8,d9,d10]) (nF _ _ h5) (bY (vP.trans nF) _ _ hp) (bY (vP.trans nF) _ _ hq)
end Go.Proofs.YtmccpbcbofhmlaaGreatDoor
namespace Go.Proofs
open Go.Shelf
def Tryz.lays171_ren:Go.Shelf.Ren:=⟨fun | 171=>72 | 243=>112 | 246=>171 | 283=>220 | 284=>221 | 285=>222 | 286=>223 | 129=>265 | 317=>264 | 318=>266 | 319=>267 | 320=>268 | 337=>301 | 338=>302 | n=>n,fun | 3=>3 | 9=>9 | 2=>2 | 4=>4 | 171=>311 | 0=>0 | 53=>312 | 37=>134 | 5=>5 | 173=>315 | 212=>359 | 51=>360 | 20=>20 | 213=>361 | 46=>363 | 232=>410 | 233=>411 | n=>n,fun | 17=>1 | 18=>8 | 19=>9 | n=>n⟩
theorem Tryz.lays171:Go.Proofs.Lays.n171 Tryz.prog Tryz.lays171_ren:={
 mixed:=by kernel_rfl
 f129:=Tryz.func265.trans (congrArg some (by kernel_rfl))
 f171:=Tryz.func72.trans (congrArg some (by kernel_rfl))
 f243:=Tryz.func112.trans (congrArg some (by kernel_rfl))
 f246:=Tryz.func171.trans (congrArg some (by kernel_rfl))
 f283:=Tryz.func220.trans (congrArg some (by kernel_rfl))
 f284:=Tryz.func221.trans (congrArg some (by kernel_rfl))
 f285:=Tryz.func222.trans (congrArg some (by kernel_rfl))
 f286:=Tryz.func223.trans (congrArg some (by kernel_rfl))
 f317:=Tryz.func264.trans (congrArg some (by kernel_rfl))
 f318:=Tryz.func266.trans (congrArg some (by kernel_rfl))
 f319:=Tryz.func267.trans (congrArg some (by kernel_rfl))
 f320:=Tryz.func268.trans (congrArg some (by kernel_rfl))
 f337:=Tryz.func301.trans (congrArg some (by kernel_rfl))
 f338:=Tryz.func302.trans (congrArg some (by kernel_rfl))
 t0:=Tryz.underlying0
 a0:=Tryz.isAgg0
 z0:=Tryz.sizeOf0
 v0:=Tryz.zeroValue0
 t2:=Tryz.underlying2
 a2:=Tryz.isAgg2
 z2:=Tryz.sizeOf2
 v2:=Tryz.zeroValue2
 t3:=Tryz.underlying3
 a3:=Tryz.isAgg3
 z3:=Tryz.sizeOf3
 v3:=Tryz.zeroValue3
 t4:=Tryz.underlying4
 a4:=Tryz.isAgg4
 z4:=Tryz.sizeOf4
 v4:=Tryz.zeroValue4
 t5:=Tryz.underlying5
 a5:=Tryz.isAgg5
 z5:=Tryz.sizeOf5
 v5:=Tryz.zeroValue5
 t9:=Tryz.underlying9
 a9:=Tryz.isAgg9
 z9:=Tryz.sizeOf9
 v9:=Tryz.zeroValue9
 t20:=Tryz.underlying20
 a20:=Tryz.isAgg20
 z20:=Tryz.sizeOf20
 v20:=Tryz.zeroValue20
 t37:=Tryz.underlying134
 a37:=Tryz.isAgg134
 z37:=Tryz.sizeOf134
 v37:=Tryz.zeroValue134
 t46:=Tryz.underlying363
 a46:=Tryz.isAgg363
 z46:=Tryz.sizeOf363
 v46:=Tryz.zeroValue363
 t51:=Tryz.underlying360
 a51:=Tryz.isAgg360
 z51:=Tryz.sizeOf360
 v51:=Tryz.zeroValue360
 t53:=Tryz.underlying312
 a53:=Tryz.isAgg312
 z53:=Tryz.sizeOf312
 v53:=Tryz.zeroValue312
 t171:=Tryz.underlying311
 a171:=Tryz.isAgg311
 z171:=Tryz.sizeOf311
 v171:=Tryz.zeroValue311
 t173:=Tryz.underlying315
 a173:=Tryz.isAgg315
 z173:=Tryz.sizeOf315
 v173:=Tryz.zeroValue315
 t212:=Tryz.underlying359
 a212:=Tryz.isAgg359
 z212:=Tryz.sizeOf359
 v212:=Tryz.zeroValue359
 t213:=Tryz.underlying361
 a213:=Tryz.isAgg361
 z213:=Tryz.sizeOf361
 t232:=Tryz.underlying410
 a232:=Tryz.isAgg410
 z232:=Tryz.sizeOf410
 v232:=Tryz.zeroValue410
 t233:=Tryz.underlying411
 a233:=Tryz.isAgg411
 z233:=Tryz.sizeOf411
 v233:=Tryz.zeroValue411
 g17:=by kernel_rfl
 g18:=by kernel_rfl
 g19:=by kernel_rfl}
open Go.RowKit Go.Sort Go.Lib in
theorem Tryz.strconv_Itoa_small (i:Nat)(hi:i<100)(w:World):
 Calls Tryz.prog 72 #[.int .i64 i] w fun e w'=>e=.returned (.string ⟨(Lib.decDigits i).toArray⟩)/\w'=w:=Any.strconv_Itoa_small Tryz.lays171 i hi w
end Go.Proofs
namespace Go.Proofs.YtmccpbcbofhmlaaGreatDoor
open Go Vc
set_option maxRecDepth 10000
theorem QW:de Tryz.prog 72=true:=by kernel_rfl
theorem Ty {M:aS}(n:Nat)(hn:n<100)(T:Tm):cw Tryz.prog 72 [.int .i64 (n:Int)] T M [] [] (fun r M' _ _=>r=st (Lib.decDigits n)/\M'=M) aO:=by
 refine wi QW (fun w hw=>Calls.mono (Tryz.strconv_Itoa_small n hn w) ?_) T
 rintro e w' ⟨rfl,rfl⟩
 exact ⟨rfl,jW.rfl'⟩
theorem NA (i:Nat)(h:i<50):(Lib.decDigits (i+1)).length<=20:=by rw [Lib.decDigits_length];exact Lib.nDigits_le20 _ (by omega)
theorem H6 {M:aS}{x:It}{cs:List Value}(hx:xh M x cs)(i:Nat)(hi:i<50)(T:Tm):cw Tryz.prog 67 [.agg ⟨cs⟩,.int .i64 (i:Int)] T M [] [] (fun r _ _ _=>r=st (vW x i)) aO:=by
 obtain ⟨aw,rfl,_,h1⟩:=lK hx
 unfold vW
 refine aC F67 rfl rfl ?_
 intro bi _
 have w1:=aB i (by omega)
 by_cases ha:x.as=[]
 ·by_cases hk:x.x.k=2
  ·simp +contextual only [go_sem,aE,sevalprocAttr,ha,hk]
   intro b2 T2 ey dV fG
   exact am dV (by simp)
  ·simp +contextual only [go_sem,aE,sevalprocAttr,ha,hk,w1]
   intro b2 T2 ey dV fG
   refine aD (Ty (i+1) (by omega) T2) ?_
   rintro r M1 aV _ ⟨rfl,rfl⟩
   have hd:(Lib.decDigits (i+1)).length<=20:=NA i hi
   have hd2:1+(Lib.decDigits (i+1)).length<=9223372036854775807:=by omega
   simp +contextual only [go_sem,sevalprocAttr,hd2,uA]
   exact am dV (by simp [ha,hk])
 ·simp +contextual only [go_sem,aE,sevalprocAttr,ha]
  intro b2 T2 ey dV fG
  exact am dV (by simp)
theorem wH {c:Bs×Bs}{cs}(h:GL c cs):∀ u∈cs,u.oneCell'=true:=by
 rw [h]
 intro u hu
 simp only [mn] at hu
 rcases hu with rfl | rfl<;>rfl
theorem Ll {M:aS}{names:List (Bs×Bs)}{lv:Value}(hl:RS M GL 2 names lv)(tf:names=[] ->lv=.slice none 0 0)(bw:names.length<=16777216)(T:Tm):
 HV Tryz.prog 107 [lv] T M [] [] 1 (fun v _ _ R'=>∃ a c xs,v=.slice a names.length c/\(names=[] ->v=.slice none 0 0)/\RL GL names xs/\R'=[(v,104,2,xs)]) aO:=by
 refine iP ajY rfl rfl ?_
 intro bi _
 by_cases h0:names=[]
 ·subst h0
  rw [tf rfl]
  simp +contextual only [go_sem,aE,sevalprocAttr]
  exact dC (aM aH.rfl' rfl rfl ⟨none,0,[],rfl,by simp,rfl,rfl⟩)
 ·obtain ⟨fS,a,c,rfl,dJ,wr,fU⟩:=aF (by decide) (fun _ _=>qz) hl
  obtain ⟨p,hp⟩:∃ p,a=some p:=by
   cases names with
   | nil=>exact (h0 rfl).elim
   | cons x l=>obtain ⟨b,o,cs,h,_⟩:=fU 0 x rfl;exact ⟨_,h⟩
  subst hp
  obtain ⟨ys,Mn,zu,vn⟩:=kx (P:=Tryz.prog) Tryz.underlying99 (fun _ _=>qz) (fun _ _ h=>wH h) hl
  have dG:0<names.length:=List.length_pos_iff.2 h0
  simp +contextual only [go_sem,aE,sevalprocAttr]
  intro b hb
  refine jO (n:=0) (xs:=[]) Kz K0 (vn _ _ _) rfl (by omega) (by simp only [List.length_nil];omega) ?_
  intro ra rm rc iL
  have iH:rm=names.length:=by simp only [List.length_nil] at iL;omega
  subst iH
  simp +contextual only [go_sem,sevalprocAttr]
  exact ak (aM aH.rfl' rfl rfl ⟨ra,rc,ys,rfl,fun h=>(h0 h).elim,zu,by simp⟩)
end Go.Proofs.YtmccpbcbofhmlaaGreatDoor
namespace Vc
open Go
theorem QF {P:Program}{f:FuncId}{args:List Value}{T:Tm}{M:aS}{v:Value}{e:TypeId}{sz:Nat}{xs:List Value}{Q:Value ->Prop}(ej:0<sz)(hb:de P f=true)
 (hc:∀ M',bh M M' ->Sl M' v sz xs ->cw P f args T M' [] [] (fun r _ _ _=>Q r) aO):
 cw P f args T M [] [(v,e,sz,xs)] (fun r _ _ R'=>Q r/\R'=[(v,e,sz,xs)]) aO:=by
 refine ⟨hb,fun w U hw=> ?_⟩
 obtain ⟨bs,hU,hi⟩:=hw
 obtain ⟨bw,bP⟩:=hi.rows
 obtain ⟨o,rfl⟩:∃ o,bs=[o]:=by
  cases bs with
  | nil=>simp at bw
  | cons o bs=>cases bs with
   | nil=>exact ⟨o,rfl⟩
   | cons _ _=>simp at bw
 have hr:=bP 0 _ _ _ _ o rfl rfl
 obtain ⟨M1,bs1,Oo,he,hs⟩:=hi.freezeR ej
 have fD:bs1=[]:=by simpa using Oo.rows.1.symm
 subst fD
 have hen:Hp ⟨w,M1,keys []++([]:List (Option Nat)).filterMap id⟩ ⟨T,M1,[],[]⟩ w []:=Hp.enter (L1:=[]) (Lp:=[]) (L2:=[]) (R1:=[]) (Rp:=[]) (R2:=[]) (b1:=[]) (bp:=[]) (b2:=[]) Oo rfl rfl
 refine Calls.mono ((hc M1 he hs).2 w _ ⟨[],rfl,hen⟩) ?_
 intro en w' hq
 cases en with
 | returned r=>
  obtain ⟨M2,L2,R2,⟨⟨bs2,h2⟩,hk,hR⟩,hq⟩:=hq
  have hnU:∀ b,b∈U ->M b=none:=fun b hb=>(hi.apart b (by rw [hU] at hb;simpa [keys] using hb)).1
  refine ⟨fun k=>if k∈U then none else M2 k,[],[(v,e,sz,xs)],⟨⟨[o],?_⟩,rfl,rfl⟩,hq,rfl⟩
  exact
  {typ:=fun b t hu=>⟨(h2.typ b t hu).1,fun hb=>by simp at hb⟩
   holds:=fun b c hbc=>by
    have Zs:(if b∈U then none else M2 b)=some c:=hbc
    split at Zs
    ·cases Zs
    ·exact h2.holds b c Zs
   blk:=fun b cs hb=>by cases hb
   rows:=⟨rfl,fun i v' e' sz' xs' o' h3 h4=>by
    cases i with
    | zero=>
     simp only [List.getElem?_cons_zero,Option.some.injEq,Prod.mk.injEq] at h3 h4
     obtain ⟨rfl,rfl,rfl,rfl⟩:=h3
     subst h4
     rcases hr with hr | ⟨g,n,cap,junk,hv,hg,hn,C9,dJ,ho⟩ | ⟨h0,_⟩ | ⟨h0,_⟩
     ·exact .inl hr
     ·refine .inr (.inl ⟨g,n,cap,junk,hv,?_,hn,C9,dJ,ho⟩)
      rw [h2.old g (Array.getElem?_eq_some_iff.1 hg).1 (by simp [keys])]
      exact hg
     ·omega
     ·omega
    | succ i=>simp at h3⟩
   nodup:=hi.nodup
   apart:=fun b hb=>by
    have h5:=hi.apart b hb
    have hbU:b∈U:=by rw [hU];simpa [keys] using hb
    exact ⟨if_pos hbU,h5.2⟩
   os:=h2.os
   tape:=h2.tape
   output:=h2.output
   size:=h2.size
   old:=fun b hb _=>h2.old b hb (by simp [keys])
   mem:=fun b hb hn=>by
    show (if b∈U then none else M2 b)=M b
    rw [if_neg hn]
    exact (h2.mem b hb (by simp [keys])).trans (Oo.mem b hb hn)
   le:=fun b x hbx=>by
    show (if b∈U then none else M2 b)=some x
    have hbx:M b=some x:=hbx
    rw [if_neg (fun hn=>by rw [hnU b hn] at hbx;cases hbx)]
    exact h2.le b x (he b x hbx)}
 | panicked ch=>
  obtain ⟨_,_,_,_,hq⟩:=hq
  exact hq.elim
 | outgrown=>exact hq.elim
end Vc
namespace Go.Proofs.YtmccpbcbofhmlaaGreatDoor
open Go Vc
set_option maxRecDepth 10000
def TG (M:aS)(sc:Nat)(names:List (Bs×Bs)):Prop:=∃ lv,M sc=some [lv,.slice none 0 0,.pointer none,.pointer none]/\RS M GL 2 names lv/\(names=[] ->lv=.slice none 0 0)
theorem TG.ext {M M':aS}(he:bh M M'){sc names}(h:TG M sc names):TG M' sc names:=by
 obtain ⟨lv,h1,h2,h3⟩:=h
 exact ⟨lv,he _ _ h1,aL he (fun _ _ h=>h) h2,h3⟩
def aeo (r:Pl×List (Bs×Bs))(v:Value)(M:aS):Prop:=∃ cs sc,v=.tuple ⟨[.agg ⟨cs⟩,.pointer (some ⟨sc,0,none⟩)]⟩/\jV M r.1 cs/\TG M sc r.2
theorem BH {name:Bs}:∀ {rels:List Rel} {n:Nat} {r:Pl×List Co},iR name n rels=some r ->∃ x∈rels,r.2=x.cols
 | [],_,_,h=>by cases h
 | x::l,n,r,h=>by
  rw [wS] at h
  split at h
  ·injection h with h;subst h;exact ⟨x,by simp,rfl⟩
  ·obtain ⟨y,hy,he⟩:=BH h
   exact ⟨y,by simp [hy],he⟩
theorem Ah {name:Bs}{rels:List Rel}{r:Pl×List Co}(h:mc rels name=.ok r):∃ x∈rels,r.2=x.cols:=by
 unfold mc at h
 split at h
 ·rename_i y hy;injection h with h;subst h;exact BH hy
 ·cases h
theorem WC {F:Fi}{s:List Vc.Item}{e:dj}{ds:List Deferred}{dd:Option Nat}{N:Tm}{M:aS}{L:LL}{R:RR}{hv:Value}{had:List Bs}{el:TypeId}(x:Bs)(h:kV el 1 pX [] R hv had)(bw:had.length<=1000)
 (k:∀ M',bh M M' ->aJ M' L ->cj Tryz.prog F s (cB e dd (.bool (had.contains x))) ds ⟨N,M',L,R⟩ ⟨⟩):dk Tryz.prog F 106 [hv,.string (bs x)] dd s e ds ⟨N,M,L,R⟩ ⟨⟩:=by
 rcases h with ⟨rfl,rfl,rfl⟩ | ⟨a,c,xs,rfl,h3,rfl⟩
 ·refine aD (pu x bu N) ?_
  rintro v M1 aV bi rfl
  exact k M1 aV bi
 ·have key:∀ (L2:LL) (R2:RR),L2=L++[]++[] ->R2=[]++[(.slice a had.length c,el,1,xs)]++[] ->dk Tryz.prog F 106 [.slice a had.length c,.string (bs x)] dd s e ds ⟨N,M,L2,R2⟩ ⟨⟩:=by
   rintro _ _ rfl rfl
   refine fH L [] [] [] [_] [] (QF (Q:=fun r=>r=.bool (had.contains x)) (by decide) ae1.bd fun M' mW gi=>pu x ⟨by omega,xs,gi,h3⟩ N) ?_ (fun _ _ _ _ _ _ _ _ h=>h.elim)
   rintro v M1 L1 R1 aV hk hr bi ⟨rfl,rfl⟩
   have:L1=[]:=by simpa [keys] using hk
   subst this
   have k2:∀ (L2:LL) (R2:RR),L2=L ->R2=[(.slice a had.length c,el,1,xs)] ->cj Tryz.prog F s (cB e dd (.bool (had.contains x))) ds ⟨N,M1,L2,R2⟩ ⟨⟩:=by
    rintro _ _ rfl rfl
    exact k M1 aV (by simpa using bi)
   exact k2 _ _ (by simp) (by simp)
  exact key _ _ (by simp) (by simp)
theorem eK {F:Fi}{f:FuncId}{args:List Value}{dd:Option Nat}{s:List Vc.Item}{e:dj}{ds:List Deferred}{N:Tm}{M:aS}{L:LL}{R:RR}{post:ez}{pan:lX}(hc:HV Tryz.prog f args N M [] [] 1 post pan)
 (hn:∀ v M' row,bh M M' ->aJ M' L ->post v M' [] [row] ->cj Tryz.prog F s (cB e dd v) ds ⟨N,M',L,row::R⟩ ⟨⟩)
 (hp:∀ ch M' row,bh M M' ->pan ch M' [] [row] ->F.pan ch e ds ⟨N,M',L,row::R⟩):dk Tryz.prog F f args dd s e ds ⟨N,M,L,R⟩ ⟨⟩:=by
 have nil:∀ {L':LL},keys L'=keys [] ->L'=[]:=fun h=>by simpa [keys] using h
 have one:∀ {R':RR},R'.length=1 ->∃ r,R'=[r]:=fun {R'} h=>by
  cases R' with
  | nil=>cases h
  | cons r l=>cases l with
   | nil=>exact ⟨r,rfl⟩
   | cons _ _=>simp at h
 exact K6 (F:=F) (s:=s) (e:=e) (ds:=ds) (dd:=dd) (N:=N) [] [] L [] [] R hc
  (fun v M' L' R' he hk hR bi hq=>by
   have h1:=nil hk
   subst h1
   obtain ⟨r,rfl⟩:=one hR
   exact hn v M' r he bi hq)
  (fun ch M' L' R' he hk hR bi hq=>by
   have h1:=nil hk
   subst h1
   obtain ⟨r,rfl⟩:=one hR
   exact hp ch M' r he hq)
def rz (names:List (Bs×Bs))(tb:Bs)(cols:List Co)(j:Nat):List (Bs×Bs):=names++(cols.take j).map fun c=>(tb,c.name)
theorem tT (names tb cols):rz names tb cols 0=names:=by simp [rz]
theorem Rg (names tb cols):rz names tb cols cols.length=names++cols.map fun c=>(tb,c.name):=by simp [rz]
theorem MQ (names tb cols){j:Nat}(h:j<cols.length):rz names tb cols (j+1)=rz names tb cols j++[(tb,cols[j].name)]:=by
 unfold rz
 rw [List.take_succ_eq_append_getElem h,List.map_append,List.append_assoc];rfl
theorem FG (names tb cols){j:Nat}(h:j<=cols.length):(rz names tb cols j).length=names.length+j:=by
 simp [rz];omega
theorem yD (rels:List Rel)(s:So)(l:List So)(i:Nat)(p:Pl)(names:List (Bs×Bs))(had:List Bs):j0 rels (s::l) i p names had=match mc rels s.name with
 | .error e=> .error e
 | .ok q=>if had.contains (dp s)=true then .error 7 else
  if i=0 then j0 rels l 1 q.1 (names++q.2.map fun c=>(dp s,c.name)) (had++[dp s])
  else match jJ (names++q.2.map fun c=>(dp s,c.name)) s.on with
   | .error e=> .error e
   | .ok x=>j0 rels l (i+1) (.mk (kU s.k) 0 x [] [] [p,q.1]) (if s.k=2\/s.k=5 then names++q.2.map fun c=>(dp s,c.name) else names) (had++[dp s]):=rfl
def KO:LL ->LL ->Prop
 | [],_=>True
 | (b,_)::l,L=>ce b L/\KO l L
theorem KL {T0 T:Tm}{M M':aS}{L:LL}{R0 R:RR}(h:bh M M')(hn:aJ M' L):∀ (L1:LL),KO L1 L ->fZ ⟨T0,M,L,R0⟩ ⟨T,M',L1++L,R⟩
 | [],_=>em h hn
 | (b,cs)::L1,ha=>by
  have ih:=KL (T0:=T0) (T:=T) (R0:=R0) (R:=R) h hn L1 ha.2
  intro a v hv
  have h1:=ih a v hv
  simp only [Sh.cell] at h1 hv ⊢
  cases hm:aQ M' a with
  | some u=>rw [hm] at h1;exact h1
  | none=>
   rw [hm] at h1
   by_cases TO:a.block=b
   ·exfalso
    have zw:dK L a=none:=by
     have:∀ {L:LL},ce b L ->dK L a=none:=by
      intro L
      induction L with
      | nil=>intro _;rfl
      | cons p l ih=>
       obtain ⟨k,ds⟩:=p
       intro fX
       rw [dK,if_neg (by rw [TO];exact fX.1.1)]
       exact ih fX.2
     exact this ha.1
    have hmo:aQ M a=none:=by
     cases hm2:aQ M a with
     | none=>rfl
     | some u=>rw [ay h hm2] at hm;cases hm
    rw [hmo,zw] at hv
    simp at hv
   ·simp only [List.cons_append]
    rw [dK,if_neg TO]
    exact h1
theorem WB {T0 T:Tm}{M M':aS}{L:LL}{R0 R:RR}{b b':Nat}{cs cs':List Value}(h:bh M M')(hn:aJ M' L)(hb:ce b L)(hb':ce b' L):fZ ⟨T0,M,L,R0⟩ ⟨T,M',(b,cs)::(b',cs')::L,R⟩:=KL h hn [(b,cs),(b',cs')] ⟨hb,hb',trivial⟩
def Yl (rels:List Rel)(l:List So)(M:aS)(T:Tm)(b4 b6:Nat)(i:Nat)(e:dj)(h:Sh):Prop:=∃ M' N' R hv sc p cs names had,bh M M'/\aH T N'/\M' b4=none/\M' b6=none/\jV M' p cs/\h=⟨N',M',[(b6,cs),(b4,[.int .i64 0,.int .i64 0,.int .i64 0,.int .i64 0,.int .i64 0,st [],.int .i64 0,.slice none 0 0,.slice none 0 0,.slice none 0 0,.slice none 0 0])],R⟩/\
 e 7=.pointer (some ⟨sc,0,none⟩)/\TG M' sc names/\e 8=hv/\kV 9 1 pX [] R hv had/\had.length=i/\names.length<=i*1048576/\j0 rels (l.drop i) i p names had=oH rels l
theorem Uq {M:aS}{bb:Nat}{rels:List Rel}{rv sv:Value}{l:List So}(hr:RS M (mD M) 14 rels rv)(hbb:M bb=some [rv])(eI:∀ r∈rels,r.cols.length<=1048576)(hs:RS M (Do M) 10 l sv)(bw:l.length<=16)
 (cq:∀ (j:Nat) (s:So),l[j]?=some s ->0<j ->(2<=s.k/\s.k<=5)/\zx s.on) (T:Tm):
 cw Tryz.prog 61 [.pointer (some ⟨bb,0,none⟩),sv] T M [] [] (uY aeo (oH rels l)) (qD (oH rels l)):=by
 obtain ⟨fS,a,c,rfl,dJ,_,hg⟩:=aF (by decide) (fun _ _=>lj) hs
 refine aC F61 rfl rfl ?_
 intro bi _
 simp +contextual only [go_sem,aE,sevalprocAttr]
 intro b4 T4 dI fj gH b6 T6 oZ fq sK BX b7 T7 iN iV mX tj
 have hT:=(fj.trans sK).trans mX
 refine br l.length 22 [(0,.pointer (some ⟨bb,0,none⟩)),(1,.slice a l.length c),(4,.pointer (some ⟨b4,0,none⟩)),(6,.pointer (some ⟨b6,0,none⟩)),(20,.slice a l.length c),(21,.int .i64 (l.length:Int))]
  (Yl rels l M T b4 b6)
  0 (by omega) (by simp only [aG,go_sem,sevalprocAttr]) (by simp only [go_sem,sevalprocAttr]) (aT fun he h7 iO=>az ⟨_,T7,[],_,b7,jw,_,[],[],he,hT,iO.2.1,iO.1,We _,rfl,(by simp only [go_sem,sevalprocAttr]),⟨_,h7,bu,fun _=>rfl⟩,(by simp only [go_sem,sevalprocAttr]),dg,rfl,by simp,rfl⟩) ?_
 rintro i e h hi aI ht ⟨M1,N1,R1,hv,sc,p,cs,names,had,aV,tH,n4,n6,hp,rfl,e7,Og,e8,bC,hhl,GW,ax⟩
 simp only [aG] at aI
 by_cases aN:i<l.length
 ·obtain ⟨b',o',cs',rfl,cG,fy⟩:=hg i l[i] (gq aN)
  obtain ⟨aw,rfl,ZN,haw⟩:=AM fy
  obtain ⟨y0,y1,y2,y3,y4,y5,y6,y7,y8,y9⟩:=agm (cG.ext aV)
  have bA:l.drop i=l[i]::l.drop (i+1):=dq aN
  rw [bA,yD] at ax
  obtain ⟨c0,c1,c2,c3,c4,c5,c6,c7,c8,c9,c10,rfl,hc⟩:=cU hp
  simp +contextual only [go_sem,aE,sevalprocAttr,aI,ht,aN,y1]
  refine bS (aaz (l[i]).name (aL aV (eu aV) hr) (aV _ _ hbb) N1) ?_ ?_
  rotate_left
  ·rintro ch M2 bg aZ ⟨er,he,rfl⟩
   rw [he] at ax
   exact me tH ax.symm
  rintro v M2 bg aZ ⟨⟨q,cols⟩,hq,qs,cv,rfl,hqp,kM⟩
  rw [hq] at ax
  simp only at ax hqp kM
  obtain ⟨d0,d1,d2,d3,d4,d5,d6,d7,d8,d9,d10,rfl,hd⟩:=cU hqp
  replace y0:=ay bg y0
  replace y1:=ay bg y1
  replace y2:=ay bg y2
  simp only [aJ] at aZ
  obtain ⟨_,ca,cc,rfl,_⟩:=aF (by decide) (fun _ _=>eU) kM
  simp +contextual only [go_sem,sevalprocAttr,hd,y2]
  intro b11 T11 tU nr yt JS
  refine dQ (fun e ds h=>ds=[]/\aG e [(0,.pointer (some ⟨bb,0,none⟩)),(1,.slice (some ⟨b',o',none⟩) l.length c),(4,.pointer (some ⟨b4,0,none⟩)),(6,.pointer (some ⟨b6,0,none⟩)),(20,.slice (some ⟨b',o',none⟩) l.length c),(21,.int .i64 (l.length:Int)),(22,.int .i64 (i:Nat)),(9,.int .i64 (i:Nat)),
   (7,.pointer (some ⟨sc,0,none⟩)),(8,hv),(10,.pointer (some ⟨b',o'+i*10,none⟩)),(11,.pointer (some ⟨b11,0,none⟩)),(12,.slice ca cols.length cc),(13,st (dp l[i]))]/\h=⟨T11,M2,[(b11,[d0,d1,d2,d3,d4,d5,d6,d7,d8,d9,d10]),(b6,[c0,c1,c2,c3,c4,c5,c6,c7,c8,c9,c10]),(b4,[.int .i64 0,.int .i64 0,.int .i64 0,.int .i64 0,.int .i64 0,st [],.int .i64 0,.slice none 0 0,.slice none 0 0,.slice none 0 0,.slice none 0 0])],R1⟩) (fun S' dU=> ?_) ?_
  ·by_cases On:l[i].as=[]
   ·simp +contextual only [go_sem,aE,sevalprocAttr,On,y1]
    refine dU _ _ _ ⟨rfl,?_,rfl⟩
    simp only [aG,aI,ht,e7,e8,dp,On,go_sem,sevalprocAttr]
   ·simp +contextual only [go_sem,aE,sevalprocAttr,On]
    refine dU _ _ _ ⟨rfl,?_,rfl⟩
    simp only [aG,aI,ht,e7,e8,dp,On,go_sem,sevalprocAttr]
  clear aI ht e7 e8
  rintro e ds h ⟨rfl,aI,rfl⟩
  simp only [aG] at aI
  simp +contextual only [go_sem,sevalprocAttr,aI]
  refine WC (dp l[i]) bC (by omega) fun M3 bM bj=> ?_
  have aje:=(aV.trans bg).trans bM
  simp only [aJ] at bj
  cases Dl:had.contains (dp l[i]) with
  | true=>
   rw [Dl,if_pos rfl] at ax
   simp +contextual only [go_sem,aE,sevalprocAttr]
   exact tN (tH.trans yt) ax.symm
  | false=>
  rw [Dl,if_neg (by decide)] at ax
  simp +contextual only [go_sem,aE,sevalprocAttr,aI]
  intro b3 gj cL
  refine cy (Tryz.underlying93) J7 JI (x:=dp l[i]) bC rfl (fun _ _=>ep) (by intro u hu;simp only [List.mem_singleton] at hu;subst hu;rfl) gj (by omega) (by decide) ?_
  intro oN R2 lI
  obtain ⟨lv,hsm,hsn,ej⟩:=Og.ext (bg.trans bM)
  simp +contextual only [go_sem,sevalprocAttr,aI,aX hsm]
  refine eK (Ll hsn ej (by omega) T11) ?_ (fun _ _ _ _ h=>h.elim)
  rintro v M4 row dh cE ⟨va,vc,vxs,rfl,hvz,hvl,bP⟩
  simp only [List.cons.injEq,and_true] at bP
  subst bP
  simp only [aJ] at cE
  simp +contextual only [go_sem,aE,sevalprocAttr,aI]
  intro b14 T14 Rr py Vk aeH
  have vv:=aje.trans dh
  have hNN:=((tH.trans yt).trans Vk)
  obtain ⟨Ve,acg,TQ⟩:cols.length*2<=4398046511104/\cols.length<=cc/\∀ (i:Nat) (x:Co),cols[i]?=some x ->∃ b o cs,ca=some ⟨b,o,none⟩/\At M4 b (o+i*2) cs/\sA x cs:=by
   obtain ⟨h1,a',c',h2,h3,_,h4⟩:=aF (by decide) (fun _ _=>eU) (aL (bM.trans dh) (fun _ _ h=>h) kM)
   injection h2 with h5 h6 h7
   subst h5 h7
   exact ⟨h1,h3,h4⟩
  have XQ:cols.length<=1048576:=by
   obtain ⟨x,hx,hxc⟩:=Ah hq
   rw [show cols=x.cols from hxc]
   exact eI x hx
  have n14:M4 b14=none/\M4 b11=none/\M4 b6=none/\M4 b4=none:=⟨Rr,cE.2.1,cE.2.2.1,cE.2.2.2.1⟩
  obtain ⟨LV,hLV⟩:∃ LV:List (Nat×Value),LV=[(0,.pointer (some ⟨bb,0,none⟩)),(1,.slice (some ⟨b',o',none⟩) l.length c),(4,.pointer (some ⟨b4,0,none⟩)),(6,.pointer (some ⟨b6,0,none⟩)),(20,.slice (some ⟨b',o',none⟩) l.length c),(21,.int .i64 (l.length:Int)),(22,.int .i64 (i:Nat)),(9,.int .i64 (i:Nat)),
   (8,oN),(10,.pointer (some ⟨b',o'+i*10,none⟩)),(11,.pointer (some ⟨b11,0,none⟩)),(13,st (dp l[i])),(14,.pointer (some ⟨b14,0,none⟩)),(7,.pointer (some ⟨sc,0,none⟩)),(62,.slice ca cols.length cc),(63,.int .i64 (cols.length:Int))]:=⟨_,rfl⟩
  refine br cols.length 64 LV
   (fun j e h=>∃ N' v xs,aH T14 N'/\(∃ a c,v=.slice a (rz names (dp l[i]) cols j).length c)/\((rz names (dp l[i]) cols j)=[] ->v=.slice none 0 0)/\RL GL (rz names (dp l[i]) cols j) xs/\
    h=⟨N',M4,[(b14,[v,.slice none 0 0,.pointer none,.pointer none]),(b11,[d0,d1,d2,d3,d4,d5,d6,d7,d8,d9,d10]),(b6,[c0,c1,c2,c3,c4,c5,c6,c7,c8,c9,c10]),(b4,[.int .i64 0,.int .i64 0,.int .i64 0,.int .i64 0,.int .i64 0,st [],.int .i64 0,.slice none 0 0,.slice none 0 0,.slice none 0 0,.slice none 0 0])],(v,104,2,xs)::R2⟩)
   0 (by omega) (by rw [hLV];simp only [aG,aI,go_sem,sevalprocAttr]) (by simp only [go_sem,sevalprocAttr]) ?_ ?_
  ·refine dm (List.Perm.swap _ _ _) (ak (az ⟨T14,.slice va names.length vc,vxs,aH.rfl',⟨va,vc,?_⟩,?_,?_,rfl⟩))
   ·rw [tT]
   ·rw [tT];exact hvz
   ·rw [tT];exact hvl
  ·rintro j e h hj dH GG ⟨N5,v,xs,CU,⟨wa,wc,rfl⟩,hwz,hwl,rfl⟩
   rw [hLV] at dH
   simp only [aG] at dH
   by_cases nB:j<cols.length
   ·obtain ⟨bc,oc,cc',rfl,RG,XX⟩:=TQ j cols[j] (gq nB)
    unfold sA at XX
    subst XX
    obtain ⟨z0,z1⟩:=Wa RG
    simp +contextual only [go_sem,aE,sevalprocAttr,dH,GG,nB,z0,z1]
    intro b16 T16 CP Gt S1 Ye
    refine aU ?_
    simp +contextual only [go_sem,sevalprocAttr,dH,CP,Gt,n14]
    intro b17 ahD o8
    have jP:=dO (fun _ _=>qz) hwl
    have cO:=FG names (dp l[i]) cols (Nat.le_of_lt nB)
    refine ⟨dX bh.rfl' ⟨CP,n14.1,n14.2.1,n14.2.2.1,n14.2.2.2,trivial⟩ ⟨o8.1,o8.2.1,o8.2.2.1,o8.2.2.2.1,o8.2.2.2.2,trivial⟩,?_⟩
    refine fK Kz K0 (.slice _ 1 _ _ _ Tryz.underlying99 (bL [] ahD trivial rfl) (wH (c:=(dp l[i],cols[j].name)) rfl)) (by rw [jP,cO];simp only [ln];omega) ?_
    intro ra rm rc iL
    have eG:=MQ names (dp l[i]) cols nB
    have iH:rm=(rz names (dp l[i]) cols (j+1)).length:=by
     rw [jP] at iL
     rw [eG,List.length_append]
     simp only [ln] at iL ⊢
     omega
    subst iH
    simp +contextual only [go_sem,sevalprocAttr,GG,Gt,o8]
    refine ⟨dX bh.rfl' ⟨CP,n14.1,n14.2.1,n14.2.2.1,n14.2.2.2,trivial⟩ ⟨o8.1,o8.2.1,o8.2.2.1,o8.2.2.2.1,o8.2.2.2.2,trivial⟩,?_⟩
    refine aR (ak (ak (az ⟨cols.length - (j+1),by omega,rfl,j+1,by omega,rfl,?_,?_,T16,_,_,CU.trans S1,⟨ra,rc,rfl⟩,?_,?_,rfl⟩)))
    ·rw [hLV]
     simp only [aG,dH,go_sem,sevalprocAttr]
    ·simp only [go_sem,sevalprocAttr,aB j (by omega)]
    ·intro h
     rw [eG] at h
     simp at h
    ·rw [eG]
     exact cM hwl (cA rfl)
   ·have Ok:j=cols.length:=by omega
    subst Ok
    have cO:=FG names (dp l[i]) cols (Nat.le_refl _)
    have Ya:=Rg names (dp l[i]) cols
    have iz:(had++[dp l[i]]).length=i+1:=by rw [List.length_append,hhl];rfl
    have tJ:∀ {N':Tm} {M5:aS} {e:dj} {p':Pl} {ps:List Value} {nm:List (Bs×Bs)} {sc':Nat},aH T N' ->bh M M5 ->M5 b4=none ->M5 b6=none ->jV M5 p' ps ->e 7=.pointer (some ⟨sc',0,none⟩) ->TG M5 sc' nm ->e 8=oN ->nm.length<=(i+1)*1048576 ->
     aG e [(0,.pointer (some ⟨bb,0,none⟩)),(1,.slice (some ⟨b',o',none⟩) l.length c),(4,.pointer (some ⟨b4,0,none⟩)),(6,.pointer (some ⟨b6,0,none⟩)),(20,.slice (some ⟨b',o',none⟩) l.length c),(21,.int .i64 (l.length:Int))] ->e 22=.int .i64 ((i+1:Nat):Int) ->
     j0 rels (l.drop (i+1)) (i+1) p' nm (had++[dp l[i]])=oH rels l ->
     bK ⟨N',M5,[(b6,ps),(b4,[.int .i64 0,.int .i64 0,.int .i64 0,.int .i64 0,.int .i64 0,st [],.int .i64 0,.slice none 0 0,.slice none 0 0,.slice none 0 0,.slice none 0 0])],R2⟩ fun h=>∃ m',m'<l.length - i/\LI [] l.length 22 [(0,.pointer (some ⟨bb,0,none⟩)),(1,.slice (some ⟨b',o',none⟩) l.length c),(4,.pointer (some ⟨b4,0,none⟩)),(6,.pointer (some ⟨b6,0,none⟩)),(20,.slice (some ⟨b',o',none⟩) l.length c),(21,.int .i64 (l.length:Int))] (Yl rels l M T b4 b6) m' e [] h:=by
     intro N' M5 e p' ps nm sc' h1 h2 h3 h4 h5 h6 h7 h8 h9 Jp Yn eh
     exact az ⟨l.length - (i+1),by omega,rfl,i+1,by omega,rfl,Jp,Yn,M5,N',R2,oN,sc',p',ps,nm,had++[dp l[i]],h2,h1,h3,h4,h5,rfl,h6,h7,h8,lI,iz,h9,eh⟩
    by_cases rU:i=0
    ·subst rU
     rw [if_pos rfl] at ax
     simp +contextual only [go_sem,aE,sevalprocAttr,dH,GG,nB,hd,n14,py,nr]
     refine aR (bT (fun M5 dF bE gi=>aT fun he ajy bN=>ak (tJ (hNN.trans CU) ((vv.trans dF).trans he) bN.2.2.1 bN.2.1 (bY (((bM.trans dh).trans dF).trans he) _ _ hqp) ?_ ⟨_,ajy,⟨by omega,_,gi.ext he,hwl⟩,hwz⟩ ?_ (by omega) ?_ ?_ ?_)))
     ·simp only [go_sem,sevalprocAttr]
     ·simp only [dH,go_sem,sevalprocAttr]
     ·simp only [aG,dH,go_sem,sevalprocAttr]
     ·simp only [go_sem,sevalprocAttr];exact congrArg _ (by decide)
     ·rw [Ya];exact ax
    ·rw [if_neg rU] at ax
     obtain ⟨anm,zL⟩:=cq i l[i] (gq aN) (by omega)
     have H4:¬ ((i:Int)=0):=by omega
     replace y0:=ay (bM.trans dh) y0
     have TR:(l[i].k=2/\kU l[i].k=4)\/(l[i].k=3/\kU l[i].k=5)\/(l[i].k=4/\kU l[i].k=6)\/(l[i].k=5/\kU l[i].k=7):=by
      have:l[i].k=2\/l[i].k=3\/l[i].k=4\/l[i].k=5:=by omega
      rcases this with h | h | h | h<;>rw [h]<;>simp [kU]
     have ak6:∀ (kk:Int),l[i].k=kk ->kU l[i].k=kU kk:=fun kk h=>by rw [h]
     rcases TR with ⟨hk,hj⟩ | ⟨hk,hj⟩ | ⟨hk,hj⟩ | ⟨hk,hj⟩
     all_goals
      simp +contextual only [go_sem,aE,sevalprocAttr,dH,GG,nB,H4,y0,hk]
      intro g
      have XK:∀ {M':aS},bh M4 M' ->aJ M' [(b11,[d0,d1,d2,d3,d4,d5,d6,d7,d8,d9,d10]),(b6,[c0,c1,c2,c3,c4,c5,c6,c7,c8,c9,c10]),(b4,[.int .i64 0,.int .i64 0,.int .i64 0,.int .i64 0,.int .i64 0,st [],.int .i64 0,.slice none 0 0,.slice none 0 0,.slice none 0 0,.slice none 0 0])] ->M' b11=none/\M' b6=none/\M' b4=none:=fun _ h=>⟨h.1,h.2.1,h.2.2.1⟩
      have zr:At M4 b' (o'+i*10+3) [.int .i64 l[i].on.k,.int .i64 l[i].on.v.k,.int .i64 l[i].on.v.n,st l[i].on.v.t,st l[i].on.tab,st l[i].on.name,aw]:=(gb.1 (show At M4 b' (o'+i*10) ([.int .i64 l[i].k,st l[i].name,st l[i].as]++[.int .i64 l[i].on.k,.int .i64 l[i].on.v.k,.int .i64 l[i].on.v.n,st l[i].on.v.t,st l[i].on.tab,st l[i].on.name,aw]) from cG.ext vv)).2
      refine lS (fun e ds h=>ds=[]/\aG e [(0,.pointer (some ⟨bb,0,none⟩)),(1,.slice (some ⟨b',o',none⟩) l.length c),(4,.pointer (some ⟨b4,0,none⟩)),(6,.pointer (some ⟨b6,0,none⟩)),(20,.slice (some ⟨b',o',none⟩) l.length c),(21,.int .i64 (l.length:Int))]/\e 22=.int .i64 (i:Nat)/\e 7=.pointer (some ⟨sc,0,none⟩)/\e 8=oN/\e 14=.pointer (some ⟨b14,0,none⟩)/\e 17=.int .i64 (kU l[i].k)/\
       ∃ M6 b20 x cs6,bh M4 M6/\M6 b4=none/\M6 b6=none/\M6 b20=none/\jJ (names++cols.map fun c=>(dp l[i],c.name)) l[i].on=.ok x/\gU M6 x [.int .i64 x.k,.int .i64 x.v.k,.int .i64 x.v.n,st x.v.t,.int .i64 x.c,cs6]/\TG M6 b14 (names++cols.map fun c=>(dp l[i],c.name))/\
        h=⟨N5,M6,[(b20,[c0,c1,c2,c3,c4,c5,c6,c7,c8,c9,c10,d0,d1,d2,d3,d4,d5,d6,d7,d8,d9,d10]),(b11,[d0,d1,d2,d3,d4,d5,d6,d7,d8,d9,d10]),(b6,[.int .i64 (kU l[i].k),.int .i64 0,.int .i64 x.k,.int .i64 x.v.k,.int .i64 x.v.n,st x.v.t,.int .i64 x.c,cs6,.slice none 0 0,.slice none 0 0,.slice (some ⟨b20,0,none⟩) 2 2]),(b4,[.int .i64 0,.int .i64 0,.int .i64 0,.int .i64 0,.int .i64 0,st [],.int .i64 0,.slice none 0 0,.slice none 0 0,.slice none 0 0,.slice none 0 0])],R2⟩) (fun S' dU=> ?_) ?_
      ·refine eL ⟨T,M4,[(b11,[d0,d1,d2,d3,d4,d5,d6,d7,d8,d9,d10]),(b6,[c0,c1,c2,c3,c4,c5,c6,c7,c8,c9,c10]),(b4,[.int .i64 0,.int .i64 0,.int .i64 0,.int .i64 0,.int .i64 0,st [],.int .i64 0,.slice none 0 0,.slice none 0 0,.slice none 0 0,.slice none 0 0])],[]⟩ (by exact dX bh.rfl' ⟨n14.2.1,n14.2.2.1,n14.2.2.2,trivial⟩ ⟨py.2.1,py.2.2.1,py.2.2.2,trivial⟩) ?_
       simp +contextual only [go_sem,sevalprocAttr,dH,n14,nr]
       have acz:∀ {M5 M6:aS},bh M4 M5 ->Sl M5 (.slice wa (rz names (dp l[i]) cols cols.length).length wc) 2 xs ->bh M5 M6 ->M6 b14=some [.slice wa (rz names (dp l[i]) cols cols.length).length wc,.slice none 0 0,.pointer none,.pointer none] ->TG M6 b14 (names++cols.map fun c=>(dp l[i],c.name)):=by
        intro M5 M6 vU gi Z4 hb
        rw [<- Ya]
        exact ⟨_,hb,⟨by omega,_,gi.ext Z4,hwl⟩,hwz⟩
       have E4:∀ {M5:aS},bh M4 M5 ->TG M5 b14 (names++cols.map fun c=>(dp l[i],c.name)) ->cw Tryz.prog 37 [.pointer (some ⟨b14,0,none⟩),.pointer (some ⟨b',o'+i*10+3,none⟩)] N5 M5 [] [] (uY Wl (jJ (names++cols.map fun c=>(dp l[i],c.name)) l[i].on)) (qD (jJ (names++cols.map fun c=>(dp l[i],c.name)) l[i].on)):=by
        rintro M5 vU ⟨lv5,h5,hn5,_⟩
        exact exB _ _ l[i].on (Nat.le_refl _) zL M5 N5 b14 lv5 _ _ b' _ _ hn5 h5 (zr.ext vU) (bB (vv.trans vU) _ _ ZN)
       refine ⟨?_,?_⟩
       ·refine cQ (k:=fun h'=>∃ M5,bh M4 M5/\TG M5 b14 (names++cols.map fun c=>(dp l[i],c.name))/\(M5 b11=none/\M5 b6=none/\M5 b4=none)/\h'=⟨N5,M5,[(b11,[d0,d1,d2,d3,d4,d5,d6,d7,d8,d9,d10]),(b6,[c0,c1,c2,c3,c4,c5,c6,c7,c8,c9,c10]),(b4,[.int .i64 0,.int .i64 0,.int .i64 0,.int .i64 0,.int .i64 0,st [],.int .i64 0,.slice none 0 0,.slice none 0 0,.slice none 0 0,.slice none 0 0])],R2⟩)
         (jt (bT fun M5 dF bE gi=>aT fun he SI bN=>az ⟨_,dF.trans he,acz dF gi he SI,XK (dF.trans he) bN,rfl⟩)) ?_ F37.bd
        rintro h' ⟨M5,vU,SH,n5,rfl⟩
        refine bS (E4 vU SH) ?_ ?_
        ·rintro r M6 eg bN ⟨x,hx,cs6,rfl,vL⟩
         obtain ⟨s6,rfl,X4,_⟩:=dt vL
         simp only [aJ] at bN
         simp +contextual only [go_sem,sevalprocAttr,dH,nr,X4]
         refine ⟨em (vU.trans eg) ⟨bN.1,bN.2.1,bN.2.2.1,trivial⟩,?_⟩
         intro b20 QU jF
         refine dU _ _ _ ⟨rfl,?_,?_,?_,?_,?_,?_,M6,b20,x,s6,vU.trans eg,bN.2.2.1,bN.2.1,QU,hx,vL,SH.ext eg,by rw [hj];rfl⟩
         ·simp only [aG,dH,go_sem,sevalprocAttr]
         ·simp only [dH,go_sem,sevalprocAttr]
         ·simp only [dH,go_sem,sevalprocAttr]
         ·simp only [dH,go_sem,sevalprocAttr]
         ·simp only [dH,go_sem,sevalprocAttr]
         ·rw [hj];simp only [go_sem,sevalprocAttr]
        ·rintro ch M6 eg bN ⟨er,he,rfl⟩
         rw [he] at ax
         exact me (hNN.trans CU) ax.symm
       ·intro b20 QU jF
        refine ⟨WB bh.rfl' ⟨n14.2.1,n14.2.2.1,n14.2.2.2,trivial⟩ ⟨jF.2.1,jF.2.2.1,jF.2.2.2,trivial⟩ ⟨py.2.1,py.2.2.1,py.2.2.2,trivial⟩,?_⟩
        refine cQ (k:=fun h'=>∃ M5,bh M4 M5/\TG M5 b14 (names++cols.map fun c=>(dp l[i],c.name))/\(M5 b20=none/\M5 b11=none/\M5 b6=none/\M5 b4=none)/\h'=⟨N5,M5,[(b20,[c0,c1,c2,c3,c4,c5,c6,c7,c8,c9,c10,d0,d1,d2,d3,d4,d5,d6,d7,d8,d9,d10]),(b11,[d0,d1,d2,d3,d4,d5,d6,d7,d8,d9,d10]),(b6,[c0,c1,c2,c3,c4,c5,c6,c7,c8,c9,c10]),(b4,[.int .i64 0,.int .i64 0,.int .i64 0,.int .i64 0,.int .i64 0,st [],.int .i64 0,.slice none 0 0,.slice none 0 0,.slice none 0 0,.slice none 0 0])],R2⟩)
         (jt (bT fun M5 dF bE gi=>dm (List.Perm.swap _ _ _) (aT fun he SI bN=>az ⟨_,dF.trans he,acz dF gi he SI,⟨bN.1,XK (dF.trans he) bN.2⟩,rfl⟩))) ?_ F37.bd
        rintro h' ⟨M5,vU,SH,n5,rfl⟩
        refine bS (E4 vU SH) ?_ ?_
        ·rintro r M6 eg bN ⟨x,hx,cs6,rfl,vL⟩
         obtain ⟨s6,rfl,X4,_⟩:=dt vL
         simp only [aJ] at bN
         simp +contextual only [go_sem,sevalprocAttr,dH,nr,jF,X4]
         refine ⟨dX (vU.trans eg) ⟨bN.2.1,bN.2.2.1,bN.2.2.2.1,trivial⟩ ⟨jF.2.1,jF.2.2.1,jF.2.2.2,trivial⟩,?_⟩
         refine dU _ _ _ ⟨rfl,?_,?_,?_,?_,?_,?_,M6,b20,x,s6,vU.trans eg,bN.2.2.2.1,bN.2.2.1,bN.1,hx,vL,SH.ext eg,by rw [hj];rfl⟩
         ·simp only [aG,dH,go_sem,sevalprocAttr]
         ·simp only [dH,go_sem,sevalprocAttr]
         ·simp only [dH,go_sem,sevalprocAttr]
         ·simp only [dH,go_sem,sevalprocAttr]
         ·simp only [dH,go_sem,sevalprocAttr]
         ·rw [hj];simp only [go_sem,sevalprocAttr]
        ·rintro ch M6 eg bN ⟨er,he,rfl⟩
         rw [he] at ax
         exact me (hNN.trans CU) ax.symm
      ·rintro e ds h ⟨rfl,oM,e22,e7,e8,e14,e17,M6,b20,x,s6,TT,n4',n6',n20,hx,vL,ain,rfl⟩
       rw [hx] at ax
       simp only at ax
       rw [hj] at e17
       simp only [aG] at oM
       have hMa:=((bg.trans bM).trans dh).trans TT
       have hMb:=(bM.trans dh).trans TT
       have zz:∀ {M7:aS},bh M6 M7 ->M7 b20=some [c0,c1,c2,c3,c4,c5,c6,c7,c8,c9,c10,d0,d1,d2,d3,d4,d5,d6,d7,d8,d9,d10] ->jV M7 (.mk (kU l[i].k) 0 x [] [] [p,q]) [.int .i64 (kU l[i].k),.int .i64 0,.int .i64 x.k,.int .i64 x.v.k,.int .i64 x.v.n,st x.v.t,.int .i64 x.c,s6,.slice none 0 0,.slice none 0 0,.slice (some ⟨b20,0,none⟩) 2 2]:=by
        intro M7 he h20
        exact jk (cu he _ _ vL) bu bu (sC (cs:=[c0,c1,c2,c3,c4,c5,c6,c7,c8,c9,c10]) (ds:=[d0,d1,d2,d3,d4,d5,d6,d7,d8,d9,d10]) h20 (bY (hMa.trans he) _ _ hp) (bY (hMb.trans he) _ _ hqp))
       by_cases ey:l[i].k=2\/l[i].k=5
       ·rw [if_pos ey] at ax
        first
        | (exfalso;omega)
        | (simp +contextual only [go_sem,aE,sevalprocAttr,e17,e22,e14]
           refine aR (aT fun he h20 iO=>ak (tJ (hNN.trans CU) ((vv.trans TT).trans he) iO.2.2.1 iO.2.1 (zz he h20) ?_ (ain.ext he) ?_ (by rw [List.length_append,List.length_map];omega) ?_ ?_ ax))
           ·simp only [go_sem,sevalprocAttr]
           ·simp only [e8,go_sem,sevalprocAttr]
           ·simp only [aG,oM,go_sem,sevalprocAttr]
           ·simp only [go_sem,sevalprocAttr,aB i (by omega)])
       ·rw [if_neg ey] at ax
        first
        | (exfalso;omega)
        | (simp +contextual only [go_sem,aE,sevalprocAttr,e17,e22]
           refine aR (aT fun he h20 iO=>ak (tJ (hNN.trans CU) ((vv.trans TT).trans he) iO.2.2.1 iO.2.1 (zz he h20) ?_ ((Og.ext hMa).ext he) ?_ (Nat.le_trans GW (Nat.mul_le_mul_right _ (Nat.le_succ i))) ?_ ?_ ax))
           ·simp only [e7,go_sem,sevalprocAttr]
           ·simp only [e8,go_sem,sevalprocAttr]
           ·simp only [aG,oM,go_sem,sevalprocAttr]
           ·simp only [go_sem,sevalprocAttr,aB i (by omega)])
 ·have:i=l.length:=by omega
  subst this
  rw [List.drop_length] at ax
  obtain ⟨c0,c1,c2,c3,c4,c5,c6,c7,c8,c9,c10,rfl,hc⟩:=cU hp
  simp +contextual only [go_sem,aE,sevalprocAttr,aI,ht,aN,hc,e7,n4,n6,fq]
  refine am tH ⟨(p,names),ax.symm,_,sc,rfl,hp,Og⟩
def hvC (s:Se):Nat:=if s.hasH=true then vQ s.hv else 0
theorem YI {s:Se}(h:s.hasH=true):vQ s.hv=hvC s:=by unfold hvC;rw [if_pos h]
structure OkSe (s:Se):Prop where
 src:s.src.length<=16
 on:∀ (j:Nat) (x:So),s.src[j]?=some x ->0<j ->(2<=x.k/\x.k<=5)/\zx x.on
 wh:s.hasW=true ->zx s.wh
 grp:s.group.length<=1000/\∀ x∈s.group,zx x
 its:s.star=false ->s.items.length<=40/\∀ x∈s.items,zx x.x
 hv:s.hasH=true ->zx s.hv
 cnt:s.star=false ->oR (s.items.map (·.x))+hvC s<=100000
def pf (s:Se)(p:Pl)(names:List (Bs×Bs)):Except Int (Pl×List Bs):=match (if eQ s=true then j2 s p names else oI s p names) with
 | .error e=> .error e
 | .ok q=> .ok (if s.distinct=true then jy 11 q else q,if s.star=true then names.map (·.2) else eT 0 s.items)
theorem Tc {rels:List Rel}{s:Se}{e:Int}(h:oH rels s.src=.error e):mt rels s=.error e:=by unfold mt;rw [h]
theorem Mj {rels:List Rel}{s:Se}{f:Pl×List (Bs×Bs)}{e:Int}(h:oH rels s.src=.ok f)(hw:q8 f.2 s.hasW s.wh=.error e):mt rels s=.error e:=by unfold mt;rw [h];simp only;rw [hw]
theorem JK {rels:List Rel}{s:Se}{f:Pl×List (Bs×Bs)}{w:Ex}(h:oH rels s.src=.ok f)(hw:q8 f.2 s.hasW s.wh=.ok w):mt rels s=pf s (if s.hasW=true then gz w f.1 else f.1) f.2:=by
 unfold mt pf;rw [h];simp only;rw [hw]<;>rfl
theorem tM {rels:List Rel}(hc:∀ r∈rels,r.cols.length<=1048576):∀ (l:List So) (i:Nat) (p:Pl) (names:List (Bs×Bs)) (had:List Bs) (r:Pl×List (Bs×Bs)),j0 rels l i p names had=.ok r ->r.2.length<=names.length+l.length*1048576
 | [],i,p,names,had,r,h=>by
  rw [j0] at h
  injection h with h;subst h;simp
 | s::l,i,p,names,had,r,h=>by
  rw [yD] at h
  rw [List.length_cons,Nat.add_mul,Nat.one_mul]
  split at h
  ·cases h
  ·rename_i q hq
   obtain ⟨x,hx,hxc⟩:=Ah hq
   have hq2:q.2.length<=1048576:=by rw [hxc];exact hc x hx
   split at h
   ·cases h
   ·split at h
    ·have:=tM hc l _ _ _ _ _ h
     rw [List.length_append,List.length_map] at this
     omega
    ·split at h
     ·cases h
     ·have:=tM hc l _ _ _ _ _ h
      split at this
      ·rw [List.length_append,List.length_map] at this
       omega
      ·exact Nat.le_trans this (Nat.add_le_add_left (Nat.le_add_right _ _) _)
theorem A4 {rels:List Rel}(hc:∀ r∈rels,r.cols.length<=1048576){l:List So}{r:Pl×List (Bs×Bs)}(h:oH rels l=.ok r):r.2.length<=l.length*1048576:=by
 have:=tM hc l 0 jw [] [] r h
 simpa using this
theorem sY {M:aS}{b:Nat}{cs:List Value}(h:M b=some cs):At M b 0 cs:=kJ h cs 0 (by simp)
theorem HB {x:It}{M:aS}{cs:List Value}(hx:xh M x cs)(T:Tm):cw Tryz.prog 64 [.agg ⟨cs⟩] T M [] [] (fun r _ _ _=>r=.bool (qO x.x)) aO:=by
 have hl:=jE hx
 obtain ⟨aw,rfl,Kl,h1⟩:=lK hx
 refine aC F64 rfl rfl ?_
 intro bi _
 simp +contextual only [go_sem,sevalprocAttr]
 intro b2 T2 ey dV fG
 refine di F65.bd fun M1 aV Ie bG=> ?_
 refine aD (spX _ x.x (Nat.le_refl _) M1 T2 b2 0 _ (gb.1 (show At M1 b2 0 ([.int .i64 x.x.k,.int .i64 x.x.v.k,.int .i64 x.x.v.n,st x.x.v.t,st x.x.tab,st x.x.name,aw]++[st x.as]) from sY Ie)).1 (bB aV _ _ Kl)) ?_
 rintro v M2 bg _ rfl
 simp +contextual only [go_sem,sevalprocAttr]
 exact am dV rfl
theorem Ma {l:List It}{M:aS}{lv:Value}(hs:RS M (xh M) 8 l lv)(T:Tm):
 cw Tryz.prog 108 [lv,.func (.func 64) ⟨[]⟩ ⟨[]⟩] T M [] [] (fun r _ _ _=>r=.int .i64 (oO (l.findIdx? fun i=>qO i.x))) aO:=by
 obtain ⟨fS,a,c,rfl,dJ,_,hg⟩:=aF (by decide) (fun _ _=>jE) hs
 refine aC ahb rfl rfl ?_
 intro bi _
 simp +contextual only [go_sem,aE,sevalprocAttr]
 refine aY l.length 8 [(0,.slice a l.length c),(1,.func (.func 64) ⟨[]⟩ ⟨[]⟩),(7,.int .i64 (l.length:Int))] (fun i e h=>∃ M',bh M M'/\h=⟨T,M',[],[]⟩/\(l.findIdx? fun i=>qO i.x)=((l.drop i).findIdx? fun i=>qO i.x).map (·+i)) 0 (by omega) (by simp only [aG,go_sem,sevalprocAttr]) (by simp only [go_sem,sevalprocAttr]) ⟨M,bh.rfl',rfl,by simp⟩ ?_
 rintro i e h hi aI ht ⟨M1,aV,rfl,ax⟩
 simp only [aG] at aI
 by_cases aN:i<l.length
 ·obtain ⟨p1,o1,cs1,rfl,Ch,vC⟩:=hg i l[i] (gq aN)
  have hdl:l.drop i=l[i]::l.drop (i+1):=dq aN
  rw [hdl,List.findIdx?_cons] at ax
  obtain ⟨s1,Dn,wu,gF⟩:=lK vC
  subst Dn
  obtain ⟨y0,y1,y2,y3,y4,y5,y6,y7⟩:=At8 (Ch.ext aV)
  simp +contextual only [go_sem,aE,sevalprocAttr,aI,ht,aN,y0,y1,y2,y3,y4,y5,y6,y7]
  refine aD (HB (jA aV _ _ vC) T) ?_
  rintro v M2 bg _ rfl
  cases hb:qO l[i].x with
  | true=>
   rw [hb] at ax
   simp +contextual only [go_sem,aE,sevalprocAttr]
   exact am aH.rfl' (by rw [ax];simp [oO])
  | false=>
   rw [hb] at ax
   simp +contextual only [go_sem,aE,sevalprocAttr,ht]
   refine cI aN ?_ ?_ ⟨M2,aV.trans bg,rfl,?_⟩
   ·simp only [aG,aI,go_sem,sevalprocAttr]
   ·simp only [go_sem,sevalprocAttr,aB i (by omega)]
   ·rw [ax]
    cases (l.drop (i+1)).findIdx? (fun i=>qO i.x)<;>simp;omega
 ·have:i=l.length:=by omega
  subst this
  rw [List.drop_length] at ax
  simp +contextual only [go_sem,aE,sevalprocAttr,aI,ht,aN]
  exact am aH.rfl' (by rw [ax];rfl)
theorem C0 {l:List It}{M:aS}{lv:Value}(hs:RS M (xh M) 8 l lv)(T:Tm):
 cw Tryz.prog 63 [lv,.func (.func 64) ⟨[]⟩ ⟨[]⟩] T M [] [] (fun r _ _ _=>r=.bool (l.any fun i=>qO i.x)) aO:=by
 refine aC F63 rfl rfl ?_
 intro bi _
 simp +contextual only [go_sem,sevalprocAttr]
 refine aD (Ma hs T) ?_
 rintro v M1 aV _ rfl
 simp +contextual only [go_sem,sevalprocAttr]
 exact am aH.rfl' (by rw [FC])
end Go.Proofs.YtmccpbcbofhmlaaGreatDoor

import Derived.Test.YtmeeifechggoeaaGreatDoorF
set_option linter.all false
namespace Go.Proofs.YtmeeifechggoeaaGreatDoor
open Go Vc
set_option maxRecDepth 10000
def slR (M:aS):RR ->Prop
 | []=>True
 | (v,_,sz,xs)::R=>(0<sz ->Sl M v sz xs)/\slR M R
theorem sW {N:Tm}:∀ (R:RR) (M:aS) (k:Sh ->Prop),(∀ M',bm M M' ->slR M' R ->k ⟨N,M',[],[]⟩) ->cq ⟨N,M,[],R⟩ k
 | [],M,k,h=>aB (h M bm.rfl' trivial)
 | (v,el,sz,xs)::R,M,k,h=>by
  by_cases hs:0<sz
  ·exact cK (fun M' he _ iG=>sW R M' k fun M2 pu hR=>h M2 (he.trans pu) ⟨fun _=>iG.ext pu,hR⟩) hs
  ·intro c w hw
   obtain ⟨bs,hi⟩:=hw
   obtain ⟨bs',DC⟩:=hi.dropR
   exact sW R M k (fun M2 pu hR=>h M2 pu ⟨fun h=>absurd h hs,hR⟩) c w ⟨bs',DC⟩
section
variable {F:Fi} {s:List Vc.Item} {e:dp} {ds:List Deferred} {dd:Option Nat} {N:Tm} {M:aS} {L:LL} {R:RR}
theorem Mb {c:Ctx}{w:World}{bs:List (Option Nat)}(hi:Hp c ⟨N,M,L,R⟩ w bs):Pz w [] N M [] []:=⟨[],rfl,
 {typ:=fun b t h=>⟨(hi.typ b t h).1,fun h=>by simp at h⟩
  holds:=hi.holds
  blk:=fun b cs h=>by simp at h
  rows:=⟨rfl,fun i v e sz xs o h=>by simp at h⟩
  nodup:=by simp
  apart:=fun b h=>by simp at h
  os:=rfl
  tape:=rfl
  output:=rfl
  size:=Nat.le_refl _
  old:=fun _ _ _=>rfl
  mem:=fun _ _ _=>rfl
  le:=fun _ _ h=>h}⟩
theorem cT {f:FuncId}{args:List Value}{x:Value}(hb:dm Tryz.prog f=true)(hc:∀ M',bm M M' ->lV M' L ->slR M' R ->bV Tryz.prog f args N M' [] [] (fun r _ _ _=>r=x) aM)
 (hn:cy Tryz.prog F s (cI e dd x) ds ⟨N,M,L,R⟩ ⟨⟩):dx Tryz.prog F f args dd s e ds ⟨N,M,L,R⟩ ⟨⟩:=by
 refine ⟨hb,fun c w hw=> ?_⟩
 obtain ⟨_,⟨_,Hu⟩,M',he,hL,hR,rfl⟩:=(lz (k:=fun h'=>∃ M',bm M M'/\lV M' L/\slR M' R/\h'=⟨N,M',[],[]⟩) fun M' he hL=>sW R M' _ fun M2 pu hR=>⟨M2,he.trans pu,BS pu hL,hR,rfl⟩) c w hw
 have uD:Pz w [] N M' [] []:=Mb Hu
 refine Calls.mono ((hc M' he hL hR).2 w [] uD) ?_
 intro en w' hr
 cases en with
 | returned v=>
  obtain ⟨M2,L2,R2,⟨⟨_,kg⟩,_⟩,rfl⟩:=hr
  have hk:ke w w':=⟨kg.os,kg.tape,kg.output,kg.size,fun b hb=>kg.old b hb (by simp)⟩
  obtain ⟨bs,hi⟩:=hw
  exact ⟨_,⟨bs,hi.keeps hk⟩,hn⟩
 | panicked ch=>obtain ⟨_,_,_,_,hf⟩:=hr;exact hf.elim
 | outgrown=>exact hr.elim
theorem aP {f:FuncId}{args:List Value}{x:Value}(hc:bV Tryz.prog f args N M [] [] (fun r _ _ _=>r=x) aM)
 (hn:cy Tryz.prog F s (cI e dd x) ds ⟨N,M,L,R⟩ ⟨⟩):dx Tryz.prog F f args dd s e ds ⟨N,M,L,R⟩ ⟨⟩:=by
 refine ⟨hc.1,fun c w hw=> ?_⟩
 obtain ⟨bs,hi⟩:=hw
 have uD:Pz w [] N M [] []:=Mb hi
 refine Calls.mono (hc.2 w [] uD) ?_
 intro en w' hr
 cases en with
 | returned v=>
  obtain ⟨M2,L2,R2,⟨⟨_,kg⟩,_⟩,rfl⟩:=hr
  have hk:ke w w':=⟨kg.os,kg.tape,kg.output,kg.size,fun b hb=>kg.old b hb (by simp)⟩
  exact ⟨_,⟨bs,hi.keeps hk⟩,hn⟩
 | panicked ch=>obtain ⟨_,_,_,_,hf⟩:=hr;exact hf.elim
 | outgrown=>exact hr.elim
end
def fW (a b:Int):Int:=if a<b then -1 else if b<a then 1 else 0
def kA (s t:Bs):Int:=Lib.compareBytes s t
def kM (a b:Int):Int:=if a≠0 then a else b
def j3:V:=⟨1,0,[]⟩
def tq (b:Bool):V:=⟨2,if b=true then 1 else 0,[]⟩
def DS (n:Int):V:=if n>1000000000000000\/n< -1000000000000000 then j3 else ⟨3,n,[]⟩
def pT (a b:V):Int:=kM (fW (bJ a).k (bJ b).k) (kM (fW (bJ a).n (bJ b).n) (kA (bJ a).t (bJ b).t))
def uR (a b:V):Bool:=decide (a.k=b.k) && !decide (a.k=1)
def I1 (a b:V):V:=if uR a b=true then tq (decide (pT a b=0)) else j3
def o6 (a b:V):V:=if uR a b=true then tq (decide (pT a b<0)) else j3
def nJ (v:V):Int:=if v.k=2 then IntKind.i64.wrap (2*v.n) else 1
def mJ (n:Int):V:=if n=1 then j3 else tq (decide (n=2))
def Xw (a b:V):V:=mJ (if nJ b<nJ a then nJ b else nJ a)
def orV (a b:V):V:=mJ (if nJ b>nJ a then nJ b else nJ a)
def JG (a:V):V:=mJ (IntKind.i64.wrap (2 - nJ a))
def BZ (v:V):Bool:=decide (nJ v=2)
def PD (x y p:Int):V:=if x=0\/(IntKind.i64.wrap (p.tdiv x)=y/\p<=1000000000000000)/\p>= -1000000000000000 then DS p else j3
def vY (s:Int)(a b:V):V:=if a.k=3/\b.k=3 then
 (if s=43 then DS (IntKind.i64.wrap (a.n+b.n)) else if s=45 then DS (IntKind.i64.wrap (a.n - b.n)) else if s=42 then PD a.n b.n (IntKind.i64.wrap (a.n*b.n)) else j3) else j3
def A2 (a b:V):V:=if (a.k=4/\b.k=4)/\a.t.length+b.t.length<=60 then ⟨4,0,a.t++b.t⟩ else j3
def bO:List V ->List V ->Int
 | [],[]=>0
 | [],_::_=> -1
 | _::_,[]=>1
 | x::a,y::b=>kM (pT x y) (bO a b)
variable {M:aS}
theorem Hb (a:Int)(T:Tm):bV Tryz.prog 273 [.int .i64 a] T M [] [] (fun r _ _ _=>r=.bool false) aM:=by
 refine az ajj rfl rfl ?_
 intro _ _
 simp +contextual only [go_sem,sevalprocAttr]
 exact ak aF.rfl' rfl
theorem yY (a:Int)(T:Tm):bV Tryz.prog 300 [.int .i64 a] T M [] [] (fun r _ _ _=>r=.bool false) aM:=by
 refine az ala rfl rfl ?_
 intro _ _
 simp +contextual only [go_sem,sevalprocAttr]
 exact ak aF.rfl' rfl
theorem Ln (a b:Int)(T:Tm):bV Tryz.prog 247 [.int .i64 a,.int .i64 b] T M [] [] (fun r _ _ _=>r=.int .i64 (fW a b)) aM:=by
 refine az aiR rfl rfl ?_
 intro _ _
 simp +contextual only [go_sem,sevalprocAttr]
 refine aP (Hb a T) ?_
 simp +contextual only [go_sem,sevalprocAttr]
 refine aP (Hb b T) ?_
 simp +contextual only [go_sem,aD,sevalprocAttr]
 (repeat' split)<;>(refine ak aF.rfl' (cN ?_);unfold fW;simp [*])
theorem ON (a b:Int)(T:Tm):bV Tryz.prog 271 [.int .i64 a,.int .i64 b] T M [] [] (fun r _ _ _=>r=.int .i64 (fW a b)) aM:=by
 refine az ak0 rfl rfl ?_
 intro _ _
 simp +contextual only [go_sem,sevalprocAttr]
 refine aP (yY a T) ?_
 simp +contextual only [go_sem,sevalprocAttr]
 refine aP (yY b T) ?_
 simp +contextual only [go_sem,aD,sevalprocAttr]
 (repeat' split)<;>(refine ak aF.rfl' (cN ?_);unfold fW;simp [*])
theorem Yd (s t:Bs)(T:Tm):bV Tryz.prog 272 [st s,st t] T M [] [] (fun r _ _ _=>r=.int .i64 (kA s t)) aM:=
 (xp (by kernel_rfl) (fun w hw=>Calls.mono (Tryz.strings_Compare (bs s) (bs t) w) fun e w' h=>⟨by rw [h.1];rfl,by rw [h.2];exact ke.rfl'⟩) T).mono (fun _ _ _ _ _ _ _ h=>h.1) (fun _ _ _ _ _ _ _ h=>h)
theorem aex {l:List Int}{lv:Value}(hs:RS M RI 1 l lv)(T:Tm):bV Tryz.prog 270 [lv] T M [] [] (fun r _ _ _=>r=.int .i64 (l.foldr kM 0)) aM:=by
 obtain ⟨eZ,a,c,rfl,di,_,hg⟩:=ax (by decide) (fun _ _=>ct) hs
 refine az aej rfl rfl ?_
 intro bi _
 simp +contextual only [go_sem,aD,sevalprocAttr]
 refine aO l.length 8 [(3,.int .i64 0),(6,.slice a l.length c),(7,.int .i64 (l.length:Int))] (fun i e h=>h=⟨T,M,[],[]⟩/\(l.drop i).foldr kM 0=l.foldr kM 0) 0 (by omega) (by simp only [aE,go_sem,sevalprocAttr]) (by simp only [go_sem,sevalprocAttr]) ⟨rfl,rfl⟩ ?_
 rintro i e h hi aG ht ⟨rfl,am⟩
 simp only [aE] at aG
 by_cases aL:i<l.length
 ·obtain ⟨b',o',cs',rfl,bQ,dV⟩:=hg i l[i] (gq aL)
  unfold RI at dV;subst dV
  have x0:=xG bQ
  rw [Nat.mul_one] at x0
  have bK:l.drop i=l[i]::l.drop (i+1):=dq aL
  rw [bK,List.foldr_cons] at am
  simp +contextual only [go_sem,aD,sevalprocAttr,aG,ht,aL,x0]
  by_cases h0:l[i]=0
  ·rw [h0] at am
   simp +contextual only [go_sem,sevalprocAttr,h0]
   refine ce aL ?_ ?_ ⟨rfl,am⟩
   ·simp only [aE,aG,go_sem,sevalprocAttr]
   ·simp only [go_sem,sevalprocAttr,aA i (by omega)]
  ·simp +contextual only [go_sem,sevalprocAttr,h0]
   refine ak aF.rfl' (cN ?_)
   rw [<- am,kM,if_pos h0]
 ·have:i=l.length:=by omega
  subst this
  rw [List.drop_length] at am
  simp +contextual only [go_sem,aD,sevalprocAttr,aG,ht,aL]
  exact ak aF.rfl' (congrArg (Value.int .i64) am)
theorem ub (b:Bool)(T:Tm):bV Tryz.prog 171 [.bool b] T M [] [] (fun r _ _ _=>r=.agg ⟨(tq b).cs⟩) aM:=by
 refine az ak5 rfl rfl ?_
 intro _ _
 cases b with
 | true=>
  simp +contextual only [go_sem,aD,sevalprocAttr]
  intro b1 T1 fx dh fT b2 T2 dN fh dy ei
  exact ak (dh.trans dy) rfl
 | false=>
  simp +contextual only [go_sem,aD,sevalprocAttr]
  intro b1 T1 fx dh fT b2 T2 dN fh dy ei
  exact ak (dh.trans dy) rfl
theorem xq (n:Int)(T:Tm):bV Tryz.prog 218 [.int .i64 n] T M [] [] (fun r _ _ _=>r=.agg ⟨(DS n).cs⟩) aM:=by
 unfold DS
 refine az aj7 rfl rfl ?_
 intro _ _
 by_cases h1:n>1000000000000000
 ·rw [if_pos (.inl h1)]
  simp +contextual only [go_sem,aD,sevalprocAttr,h1]
  intro b1 T1 fx dh fT
  refine aP (iB T1) ?_
  simp +contextual only [go_sem,sevalprocAttr,aC fx]
  exact ak dh rfl
 ·by_cases h2:n< -1000000000000000
  ·rw [if_pos (.inr h2)]
   simp +contextual only [go_sem,aD,sevalprocAttr,h1,h2]
   intro b1 T1 fx dh fT
   refine aP (iB T1) ?_
   simp +contextual only [go_sem,sevalprocAttr,aC fx]
   exact ak dh rfl
  ·rw [if_neg (fun h=>h.elim h1 h2)]
   simp +contextual only [go_sem,aD,sevalprocAttr,h1,h2]
   intro b1 T1 fx dh fT
   exact ak dh rfl
theorem BD (a b:V)(T:Tm):bV Tryz.prog 251 [.agg ⟨a.cs⟩,.agg ⟨b.cs⟩] T M [] [] (fun r _ _ _=>r=.bool (uR a b)) aM:=by
 obtain ⟨k,n,t⟩:=a
 obtain ⟨k',n',t'⟩:=b
 simp only [V.cs,uR]
 refine az ajO rfl rfl ?_
 intro _ _
 simp +contextual only [go_sem,sevalprocAttr]
 intro b1 T1 fx dh fT b2 T2 dN fh dy ei
 by_cases h:k=k'
 ·subst h
  simp +contextual only [go_sem,sevalprocAttr]
  exact ak (dh.trans dy) rfl
 ·simp +contextual only [go_sem,sevalprocAttr,h]
  exact ak (dh.trans dy) rfl
theorem pB (a b:V)(T:Tm):bV Tryz.prog 246 [.agg ⟨a.cs⟩,.agg ⟨b.cs⟩] T M [] [] (fun r _ _ _=>r=.int .i64 (pT a b)) aM:=by
 obtain ⟨S,hS⟩:∃ S,S=pT a b:=⟨_,rfl⟩
 rw [<- hS]
 unfold pT at hS
 simp only [V.cs]
 refine JH mx acC.bd Tryz.func246 rfl (by rw [acC.nt];exact Nat.le_of_ble_eq_true rfl) (dr:=[(1,.take 0<| .take 2<| .eff 1 false (.eff 3 false (.eff 4 true (.eff 5 true (.done)<| .no)<| .no)<| .no)<| .no),(2,.take 0<| .take 2<| .take 5<| .take 7<| .take 10<| .take 12<| .take 1<| .take 3<| .take 6<| .take 8<| .take 11<| .take 13<| .eff 4 false (.eff 9 false (.eff 14 false (.eff 15 false (.eff 16 false (.take 17<| .done)<| .no)<| .no)<| .no)<| .no)<| .no)]) (by kernel_rfl) acC.rs ?_
 intro _ _
 simp +contextual only [go_sem,sevalprocAttr]
 intro b1 T1 fx dh fT b2 T2 dN fh dy ei
 refine aX ?_
 simp +contextual only [go_sem,sevalprocAttr,fh,aC fx,aC dN]
 refine aP (lX a _) ?_
 simp +contextual only [go_sem,sevalprocAttr]
 refine ⟨fO.refl _,?_⟩
 refine aP (lX b _) ?_
 simp +contextual only [go_sem,sevalprocAttr,fh]
 refine ⟨fO.refl _,?_⟩
 refine aX ?_
 simp +contextual only [go_sem,sevalprocAttr,fh,aC fx,aC dN]
 refine aP (Ln _ _ _) ?_
 simp +contextual only [go_sem,sevalprocAttr]
 refine ⟨fO.refl _,?_⟩
 refine aP (ON _ _ _) ?_
 simp +contextual only [go_sem,sevalprocAttr]
 refine ⟨fO.refl _,?_⟩
 refine aP (Yd _ _ _) ?_
 simp +contextual only [go_sem,sevalprocAttr]
 refine ⟨fO.refl _,?_⟩
 intro b9 qy gP
 refine ⟨dK bm.rfl' ⟨dN,fx,trivial⟩ ⟨gP.1,gP.2,trivial⟩,?_⟩
 refine cZ aej.bd fun M1 aV hb bi=> ?_
 refine aP (aex (dB (fun _ _=>ct) hb (l:=[fW (bJ a).k (bJ b).k,fW (bJ a).n (bJ b).n,kA (bJ a).t (bJ b).t]) ⟨[_],_,rfl,rfl,[_],_,rfl,rfl,[_],_,rfl,rfl,rfl⟩ rfl (by simp)) _) ?_
 simp +contextual only [go_sem,sevalprocAttr]
 refine ⟨fu aV bi,?_⟩
 refine ak (dh.trans dy) (cN ?_)
 have h0:∀ x,kM x 0=x:=by intro x;unfold kM;split<;>omega
 simp only [hS,List.foldr,h0]
theorem BK (a b:V)(T:Tm):bV Tryz.prog 219 [.agg ⟨a.cs⟩,.agg ⟨b.cs⟩] T M [] [] (fun r _ _ _=>r=.agg ⟨(I1 a b).cs⟩) aM:=by
 obtain ⟨S,hS⟩:∃ S,S=I1 a b:=⟨_,rfl⟩
 rw [<- hS]
 unfold I1 at hS
 refine az ajq rfl rfl ?_
 intro _ _
 simp +contextual only [go_sem,sevalprocAttr,V.cs]
 intro b1 T1 fx dh fT b2 T2 dN fh dy ei b4 T4 eN eE fG iI
 refine aP (BD a b _) ?_
 have hT:=(dh.trans dy).trans fG
 cases D3:uR a b with
 | true=>
  rw [D3,if_pos rfl] at hS
  simp +contextual only [go_sem,aD,sevalprocAttr,fh,eE,aC fx,aC dN]
  refine aP (pB a b _) ?_
  simp +contextual only [go_sem,sevalprocAttr]
  refine aP (ub _ _) ?_
  simp +contextual only [go_sem,sevalprocAttr,aC eN,V.cs]
  exact ak hT (by subst hS;rfl)
 | false=>
  rw [D3,if_neg Bool.false_ne_true] at hS
  simp +contextual only [go_sem,aD,sevalprocAttr]
  refine aP (iB _) ?_
  simp +contextual only [go_sem,sevalprocAttr,aC eN]
  exact ak hT (by subst hS;rfl)
theorem tE (a b:V)(T:Tm):bV Tryz.prog 220 [.agg ⟨a.cs⟩,.agg ⟨b.cs⟩] T M [] [] (fun r _ _ _=>r=.agg ⟨(o6 a b).cs⟩) aM:=by
 obtain ⟨S,hS⟩:∃ S,S=o6 a b:=⟨_,rfl⟩
 rw [<- hS]
 unfold o6 at hS
 refine az ai5 rfl rfl ?_
 intro _ _
 simp +contextual only [go_sem,sevalprocAttr,V.cs]
 intro b1 T1 fx dh fT b2 T2 dN fh dy ei b4 T4 eN eE fG iI
 refine aP (BD a b _) ?_
 have hT:=(dh.trans dy).trans fG
 cases D3:uR a b with
 | true=>
  rw [D3,if_pos rfl] at hS
  simp +contextual only [go_sem,aD,sevalprocAttr,fh,eE,aC fx,aC dN]
  refine aP (pB a b _) ?_
  simp +contextual only [go_sem,sevalprocAttr]
  refine aP (ub _ _) ?_
  simp +contextual only [go_sem,sevalprocAttr,aC eN,V.cs]
  exact ak hT (by subst hS;rfl)
 | false=>
  rw [D3,if_neg Bool.false_ne_true] at hS
  simp +contextual only [go_sem,aD,sevalprocAttr]
  refine aP (iB _) ?_
  simp +contextual only [go_sem,sevalprocAttr,aC eN]
  exact ak hT (by subst hS;rfl)
theorem nO (a:V)(T:Tm):bV Tryz.prog 162 [.agg ⟨a.cs⟩] T M [] [] (fun r _ _ _=>r=.int .i64 (nJ a)) aM:=by
 obtain ⟨S,hS⟩:∃ S,S=nJ a:=⟨_,rfl⟩
 rw [<- hS]
 unfold nJ at hS
 refine az aiT rfl rfl ?_
 intro _ _
 simp +contextual only [go_sem,aD,sevalprocAttr,V.cs]
 intro b1 T1 fx dh fT
 by_cases h:a.k=2
 ·rw [if_pos h] at hS
  simp +contextual only [go_sem,sevalprocAttr,h]
  exact ak dh (by subst hS;rfl)
 ·rw [if_neg h] at hS
  simp +contextual only [go_sem,sevalprocAttr,h]
  exact ak dh (by subst hS;rfl)
theorem s7 (n:Int)(T:Tm):bV Tryz.prog 217 [.int .i64 n] T M [] [] (fun r _ _ _=>r=.agg ⟨(mJ n).cs⟩) aM:=by
 obtain ⟨S,hS⟩:∃ S,S=mJ n:=⟨_,rfl⟩
 rw [<- hS]
 unfold mJ at hS
 refine az akV rfl rfl ?_
 intro _ _
 simp +contextual only [go_sem,aD,sevalprocAttr]
 intro b1 T1 fx dh fT
 by_cases h:n=1
 ·rw [if_pos h] at hS
  simp +contextual only [go_sem,sevalprocAttr,h]
  refine aP (iB _) ?_
  simp +contextual only [go_sem,sevalprocAttr,aC fx,V.cs]
  exact ak dh (by subst hS;rfl)
 ·rw [if_neg h] at hS
  simp +contextual only [go_sem,sevalprocAttr,h]
  refine aP (ub (decide (n=2)) _) ?_
  simp +contextual only [go_sem,sevalprocAttr,aC fx,V.cs]
  exact ak dh (by subst hS;rfl)
theorem Xm (a b:V)(T:Tm):bV Tryz.prog 167 [.agg ⟨a.cs⟩,.agg ⟨b.cs⟩] T M [] [] (fun r _ _ _=>r=.agg ⟨(Xw a b).cs⟩) aM:=by
 obtain ⟨S,hS⟩:∃ S,S=Xw a b:=⟨_,rfl⟩
 rw [<- hS]
 unfold Xw at hS
 refine az ahZ rfl rfl ?_
 intro _ _
 simp +contextual only [go_sem,sevalprocAttr,V.cs]
 intro b1 T1 fx dh fT b2 T2 dN fh dy ei b4 T4 eN eE fG iI
 refine aX ?_
 simp +contextual only [go_sem,sevalprocAttr,fh,eE,aC fx,aC dN]
 refine aP (nO a _) ?_
 simp +contextual only [go_sem,sevalprocAttr]
 refine ⟨fO.refl _,?_⟩
 refine aP (nO b _) ?_
 simp +contextual only [go_sem,sevalprocAttr]
 refine ⟨fO.refl _,?_⟩
 refine ⟨fO.refl _,?_⟩
 refine aP (s7 _ _) ?_
 simp +contextual only [go_sem,sevalprocAttr,aC eN,V.cs]
 refine ⟨fO.refl _,?_⟩
 exact ak ((dh.trans dy).trans fG) (by subst hS;rfl)
theorem ab1 (a b:V)(T:Tm):bV Tryz.prog 168 [.agg ⟨a.cs⟩,.agg ⟨b.cs⟩] T M [] [] (fun r _ _ _=>r=.agg ⟨(orV a b).cs⟩) aM:=by
 obtain ⟨S,hS⟩:∃ S,S=orV a b:=⟨_,rfl⟩
 rw [<- hS]
 unfold orV at hS
 refine az akj rfl rfl ?_
 intro _ _
 simp +contextual only [go_sem,sevalprocAttr,V.cs]
 intro b1 T1 fx dh fT b2 T2 dN fh dy ei b4 T4 eN eE fG iI
 refine aX ?_
 simp +contextual only [go_sem,sevalprocAttr,fh,eE,aC fx,aC dN]
 refine aP (nO a _) ?_
 simp +contextual only [go_sem,sevalprocAttr]
 refine ⟨fO.refl _,?_⟩
 refine aP (nO b _) ?_
 simp +contextual only [go_sem,sevalprocAttr]
 refine ⟨fO.refl _,?_⟩
 refine ⟨fO.refl _,?_⟩
 refine aP (s7 _ _) ?_
 simp +contextual only [go_sem,sevalprocAttr,aC eN,V.cs]
 refine ⟨fO.refl _,?_⟩
 exact ak ((dh.trans dy).trans fG) (by subst hS;rfl)
theorem xw (a:V)(T:Tm):bV Tryz.prog 166 [.agg ⟨a.cs⟩] T M [] [] (fun r _ _ _=>r=.agg ⟨(JG a).cs⟩) aM:=by
 obtain ⟨S,hS⟩:∃ S,S=JG a:=⟨_,rfl⟩
 rw [<- hS]
 unfold JG at hS
 refine az ahW rfl rfl ?_
 intro _ _
 simp +contextual only [go_sem,sevalprocAttr,V.cs]
 intro b1 T1 fx dh fT b2 T2 dN fh dy ei
 refine aP (nO a _) ?_
 simp +contextual only [go_sem,sevalprocAttr]
 refine aP (s7 _ _) ?_
 simp +contextual only [go_sem,sevalprocAttr,aC dN,V.cs]
 exact ak (dh.trans dy) (by subst hS;rfl)
theorem Rn (a:V)(T:Tm):bV Tryz.prog 107 [.agg ⟨a.cs⟩] T M [] [] (fun r _ _ _=>r=.bool (BZ a)) aM:=by
 unfold BZ
 refine az aiq rfl rfl ?_
 intro _ _
 simp +contextual only [go_sem,sevalprocAttr,V.cs]
 intro b1 T1 fx dh fT
 refine aP (nO a _) ?_
 simp +contextual only [go_sem,sevalprocAttr]
 exact ak dh rfl
theorem Q5 (a b:V)(ha:a.t.length<=1099511627776)(hb:b.t.length<=1099511627776)(T:Tm):bV Tryz.prog 170 [.agg ⟨a.cs⟩,.agg ⟨b.cs⟩] T M [] [] (fun r _ _ _=>r=.agg ⟨(A2 a b).cs⟩) aM:=by
 have hw:IntKind.i64.wrap ((a.t.length:Int)+b.t.length)=(a.t.length:Int)+b.t.length:=bH (by omega) (by omega)
 obtain ⟨S,hS⟩:∃ S,S=A2 a b:=⟨_,rfl⟩
 rw [<- hS]
 unfold A2 at hS
 refine az akR rfl rfl ?_
 intro _ _
 simp +contextual only [go_sem,aD,sevalprocAttr,V.cs]
 intro b1 T1 fx dh fT b2 T2 dN fh dy ei b4 T4 eN eE fG iI
 have hT:=(dh.trans dy).trans fG
 rw [hw]
 by_cases h1:(a.k=4/\b.k=4)/\a.t.length+b.t.length<=60
 ·rw [if_pos h1] at hS
  rw [if_neg (by omega)]
  have h2:a.t.length+b.t.length<=9223372036854775807:=by omega
  simp +contextual only [go_sem,sevalprocAttr,aC eN,h2,uU]
  exact ak hT (by subst hS;rfl)
 ·rw [if_neg h1] at hS
  rw [if_pos (by omega)]
  refine aP (iB _) ?_
  simp +contextual only [go_sem,sevalprocAttr,aC eN]
  exact ak hT (by subst hS;rfl)
theorem sx (s:Int)(a b:V)(T:Tm):bV Tryz.prog 169 [.int .i32 s,.agg ⟨a.cs⟩,.agg ⟨b.cs⟩] T M [] [] (fun r _ _ _=>r=.agg ⟨(vY s a b).cs⟩) aM:=by
 obtain ⟨S,hS⟩:∃ S,S=vY s a b:=⟨_,rfl⟩
 rw [<- hS]
 unfold vY at hS
 refine az aiW rfl rfl ?_
 intro _ _
 simp +contextual only [go_sem,aD,sevalprocAttr,V.cs]
 intro b1 T1 fx dh fT b2 T2 dN fh dy ei b4 T4 eN eE fG iI
 have hT:=(dh.trans dy).trans fG
 by_cases h1:a.k=3/\b.k=3
 rotate_left
 ·have qZ:¬a.k=3\/¬b.k=3:=by omega
  rw [if_neg h1] at hS
  rw [if_pos qZ]
  refine aP (iB _) ?_
  simp +contextual only [go_sem,sevalprocAttr,aC eN]
  exact ak hT (by subst hS;rfl)
 have qZ:¬(¬a.k=3\/¬b.k=3):=by omega
 rw [if_pos h1] at hS
 rw [if_neg qZ]
 refine aX ?_
 simp +contextual only [go_sem,aD,sevalprocAttr,fh,eE,aC fx,aC dN]
 by_cases s1:s=43
 ·rw [if_pos s1] at hS
  simp +contextual only [go_sem,sevalprocAttr,s1]
  refine aP (xq _ _) ?_
  simp +contextual only [go_sem,sevalprocAttr,aC eN,V.cs]
  exact ak hT (by subst hS;rfl)
 rw [if_neg s1] at hS
 by_cases s2:s=45
 ·rw [if_pos s2] at hS
  simp +contextual only [go_sem,sevalprocAttr,s2]
  refine aP (xq _ _) ?_
  simp +contextual only [go_sem,sevalprocAttr,aC eN,V.cs]
  exact ak hT (by subst hS;rfl)
 rw [if_neg s2] at hS
 by_cases s3:s=42
 ·simp +contextual only [go_sem,sevalprocAttr,s3]
  rw [if_pos s3] at hS
  obtain ⟨p,hp⟩:∃ p,p=IntKind.i64.wrap (a.n*b.n):=⟨_,rfl⟩
  rw [<- hp] at hS ⊢
  by_cases h0:a.n=0
  ·have hS:S=DS p:=by rw [hS];exact if_pos (.inl h0)
   simp +contextual only [go_sem,aD,sevalprocAttr,h0]
   refine aP (xq _ _) ?_
   simp +contextual only [go_sem,sevalprocAttr,aC eN,V.cs]
   exact ak hT (by subst hS;rfl)
  ·have hq:BT .quo .i64 p a.n=some (.int .i64 (IntKind.i64.wrap (p.tdiv a.n))):=by simp [BT,h0]
   by_cases hc:(IntKind.i64.wrap (p.tdiv a.n)=b.n/\p<=1000000000000000)/\p>= -1000000000000000
   ·have hS:S=DS p:=by rw [hS];exact if_pos (.inr hc)
    obtain ⟨⟨c1,c2⟩,c3⟩:=hc
    simp +contextual only [go_sem,aD,sevalprocAttr,h0,hq,c1,c2,c3]
    refine aP (xq _ _) ?_
    simp +contextual only [go_sem,sevalprocAttr,aC eN,V.cs]
    exact ak hT (by subst hS;rfl)
   ·have hS:S=j3:=by rw [hS];exact if_neg (fun h=>h.elim h0 hc)
    simp +contextual only [go_sem,aD,sevalprocAttr,h0,hq]
    rw [if_neg hc]
    refine aP (iB _) ?_
    simp +contextual only [go_sem,sevalprocAttr,aC eN]
    exact ak hT (by subst hS;rfl)
 rw [if_neg s3] at hS
 simp +contextual only [go_sem,sevalprocAttr,s1,s2,s3]
 refine aP (iB _) ?_
 simp +contextual only [go_sem,sevalprocAttr,aC eN]
 exact ak hT (by subst hS;rfl)
theorem tD {a b:List V}{av bv:Value}(ha:RS M RV 3 a av)(hb:RS M RV 3 b bv)(T:Tm):bV Tryz.prog 211 [av,bv] T M [] [] (fun r _ _ _=>r=.int .i64 (bO a b)) aM:=by
 obtain ⟨eZ,a1,c1,rfl,di,_,hg⟩:=ax (by decide) (fun _ _=>eM) ha
 obtain ⟨Of,a2,c2,rfl,ph,_,xb⟩:=ax (by decide) (fun _ _=>eM) hb
 refine az ajc rfl rfl ?_
 intro bi _
 simp +contextual only [go_sem,aD,sevalprocAttr]
 refine aO a.length 10 [(0,.slice a1 a.length c1),(1,.slice a2 b.length c2),(8,.slice a1 a.length c1),(9,.int .i64 (a.length:Int))] (fun i e h=>∃ N' M',aF T N'/\bm M M'/\h=⟨N',M',[],[]⟩/\i<=b.length/\bO (a.drop i) (b.drop i)=bO a b) 0 (by omega) (by simp only [aE,go_sem,sevalprocAttr]) (by simp only [go_sem,sevalprocAttr]) ⟨T,M,aF.rfl',bm.rfl',rfl,by omega,rfl⟩ ?_
 rintro i e h hi aG ht ⟨T1,M1,dh,aV,rfl,U8,am⟩
 simp only [aE] at aG
 by_cases aL:i<a.length
 ·obtain ⟨b1,o1,cs1,rfl,xO,Dj⟩:=hg i a[i] (gq aL)
  have hda:a.drop i=a[i]::a.drop (i+1):=dq aL
  unfold RV V.cs at Dj;subst Dj
  obtain ⟨y0,y1,y2,_⟩:=xO.ext aV
  rw [hda] at am
  simp +contextual only [go_sem,aD,sevalprocAttr,aG,ht,aL,y0,y1,y2]
  intro b6 T6 pt um CO
  by_cases sq:i=b.length
  ·subst sq
   rw [List.drop_length,bO] at am
   rw [if_pos rfl]
   exact ak (dh.trans um) (cN am)
  ·have ZF:i<b.length:=by omega
   obtain ⟨b2,o2,cs2,rfl,oK,Ad⟩:=xb i b[i] (gq ZF)
   have hdb:b.drop i=b[i]::b.drop (i+1):=dq ZF
   unfold RV V.cs at Ad;subst Ad
   obtain ⟨z0,z1,z2,_⟩:=oK.ext aV
   rw [hdb,bO] at am
   rw [if_neg (by omega)]
   refine aX ?_
   simp +contextual only [go_sem,sevalprocAttr,aG,ZF,z0,z1,z2,aC pt]
   refine aP (pB a[i] b[i] _) ?_
   by_cases h0:pT a[i] b[i]=0
   ·rw [h0] at am ⊢
    simp +contextual only [go_sem,aD,sevalprocAttr,ht]
    refine aR (bM (aB ⟨a.length - (i+1),by omega,rfl,i+1,by omega,rfl,?_,?_,T6,M1,dh.trans um,aV,rfl,by omega,am⟩))
    ·simp only [aE,aG,go_sem,sevalprocAttr]
    ·simp only [go_sem,sevalprocAttr,aA i (by omega)]
   ·simp +contextual only [go_sem,aD,sevalprocAttr,h0]
    refine ak (dh.trans um) (cN ?_)
    rw [<- am,kM,if_pos h0]
 ·have:i=a.length:=by omega
  subst this
  rw [List.drop_length] at am
  simp +contextual only [go_sem,aD,sevalprocAttr,aG,ht,aL]
  refine aP (Ln _ _ _) ?_
  simp +contextual only [go_sem,sevalprocAttr]
  refine ak dh (cN ?_)
  rw [<- am]
  cases hd:b.drop a.length with
  | nil=>
   have:=congrArg List.length hd
   simp only [List.length_drop,List.length_nil] at this
   unfold fW bO
   rw [if_neg (by omega),if_neg (by omega)]
  | cons y l=>
   have:=congrArg List.length hd
   simp only [List.length_drop,List.length_cons] at this
   unfold fW bO
   rw [if_pos (by omega)]
def nC (k:Int)(a b:V):V:=if k=6 then I1 a b else if k=7 then JG (I1 a b) else if k=8 then o6 a b else if k=9 then JG (o6 b a) else if k=10 then o6 b a else JG (o6 a b)
def ofK (k:Int)(v:V)(c:Int)(row:List V)(g:Nat ->V):V:=
 if k=1 then bJ v else if k=2 then (if (row.length:Int)<=c then j3 else bJ (row.getD c.toNat j3))
 else if k=3 then JG (g 0) else if k=4 then Xw (g 0) (g 1) else if k=5 then orV (g 0) (g 1)
 else if k=12 then vY 43 (g 0) (g 1) else if k=13 then vY 45 (g 0) (g 1) else if k=14 then vY 42 (g 0) (g 1)
 else if k=15 then A2 (g 0) (g 1) else if k=16 then tq (decide ((g 0).k=1))
 else if k=17 then (if BZ (g 0)=true then g 1 else g 2) else if k=18 then (if (g 0).k=1 then g 1 else g 0) else nC k (g 0) (g 1)
mutual
def Ht:Ex ->List V ->V
 | .mk k v c kids,row=>ofK k v c row fun i=>(CU kids row).getD i j3
def CU:List Ex ->List V ->List V
 | [],_=>[]
 | x::l,row=>Ht x row::CU l row
end
theorem Er (row:List V):∀ (l:List Ex) (i:Nat) (x:Ex),l[i]?=some x ->(CU l row).getD i j3=Ht x row
 | [],i,x,h=>by simp at h
 | y::l,0,x,h=>by simp at h;subst h;rfl
 | y::l,i+1,x,h=>by
  have:=Er row l i x (by simpa using h)
  simpa [CU] using this
mutual
def sK:Ex ->Prop
 | .mk k v c kids=>(1<=k/\k<=18)/\(k=1 ->(bJ v).t.length<=1099511627776)/\(k=2 ->0<=c)/\(kids.length:Int)=fX k/\D8 kids
def D8:List Ex ->Prop
 | []=>True
 | x::l=>sK x/\D8 l
end
theorem BO:∀ {l:List Ex} {x:Ex},D8 l ->x∈l ->sK x
 | y::l,x,h,hx=>by
  rcases mY hx with rfl | hx
  ·exact h.1
  ·exact BO h.2 hx
def tV (row:List V):Prop:=∀ v∈row,(bJ v).t.length<=1099511627776
theorem acu {B:Nat}(hB:60<=B){k:Int}{v:V}{c:Int}{row:List V}{g:Nat ->V}(hv:k=1 ->(bJ v).t.length<=B)(hr:∀ v∈row,(bJ v).t.length<=B)(hg:∀ i,(g i).t.length<=B):(ofK k v c row g).t.length<=B:=by
 have hn:j3.t.length<=B:=by simp [j3]
 have hb:∀ b,(tq b).t.length<=B:=fun b=>by simp [tq]
 have hk:∀ n,(mJ n).t.length<=B:=fun n=>by unfold mJ;split;exact hn;exact hb _
 have hi:∀ n,(DS n).t.length<=B:=fun n=>by unfold DS;split;exact hn;simp
 have hq:∀ a b,(I1 a b).t.length<=B:=fun a b=>by unfold I1;split;exact hb _;exact hn
 have hl:∀ a b,(o6 a b).t.length<=B:=fun a b=>by unfold o6;split;exact hb _;exact hn
 have RY:∀ s a b,(vY s a b).t.length<=B:=fun s a b=>by
  unfold vY PD
  (repeat' split)<;>first | exact hi _ | exact hn
 have ite:∀ {c:Prop} [Decidable c] {a b:V},a.t.length<=B ->b.t.length<=B ->(if c then a else b).t.length<=B:=fun ha hb=>by split<;>assumption
 have hj:∀ a b,(A2 a b).t.length<=B:=fun a b=>by
  unfold A2
  split
  ·rename_i h;simp only [List.length_append];omega
  ·exact hn
 unfold ofK nC
 by_cases h1:k=1
 ·rw [if_pos h1];exact hv h1
 rw [if_neg h1]
 refine ite (ite hn ?_) ?_
 ·rw [List.getD_eq_getElem?_getD]
  cases h:row[c.toNat]? with
  | none=>exact hn
  | some u=>exact hr u (List.mem_of_getElem? h)
 refine ite (hk _) (ite (hk _) (ite (hk _) (ite (RY _ _ _) (ite (RY _ _ _) (ite (RY _ _ _) (ite (hj _ _) (ite (hb _) (ite (ite (hg _) (hg _)) (ite (ite (hg _) (hg _)) ?_)))))))))
 exact ite (hq _ _) (ite (hk _) (ite (hl _ _) (ite (hk _) (ite (hl _ _) (hk _)))))
theorem aeN {k:Int}{v:V}{c:Int}{row:List V}{g:Nat ->V}(hv:k=1 ->(bJ v).t.length<=1099511627776)(hr:tV row)(hg:∀ i,(g i).t.length<=1099511627776):(ofK k v c row g).t.length<=1099511627776:=acu (by omega) hv hr hg
mutual
theorem adh {row:List V}(hr:tV row):∀ (x:Ex),sK x ->(Ht x row).t.length<=1099511627776
 | .mk k v c kids,h=>by
  rw [Ht]
  exact aeN h.2.1 hr (HT hr kids h.2.2.2.2)
theorem HT {row:List V}(hr:tV row):∀ (l:List Ex),D8 l ->∀ i,((CU l row).getD i j3).t.length<=1099511627776
 | [],_,i=>by simp [CU,j3]
 | x::l,h,0=>by simpa [CU] using adh hr x h.1
 | x::l,h,i+1=>by simpa [CU] using HT hr l h.2 i
end
variable {M:aS}
theorem Fx (k:Int)(a b:V)(T:Tm):bV Tryz.prog 172 [.int .i64 k,.agg ⟨a.cs⟩,.agg ⟨b.cs⟩] T M [] [] (fun r _ _ _=>r=.agg ⟨(nC k a b).cs⟩) aM:=by
 obtain ⟨S,hS⟩:∃ S,S=nC k a b:=⟨_,rfl⟩
 rw [<- hS]
 unfold nC at hS
 refine az ahO rfl rfl ?_
 intro _ _
 simp +contextual only [go_sem,aD,sevalprocAttr, -Int.reduceAdd, -Int.reduceSub, -Int.reduceMul,V.cs]
 intro b1 T1 fx dh fT b2 T2 dN fh dy ei b4 T4 eN eE fG iI
 have hT:=(dh.trans dy).trans fG
 by_cases h:k=6
 ·rw [if_pos h] at hS
  simp +contextual only [go_sem,sevalprocAttr, -Int.reduceAdd, -Int.reduceSub, -Int.reduceMul,h]
  refine aP (BK a b _) ?_
  simp +contextual only [go_sem,sevalprocAttr, -Int.reduceAdd, -Int.reduceSub, -Int.reduceMul,aC eN,V.cs]
  exact ak hT (by subst hS;rfl)
 rw [if_neg h] at hS
 by_cases h':k=7
 ·rw [if_pos h'] at hS
  simp +contextual only [go_sem,sevalprocAttr, -Int.reduceAdd, -Int.reduceSub, -Int.reduceMul,h']
  refine aP (BK a b _) ?_
  simp +contextual only [go_sem,sevalprocAttr, -Int.reduceAdd, -Int.reduceSub, -Int.reduceMul]
  refine aP (xw _ _) ?_
  simp +contextual only [go_sem,sevalprocAttr, -Int.reduceAdd, -Int.reduceSub, -Int.reduceMul,aC eN,V.cs]
  exact ak hT (by subst hS;rfl)
 rw [if_neg h'] at hS
 by_cases h8:k=8
 ·rw [if_pos h8] at hS
  simp +contextual only [go_sem,sevalprocAttr, -Int.reduceAdd, -Int.reduceSub, -Int.reduceMul,h8]
  refine aP (tE a b _) ?_
  simp +contextual only [go_sem,sevalprocAttr, -Int.reduceAdd, -Int.reduceSub, -Int.reduceMul,aC eN,V.cs]
  exact ak hT (by subst hS;rfl)
 rw [if_neg h8] at hS
 by_cases h9:k=9
 ·rw [if_pos h9] at hS
  simp +contextual only [go_sem,sevalprocAttr, -Int.reduceAdd, -Int.reduceSub, -Int.reduceMul,h9]
  refine aP (tE b a _) ?_
  simp +contextual only [go_sem,sevalprocAttr, -Int.reduceAdd, -Int.reduceSub, -Int.reduceMul]
  refine aP (xw _ _) ?_
  simp +contextual only [go_sem,sevalprocAttr, -Int.reduceAdd, -Int.reduceSub, -Int.reduceMul,aC eN,V.cs]
  exact ak hT (by subst hS;rfl)
 rw [if_neg h9] at hS
 by_cases DX:k=10
 ·rw [if_pos DX] at hS
  simp +contextual only [go_sem,sevalprocAttr, -Int.reduceAdd, -Int.reduceSub, -Int.reduceMul,DX]
  refine aP (tE b a _) ?_
  simp +contextual only [go_sem,sevalprocAttr, -Int.reduceAdd, -Int.reduceSub, -Int.reduceMul,aC eN,V.cs]
  exact ak hT (by subst hS;rfl)
 rw [if_neg DX] at hS
 simp +contextual only [go_sem,sevalprocAttr, -Int.reduceAdd, -Int.reduceSub, -Int.reduceMul,h,h',h8,h9,DX]
 refine aP (tE a b _) ?_
 simp +contextual only [go_sem,sevalprocAttr, -Int.reduceAdd, -Int.reduceSub, -Int.reduceMul]
 refine aP (xw _ _) ?_
 simp +contextual only [go_sem,sevalprocAttr, -Int.reduceAdd, -Int.reduceSub, -Int.reduceMul,aC eN,V.cs]
 exact ak hT (by subst hS;rfl)
def OfB (x:Ex):Prop:=∀ (M:aS) (T:Tm) (b o:Nat) (cs:List Value) (row:List V) (rv:Value),At M b o cs ->ij M x cs ->RS M RV 3 row rv ->sK x ->tV row ->
 bV Tryz.prog 108 [.pointer (some ⟨b,o,none⟩),rv] T M [] [] (fun r _ _ _=>r=.agg ⟨(Ht x row).cs⟩) aM
theorem LU {M:aS}{x:Ex}{cs:List Value}{b o:Nat}(hx:ij M x cs)(ha:At M b o cs):∃ s,s.oneCell'=true/\RS M (ij M) 6 x.kids s/\aN M ⟨b,o,none⟩=some (.int .i64 x.k)/\aN M ⟨b,o+1,none⟩=some (.int .i64 x.v.k)/\
 aN M ⟨b,o+2,none⟩=some (.int .i64 x.v.n)/\aN M ⟨b,o+3,none⟩=some (st x.v.t)/\aN M ⟨b,o+4,none⟩=some (.int .i64 x.c)/\aN M ⟨b,o+5,none⟩=some s:=by
 obtain ⟨s,rfl,h1,h2⟩:=dF hx
 obtain ⟨m0,m1,m2,m3,m4,m5,_⟩:=ha
 exact ⟨s,h1,h2,m0,m1,m2,m3,m4,m5⟩
theorem aaW {x y:Ex}{b2 b3 b o i:Nat}{cs:List Value}{row:List V}{rv:Value}(hy:OfB y)(h2:M b2=some [.pointer (some ⟨b,o,none⟩)])(h3:M b3=some [rv])(ha:At M b o cs)(hx:ij M x cs)(hr:RS M RV 3 row rv)
 (hi:x.kids[i]?=some y) (ho:sK y) (bP:tV row) (T:Tm):bV Tryz.prog 163 [.int .i64 (i:Int),.pointer (some ⟨b2,0,none⟩),.pointer (some ⟨b3,0,none⟩)] T M [] [] (fun r _ _ _=>r=.agg ⟨(Ht y row).cs⟩) aM:=by
 obtain ⟨s,iX,hk,m0,m1,m2,m3,m4,m5⟩:=LU hx ha
 obtain ⟨eZ,a,c,rfl,di,_,hg⟩:=ax (by decide) (fun _ _=>eb) hk
 obtain ⟨p,q,ys,rfl,bQ,hyx⟩:=hg i y hi
 have aL:i<x.kids.length:=(List.getElem?_eq_some_iff.1 hi).1
 obtain ⟨S,hS⟩:∃ S,S=Ht y row:=⟨_,rfl⟩
 rw [<- hS]
 refine az mW rfl rfl ?_
 intro bi _
 simp +contextual only [go_sem,sevalprocAttr, -Int.reduceAdd, -Int.reduceSub, -Int.reduceMul,V.cs]
 intro b1 T1 fx dh fT
 refine aX ?_
 simp +contextual only [go_sem,sevalprocAttr, -Int.reduceAdd, -Int.reduceSub, -Int.reduceMul,bg h2,bg h3,m5,aL]
 refine aP (hy _ _ _ _ _ _ _ bQ hyx hr ho bP) ?_
 simp +contextual only [go_sem,sevalprocAttr, -Int.reduceAdd, -Int.reduceSub, -Int.reduceMul,aC fx,V.cs]
 exact ⟨fO.refl _,ak dh (by subst hS;rfl)⟩
def ad2:List (Nat×Sched):=[(6,.take 0<| .take 1<| .take 2<| .take 3<| .take 4<| .take 5<| .take 6<| .done),(8,.take 0<| .take 1<| .take 2<| .take 3<| .take 4<| .take 5<| .take 6<| .eff 7 false (.eff 8 true (.done)<| .no)<| .no),(18,.take 8<| .take 10<| .take 1<| .take 2<| .take 3<| .take 4<| .take 5<| .effN 0 false (.take 6<| .take 7<| .eff 9 false (.eff 11 false (.eff 12 false (.eff 13 true (.done)<| .no)<| .no)<| .no)<| .no)<| .eff 9 false (.effN 0 false (.take 6<| .take 7<| .eff 11 false (.eff 12 false (.eff 13 true (.done)<| .no)<| .no)<| .no)<| .eff 11 false (.effN 0 false (.take 6<| .take 7<| .eff 12 false (.eff 13 true (.done)<| .no)<| .no)<| .no)<| .no)<| .no),(32,.take 4<| .take 6<| .take 0<| .take 1<| .take 2<| .take 3<| .eff 5 false (.eff 7 false (.eff 8 false (.eff 9 true (.done)<| .no)<| .no)<| .no)<| .no)]
attribute [go_sem] ad2
theorem VG:∀ (sz:Nat) (x:Ex),SizeOf.sizeOf x<=sz ->OfB x:=by
 intro sz
 induction sz with
 | zero=>intro x hx;cases x;simp at hx
 | succ sz ih=>
  intro x dS M T b o cs row rv ha hx hr cB bP
  obtain ⟨s,iX,hk,m0,m1,m2,m3,m4,m5⟩:=LU hx ha
  obtain ⟨eZ,ra,rc,rfl,di,_,hg⟩:=ax (by decide) (fun _ _=>eM) hr
  cases x with | mk k v c kids=>
  simp only [Ex.k,Ex.v,Ex.c,Ex.kids] at m0 m1 m2 m3 m4 m5 hk
  obtain ⟨hkr,hvt,EI,Vr,hks⟩:=cB
  obtain ⟨g,WS⟩:∃ g:Nat ->V,g=fun i=>(CU kids row).getD i j3:=⟨_,rfl⟩
  have AC:∀ i,(g i).t.length<=1099511627776:=by intro i;rw [WS];exact HT bP kids hks i
  obtain ⟨S,hS⟩:∃ S,S=Ht (.mk k v c kids) row:=⟨_,rfl⟩
  rw [<- hS]
  rw [Ht,<- WS] at hS
  unfold ofK at hS
  refine JH mx aaT.bd Tryz.func108 rfl (by rw [aaT.nt];exact Nat.le_of_ble_eq_true rfl) (dr:=ad2) (by kernel_rfl) aaT.rs ?_
  intro bi _
  simp +contextual only [go_sem,sevalprocAttr, -Int.reduceAdd, -Int.reduceSub, -Int.reduceMul,V.cs]
  intro b2 T2 dN dy ei b3 T3 ii df fV gD b4 T4 eN eE fG iI
  have hT:=(dy.trans fV).trans fG
  have kid:∀ (i:Nat),i<kids.length ->∀ M',bm M M' ->M' b2=some [.pointer (some ⟨b,o,none⟩)] ->M' b3=some [.slice ra row.length rc] ->∀ T,bV Tryz.prog 163 [.int .i64 (i:Int),.pointer (some ⟨b2,0,none⟩),.pointer (some ⟨b3,0,none⟩)] T M' [] [] (fun r _ _ _=>r=.agg ⟨(g i).cs⟩) aM:=by
   intro i hi M' he h2 h3 T
   have gO:kids[i]?=some kids[i]:=gq hi
   have hm:=gm hi
   have aoc:=List.sizeOf_lt_of_mem hm
   have:=aaW (ih kids[i] (by simp only [Ex.mk.sizeOf_spec] at dS;omega)) h2 h3 (ha.ext he) (cJ he _ _ hx) (aH he (fun _ _ h=>h) hr) gO (BO hks hm) bP T
   have hgi:g i=Ht kids[i] row:=by rw [WS];exact Er row kids i kids[i] gO
   rw [hgi]
   exact this
  by_cases k1:k=1
  ·rw [if_pos k1] at hS
   simp +contextual only [go_sem,aD,sevalprocAttr, -Int.reduceAdd, -Int.reduceSub, -Int.reduceMul,df,eE,aC dN,m0,m1,m2,m3,k1]
   refine aP (lX v _) ?_
   simp +contextual only [go_sem,sevalprocAttr, -Int.reduceAdd, -Int.reduceSub, -Int.reduceMul,aC eN]
   exact ak hT (by subst hS;rfl)
  rw [if_neg k1] at hS
  by_cases k2:k=2
  ·rw [if_pos k2] at hS
   by_cases cM:(row.length:Int)<=c
   ·rw [if_pos cM] at hS
    simp +contextual only [go_sem,aD,sevalprocAttr, -Int.reduceAdd, -Int.reduceSub, -Int.reduceMul,m0,k2]
    refine aX ?_
    simp +contextual only [go_sem,aD,sevalprocAttr, -Int.reduceAdd, -Int.reduceSub, -Int.reduceMul,df,eE,aC dN,aC ii,m4,cM]
    refine aP (iB _) ?_
    simp +contextual only [go_sem,sevalprocAttr, -Int.reduceAdd, -Int.reduceSub, -Int.reduceMul,aC eN]
    exact ak hT (by subst hS;rfl)
   ·rw [if_neg cM] at hS
    have h0:=EI k2
    obtain ⟨n,rfl⟩:∃ n:Nat,c=n:=⟨c.toNat,by omega⟩
    have aL:n<row.length:=by omega
    obtain ⟨p,q,ys,rfl,bQ,hyx⟩:=hg n row[n] (gq aL)
    unfold RV V.cs at hyx;subst hyx
    obtain ⟨y0,y1,y2,_⟩:=bQ
    simp +contextual only [go_sem,aD,sevalprocAttr, -Int.reduceAdd, -Int.reduceSub, -Int.reduceMul,m0,k2]
    refine aX ?_
    simp +contextual only [go_sem,aD,sevalprocAttr, -Int.reduceAdd, -Int.reduceSub, -Int.reduceMul,df,eE,aC dN,aC ii,m4,cM]
    refine aX ?_
    simp +contextual only [go_sem,sevalprocAttr, -Int.reduceAdd, -Int.reduceSub, -Int.reduceMul,df,eE,aC dN,aC ii,m4,aL,y0,y1,y2]
    refine aP (lX row[n] _) ?_
    simp +contextual only [go_sem,sevalprocAttr, -Int.reduceAdd, -Int.reduceSub, -Int.reduceMul,aC eN]
    refine ⟨fO.refl _,ak hT ?_⟩
    have:row.getD n j3=row[n]:=by simp [aL]
    rw [hS,Int.toNat_natCast,this]
  rw [if_neg k2] at hS
  by_cases k3:k=3
  ·rw [if_pos k3] at hS
   have hl:kids.length=1:=by subst k3;simp [fX] at Vr;omega
   simp +contextual only [go_sem,aD,sevalprocAttr, -Int.reduceAdd, -Int.reduceSub, -Int.reduceMul,m0,k3]
   refine cT mW.bd (fun M' he hL _=>kid 0 (by omega) M' he hL.2.2.1 hL.2.1 _) ?_
   simp +contextual only [go_sem,sevalprocAttr, -Int.reduceAdd, -Int.reduceSub, -Int.reduceMul]
   refine aP (xw _ _) ?_
   simp +contextual only [go_sem,sevalprocAttr, -Int.reduceAdd, -Int.reduceSub, -Int.reduceMul,aC eN,V.cs]
   exact ak hT (by subst hS;rfl)
  rw [if_neg k3] at hS
  by_cases k4:k=4
  ·rw [if_pos k4] at hS
   have hl:kids.length=2:=by subst k4;simp [fX] at Vr;omega
   simp +contextual only [go_sem,aD,sevalprocAttr, -Int.reduceAdd, -Int.reduceSub, -Int.reduceMul,m0,k4]
   refine cT mW.bd (fun M' he hL _=>kid 0 (by omega) M' he hL.2.2.1 hL.2.1 _) ?_
   simp +contextual only [go_sem,sevalprocAttr, -Int.reduceAdd, -Int.reduceSub, -Int.reduceMul]
   refine cT mW.bd (fun M' he hL _=>kid 1 (by omega) M' he hL.2.2.1 hL.2.1 _) ?_
   simp +contextual only [go_sem,sevalprocAttr, -Int.reduceAdd, -Int.reduceSub, -Int.reduceMul]
   refine aP (Xm (g 0) (g 1) _) ?_
   simp +contextual only [go_sem,sevalprocAttr, -Int.reduceAdd, -Int.reduceSub, -Int.reduceMul,aC eN,V.cs]
   exact ak hT (by subst hS;rfl)
  rw [if_neg k4] at hS
  by_cases k5:k=5
  ·rw [if_pos k5] at hS
   have hl:kids.length=2:=by subst k5;simp [fX] at Vr;omega
   simp +contextual only [go_sem,aD,sevalprocAttr, -Int.reduceAdd, -Int.reduceSub, -Int.reduceMul,m0,k5]
   refine cT mW.bd (fun M' he hL _=>kid 0 (by omega) M' he hL.2.2.1 hL.2.1 _) ?_
   simp +contextual only [go_sem,sevalprocAttr, -Int.reduceAdd, -Int.reduceSub, -Int.reduceMul]
   refine cT mW.bd (fun M' he hL _=>kid 1 (by omega) M' he hL.2.2.1 hL.2.1 _) ?_
   simp +contextual only [go_sem,sevalprocAttr, -Int.reduceAdd, -Int.reduceSub, -Int.reduceMul]
   refine aP (ab1 (g 0) (g 1) _) ?_
   simp +contextual only [go_sem,sevalprocAttr, -Int.reduceAdd, -Int.reduceSub, -Int.reduceMul,aC eN,V.cs]
   exact ak hT (by subst hS;rfl)
  rw [if_neg k5] at hS
  by_cases kr:k=12\/k=13\/k=14
  ·have hl:kids.length=2:=by
    have:fX k=2:=by unfold fX;rw [if_neg (by omega),if_neg (by omega),if_pos (by omega)]
    omega
   have e12:IntKind.i64.wrap (12 - 12)=0:=by decide
   have e13:IntKind.i64.wrap (13 - 12)=1:=by decide
   have e14:IntKind.i64.wrap (14 - 12)=2:=by decide
   rcases kr with rfl | rfl | rfl
   all_goals
    simp only [if_true,Int.reduceEq,if_false] at hS
    simp +contextual only [go_sem,aD,sevalprocAttr, -Int.reduceAdd, -Int.reduceSub, -Int.reduceMul,m0]
    refine aX ?_
    simp +contextual only [go_sem,sevalprocAttr, -Int.reduceAdd, -Int.reduceSub, -Int.reduceMul,df,eE,aC dN,m0]
    refine ⟨?_,?_⟩
    ·intro b9 qy gP
     refine Ai (dK bm.rfl' ⟨eN,ii,dN,trivial⟩ ⟨gP.1,gP.2.1,gP.2.2,trivial⟩) ?_
     simp +contextual only [go_sem,sevalprocAttr, -Int.reduceAdd, -Int.reduceSub, -Int.reduceMul,aC qy,e12,e13,e14]
     refine cT mW.bd (fun M' he hL _=>kid 0 (by omega) M' he hL.2.2.2.1 hL.2.2.1 _) ?_
     simp +contextual only [go_sem,sevalprocAttr, -Int.reduceAdd, -Int.reduceSub, -Int.reduceMul,e12,e13,e14]
     refine ⟨fO.refl _,?_⟩
     refine cT mW.bd (fun M' he hL _=>kid 1 (by omega) M' he hL.2.2.2.1 hL.2.2.1 _) ?_
     simp +contextual only [go_sem,sevalprocAttr, -Int.reduceAdd, -Int.reduceSub, -Int.reduceMul,e12,e13,e14]
     refine ⟨fO.refl _,?_⟩
     refine aP (sx _ (g 0) (g 1) _) ?_
     simp +contextual only [go_sem,sevalprocAttr, -Int.reduceAdd, -Int.reduceSub, -Int.reduceMul,gP,aC eN,V.cs]
     refine ⟨fO.refl _,?_⟩
     exact ak hT (by subst hS;rfl)
    ·refine cT mW.bd (fun M' he hL _=>kid 0 (by omega) M' he hL.2.2.1 hL.2.1 _) ?_
     simp +contextual only [go_sem,sevalprocAttr, -Int.reduceAdd, -Int.reduceSub, -Int.reduceMul]
     refine ⟨fO.refl _,?_,?_⟩
     ·intro b9 qy gP
      refine Ai (dK bm.rfl' ⟨eN,ii,dN,trivial⟩ ⟨gP.1,gP.2.1,gP.2.2,trivial⟩) ?_
      simp +contextual only [go_sem,sevalprocAttr, -Int.reduceAdd, -Int.reduceSub, -Int.reduceMul,aC qy,e12,e13,e14]
      refine cT mW.bd (fun M' he hL _=>kid 1 (by omega) M' he hL.2.2.2.1 hL.2.2.1 _) ?_
      simp +contextual only [go_sem,sevalprocAttr, -Int.reduceAdd, -Int.reduceSub, -Int.reduceMul,e12,e13,e14]
      refine ⟨fO.refl _,?_⟩
      refine aP (sx _ (g 0) (g 1) _) ?_
      simp +contextual only [go_sem,sevalprocAttr, -Int.reduceAdd, -Int.reduceSub, -Int.reduceMul,gP,aC eN,V.cs]
      refine ⟨fO.refl _,?_⟩
      exact ak hT (by subst hS;rfl)
     ·refine cT mW.bd (fun M' he hL _=>kid 1 (by omega) M' he hL.2.2.1 hL.2.1 _) ?_
      simp +contextual only [go_sem,sevalprocAttr, -Int.reduceAdd, -Int.reduceSub, -Int.reduceMul]
      refine ⟨fO.refl _,?_⟩
      intro b9 qy gP
      refine Ai (dK bm.rfl' ⟨eN,ii,dN,trivial⟩ ⟨gP.1,gP.2.1,gP.2.2,trivial⟩) ?_
      simp +contextual only [go_sem,sevalprocAttr, -Int.reduceAdd, -Int.reduceSub, -Int.reduceMul,aC qy,e12,e13,e14]
      refine aP (sx _ (g 0) (g 1) _) ?_
      simp +contextual only [go_sem,sevalprocAttr, -Int.reduceAdd, -Int.reduceSub, -Int.reduceMul,gP,aC eN,V.cs]
      refine ⟨fO.refl _,?_⟩
      exact ak hT (by subst hS;rfl)
  have k12:k≠12:=fun h=>kr (.inl h)
  have k13:k≠13:=fun h=>kr (.inr (.inl h))
  have k14:k≠14:=fun h=>kr (.inr (.inr h))
  rw [if_neg k12,if_neg k13,if_neg k14] at hS
  by_cases k15:k=15
  ·rw [if_pos k15] at hS
   have hl:kids.length=2:=by subst k15;simp [fX] at Vr;omega
   simp +contextual only [go_sem,aD,sevalprocAttr, -Int.reduceAdd, -Int.reduceSub, -Int.reduceMul,m0,k15]
   refine cT mW.bd (fun M' he hL _=>kid 0 (by omega) M' he hL.2.2.1 hL.2.1 _) ?_
   simp +contextual only [go_sem,sevalprocAttr, -Int.reduceAdd, -Int.reduceSub, -Int.reduceMul]
   refine cT mW.bd (fun M' he hL _=>kid 1 (by omega) M' he hL.2.2.1 hL.2.1 _) ?_
   simp +contextual only [go_sem,sevalprocAttr, -Int.reduceAdd, -Int.reduceSub, -Int.reduceMul]
   refine aP (Q5 (g 0) (g 1) (AC _) (AC _) _) ?_
   simp +contextual only [go_sem,sevalprocAttr, -Int.reduceAdd, -Int.reduceSub, -Int.reduceMul,aC eN,V.cs]
   exact ak hT (by subst hS;rfl)
  rw [if_neg k15] at hS
  by_cases k16:k=16
  ·rw [if_pos k16] at hS
   have hl:kids.length=1:=by subst k16;simp [fX] at Vr;omega
   simp +contextual only [go_sem,aD,sevalprocAttr, -Int.reduceAdd, -Int.reduceSub, -Int.reduceMul,m0,k16]
   refine cT mW.bd (fun M' he hL _=>kid 0 (by omega) M' he hL.2.2.1 hL.2.1 _) ?_
   simp +contextual only [go_sem,sevalprocAttr, -Int.reduceAdd, -Int.reduceSub, -Int.reduceMul,V.cs]
   refine aP (ub _ _) ?_
   simp +contextual only [go_sem,sevalprocAttr, -Int.reduceAdd, -Int.reduceSub, -Int.reduceMul,aC eN,V.cs]
   exact ak hT (by subst hS;rfl)
  rw [if_neg k16] at hS
  by_cases k17:k=17
  ·rw [if_pos k17] at hS
   have hl:kids.length=3:=by subst k17;simp [fX] at Vr;omega
   simp +contextual only [go_sem,aD,sevalprocAttr, -Int.reduceAdd, -Int.reduceSub, -Int.reduceMul,m0,k17]
   refine cT mW.bd (fun M' he hL _=>kid 0 (by omega) M' he hL.2.2.1 hL.2.1 _) ?_
   simp +contextual only [go_sem,sevalprocAttr, -Int.reduceAdd, -Int.reduceSub, -Int.reduceMul]
   refine aP (Rn (g 0) _) ?_
   cases ht:BZ (g 0) with
   | true=>
    rw [if_pos ht] at hS
    simp +contextual only [go_sem,aD,sevalprocAttr, -Int.reduceAdd, -Int.reduceSub, -Int.reduceMul]
    refine cT mW.bd (fun M' he hL _=>kid 1 (by omega) M' he hL.2.2.1 hL.2.1 _) ?_
    simp +contextual only [go_sem,sevalprocAttr, -Int.reduceAdd, -Int.reduceSub, -Int.reduceMul,aC eN,V.cs]
    exact ak hT (by subst hS;rfl)
   | false=>
    rw [if_neg (by rw [ht];exact Bool.false_ne_true)] at hS
    simp +contextual only [go_sem,aD,sevalprocAttr, -Int.reduceAdd, -Int.reduceSub, -Int.reduceMul]
    refine cT mW.bd (fun M' he hL _=>kid 2 (by omega) M' he hL.2.2.1 hL.2.1 _) ?_
    simp +contextual only [go_sem,sevalprocAttr, -Int.reduceAdd, -Int.reduceSub, -Int.reduceMul,aC eN,V.cs]
    exact ak hT (by subst hS;rfl)
  rw [if_neg k17] at hS
  by_cases k18:k=18
  ·rw [if_pos k18] at hS
   have hl:kids.length=2:=by subst k18;simp [fX] at Vr;omega
   simp +contextual only [go_sem,aD,sevalprocAttr, -Int.reduceAdd, -Int.reduceSub, -Int.reduceMul,m0,k18]
   refine cT mW.bd (fun M' he hL _=>kid 0 (by omega) M' he hL.2.2.1 hL.2.1 _) ?_
   simp +contextual only [go_sem,aD,sevalprocAttr, -Int.reduceAdd, -Int.reduceSub, -Int.reduceMul,V.cs]
   intro b6 T6 pt gE um CO
   by_cases hn:(g 0).k=1
   ·rw [if_pos hn] at hS
    simp +contextual only [go_sem,sevalprocAttr, -Int.reduceAdd, -Int.reduceSub, -Int.reduceMul,hn]
    refine cT mW.bd (fun M' he hL _=>kid 1 (by omega) M' he hL.2.2.2.1 hL.2.2.1 _) ?_
    simp +contextual only [go_sem,sevalprocAttr, -Int.reduceAdd, -Int.reduceSub, -Int.reduceMul,gE,aC eN,V.cs]
    exact ak (hT.trans um) (by subst hS;rfl)
   ·rw [if_neg hn] at hS
    simp +contextual only [go_sem,sevalprocAttr, -Int.reduceAdd, -Int.reduceSub, -Int.reduceMul,aC eN,hn]
    exact ak (hT.trans um) (by subst hS;rfl)
  rw [if_neg k18] at hS
  have hl:kids.length=2:=by
   have:fX k=2:=by unfold fX;rw [if_neg (by omega),if_neg (by omega),if_pos (by omega)]
   omega
  simp +contextual only [go_sem,aD,sevalprocAttr, -Int.reduceAdd, -Int.reduceSub, -Int.reduceMul,m0,k1,k2,k3,k4,k5,k12,k13,k14,k15,k16,k17,k18]
  refine aX ?_
  simp +contextual only [go_sem,sevalprocAttr, -Int.reduceAdd, -Int.reduceSub, -Int.reduceMul,df,eE,aC dN,m0]
  refine cT mW.bd (fun M' he hL _=>kid 0 (by omega) M' he hL.2.2.1 hL.2.1 _) ?_
  simp +contextual only [go_sem,sevalprocAttr, -Int.reduceAdd, -Int.reduceSub, -Int.reduceMul]
  refine ⟨fO.refl _,?_⟩
  refine cT mW.bd (fun M' he hL _=>kid 1 (by omega) M' he hL.2.2.1 hL.2.1 _) ?_
  simp +contextual only [go_sem,sevalprocAttr, -Int.reduceAdd, -Int.reduceSub, -Int.reduceMul]
  refine ⟨fO.refl _,?_⟩
  refine aP (Fx _ (g 0) (g 1) _) ?_
  simp +contextual only [go_sem,sevalprocAttr, -Int.reduceAdd, -Int.reduceSub, -Int.reduceMul,aC eN,V.cs]
  refine ⟨fO.refl _,?_⟩
  exact ak hT (by subst hS;rfl)
def hvC (s:Se):Nat:=if s.hasH=true then Jn s.hv else 0
theorem aaj {s:Se}(h:s.hasH=true):Jn s.hv=hvC s:=by unfold hvC;rw [if_pos h]
structure OkSe (s:Se):Prop where
 src:s.src.length<=16
 on:∀ (j:Nat) (x:So),s.src[j]?=some x ->0<j ->(2<=x.k/\x.k<=5)/\D6 x.on
 wh:s.hasW=true ->D6 s.wh
 grp:s.group.length<=1000/\∀ x∈s.group,D6 x
 its:s.star=false ->s.items.length<=40/\∀ x∈s.items,D6 x.x
 hv:s.hasH=true ->D6 s.hv
 cnt:s.star=false ->yS (s.items.map (·.x))+hvC s<=100000
def pS (s:Se)(p:Pl)(names:List (Bs×Bs)):Except Int (Pl×List Bs):=match (if lR s=true then oe s p names else yn s p names) with
 | .error e=> .error e
 | .ok q=> .ok (if s.distinct=true then pW 11 q else q,if s.star=true then names.map (·.2) else iM 0 s.items)
theorem Tq {rels:List Rel}{s:Se}{e:Int}(h:tW rels s.src=.error e):sU rels s=.error e:=by unfold sU;rw [h]
theorem Mk {rels:List Rel}{s:Se}{f:Pl×List (Bs×Bs)}{e:Int}(h:tW rels s.src=.ok f)(hw:BF f.2 s.hasW s.wh=.error e):sU rels s=.error e:=by unfold sU;rw [h];simp only;rw [hw]
theorem Kv {rels:List Rel}{s:Se}{f:Pl×List (Bs×Bs)}{w:Ex}(h:tW rels s.src=.ok f)(hw:BF f.2 s.hasW s.wh=.ok w):sU rels s=pS s (if s.hasW=true then oC w f.1 else f.1) f.2:=by
 unfold sU pS;rw [h];simp only;rw [hw]<;>rfl
theorem vg {rels:List Rel}(hc:∀ r∈rels,r.cols.length<=1048576):∀ (l:List So) (i:Nat) (p:Pl) (names:List (Bs×Bs)) (td:List Bs) (r:Pl×List (Bs×Bs)),rQ rels l i p names td=.ok r ->r.2.length<=names.length+l.length*1048576
 | [],i,p,names,td,r,h=>by
  rw [rQ] at h
  injection h with h;subst h;simp
 | s::l,i,p,names,td,r,h=>by
  rw [xX] at h
  rw [List.length_cons,Nat.add_mul,Nat.one_mul]
  split at h
  ·cases h
  ·rename_i q hq
   obtain ⟨x,hx,hxc⟩:=Ck hq
   have hq2:q.2.length<=1048576:=by rw [hxc];exact hc x hx
   split at h
   ·cases h
   ·split at h
    ·have:=vg hc l _ _ _ _ _ h
     rw [List.length_append,List.length_map] at this
     omega
    ·split at h
     ·cases h
     ·have:=vg hc l _ _ _ _ _ h
      split at this
      ·rw [List.length_append,List.length_map] at this
       omega
      ·exact Nat.le_trans this (Nat.add_le_add_left (Nat.le_add_right _ _) _)
theorem AS {rels:List Rel}(hc:∀ r∈rels,r.cols.length<=1048576){l:List So}{r:Pl×List (Bs×Bs)}(h:tW rels l=.ok r):r.2.length<=l.length*1048576:=by
 have:=vg hc l 0 o9 [] [] r h
 simpa using this
theorem Dz {M:aS}{b:Nat}{cs:List Value}(h:M b=some cs):At M b 0 cs:=lf h cs 0 (by simp)
theorem JD {x:It}{M:aS}{cs:List Value}(hx:Am M x cs)(T:Tm):bV Tryz.prog 140 [.agg ⟨cs⟩] T M [] [] (fun r _ _ _=>r=.bool (rA x.x)) aM:=by
 have hl:=kO hx
 obtain ⟨aw,rfl,Hr,h1⟩:=nw hx
 refine az ahH rfl rfl ?_
 intro bi _
 simp +contextual only [go_sem,sevalprocAttr]
 intro b2 T2 dN dy ei
 refine cZ abI.bd fun M1 aV HP bG=> ?_
 refine aI (spX _ x.x (Nat.le_refl _) M1 T2 b2 0 _ (fz.1 (show At M1 b2 0 ([.int .i64 x.x.k,.int .i64 x.x.v.k,.int .i64 x.x.v.n,st x.x.v.t,st x.x.tab,st x.x.name,aw]++[st x.as]) from Dz HP)).1 (bL aV _ _ Hr)) ?_
 rintro v M2 bh _ rfl
 simp +contextual only [go_sem,sevalprocAttr]
 exact ak dy rfl
theorem NP {l:List It}{M:aS}{lv:Value}(hs:RS M (Am M) 8 l lv)(T:Tm):
 bV Tryz.prog 196 [lv,.func (.func 140) ⟨[]⟩ ⟨[]⟩] T M [] [] (fun r _ _ _=>r=.int .i64 (qm (l.findIdx? fun i=>rA i.x))) aM:=by
 obtain ⟨eZ,a,c,rfl,di,_,hg⟩:=ax (by decide) (fun _ _=>kO) hs
 refine az ajB rfl rfl ?_
 intro bi _
 simp +contextual only [go_sem,aD,sevalprocAttr]
 refine aO l.length 8 [(0,.slice a l.length c),(1,.func (.func 140) ⟨[]⟩ ⟨[]⟩),(7,.int .i64 (l.length:Int))] (fun i e h=>∃ M',bm M M'/\h=⟨T,M',[],[]⟩/\(l.findIdx? fun i=>rA i.x)=((l.drop i).findIdx? fun i=>rA i.x).map (·+i)) 0 (by omega) (by simp only [aE,go_sem,sevalprocAttr]) (by simp only [go_sem,sevalprocAttr]) ⟨M,bm.rfl',rfl,by simp⟩ ?_
 rintro i e h hi aG ht ⟨M1,aV,rfl,am⟩
 simp only [aE] at aG
 by_cases aL:i<l.length
 ·obtain ⟨p1,o1,cs1,rfl,xO,Dj⟩:=hg i l[i] (gq aL)
  have xu:l.drop i=l[i]::l.drop (i+1):=dq aL
  rw [xu,List.findIdx?_cons] at am
  obtain ⟨s1,hf1,Ad,iX⟩:=nw Dj
  subst hf1
  obtain ⟨y0,y1,y2,y3,y4,y5,y6,y7⟩:=At8 (xO.ext aV)
  simp +contextual only [go_sem,aD,sevalprocAttr,aG,ht,aL,y0,y1,y2,y3,y4,y5,y6,y7]
  refine aI (JD (jT aV _ _ Dj) T) ?_
  rintro v M2 bh _ rfl
  cases hb:rA l[i].x with
  | true=>
   rw [hb] at am
   simp +contextual only [go_sem,aD,sevalprocAttr]
   exact ak aF.rfl' (by rw [am];simp [qm])
  | false=>
   rw [hb] at am
   simp +contextual only [go_sem,aD,sevalprocAttr,ht]
   refine ce aL ?_ ?_ ⟨M2,aV.trans bh,rfl,?_⟩
   ·simp only [aE,aG,go_sem,sevalprocAttr]
   ·simp only [go_sem,sevalprocAttr,aA i (by omega)]
   ·rw [am]
    cases (l.drop (i+1)).findIdx? (fun i=>rA i.x)<;>simp;omega
 ·have:i=l.length:=by omega
  subst this
  rw [List.drop_length] at am
  simp +contextual only [go_sem,aD,sevalprocAttr,aG,ht,aL]
  exact ak aF.rfl' (by rw [am];rfl)
theorem DU {l:List It}{M:aS}{lv:Value}(hs:RS M (Am M) 8 l lv)(T:Tm):
 bV Tryz.prog 139 [lv,.func (.func 140) ⟨[]⟩ ⟨[]⟩] T M [] [] (fun r _ _ _=>r=.bool (l.any fun i=>rA i.x)) aM:=by
 refine az aiP rfl rfl ?_
 intro bi _
 simp +contextual only [go_sem,sevalprocAttr]
 refine aI (NP hs T) ?_
 rintro v M1 aV _ rfl
 simp +contextual only [go_sem,sevalprocAttr]
 exact ak aF.rfl' (by rw [Hn])
theorem Au {M:aS}{p:Pl}{c0 c1 c2 c3 c4 c5 c6 c7 c8 c9 c10:Value}(h:gR M p [c0,c1,c2,c3,c4,c5,c6,c7,c8,c9,c10]):c0.oneCell'=true/\c1.oneCell'=true/\c2.oneCell'=true/\c3.oneCell'=true/\c4.oneCell'=true/\c5.oneCell'=true/\c6.oneCell'=true/\c7.oneCell'=true/\c8.oneCell'=true/\c9.oneCell'=true/\c10.oneCell'=true:=by
 have:=yW h
 simpa using this
abbrev Cz:List Value:=[.int .i64 0,.int .i64 0,.int .i64 0,.int .i64 0,.int .i64 0,st [],.int .i64 0,.slice none 0 0,.slice none 0 0,.slice none 0 0,.slice none 0 0]
def afO (r:Pl×List Bs)(v:Value)(M:aS):Prop:=∃ cs nv,v=.tuple ⟨[.agg ⟨cs⟩,nv]⟩/\gR M r.1 cs/\RS M rj 1 r.2 nv
theorem Xe {M:aS}{bb b o:Nat}{rels:List Rel}{rv:Value}{s:Se}{cs:List Value}(hr:RS M (gU M) 14 rels rv)(VD:M bb=some [rv])(eC:∀ r∈rels,r.cols.length<=1048576)(bQ:At M b o cs)(hs:Hw M s cs)(cB:OkSe s)(T:Tm):
 bV Tryz.prog 92 [.pointer (some ⟨bb,0,none⟩),.pointer (some ⟨b,o,none⟩)] T M [] [] (wF afO (sU rels s)) (rf (sU rels s)):=by
 obtain ⟨ai,aj,af,ag,aw,ah,ap,aq,rfl,hi,hf,hw,hv,s8,ow,ov⟩:=Q1 hs
 obtain ⟨y0,y1,y2,y3,y4,y5,y6,y7,y8,y9,y10,y11,y12,y13,y14,y15,y16,y17,y18,y19,y20⟩:=Ig bQ
 refine az F92 rfl rfl ?_
 intro bi _
 simp +contextual only [go_sem,sevalprocAttr,y3]
 intro b4 T4 eN fG iI
 refine bT (X1 hr VD eC hf cB.src cB.on T4) ?_ ?_
 rotate_left
 ·rintro ch M1 aV bG ⟨er,he,rfl⟩
  exact mD fG (Tq he)
 rintro v M1 aV bG ⟨⟨p,names⟩,hfm,qs,sc,rfl,hp,NC⟩
 simp only at hp NC
 have alX:names.length<=16777216:=by have h1:=AS eC hfm;have h2:=cB.src;simp only at h1;omega
 obtain ⟨c0,c1,c2,c3,c4,c5,c6,c7,c8,c9,c10,rfl,hc⟩:=cO hp
 simp only [aJ] at bG
 replace y4:=ay aV y4
 simp +contextual only [go_sem,sevalprocAttr,hc,y4]
 intro b6 T6 pt gE um CO
 have FG:=bL aV _ _ hw
 have ajD:At M1 b (o+6) [.int .i64 s.wh.k,.int .i64 s.wh.v.k,.int .i64 s.wh.v.n,st s.wh.v.t,st s.wh.tab,st s.wh.name,aw]:=by
  have h1:=bQ.ext aV
  exact (fz.1 (fz.1 (show At M1 b o ([_,_,_,_,_,_]++([_,_,_,_,_,_,_]++[_,_,_,_,_,_,_,_])) from h1)).2).1
 refine eU (fun e ds h=>ds=[]/\aE e [(0,.pointer (some ⟨bb,0,none⟩)),(1,.pointer (some ⟨b,o,none⟩)),(4,.pointer (some ⟨b4,0,none⟩)),(6,.pointer (some ⟨b6,0,none⟩)),(7,.pointer (some ⟨sc,0,none⟩))]/\∃ M2 p2 c0 c1 c2 c3 c4 c5 c6 c7 c8 c9 c10,bm M1 M2/\M2 b6=none/\M2 b4=none/\gR M2 p2 [c0,c1,c2,c3,c4,c5,c6,c7,c8,c9,c10]/\sU rels s=pS s p2 names/\
  h=⟨T6,M2,[(b6,[c0,c1,c2,c3,c4,c5,c6,c7,c8,c9,c10]),(b4,Cz)],[]⟩) (fun S' eY=> ?_) ?_
 ·cases hW:s.hasW with
  | false=>
   simp +contextual only [go_sem,aD,sevalprocAttr]
   refine eY _ _ _ ⟨rfl,?_,M1,p,c0,c1,c2,c3,c4,c5,c6,c7,c8,c9,c10,bm.rfl',pt,bG.1,hp,?_,rfl⟩
   ·simp only [aE,go_sem,sevalprocAttr]
   ·have:=Kv (s:=s) hfm (w:=dX) (by unfold BF;rw [hW];rfl)
    rw [this,hW];rfl
  | true=>
   simp +contextual only [go_sem,aD,sevalprocAttr]
   refine aX ?_
   simp +contextual only [go_sem,sevalprocAttr,pt]
   obtain ⟨lvs,iX,oS,_⟩:=NC
   refine bT (exB names _ s.wh (Nat.le_refl _) (cB.wh hW) M1 T6 sc lvs _ _ b (o+6) _ oS iX ajD FG) ?_ ?_
   ·rintro r M2 bh aZ ⟨x,hx,xs,rfl,wV⟩
    obtain ⟨s6,rfl,YM,_⟩:=dF wV
    simp only [aJ] at aZ
    simp +contextual only [go_sem,sevalprocAttr]
    refine ⟨fu bh ⟨aZ.1,aZ.2.1,trivial⟩,?_⟩
    refine aI (A0 wV (bA bh _ _ hp) T6) ?_
    rintro r M3 bE bB ⟨fs,rfl,hfe⟩
    obtain ⟨f0,f1,f2,f3,f4,f5,f6,f7,f8,f9,f10,rfl,hff⟩:=cO hfe
    simp only [aJ] at bB
    simp +contextual only [go_sem,sevalprocAttr,hff]
    refine eY _ _ _ ⟨rfl,?_,M3,_,f0,f1,f2,f3,f4,f5,f6,f7,f8,f9,f10,bh.trans bE,bB.1,bB.2.1,hfe,?_,rfl⟩
    ·simp only [aE,go_sem,sevalprocAttr]
    ·have:=Kv (s:=s) hfm (w:=x) (by unfold BF;rw [hW];exact hx)
     rw [this,hW];rfl
   ·rintro ch M2 bh aZ ⟨er,he,rfl⟩
    exact mD (fG.trans um) (Mk hfm (by unfold BF;rw [hW];exact he))
 clear hp hc y4
 rintro e ds h ⟨rfl,aG,M2,p2,c0,c1,c2,c3,c4,c5,c6,c7,c8,c9,c10,bh,n6,n4,hp,wW,rfl⟩
 rw [wW]
 clear wW hfm
 simp only [aE] at aG
 have ep:=aV.trans bh
 replace NC:=NC.ext bh
 have z:=Ig (bQ.ext ep)
 have hc:=Au hp
 have Uo:=fG.trans um
 simp only [K8]
 refine lE (fun e ds h=>ds=[]/\aE e [(0,.pointer (some ⟨bb,0,none⟩)),(1,.pointer (some ⟨b,o,none⟩)),(4,.pointer (some ⟨b4,0,none⟩)),(6,.pointer (some ⟨b6,0,none⟩)),(7,.pointer (some ⟨sc,0,none⟩)),(8,.bool (lR s))]/\∃ M3,bm M2 M3/\M3 b6=none/\M3 b4=none/\
  h=⟨T6,M3,[(b6,[c0,c1,c2,c3,c4,c5,c6,c7,c8,c9,c10]),(b4,Cz)],[]⟩) (fun S' eY=> ?_) ?_
 ·have hg:lR s=(if 0<s.group.length\/s.hasH=true then true else if s.star=true then false else s.items.any fun i=>rA i.x):=by
   unfold lR
   by_cases h1:0<s.group.length<;>cases s.hasH<;>cases s.star<;>simp [h1]
  have YH:(0<(s.group.length:Int))=(0<s.group.length):=by simp
  by_cases hA:0<(s.group.length:Int)\/s.hasH=true
  ·rw [if_pos (by rwa [YH] at hA)] at hg
   simp +contextual only [go_sem,sevalprocAttr,aG,z,hA]
   refine eY _ _ _ ⟨rfl,?_,M2,bm.rfl',n6,n4,rfl⟩
   rw [hg]
   simp only [aE,aG,go_sem,sevalprocAttr]
  ·rw [if_neg (by rwa [YH] at hA)] at hg
   cases hS:s.star with
   | true=>
    rw [hS,if_pos rfl] at hg
    simp +contextual only [go_sem,sevalprocAttr,aG,z,hA,hS]
    refine eY _ _ _ ⟨rfl,?_,M2,bm.rfl',n6,n4,rfl⟩
    rw [hg]
    simp only [not_or] at hA
    simp only [aE,aG,hA,go_sem,sevalprocAttr]
   | false=>
    rw [hS,if_neg (by decide)] at hg
    simp +contextual only [go_sem,sevalprocAttr,aG,z,hA,hS]
    refine aI (DU (aH ep (jT ep) hi) T6) ?_
    rintro r M3 bE bB rfl
    simp only [aJ] at bB
    simp +contextual only [go_sem,sevalprocAttr,hA]
    refine eY _ _ _ ⟨rfl,?_,M3,bE,bB.1,bB.2.1,rfl⟩
    rw [hg]
    simp only [not_or] at hA
    simp only [aE,aG,hA,go_sem,sevalprocAttr]
 rintro e ds h ⟨rfl,aG,M3,bE,n6',n4',rfl⟩
 clear z n6 n4
 simp only [aE] at aG
 have te:=ep.trans bE
 replace NC:=NC.ext bE
 replace hp:=bA bE _ _ hp
 have z:=Ig (bQ.ext te)
 simp +contextual only [go_sem,sevalprocAttr,aG]
 obtain ⟨lvs,iX,oS,Ft⟩:=NC
 refine eU (fun e ds h=>ds=[]/\aE e [(1,.pointer (some ⟨b,o,none⟩)),(4,.pointer (some ⟨b4,0,none⟩)),(6,.pointer (some ⟨b6,0,none⟩))]/\(s.star=true ->e 7=.pointer (some ⟨sc,0,none⟩))/\∃ N' M' L' R' q,h=⟨N',M',L',R'⟩/\aF T6 N'/\bm M3 M'/\(if lR s=true then oe s p2 names else yn s p2 names)=.ok q/\
  cq h (fun h'=>∃ M'' qs,bm M' M''/\h'=⟨N',M'',[(b6,qs),(b4,Cz)],[]⟩/\M'' b6=none/\M'' b4=none/\gR M'' q qs)) (fun S' eY=> ?_) ?_
 ·have Pt:∀ {M':aS},bm M3 M' ->RS M' (Am M') 8 s.items (.slice ai s.items.length aj):=fun he=>aH (te.trans he) (jT (te.trans he)) hi
  cases hG:lR s with
  | false=>
   have J3:pS s p2 names=match yn s p2 names with | .error e=> .error e | .ok q=> .ok (if s.distinct=true then pW 11 q else q,if s.star=true then names.map (·.2) else iM 0 s.items):=by unfold pS;rw [hG];rfl
   cases hS:s.star with
   | true=>
    simp +contextual only [go_sem,aD,sevalprocAttr,aG,z,hS]
    refine eY _ _ _ ⟨rfl,?_,fun _=> ?_,T6,M3,_,_,p2,rfl,aF.rfl',bm.rfl',?_,aB ⟨M3,_,bm.rfl',rfl,n6',n4',hp⟩⟩
    ·simp only [aE,aG,go_sem,sevalprocAttr]
    ·simp only [aG,go_sem,sevalprocAttr]
    ·rw [hG,if_neg (by decide)];unfold yn;rw [hS];rfl
   | false=>
    simp +contextual only [go_sem,aD,sevalprocAttr,aG,z,hS,n6']
    intro bk eZ nz b14 T14 S1 qA Wr ae3
    obtain ⟨Zn,SU⟩:=cB.its hS
    have aj6:∀ {e:Int},eK names (s.items.map (·.x))=.error e ->pS s p2 names=.error e:=fun h=>by rw [J3];unfold yn;rw [hS,h];rfl
    obtain ⟨U8,_,hig⟩:s.items.length*8<=4398046511104/\s.items.length<=aj/\∀ (i:Nat) (x:It),s.items[i]?=some x ->∃ b o cs,ai=some ⟨b,o,none⟩/\At M3 b (o+i*8) cs/\Am M3 x cs:=by
     obtain ⟨h1,a',c',h2,h3,_,h4⟩:=ax (by decide) (fun _ _=>kO) (Pt bm.rfl')
     injection h2 with h5 h6 h7
     subst h5 h7
     exact ⟨h1,h3,h4⟩
    refine aO s.items.length 145 [(1,.pointer (some ⟨b,o,none⟩)),(4,.pointer (some ⟨b4,0,none⟩)),(6,.pointer (some ⟨b6,0,none⟩)),(7,.pointer (some ⟨sc,0,none⟩)),(14,.pointer (some ⟨b14,0,none⟩)),(144,.int .i64 (s.items.length:Int))]
     (fun i e h=>∃ M' R fv acc,bm M3 M'/\M' b14=none/\M' bk=none/\M' b6=none/\M' b4=none/\h=⟨T14,M',[(b14,[.int .i64 3,.int .i64 0,.int .i64 0,.int .i64 0,.int .i64 0,st [],.int .i64 0,.slice none 0 0,fv,.slice none 0 0,.slice (some ⟨bk,0,none⟩) 1 1]),(bk,[c0,c1,c2,c3,c4,c5,c6,c7,c8,c9,c10]),(b6,[c0,c1,c2,c3,c4,c5,c6,c7,c8,c9,c10]),(b4,Cz)],R⟩/\acc.length=i/\kT 117 6 (ij M') [] R fv acc/\rh acc (eK names ((s.items.drop i).map (·.x)))=eK names (s.items.map (·.x)))
     0 (by omega) (by simp only [aE,aG,go_sem,sevalprocAttr]) (by simp only [go_sem,sevalprocAttr]) ⟨M3,[],_,[],bm.rfl',S1,eZ,n6',n4',rfl,rfl,cV,qt _⟩ ?_
    rintro i e h DC ec ht ⟨M4,R4,fv,acc,dD,k14,kk,k6,k4,rfl,jN,bj,am⟩
    simp only [aE] at ec
    obtain ⟨fa,fc,YX⟩:=eI bj
    by_cases aL:i<s.items.length
    ·obtain ⟨b',o',cs',rfl,JB,dV⟩:=hig i s.items[i] (gq aL)
     obtain ⟨aw',rfl,Hr,qZ⟩:=nw dV
     have acw:=(fz.1 (show At M3 b' (o'+i*8) ([_,_,_,_,_,_,_]++[_]) from JB)).1
     have bK:s.items.drop i=s.items[i]::s.items.drop (i+1):=dq aL
     rw [bK,List.map_cons] at am
     have z2:=ay dD z.2.2.1
     subst YX
     simp +contextual only [go_sem,aD,sevalprocAttr,ec,ht,aL]
     refine aX ?_
     simp +contextual only [go_sem,sevalprocAttr,ec,aL,z2,k14]
     refine bT (exB names _ s.items[i].x (Nat.le_refl _) (SU _ (gm aL)) M4 T14 sc lvs _ _ b' _ _ (aH dD (fun _ _ h=>h) oS) (dD _ _ iX) (acw.ext dD) (bL dD _ _ Hr)) ?_ ?_
     ·rintro r M5 dJ bR ⟨x,hx,xs,rfl,wV⟩
      rw [Bo hx,<- n8] at am
      obtain ⟨s6,rfl,YM,_⟩:=dF wV
      simp only [aJ] at bR
      simp +contextual only [go_sem,sevalprocAttr]
      refine ⟨fu dJ ⟨bR.1,bR.2.1,bR.2.2.1,bR.2.2.2.1,trivial⟩,?_⟩
      intro b20 sk gX
      refine ⟨dK dJ ⟨bR.1,bR.2.1,bR.2.2.1,bR.2.2.2.1,trivial⟩ ⟨gX.1,gX.2.1,gX.2.2.1,gX.2.2.2,trivial⟩,?_⟩
      refine cA (Tryz.underlying115) zP z8 (ey (cJ dJ) bj) wV (fun _ _=>eb) (ns wV) sk (by omega) (by decide) ?_
      intro fv' R' bz
      obtain ⟨fa',fc',rfl⟩:=eI bz
      simp +contextual only [go_sem,sevalprocAttr,ec,ht,gX]
      refine ⟨dK dJ ⟨bR.1,bR.2.1,bR.2.2.1,bR.2.2.2.1,trivial⟩ ⟨gX.1,gX.2.1,gX.2.2.1,gX.2.2.2,trivial⟩,?_⟩
      refine aR (al (aB ⟨s.items.length - (i+1),by omega,rfl,i+1,by omega,rfl,?_,?_,M5,R',_,acc++[x],dD.trans dJ,bR.1,bR.2.1,bR.2.2.1,bR.2.2.2.1,rfl,?_,bz,am⟩))
      ·simp only [aE,ec,go_sem,sevalprocAttr]
      ·simp only [go_sem,sevalprocAttr,aA i (by omega)]
      ·rw [List.length_append,jN];rfl
     ·rintro ch M5 dJ bR ⟨er,he,rfl⟩
      rw [zK he] at am
      exact mD (Uo.trans Wr) (aj6 am.symm)
    ·have:i=s.items.length:=by omega
     subst this
     rw [List.drop_length] at am
     simp only [List.map_nil,eK,rh,List.append_nil] at am
     subst YX
     simp +contextual only [go_sem,aD,sevalprocAttr,ec,ht,aL,k14,qA,nz]
     refine eY _ _ _ ⟨rfl,?_,fun h=>(by rw [hS] at h;cases h),T14,M4,_,_,.mk 3 0 dX acc [] [p2],rfl,Wr,dD,?_,?_⟩
     ·simp only [aE,ec,go_sem,sevalprocAttr]
     ·rw [hG,if_neg (by decide)];unfold yn;rw [hS,<- am];rfl
     ·refine cz bj (by omega) (by decide) ⟨k14,kk,k6,k4,trivial⟩ fun M5 dJ bR cG=>al (aT fun he hk bU=>aB ⟨_,_,dJ.trans he,rfl,bU.1,bU.2.1,?_⟩)
      exact jt (fB _) (aH he (cJ (dJ.trans he)) cG) bu (kN hk (bA ((dD.trans dJ).trans he) _ _ hp))
  | true=>
   have J3:pS s p2 names=match oe s p2 names with | .error e=> .error e | .ok q=> .ok (if s.distinct=true then pW 11 q else q,if s.star=true then names.map (·.2) else iM 0 s.items):=by unfold pS;rw [hG];rfl
   cases hS:s.star with
   | true=>
    simp +contextual only [go_sem,aD,sevalprocAttr,aG,z,hS]
    exact uy Uo (by rw [J3];unfold oe;rw [hS];rfl)
   | false=>
    have hgm:oe s p2 names=match eK names s.group with
     | .error e=> .error e
     | .ok aY=>match fK names s.group (s.items.map (·.x)) [] with
      | .error e=> .error e
      | .ok it=>match B0 names s.group s.hasH s.hv it.2 with
       | .error e=> .error e
       | .ok h=> .ok (.mk 3 0 dX it.1 [] [if s.hasH=true then oC h.1 (.mk 12 0 dX aY h.2 [p2]) else .mk 12 0 dX aY h.2 [p2]]):=by unfold oe;rw [hS];rfl
    have lD:∀ {e:Int},oe s p2 names=.error e ->pS s p2 names=.error e:=fun h=>by rw [J3,h]
    obtain ⟨Zn,SU⟩:=cB.its hS
    have Av:=cB.cnt hS
    simp +contextual only [go_sem,aD,sevalprocAttr,aG,z,hS]
    intro b9 T9 qy gP ut pR
    refine bT (Cx (fun x hx=>exB names _ x (Nat.le_refl _) (cB.grp.2 x hx)) (by have:=cB.grp.1;omega) oS iX (aH te (bL te) s8) T9) ?_ ?_
    rotate_left
    ·rintro ch M4 dD de ⟨er,he,rfl⟩
     exact mD (Uo.trans ut) (lD (by rw [hgm,he]))
    rintro kv M4 dD de ⟨keysE,hkE,Pm⟩
    simp only [aJ] at de
    replace z:=Ig ((bQ.ext te).ext dD)
    simp +contextual only [go_sem,aD,sevalprocAttr,aG,z]
    intro b85 T85 afy afx aaO amI
    have hT':=(Uo.trans ut).trans aaO
    have h34:=te.trans dD
    obtain ⟨U8,_,hig⟩:s.items.length*8<=4398046511104/\s.items.length<=aj/\∀ (i:Nat) (x:It),s.items[i]?=some x ->∃ b o cs,ai=some ⟨b,o,none⟩/\At M3 b (o+i*8) cs/\Am M3 x cs:=by
     obtain ⟨h1,a',c',h2,h3,_,h4⟩:=ax (by decide) (fun _ _=>kO) (Pt bm.rfl')
     injection h2 with h5 h6 h7
     subst h5 h7
     exact ⟨h1,h3,h4⟩
    have U9:s.group.length<=1048576:=by have:=cB.grp.1;omega
    refine bY s.items.length 91 [(1,.pointer (some ⟨b,o,none⟩)),(4,.pointer (some ⟨b4,0,none⟩)),(6,.pointer (some ⟨b6,0,none⟩)),(7,.pointer (some ⟨b85,0,none⟩)),(9,.pointer (some ⟨b9,0,none⟩)),(10,kv),(90,.int .i64 (s.items.length:Int))]
     (fun i e h=>∃ M' L' R0 R' fv acc ags,bm M4 M'/\aJ M' ([(b6,[c0,c1,c2,c3,c4,c5,c6,c7,c8,c9,c10]),(b4,Cz)]++L')/\h=⟨T85,M',[(b6,[c0,c1,c2,c3,c4,c5,c6,c7,c8,c9,c10]),(b4,Cz)]++L',R'⟩/\e 11=fv/\acc.length=i/\WD M' b9 L' R0 ags/\kT 117 6 (ij M') R0 R' fv acc/\
      Gs M' b85 b9 sc names s.group lvs (.slice ap s.group.length aq) (.slice none 0 0) (.slice none 0 0) (.pointer none)/\ags.length+yS ((s.items.drop i).map (·.x))+hvC s<=1048576/\Fp acc (fK names s.group ((s.items.drop i).map (·.x)) ags)=fK names s.group (s.items.map (·.x)) [])
     0 (by omega) (by simp only [aE,aG,go_sem,sevalprocAttr]) (by simp only [go_sem,sevalprocAttr]) ?_ ?_
    ·refine aT fun he h85 bR=>cY (L':=[(b6,[c0,c1,c2,c3,c4,c5,c6,c7,c8,c9,c10]),(b4,Cz),(b9,[.slice none 0 0])]) ?_ (eF (aB ⟨_,[(b9,[.slice none 0 0])],[(.slice none 0 0,282,7,[])],_,_,[],[],he,⟨bR.2.1,bR.2.2.1,bR.1,trivial⟩,rfl,(by simp only [go_sem,sevalprocAttr]),rfl,⟨none,0,[],rfl,rfl,rfl⟩,cV,⟨h85,he _ _ (dD _ _ iX),aH (dD.trans he) (fun _ _ h=>h) oS,aH (h34.trans he) (bL (h34.trans he)) s8⟩,?_,Ec _⟩))
     ·exact (List.perm_append_comm (l₁:=[(b9,_)]) (l₂:=[(b6,_),(b4,_)]))
     ·simp only [List.drop_zero,List.length_nil];omega
    rintro i e h DC ec ht ⟨M5,L5,R0,R5,fv,acc,ags,dJ,bR,rfl,e11,jN,hA,bj,hGs,YE,am⟩
    simp only [aE] at ec
    obtain ⟨hkA,hrA⟩:=tH hA
    by_cases aL:i<s.items.length
    ·obtain ⟨b',o',cs',rfl,JB,dV⟩:=hig i s.items[i] (gq aL)
     obtain ⟨aw',rfl,Hr,qZ⟩:=nw dV
     have acw:=(fz.1 (show At M3 b' (o'+i*8) ([_,_,_,_,_,_,_]++[_]) from JB)).1
     have bK:s.items.drop i=s.items[i]::s.items.drop (i+1):=dq aL
     rw [bK,List.map_cons] at am YE
     rw [yS] at YE
     have z2:=ay dJ z.2.2.1
     have h35:=dD.trans dJ
     simp +contextual only [go_sem,aD,sevalprocAttr,ec,ht,aL,z2]
     refine vt [(b6,_),(b4,_)] (exG names s.group U9 _ s.items[i].x (Nat.le_refl _) (SU _ (gm aL)) M5 T85 b85 b9 sc lvs _ _ _ _ b' _ _ ags L5 R0 hGs (acw.ext h35) (bL h35 _ _ Hr) hA (by omega)) bj ?_ ?_
     ·rintro v M6 L6 R6 R7 eP hk6 hr6 bU ⟨y,ag2,hy,⟨cs,rfl,zh⟩,LH⟩ ek
      rw [Bj hy,<- B8] at am
      have Bd:=qO _ _ _ _ hy
      have cM:=eb zh
      simp +contextual only [go_sem,sevalprocAttr,e11,cM]
      intro b16 Pa KS
      refine cA (Tryz.underlying115) zP z8 (ey (cJ eP) ek) zh (fun _ _=>eb) (ns zh) Pa (by omega) (by decide) ?_
      intro fv' R' bz
      simp +contextual only [go_sem,sevalprocAttr,ht]
      refine aR (al (aB ⟨s.items.length - (i+1),by omega,rfl,i+1,by omega,rfl,?_,?_,M6,L6,R6,R',fv',acc++[y],ag2,dJ.trans eP,bU,rfl,?_,?_,LH,bz,hGs.ext eP,by omega,am⟩))
      ·simp only [aE,ec,go_sem,sevalprocAttr]
      ·simp only [go_sem,sevalprocAttr,aA i (by omega)]
      ·simp only [go_sem,sevalprocAttr]
      ·rw [List.length_append,jN];rfl
     ·rintro ch M6 L6 R6 R7 eP hk6 hr6 ⟨er,he,rfl⟩
      rw [Af he] at am
      exact mD hT' (lD (by rw [hgm,hkE];simp only;rw [show fK names s.group (s.items.map (·.x)) []=.error er from am.symm]))
    ·have:i=s.items.length:=by omega
     subst this
     rw [List.drop_length] at am YE
     simp only [List.map_nil,fK,Fp,List.append_nil] at am
     simp only [List.map_nil,yS,Nat.add_zero] at YE
     have h35:=dD.trans dJ
     replace z:=Ig (((bQ.ext te).ext dD).ext dJ)
     have n6:M5 b6=none/\M5 b4=none:=⟨bR.1,bR.2.1⟩
     have n9:M5 b9=none:=by
      obtain ⟨a,c,xs,rfl,rfl,_⟩:=hA
      exact bR.2.2.1
     simp +contextual only [go_sem,sevalprocAttr,ec,ht]
     rw [dG,if_neg (by simp)]
     simp +contextual only [go_sem,sevalprocAttr,ec,aL,z]
     intro b13 T13 OM FO DH TK
     have hTT:=hT'.trans DH
     have aea:¬ b13=b9/\¬ b9=b13:=by
      obtain ⟨a,c,xs,rfl,rfl,_⟩:=hA
      exact FO.2.2.1
     refine eU (fun e ds h=>ds=[]/\aE e [(1,.pointer (some ⟨b,o,none⟩)),(4,.pointer (some ⟨b4,0,none⟩)),(6,.pointer (some ⟨b6,0,none⟩)),(9,.pointer (some ⟨b9,0,none⟩)),(10,kv),(11,fv),(13,.pointer (some ⟨b13,0,none⟩))]/\∃ M' aa an axs R' x x0 x1 x2 x3 x4 x5 ags',bm M5 M'/\(M' b13=none/\M' b6=none/\M' b4=none/\M' b9=none)/\ij M' x [x0,x1,x2,x3,x4,x5]/\(x0.oneCell'=true/\x1.oneCell'=true/\x2.oneCell'=true/\x3.oneCell'=true/\x4.oneCell'=true/\x5.oneCell'=true)/\B0 names s.group s.hasH s.hv ags=.ok (x,ags')/\RL (AG M') ags' axs/\ags'.length<=1048576/\
      kT 117 6 (ij M') [(.slice aa ags'.length an,282,7,axs)] R' fv acc/\
      h=⟨T13,M',[(b13,[x0,x1,x2,x3,x4,x5]),(b6,[c0,c1,c2,c3,c4,c5,c6,c7,c8,c9,c10]),(b4,Cz),(b9,[.slice aa ags'.length an])],R'⟩) (fun S'' aec=> ?_) ?_
     ·cases hH:s.hasH with
      | false=>
       obtain ⟨a,c,xs,rfl,rfl,fM⟩:=hA
       simp +contextual only [go_sem,aD,sevalprocAttr]
       refine aec _ _ _ ⟨rfl,?_,M5,a,c,xs,R5,dX,_,_,_,_,_,_,ags,bm.rfl',⟨OM,n6.1,n6.2,n9⟩,fB _,⟨rfl,rfl,rfl,rfl,rfl,rfl⟩,by unfold B0;rw [hH];rfl,fM,by omega,bj,rfl⟩
       simp only [aE,ec,e11,go_sem,sevalprocAttr]
      | true=>
       have hvc:=aaj hH
       have aka:At M5 b (o+13) [.int .i64 s.hv.k,.int .i64 s.hv.v.k,.int .i64 s.hv.v.n,st s.hv.v.t,st s.hv.tab,st s.hv.name,ah]:=
        (fz.1 (fz.1 (show At M5 b o ([_,_,_,_,_,_,_,_,_,_,_,_,_]++([_,_,_,_,_,_,_]++[_])) from bQ.ext (te.trans h35))).2).1
       simp +contextual only [go_sem,aD,sevalprocAttr,ec]
       refine vt [(b13,_),(b6,_),(b4,_)] (exG names s.group U9 _ s.hv (Nat.le_refl _) (cB.hv hH) M5 T13 b85 b9 sc lvs _ _ _ _ b (o+13) _ ags L5 R0 hGs aka (bL (te.trans h35) _ _ hv) hA (by omega)) bj ?_ ?_
       ·rintro v M6 L6 R6 R7 eP hk6 hr6 bU ⟨y,ag2,hy,⟨cs,rfl,zh⟩,LH⟩ ek
        have Bd:=qO _ _ _ _ hy
        obtain ⟨a,c,xs,rfl,rfl,fM⟩:=LH
        obtain ⟨s6,rfl,YM,_⟩:=dF zh
        simp only [nn,aJ] at bU
        simp +contextual only [go_sem,sevalprocAttr,YM]
        refine aec _ _ _ ⟨rfl,?_,M6,a,c,xs,R7,y,_,_,_,_,_,_,ag2,eP,⟨bU.1,bU.2.1,bU.2.2.1,bU.2.2.2.1⟩,zh,⟨rfl,rfl,rfl,rfl,rfl,YM⟩,by unfold B0;rw [hH];exact hy,fM,by omega,ey (cJ eP) ek,rfl⟩
        simp only [aE,ec,e11,go_sem,sevalprocAttr]
       ·rintro ch M6 L6 R6 R7 eP hk6 hr6 ⟨er,he,rfl⟩
        exact mD hTT (lD (by rw [hgm,hkE];simp only;rw [<- am];simp only;unfold B0;rw [hH];simp only [if_true];rw [he]))
     ·rintro e ds h ⟨rfl,tC,M6,aa,an,axs,R6,x,x0,x1,x2,x3,x4,x5,ags',eP,k6,wV,hxo,dZ,fM,an7,TD,rfl⟩
      simp only [aE] at tC
      have Vb:=dJ.trans eP
      replace z:=Ig ((((bQ.ext te).ext dD).ext dJ).ext eP)
      obtain ⟨kv1,kv2⟩:=dA Pm
      have kv2m:=kv2
      simp only [Value.cells] at kv2m
      obtain ⟨fa,fc,rfl⟩:=eI TD
      have adW:=aH Vb (cJ Vb) Pm
      have hp6:=bA (dD.trans Vb) _ _ hp
      have afh:∀ {q:Pl},(if s.hasH=true then oC x (.mk 12 0 dX keysE ags' [p2]) else .mk 12 0 dX keysE ags' [p2])=q ->oe s p2 names=.ok (.mk 3 0 dX acc [] [q]):=by
       rintro q rfl
       rw [hgm,hkE];simp only;rw [<- am];simp only;rw [dZ]
      have vv:∀ {M7:aS} {a2:Option Addr} {c2:Nat},bm M6 M7 ->Sl M7 (.slice a2 ags'.length c2) 7 axs ->RS M7 (AG M7) 7 ags' (.slice a2 ags'.length c2):=fun he iG=>⟨by omega,axs,iG,dl (fun x cs h=>qM he x cs h) fM⟩
      have hpm:∀ {A B C:Nat×List Value},[A,B,C].Perm [C,A,B]:=fun {A B C}=>List.perm_append_comm (l₁:=[A,B]) (l₂:=[C])
      have D3:acc.length*6<=4398046511104:=by omega
      cases hH:s.hasH with
      | false=>
       simp +contextual only [go_sem,aD,sevalprocAttr,tC,z,hH,k6,aea,FO,gP,kv1,kv2m]
       intro bk eZ nz bl YK afX
       refine eY _ _ _ ⟨rfl,?_,fun h=>(by rw [hS] at h;cases h),T13,M6,_,_,.mk 3 0 dX acc [] [.mk 12 0 dX keysE ags' [p2]],rfl,(ut.trans aaO).trans DH,dD.trans Vb,?_,?_⟩
       rotate_left
       ·rw [hG,if_pos rfl]
        exact afh (by rw [hH];rfl)
       ·refine cz TD D3 (by decide) ⟨YK,eZ,k6.1,k6.2.1,k6.2.2.1,k6.2.2.2,trivial⟩ fun M7 qN mw cG=>cK fun M8 vz oD iG=>cY (List.Perm.swap _ _ _) (aT fun xP h1 _=>aT fun pu h2 rq=>al (cY hpm (al (aB ⟨_,_,((qN.trans vz).trans xP).trans pu,rfl,rq.2.1,rq.2.2.1,?_⟩))))
        have Oi:=(((qN.trans vz).trans xP).trans pu)
        refine jt (fB _) (aH ((vz.trans xP).trans pu) (cJ Oi) cG) bu (kN h2 ?_)
        refine jt (fB _) (aH Oi (cJ Oi) adW) (vv Oi (iG.ext (xP.trans pu))) (kN (pu _ _ h1) (bA Oi _ _ hp6))
       ·simp only [aE,tC,go_sem,sevalprocAttr]
      | true=>
       simp +contextual only [go_sem,aD,sevalprocAttr,tC,z,hH,k6,aea,FO,gP,kv1,kv2m]
       intro bk eZ nz
       refine cL (k:=fun h'=>∃ M7 a2,bm M6 M7/\(M7 b13=none/\M7 b6=none/\M7 b4=none/\M7 b9=none)/\RS M7 (ij M7) 6 acc (.slice fa acc.length fc)/\gR M7 (.mk 12 0 dX keysE ags' [p2]) [.int .i64 12,.int .i64 0,.int .i64 0,.int .i64 0,.int .i64 0,st [],.int .i64 0,.slice none 0 0,kv,.slice aa ags'.length an,.slice (some ⟨bk,0,none⟩) 1 1]/\
        h'=⟨T13,M7,[(b13,[x0,x1,x2,x3,x4,x5]),(b6,[.int .i64 12,.int .i64 0,.int .i64 0,.int .i64 0,.int .i64 0,st [],.int .i64 0,.slice none 0 0,kv,.slice aa ags'.length an,.slice (some ⟨bk,0,none⟩) 1 1]),(b4,Cz),(b9,[a2])],[]⟩)
        (cz TD D3 (by decide) ⟨eZ,k6.1,k6.2.1,k6.2.2.1,k6.2.2.2,trivial⟩ fun M7 qN mw cG=>cK fun M8 vz oD iG=>aT fun xP h1 rq=>aB ⟨_,_,(qN.trans vz).trans xP,⟨rq.1,rq.2.1,rq.2.2.1,rq.2.2.2.1⟩,aH (vz.trans xP) (cJ ((qN.trans vz).trans xP)) cG,
         jt (fB _) (aH ((qN.trans vz).trans xP) (cJ ((qN.trans vz).trans xP)) adW) (vv ((qN.trans vz).trans xP) (iG.ext xP)) (kN h1 (bA ((qN.trans vz).trans xP) _ _ hp6)),rfl⟩) ?_ afb.bd
       rintro h' ⟨M7,a2,qN,k7,ak3,ajl,rfl⟩
       refine aI (A0 (cJ qN _ _ wV) ajl T13) ?_
       rintro r M8 vz oD ⟨fs,rfl,hfe⟩
       obtain ⟨f0,f1,f2,f3,f4,f5,f6,f7,f8,f9,f10,rfl,hff⟩:=cO hfe
       simp only [aJ] at oD
       simp +contextual only [go_sem,sevalprocAttr,tC,oD,FO,hff]
       intro bl YK afX
       refine eY _ _ _ ⟨rfl,?_,fun h=>(by rw [hS] at h;cases h),T13,M8,_,_,.mk 3 0 dX acc [] [oC x (.mk 12 0 dX keysE ags' [p2])],rfl,(ut.trans aaO).trans DH,((dD.trans Vb).trans qN).trans vz,?_,?_⟩
       rotate_left
       ·rw [hG,if_pos rfl]
        exact afh (by rw [hH];rfl)
       ·refine aT fun pu h2 rq=>al (cY hpm (al (aB ⟨_,_,pu,rfl,rq.2.1,rq.2.2.1,?_⟩)))
        exact jt (fB _) (aH (vz.trans pu) (cJ (vz.trans pu)) ak3) bu (kN h2 (bA pu _ _ hfe))
       ·simp only [aE,tC,go_sem,sevalprocAttr]
 ·rintro e ds h ⟨rfl,aG,e7,N4,M4,L4,R4,q,rfl,Bg,dD,hq,cM⟩
  simp only [aE] at aG
  replace z:=Ig ((bQ.ext te).ext dD)
  have Zh:pS s p2 names=.ok (if s.distinct=true then pW 11 q else q,if s.star=true then names.map (·.2) else iM 0 s.items):=by unfold pS;rw [hq]
  obtain ⟨hnb,la,lc,rfl,_,_,hlg⟩:=ax (by decide) (fun _ _=>qX) (aH dD (fun _ _ h=>h) oS)
  have acg:=dD _ _ iX
  have hMM:=te.trans dD
  simp +contextual only [go_sem,sevalprocAttr,aG,z]
  refine eU (fun e ds h=>ds=[]/\aE e [(1,.pointer (some ⟨b,o,none⟩)),(4,.pointer (some ⟨b4,0,none⟩)),(6,.pointer (some ⟨b6,0,none⟩))]/\∃ N' M' R' nv nm qs,e 16=nv/\aF T6 N'/\bm M4 M'/\kT 9 1 rj [] R' nv nm/\nm=(if s.star=true then names.map (·.2) else iM 0 s.items)/\nm.length*1<=4398046511104/\gR M' q qs/\M' b6=none/\M' b4=none/\h=⟨N',M',[(b6,qs),(b4,Cz)],R'⟩) (fun S' eY=> ?_) ?_
  ·cases hS:s.star with
   | true=>
    have e7:=e7 hS
    simp +contextual only [go_sem,aD,sevalprocAttr,e7,bg acg]
    refine bY names.length 173 [(1,.pointer (some ⟨b,o,none⟩)),(4,.pointer (some ⟨b4,0,none⟩)),(6,.pointer (some ⟨b6,0,none⟩)),(171,.slice la names.length lc),(172,.int .i64 (names.length:Int))]
     (fun i e h=>∃ N' M' R' nv nm qs,e 16=nv/\aF T6 N'/\bm M4 M'/\kT 9 1 rj [] R' nv nm/\nm=(names.take i).map (·.2)/\gR M' q qs/\M' b6=none/\M' b4=none/\h=⟨N',M',[(b6,qs),(b4,Cz)],R'⟩)
     0 (by omega) (by simp only [aE,aG,go_sem,sevalprocAttr]) (by simp only [go_sem,sevalprocAttr]) ?_ ?_
    ·refine qp cM ?_
     rintro h' ⟨M5,qs,he,rfl,k6,k4,Ob⟩
     exact aB ⟨N4,M5,[],_,[],qs,(by simp only [go_sem,sevalprocAttr]),Bg,he,cV,rfl,Ob,k6,k4,rfl⟩
    rintro i e h DC ec ht ⟨N5,M5,R5,nv,nm,qs,e16,sd,dJ,bj,GI,Ob,k6,k4,rfl⟩
    simp only [aE] at ec
    by_cases aL:i<names.length
    ·obtain ⟨b',o',cs',rfl,JB,dV⟩:=hlg i names[i] (gq aL)
     unfold Hq at dV;subst dV
     obtain ⟨x0,x1⟩:=At2 (JB.ext dJ)
     have yF:nm.length=i:=by rw [GI];simp;omega
     simp +contextual only [go_sem,aD,sevalprocAttr,ec,ht,aL,x0,x1]
     intro b18 T18 aoD alO aju al4
     simp +contextual only [go_sem,sevalprocAttr,e16]
     intro b19 ack afF
     refine cA (Tryz.underlying63) G3 Ep (x:=names[i].2) bj rfl (fun _ _=>ff) (by intro u hu;simp only [List.mem_singleton] at hu;subst hu;rfl) ack (by omega) (by decide) ?_
     intro fv' R' bz
     simp +contextual only [go_sem,sevalprocAttr,ht]
     refine aR (al (al (aB ⟨names.length - (i+1),by omega,rfl,i+1,by omega,rfl,?_,?_,T18,M5,R',fv',_,qs,?_,sd.trans aju,dJ,bz,?_,Ob,k6,k4,rfl⟩)))
     ·simp only [aE,ec,go_sem,sevalprocAttr]
     ·simp only [go_sem,sevalprocAttr,aA i (by omega)]
     ·simp only [go_sem,sevalprocAttr]
     ·rw [GI,List.take_succ_eq_append_getElem aL,List.map_append];rfl
    ·have:i=names.length:=by omega
     subst this
     simp +contextual only [go_sem,aD,sevalprocAttr,ec,ht,aL]
     refine eY _ _ _ ⟨rfl,?_,N5,M5,R5,nv,nm,qs,?_,sd,dJ,bj,?_,?_,Ob,k6,k4,rfl⟩
     ·simp only [aE,ec,go_sem,sevalprocAttr]
     ·simp only [e16,go_sem,sevalprocAttr]
     ·rw [hS,if_pos rfl,GI,List.take_length]
     ·rw [GI,List.take_length,List.length_map];omega
   | false=>
    obtain ⟨Zn,_⟩:=cB.its hS
    obtain ⟨U8,_,hig⟩:s.items.length*8<=4398046511104/\s.items.length<=aj/\∀ (i:Nat) (x:It),s.items[i]?=some x ->∃ b o cs,ai=some ⟨b,o,none⟩/\At M4 b (o+i*8) cs/\Am M4 x cs:=by
     obtain ⟨h1,a',c',h2,h3,_,h4⟩:=ax (by decide) (fun _ _=>kO) (aH hMM (jT hMM) hi)
     injection h2 with h5 h6 h7
     subst h5 h7
     exact ⟨h1,h3,h4⟩
    simp +contextual only [go_sem,aD,sevalprocAttr,aG,z]
    refine bY s.items.length 188 [(1,.pointer (some ⟨b,o,none⟩)),(4,.pointer (some ⟨b4,0,none⟩)),(6,.pointer (some ⟨b6,0,none⟩)),(186,.slice ai s.items.length aj),(187,.int .i64 (s.items.length:Int))]
     (fun i e h=>∃ N' M' R' nv nm qs,e 16=nv/\aF T6 N'/\bm M4 M'/\kT 9 1 rj [] R' nv nm/\nm.length=i/\nm++iM i (s.items.drop i)=iM 0 s.items/\gR M' q qs/\M' b6=none/\M' b4=none/\h=⟨N',M',[(b6,qs),(b4,Cz)],R'⟩)
     0 (by omega) (by simp only [aE,aG,go_sem,sevalprocAttr]) (by simp only [go_sem,sevalprocAttr]) ?_ ?_
    ·refine qp cM ?_
     rintro h' ⟨M5,qs,he,rfl,k6,k4,Ob⟩
     exact aB ⟨N4,M5,[],_,[],qs,(by simp only [go_sem,sevalprocAttr]),Bg,he,cV,rfl,rfl,Ob,k6,k4,rfl⟩
    rintro i e h DC ec ht ⟨N5,M5,R5,nv,nm,qs,e16,sd,dJ,bj,yF,GI,Ob,k6,k4,rfl⟩
    simp only [aE] at ec
    by_cases aL:i<s.items.length
    ·obtain ⟨b',o',cs',rfl,JB,dV⟩:=hig i s.items[i] (gq aL)
     obtain ⟨aw',rfl,Hr,qZ⟩:=nw dV
     obtain ⟨x0,x1,x2,x3,x4,x5,x6,x7⟩:=At8 (JB.ext dJ)
     have bK:s.items.drop i=s.items[i]::s.items.drop (i+1):=dq aL
     rw [bK,iM] at GI
     simp +contextual only [go_sem,aD,sevalprocAttr,ec,ht,aL,x0,x1,x2,x3,x4,x5,x6,x7,qZ]
     intro b20 T20 sk gX aix alh
     refine aI (HV (jT dJ _ _ dV) i (by omega) T20) ?_
     rintro r M6 eP bU rfl
     simp only [aJ] at bU
     simp +contextual only [go_sem,sevalprocAttr,e16]
     intro b19 ack afF
     refine cA (Tryz.underlying63) G3 Ep (x:=xA s.items[i] i) bj rfl (fun _ _=>ff) (by intro u hu;simp only [List.mem_singleton] at hu;subst hu;rfl) ack (by omega) (by decide) ?_
     intro fv' R' bz
     simp +contextual only [go_sem,sevalprocAttr,ht]
     refine aR (al (al (aB ⟨s.items.length - (i+1),by omega,rfl,i+1,by omega,rfl,?_,?_,T20,M6,R',fv',_,qs,?_,sd.trans aix,dJ.trans eP,bz,?_,?_,bA eP _ _ Ob,bU.2.1,bU.2.2.1,rfl⟩)))
     ·simp only [aE,ec,go_sem,sevalprocAttr]
     ·simp only [go_sem,sevalprocAttr,aA i (by omega)]
     ·simp only [go_sem,sevalprocAttr]
     ·rw [List.length_append,yF];rfl
     ·rw [List.append_assoc];exact GI
    ·have:i=s.items.length:=by omega
     subst this
     rw [List.drop_length] at GI
     simp only [iM,List.append_nil] at GI
     simp +contextual only [go_sem,aD,sevalprocAttr,ec,ht,aL]
     refine eY _ _ _ ⟨rfl,?_,N5,M5,R5,nv,nm,qs,?_,sd,dJ,bj,?_,by omega,Ob,k6,k4,rfl⟩
     ·simp only [aE,ec,go_sem,sevalprocAttr]
     ·simp only [e16,go_sem,sevalprocAttr]
     ·rw [hS,if_neg (by decide),GI]
  ·rintro e ds h ⟨rfl,tC,N5,M5,R5,nv,nm,qs,e16,sd,dJ,bj,GI,yF,Ob,k6,k4,rfl⟩
   simp only [aE] at tC
   have z0:=ay dJ z.1
   obtain ⟨d0,d1,d2,d3,d4,d5,d6,d7,d8,d9,d10,rfl,hd⟩:=cO Ob
   have hTf:=Uo.trans sd
   cases hD:s.distinct with
   | false=>
    simp +contextual only [go_sem,aD,sevalprocAttr,tC,z0,hD,hd,k6,k4,gE,e16]
    refine cz bj yF (by decide) ⟨k6,k4,trivial⟩ fun M6 eP bU cG=>ak hTf ⟨_,Zh,_,_,rfl,?_,?_⟩
    ·rw [hD];exact bA eP _ _ Ob
    ·simp only;rw [<- GI];exact cG
   | true=>
    simp +contextual only [go_sem,aD,sevalprocAttr,tC,z0,hD,k6,k4,gE,e16]
    intro bl YK afX
    refine cz bj yF (by decide) ⟨YK,k6,k4,trivial⟩ fun M6 eP bU cG=>aT fun he h1 mw=>ak hTf ⟨_,Zh,_,_,rfl,?_,?_⟩
    ·rw [hD];exact jt (fB _) bu bu (kN h1 (bA (eP.trans he) _ _ Ob))
    ·simp only;rw [<- GI];exact aH he (fun _ _ h=>h) cG
def CK (res:Except Int Int)(v:Value):Prop:=match res with
 | .ok t=>v=.tuple ⟨[.int .i64 t,.int .i64 0]⟩
 | .error e=>e≠0/\∃ t,v=.tuple ⟨[.int .i64 t,.int .i64 e]⟩
theorem UL (k:Int){M:aS}(T:Tm):bV Tryz.prog 249 [.int .i64 k] T M [] [] (fun r _ _ _=>r=.int .i64 (fX k)) aM:=by
 refine az aku rfl rfl ?_
 intro _ _
 simp +contextual only [go_sem,aD,sevalprocAttr]
 (repeat' split)<;>(refine ak aF.rfl' ?_;refine cN ?_;simp only [fX];grind)
theorem xE (a b:Int){M:aS}(T:Tm):bV Tryz.prog 285 [.int .i64 a,.int .i64 b] T M [] [] (fun r _ _ _=>r=.tuple ⟨[.int .i64 ((j9 a b).getD 0),.bool (j9 a b).isSome]⟩) aM:=by
 refine az ajF rfl rfl ?_
 intro _ _
 simp +contextual only [go_sem,aD,sevalprocAttr]
 by_cases h1:a=b
 ·have:j9 a b=some a:=by unfold j9;rw [if_pos (.inl h1)]
  rw [this]
  simp +contextual only [go_sem,sevalprocAttr,h1]
  exact ak aF.rfl' rfl
 ·by_cases h2:b=1
  ·have:j9 a b=some a:=by unfold j9;rw [if_pos (.inr h2)]
   rw [this]
   simp +contextual only [go_sem,sevalprocAttr,h2]
   exact ak aF.rfl' rfl
  ·by_cases h3:a=1
   ·have:j9 a b=some b:=by unfold j9;rw [if_neg (fun h=>h.elim h1 h2),if_pos h3]
    subst h3
    simp +contextual only [go_sem,sevalprocAttr,h1,h2]
    exact ak aF.rfl' (by rw [this];rfl)
   ·have:j9 a b=none:=by unfold j9;rw [if_neg (fun h=>h.elim h1 h2),if_neg h3]
    rw [this]
    simp +contextual only [go_sem,sevalprocAttr,h1,h2,h3]
    exact ak aF.rfl' rfl
theorem xm {M:aS}{l:List Int}{lv:Value}(ew:Int)(hs:RS M RI 1 l lv)(T:Tm):bV Tryz.prog 284 [lv,.int .i64 ew] T M [] [] (fun r _ _ _=>r=.bool (l.all (tj · ew))) aM:=by
 obtain ⟨eZ,a,c,rfl,di,_,hg⟩:=ax (by decide) (fun _ _=>ct) hs
 refine az ah4 rfl rfl ?_
 intro bi _
 simp +contextual only [go_sem,aD,sevalprocAttr]
 refine aO l.length 11 [(1,.int .i64 ew),(9,.slice a l.length c),(10,.int .i64 (l.length:Int))] (fun i e h=>∃ M',bm M M'/\h=⟨T,M',[],[]⟩/\(l.drop i).all (tj · ew)=l.all (tj · ew)) 0 (by omega) (by simp only [aE,go_sem,sevalprocAttr]) (by simp only [go_sem,sevalprocAttr]) ⟨M,bm.rfl',rfl,rfl⟩ ?_
 rintro i e h hi aG ht ⟨M1,aV,rfl,am⟩
 simp only [aE] at aG
 by_cases aL:i<l.length
 ·obtain ⟨b',o',cs',rfl,bQ,dV⟩:=hg i l[i] (gq aL)
  unfold RI at dV;subst dV
  have x0:=xG (bQ.ext aV)
  rw [Nat.mul_one] at x0
  have bK:l.drop i=l[i]::l.drop (i+1):=dq aL
  rw [bK,List.all_cons] at am
  simp +contextual only [go_sem,aD,sevalprocAttr,aG,ht,aL,x0]
  refine aI (xE l[i] ew T) ?_
  rintro r M2 bh _ rfl
  cases hb:tj l[i] ew with
  | true=>
   rw [hb,Bool.true_and] at am
   have C7:(j9 l[i] ew).isSome=true:=hb
   simp +contextual only [go_sem,aD,sevalprocAttr,ht,C7]
   refine ce aL ?_ ?_ ⟨M2,aV.trans bh,rfl,am⟩
   ·simp only [aE,aG,go_sem,sevalprocAttr]
   ·simp only [go_sem,sevalprocAttr,aA i (by omega)]
  | false=>
   rw [hb,Bool.false_and] at am
   have C7:(j9 l[i] ew).isSome=false:=hb
   simp +contextual only [go_sem,aD,sevalprocAttr,C7]
   exact ak aF.rfl' (by rw [<- am])
 ·have:i=l.length:=by omega
  subst this
  rw [List.drop_length] at am
  simp +contextual only [go_sem,aD,sevalprocAttr,aG,ht,aL]
  exact ak aF.rfl' (by rw [<- am];rfl)
set_option maxHeartbeats 1000000 in
theorem Q3 {M:aS}{k:Int}{l:List Int}{lv:Value}(hs:RS M RI 1 l lv)(hl:(l.length:Int)=fX k)(hk:k≠1/\k≠2/\k≠16)(h0:¬ fX k<0)(T:Tm):bV Tryz.prog 250 [.int .i64 k,lv] T M [] [] (fun r _ _ _=>CK (vf k l) r) aM:=by
 obtain ⟨eZ,a,c,rfl,di,zw,hg⟩:=ax (by decide) (fun _ _=>ct) hs
 have gO:0<l.length ->∃ b o,a=some ⟨b,o,none⟩/\∀ (i:Nat),i<l.length ->aN M ⟨b,o+i,none⟩=some (.int .i64 (l.getD i 0)):=by
  intro h0
  obtain ⟨b',o',cs',h1,_⟩:=hg 0 l[0] (gq h0)
  refine ⟨b',o',h1,fun i hi=> ?_⟩
  obtain ⟨b2,o2,cs',h2,bQ,dV⟩:=hg i l[i] (gq hi)
  rw [h1] at h2
  simp only [Option.some.injEq,Addr.mk.injEq,and_true] at h2
  obtain ⟨rfl,rfl⟩:=h2
  unfold RI at dV;subst dV
  have x0:=xG bQ
  rw [Nat.mul_one] at x0
  rw [x0];simp [List.getD,hi]
 refine az af1 rfl rfl ?_
 intro bi _
 have e3:k=3\/(4<=k/\k<=5)\/(6<=k/\k<=11)\/(12<=k/\k<=14)\/k=15\/k=17\/k=18:=by
  unfold fX at h0
  repeat' split at h0
  all_goals omega
 unfold vf
 by_cases h5:k<=5
 ·rw [if_pos h5]
  simp +contextual only [go_sem,aD,sevalprocAttr,h5]
  refine aI (xm 2 hs T) ?_
  rintro r M2 bh _ rfl
  cases hb:l.all (tj · 2) with
  | true=>simp +contextual only [go_sem,aD,sevalprocAttr];exact ak aF.rfl' rfl
  | false=>simp +contextual only [go_sem,aD,sevalprocAttr];exact ak aF.rfl' ⟨by decide,_,rfl⟩
 rw [if_neg h5]
 by_cases Y2:k<=11
 ·rw [if_pos Y2]
  have lh:fX k=2:=by unfold fX;rw [if_neg (by omega),if_neg (by omega),if_pos (by omega)]
  obtain ⟨b0,o0,rfl,gg⟩:=gO (by omega)
  have g0:=gg 0 (by omega)
  have g1:=gg 1 (by omega)
  have hlI:(0:Int)<(l.length:Int)/\(1:Int)<(l.length:Int):=⟨by omega,by omega⟩
  rw [Nat.add_zero] at g0
  simp +contextual only [go_sem,aD,sevalprocAttr,h5,Y2]
  refine aX ?_
  simp +contextual only [go_sem,sevalprocAttr,g0,g1,hlI]
  refine aI (xE _ _ T) ?_
  rintro r M2 bh _ rfl
  cases hb:(j9 (l.getD 0 0) (l.getD 1 0)).isSome with
  | true=>simp +contextual only [go_sem,aD,sevalprocAttr];exact ak aF.rfl' rfl
  | false=>simp +contextual only [go_sem,aD,sevalprocAttr];exact ak aF.rfl' ⟨by decide,_,rfl⟩
 rw [if_neg Y2]
 by_cases Pc:k<=14
 ·rw [if_pos Pc]
  simp +contextual only [go_sem,aD,sevalprocAttr,h5,Y2,Pc]
  refine aI (xm 3 hs T) ?_
  rintro r M2 bh _ rfl
  cases hb:l.all (tj · 3) with
  | true=>simp +contextual only [go_sem,aD,sevalprocAttr];exact ak aF.rfl' rfl
  | false=>simp +contextual only [go_sem,aD,sevalprocAttr];exact ak aF.rfl' ⟨by decide,_,rfl⟩
 rw [if_neg Pc]
 by_cases wX:k=15
 ·rw [if_pos wX]
  subst wX
  simp +contextual only [go_sem,aD,sevalprocAttr]
  refine aI (xm 4 hs T) ?_
  rintro r M2 bh _ rfl
  cases hb:l.all (tj · 4) with
  | true=>simp +contextual only [go_sem,aD,sevalprocAttr];exact ak aF.rfl' rfl
  | false=>simp +contextual only [go_sem,aD,sevalprocAttr];exact ak aF.rfl' ⟨by decide,_,rfl⟩
 rw [if_neg wX]
 by_cases h17:k=17
 ·rw [if_pos h17]
  subst h17
  have lh:fX 17=3:=by decide
  obtain ⟨b0,o0,rfl,gg⟩:=gO (by omega)
  have g0:=gg 0 (by omega)
  have g1:=gg 1 (by omega)
  have g2:=gg 2 (by omega)
  have hlI:(2:Int)<(l.length:Int)/\(1:Int)<(l.length:Int):=⟨by omega,by omega⟩
  rw [Nat.add_zero] at g0
  have hcI:(1:Int)<=(c:Int):=by omega
  simp +contextual only [go_sem,aD,sevalprocAttr]
  refine aX ?_
  simp +contextual only [go_sem,sevalprocAttr,g1,g2,hlI]
  refine aI (xE _ _ T) ?_
  rintro r M2 bh _ rfl
  cases hb:j9 (l.getD 1 0) (l.getD 2 0) with
  | none=>
   simp +contextual only [go_sem,aD,sevalprocAttr,hcI]
   rw [if_neg (by decide)]
   exact ak aF.rfl' ⟨by decide,_,rfl⟩
  | some o=>
   simp +contextual only [go_sem,aD,sevalprocAttr,hcI]
   have h1:RS M2 RI 1 [l.getD 0 0] (.slice (kF (some ⟨b0,o0,none⟩) c 0 1) 1 c):=by
    refine ⟨by simp,[.int .i64 (l.getD 0 0)],.inr ⟨b0,o0,1,c,?_,by omega,rfl,?_⟩,dj rfl⟩
    ·have:¬ c=0:=by omega
     simp [kF,this,Addr.add_lit]
    ·exact ⟨by simpa using ay bh g0,trivial⟩
   refine aI (xm 2 h1 T) ?_
   rintro r M3 bE _ rfl
   have h2:[l.getD 0 0].all (tj · 2)=tj (l.getD 0 0) 2:=by simp
   rw [h2]
   cases hf:tj (l.getD 0 0) 2 with
   | true=>simp +contextual only [go_sem,aD,sevalprocAttr];exact ak aF.rfl' rfl
   | false=>simp +contextual only [go_sem,aD,sevalprocAttr];exact ak aF.rfl' ⟨by decide,_,rfl⟩
 rw [if_neg h17]
 have h18:k=18:=by omega
 subst h18
 have lh:fX 18=2:=by decide
 obtain ⟨b0,o0,rfl,gg⟩:=gO (by omega)
 have g0:=gg 0 (by omega)
 have g1:=gg 1 (by omega)
 have hlI:(0:Int)<(l.length:Int)/\(1:Int)<(l.length:Int):=⟨by omega,by omega⟩
 rw [Nat.add_zero] at g0
 simp +contextual only [go_sem,aD,sevalprocAttr]
 refine aX ?_
 simp +contextual only [go_sem,sevalprocAttr,g0,g1,hlI]
 refine aI (xE _ _ T) ?_
 rintro r M2 bh _ rfl
 cases hb:j9 (l.getD 0 0) (l.getD 1 0) with
 | some o=>simp +contextual only [go_sem,aD,sevalprocAttr];exact ak aF.rfl' rfl
 | none=>simp +contextual only [go_sem,aD,sevalprocAttr];exact ak aF.rfl' ⟨by decide,_,rfl⟩
mutual
theorem Mh (cols:List Int)(bI n:Nat):∀ x,n<=200 ->(pp cols bI n x).2<=201/\(∀ t,(pp cols bI n x).1=.ok t ->(pp cols bI n x).2<=200)
 | .mk k v c kids,hn=>by
  rw [pp]
  split
  ·exact ⟨by simp only;omega,fun t h=>by simp at h⟩
  ·split
   ·exact ⟨by simp only;omega,fun t h=>by simp at h⟩
   ·split
    ·exact ⟨by simp only;omega,fun t h=>by simp at h⟩
    ·have:=Ls cols (bI+1) (n+1) kids (by omega)
     split
     ·rename_i e m hm
      rw [hm] at this
      exact ⟨this.1,fun t h=>by simp at h⟩
     ·rename_i t m hm
      rw [hm] at this
      exact ⟨this.1,fun _ _=>this.2 t rfl⟩
theorem Ls (cols:List Int)(bI n:Nat):∀ l,n<=200 ->(mS cols bI n l).2<=201/\(∀ t,(mS cols bI n l).1=.ok t ->(mS cols bI n l).2<=200)
 | [],hn=>by rw [mS];exact ⟨by simp only;omega,fun _ _=>hn⟩
 | x::l,hn=>by
  rw [mS]
  have hx:=Mh cols bI n x hn
  split
  ·rename_i e m hm
   rw [hm] at hx
   exact ⟨hx.1,fun t h=>by simp at h⟩
  ·rename_i t m hm
   rw [hm] at hx
   have hl:=Ls cols bI m l (hx.2 t rfl)
   split
   ·rename_i e m' DT
    rw [DT] at hl
    exact ⟨hl.1,fun t h=>by simp at h⟩
   ·rename_i ts m' DT
    rw [DT] at hl
    exact ⟨hl.1,fun _ _=>hl.2 ts rfl⟩
end
theorem aaY {M:aS}{b o:Nat}{x:Ex}{cs:List Value}(h:ij M x cs)(ha:At M b o cs):∃ a c,RS M (ij M) 6 x.kids (.slice a x.kids.length c)/\aN M ⟨b,o,none⟩=some (.int .i64 x.k)/\aN M ⟨b,o+1,none⟩=some (.int .i64 x.v.k)/\aN M ⟨b,o+2,none⟩=some (.int .i64 x.v.n)/\aN M ⟨b,o+3,none⟩=some (st x.v.t)/\
 aN M ⟨b,o+4,none⟩=some (.int .i64 x.c)/\aN M ⟨b,o+5,none⟩=some (.slice a x.kids.length c):=by
 obtain ⟨s,rfl,_,hs⟩:=dF h
 obtain ⟨_,a,c,rfl,_⟩:=ax (by decide) (fun _ _=>eb) hs
 exact ⟨a,c,hs,ha.1,ha.2.1,ha.2.2.1,ha.2.2.2.1,ha.2.2.2.2.1,ha.2.2.2.2.2.1⟩
def JM (acc:List Int):Except Int (List Int)×Nat ->Except Int (List Int)×Nat
 | (.ok l,m)=>(.ok (acc++l),m)
 | (.error e,m)=>(.error e,m)
theorem SR (r):JM [] r=r:=by obtain ⟨r,m⟩:=r;cases r<;>rfl
theorem Vw {cols:List Int}{bI n m:Nat}{x:Ex}{l:List Ex}{t:Int}{acc:List Int}(h:pp cols bI n x=(.ok t,m)):JM acc (mS cols bI n (x::l))=JM (acc++[t]) (mS cols bI m l):=by
 rw [mS,h]
 simp only
 rcases hl:mS cols bI m l with ⟨r,m'⟩
 cases r<;>simp [JM]
theorem QC {cols:List Int}{bI n m:Nat}{x:Ex}{l:List Ex}{e:Int}{acc:List Int}(h:pp cols bI n x=(.error e,m)):JM acc (mS cols bI n (x::l))=(.error e,m):=by
 rw [mS,h];rfl
theorem iO {t:Int}{cs}(h:RI t cs):∀ u∈cs,u.oneCell'=true:=by
 rw [h];intro u hu;simp only [List.mem_singleton] at hu;subst hu;rfl
def TyX (x:Ex):Prop:=∀ (M:aS) (T:Tm) (b o hb bI n:Nat) (cs:List Value) (cols:List Int) (cv:Value),At M b o cs ->ij M x cs ->RS M RI 1 cols cv ->n<=200 ->bI<=21 ->
 bV Tryz.prog 216 [.pointer (some ⟨hb,0,none⟩),.pointer (some ⟨b,o,none⟩),.int .i64 (bI:Int)] T M [(hb,[cv,.int .i64 (n:Int)])] [] (fun r M' L' R'=>CK (pp cols bI n x).1 r/\L'=[(hb,[cv,.int .i64 ((pp cols bI n x).2:Int)])]/\R'=[]) aM
theorem tyX:∀ (sz:Nat) (x:Ex),SizeOf.sizeOf x<=sz ->TyX x:=by
 intro sz
 induction sz with
 | zero=>intro x hx;cases x;simp at hx
 | succ sz ih=>
  intro x dS M T b o hb bI n cs cols cv bQ hx lk hn Zj
  obtain ⟨a,c,hs,m0,m1,m2,m3,m4,m5⟩:=aaY hx bQ
  obtain ⟨eZ,a',c',iG,di,zw,hg⟩:=ax (by decide) (fun _ _=>eb) hs
  injection iG with h1 h2 h3
  subst h1 h3
  cases x with | mk k v c0 kids=>
  simp only [Ex.k,Ex.v,Ex.c,Ex.kids] at m0 m1 m2 m3 m4 m5 hs di hg eZ
  obtain ⟨S,hS⟩:∃ S,S=pp cols bI n (.mk k v c0 kids):=⟨_,rfl⟩
  rw [<- hS]
  rw [pp] at hS
  have hwn:=aA n (by omega)
  have Xq:=aA bI (by omega)
  refine az aks rfl rfl ?_
  intro bi _
  simp only [aJ,and_true] at bi
  simp +contextual only [go_sem,aD,sevalprocAttr,bi,hwn,m0]
  by_cases vO:200<n+1\/20<bI
  ·rw [if_pos vO] at hS
   rw [if_pos (by omega)]
   exact aQ aF.rfl' rfl rfl ⟨by rw [hS];exact ⟨by decide,_,rfl⟩,by rw [hS],rfl⟩
  rw [if_neg vO] at hS
  rw [if_neg (by omega)]
  refine aI (UL k T) ?_
  rintro r M1 aV bG rfl
  simp only [aJ,and_true] at bG
  replace m0:=ay aV m0
  replace m1:=ay aV m1
  replace m2:=ay aV m2
  replace m3:=ay aV m3
  replace m4:=ay aV m4
  replace m5:=ay aV m5
  by_cases o7:fX k<0
  ·rw [if_pos o7] at hS
   simp +contextual only [go_sem,aD,sevalprocAttr,o7]
   exact aQ aF.rfl' rfl rfl ⟨by rw [hS];exact ⟨by decide,_,rfl⟩,by rw [hS],rfl⟩
  rw [if_neg o7] at hS
  by_cases pm:(kids.length:Int)=fX k
  ·rw [if_neg (fun h=>h pm)] at hS
   have HL:kids.length<=3:=by
    have:fX k<=3:=by unfold fX;repeat' split<;>omega
    omega
   simp +contextual only [go_sem,aD,sevalprocAttr,o7,pm,m5]
   refine aO kids.length 50 [(0,.pointer (some ⟨hb,0,none⟩)),(1,.pointer (some ⟨b,o,none⟩)),(2,.int .i64 (bI:Int)),(49,.int .i64 (kids.length:Int))]
    (fun i e h=>∃ (M':aS) (n':Nat) (R:RR) (fv:Value) (acc:List Int),bm M1 M'/\M' hb=none/\n'<=200/\h=⟨T,M',[(hb,[cv,.int .i64 (n':Int)])],R⟩/\e 9=fv/\acc.length=i/\kT 3 1 RI [] R fv acc/\JM acc (mS cols (bI+1) n' (kids.drop i))=mS cols (bI+1) (n+1) kids)
    0 (by omega) (by simp only [aE,pm,go_sem,sevalprocAttr]) (by simp only [go_sem,sevalprocAttr]) ⟨M1,n+1,[],_,[],bm.rfl',bG,by omega,rfl,by simp only [go_sem,sevalprocAttr],rfl,cV,SR _⟩ ?_
   rintro i e h hi aG ht ⟨M2,n',R2,fv,acc,bh,n2,Vm,rfl,e9,jN,bj,am⟩
   simp only [aE] at aG
   have x5:=ay bh m5
   by_cases aL:i<kids.length
   ·obtain ⟨b',o',cs',rfl,vq,dV⟩:=hg i kids[i] (gq aL)
    have ep:=aV.trans bh
    have bK:kids.drop i=kids[i]::kids.drop (i+1):=dq aL
    rw [bK] at am
    have IG:SizeOf.sizeOf kids[i]<=sz:=by
     have h1:=List.sizeOf_lt_of_mem (gm aL)
     simp only [Ex.mk.sizeOf_spec] at dS
     omega
    have ph:=Mh cols (bI+1) n' kids[i] Vm
    simp +contextual only [go_sem,aD,sevalprocAttr,aG,ht,aL,x5,Xq]
    refine dC [] (ih kids[i] IG M2 T b' _ hb (bI+1) n' cs' cols cv (vq.ext ep) (cJ ep _ _ dV) (aH ep (fun _ _ h=>h) lk) Vm (by omega)) ?_ (fun _ _ _ _ _ _ h=>h.elim)
    rintro r M3 L' bE yQ bB ⟨hr,rfl, -⟩
    simp only [List.nil_append,aJ,and_true] at bB
    rcases nq:pp cols (bI+1) n' kids[i] with ⟨r1,m⟩
    rw [nq] at hr ph
    cases r1 with
    | error er=>
     obtain ⟨cu,t,rfl⟩:=hr
     rw [QC nq] at am
     rw [<- am] at hS
     simp +contextual only [go_sem,aD,sevalprocAttr,cu]
     refine bW (aQ aF.rfl' rfl rfl ⟨?_,?_,rfl⟩)
     ·rw [hS];exact ⟨cu,_,rfl⟩
     ·rw [hS]
    | ok t=>
     simp only [CK] at hr
     subst hr
     rw [Vw nq] at am
     simp +contextual only [go_sem,aD,sevalprocAttr,e9]
     intro b7 mN jv
     refine cA (Tryz.underlying54) kd ko (x:=t) bj rfl (fun _ _=>ct) (iO rfl) mN (by omega) (by decide) ?_
     intro fv' R' bz
     simp +contextual only [go_sem,sevalprocAttr,ht]
     refine aR (al (aB ⟨kids.length - (i+1),by omega,rfl,i+1,by omega,rfl,?_,?_,M3,m,R',fv',acc++[t],bh.trans bE,bB,ph.2 t rfl,rfl,?_,?_,bz,am⟩))
     ·simp only [aE,aG,go_sem,sevalprocAttr]
     ·simp only [go_sem,sevalprocAttr,aA i (by omega)]
     ·simp only [go_sem,sevalprocAttr]
     ·rw [List.length_append,jN];rfl
   ·have:i=kids.length:=by omega
    subst this
    rw [List.drop_length,mS] at am
    simp only [JM,List.append_nil] at am
    rw [<- am] at hS
    simp only at hS
    have ep:=aV.trans bh
    replace m0:=ay bh m0
    replace m1:=ay bh m1
    replace m2:=ay bh m2
    replace m3:=ay bh m3
    replace m4:=ay bh m4
    by_cases h1:k=1
    ·subst h1
     rw [if_pos rfl] at hS
     simp +contextual only [go_sem,aD,sevalprocAttr,aG,ht,aL,m0]
     refine aX ?_
     simp +contextual only [go_sem,sevalprocAttr,aG,m1,m2,m3]
     refine aI (ja v M2 T) ?_
     rintro r M3 bE bB rfl
     simp +contextual only [go_sem,sevalprocAttr]
     simp only [aJ,and_true] at bB
     refine ⟨fu bE ⟨bB,trivial⟩,bW (aQ aF.rfl' rfl rfl ⟨?_,by rw [hS],rfl⟩)⟩
     rw [hS]
     by_cases hw:eO v=0
     ·rw [if_pos hw,hw];rfl
     ·rw [if_neg hw];exact ⟨hw,_,rfl⟩
    rw [if_neg h1] at hS
    by_cases h2:k=2
    ·subst h2
     rw [if_pos rfl] at hS
     obtain ⟨_,ca,cc,rfl,_,_,hcg⟩:=ax (by decide) (fun _ _=>ct) (aH ep (fun _ _ h=>h) lk)
     simp +contextual only [go_sem,aD,sevalprocAttr,aG,ht,aL,m0]
     refine aX ?_
     by_cases Al:c0<0
     ·simp +contextual only [go_sem,aD,sevalprocAttr,aG,m4,Al]
      refine bW (aQ aF.rfl' rfl rfl ⟨?_,by rw [hS],rfl⟩)
      rw [hS];simp only;rw [if_neg (by omega)];exact ⟨by decide,_,rfl⟩
     ·by_cases Pw:(cols.length:Int)<=c0
      ·simp +contextual only [go_sem,aD,sevalprocAttr,aG,m4,n2,Al,Pw]
       refine bW (aQ aF.rfl' rfl rfl ⟨?_,by rw [hS],rfl⟩)
       rw [hS];simp only;rw [if_neg (by omega)];exact ⟨by decide,_,rfl⟩
      ·obtain ⟨j,hj⟩:∃ j:Nat,c0=(j:Int):=⟨c0.toNat,by omega⟩
       subst hj
       have Ny:j<cols.length:=by omega
       obtain ⟨b',o',cs',rfl,vq,dV⟩:=hcg j cols[j] (gq Ny)
       unfold RI at dV;subst dV
       have x0:=xG vq
       rw [Nat.mul_one] at x0
       have aiL:¬ ((j:Int)<0):=Al
       simp +contextual only [go_sem,aD,sevalprocAttr,aG,m4,n2,aiL,Pw]
       refine aX ?_
       simp +contextual only [go_sem,sevalprocAttr,aG,m4,n2,Ny,x0]
       refine bW (aQ aF.rfl' rfl rfl ⟨?_,by rw [hS],rfl⟩)
       rw [hS];simp only;rw [if_pos (by omega)]
       have:cols.getD (j:Int).toNat 0=cols[j]:=by simp [List.getD,Ny]
       rw [this];rfl
    rw [if_neg h2] at hS
    by_cases xy:k=16
    ·subst xy
     rw [if_pos rfl] at hS
     simp +contextual only [go_sem,aD,sevalprocAttr,aG,ht,aL,m0]
     exact bW (aQ aF.rfl' rfl rfl ⟨by rw [hS];rfl,by rw [hS],rfl⟩)
    rw [if_neg xy] at hS
    simp +contextual only [go_sem,aD,sevalprocAttr,aG,ht,aL,m0,h1,h2,xy,e9]
    refine cL (k:=fun h'=>∃ M3,bm M2 M3/\M3 hb=none/\RS M3 RI 1 acc fv/\h'=⟨T,M3,[(hb,[cv,.int .i64 (n':Int)])],[]⟩) (cz bj (by omega) (by decide) ⟨n2,trivial⟩ fun M3 bE bB cG=>aB ⟨M3,bE,bB.1,cG,rfl⟩) ?_ af1.bd
    rintro h' ⟨M3,bE,n3,cG,rfl⟩
    refine aI (Q3 cG (by rw [jN];exact pm) ⟨h1,h2,xy⟩ o7 T) ?_
    rintro r M4 dD de hr
    have hS1:S.1=vf k acc:=by rw [hS]
    have hS2:S.2=n':=by rw [hS]
    rw [<- hS1] at hr
    cases hk:S.1 with
    | ok t=>
     rw [hk] at hr
     simp only [CK] at hr
     subst hr
     simp +contextual only [go_sem,sevalprocAttr]
     exact aQ aF.rfl' rfl rfl ⟨rfl,by rw [hS2],rfl⟩
    | error er=>
     rw [hk] at hr
     obtain ⟨cu,t,rfl⟩:=hr
     simp +contextual only [go_sem,sevalprocAttr]
     exact aQ aF.rfl' rfl rfl ⟨⟨cu,_,rfl⟩,by rw [hS2],rfl⟩
  ·rw [if_pos pm] at hS
   simp +contextual only [go_sem,aD,sevalprocAttr,o7,pm,m5]
   exact aQ aF.rfl' rfl rfl ⟨by rw [hS];exact ⟨by decide,_,rfl⟩,by rw [hS],rfl⟩
theorem C0 {M:aS}{cols:List Int}{cv:Value}{x:Ex}{cs:List Value}(lk:RS M RI 1 cols cv)(hx:ij M x cs)(T:Tm):
 bV Tryz.prog 160 [cv,.agg ⟨cs⟩] T M [] [] (fun r _ _ _=>CK (kZ cols x) r) aM:=by
 obtain ⟨eZ,a,c,rfl,di,_,hg⟩:=ax (by decide) (fun _ _=>ct) lk
 obtain ⟨s0,rfl,xh,o7⟩:=dF hx
 unfold kZ
 refine az ah3 rfl rfl ?_
 intro bi _
 by_cases xy:16<cols.length
 ·have HG:(16:Int)<(cols.length:Int):=by omega
  rw [if_pos xy]
  simp +contextual only [go_sem,aD,sevalprocAttr,HG]
  intro b3 T3 ii fV gD
  exact ak fV ⟨by decide,_,rfl⟩
 have HG:¬ (16:Int)<(cols.length:Int):=by omega
 rw [if_neg xy]
 simp +contextual only [go_sem,aD,sevalprocAttr,HG]
 intro b3 T3 ii fV gD
 refine bY cols.length 15 [(0,.slice a cols.length c),(3,.pointer (some ⟨b3,0,none⟩)),(13,.slice a cols.length c),(14,.int .i64 (cols.length:Int))] (fun i e h=>∃ M',bm M M'/\M' b3=some [.int .i64 x.k,.int .i64 x.v.k,.int .i64 x.v.n,st x.v.t,.int .i64 x.c,s0]/\h=⟨T3,M',[],[]⟩/\(cols.drop i).all (fun t=>decide (1<=t/\t<=4))=cols.all (fun t=>decide (1<=t/\t<=4))) 0 (by omega) (by simp only [aE,go_sem,sevalprocAttr]) (by simp only [go_sem,sevalprocAttr]) (aT fun he h3 _=>aB ⟨_,he,h3,rfl,rfl⟩) ?_
 rintro i e h hi aG ht ⟨M1,aV,h3,rfl,am⟩
 simp only [aE] at aG
 by_cases aL:i<cols.length
 ·obtain ⟨b',o',cs',rfl,bQ,dV⟩:=hg i cols[i] (gq aL)
  unfold RI at dV;subst dV
  have x0:=xG (bQ.ext aV)
  rw [Nat.mul_one] at x0
  have bK:cols.drop i=cols[i]::cols.drop (i+1):=dq aL
  rw [bK,List.all_cons] at am
  by_cases hb:1<=cols[i]/\cols[i]<=4
  ·rw [decide_eq_true hb,Bool.true_and] at am
   have fx:¬ cols[i]<1:=by omega
   have dN:¬ 4<cols[i]:=by omega
   simp +contextual only [go_sem,aD,sevalprocAttr,aG,ht,aL,x0,fx,dN]
   refine ce aL ?_ ?_ ⟨M1,aV,h3,rfl,am⟩
   ·simp only [aE,aG,go_sem,sevalprocAttr]
   ·simp only [go_sem,sevalprocAttr,aA i (by omega)]
  ·rw [decide_eq_false hb,Bool.false_and] at am
   rw [<- am,if_neg (by decide)]
   by_cases fx:cols[i]<1
   ·simp +contextual only [go_sem,aD,sevalprocAttr,aG,ht,aL,x0,fx]
    exact ak fV ⟨by decide,_,rfl⟩
   ·have dN:4<cols[i]:=by omega
    simp +contextual only [go_sem,aD,sevalprocAttr,aG,ht,aL,x0,fx,dN]
    exact ak fV ⟨by decide,_,rfl⟩
 ·have:i=cols.length:=by omega
  subst this
  rw [List.drop_length] at am
  rw [<- am,List.all_nil,if_pos rfl]
  simp +contextual only [go_sem,aD,sevalprocAttr,aG,ht,aL]
  intro b9 T9 qy ut pR
  refine dC [] (tyX _ x (Nat.le_refl _) M1 T9 b3 0 b9 1 0 _ cols _ (Dz h3) (cJ aV _ _ hx) (aH aV (fun _ _ h=>h) lk) (by omega) (by omega)) ?_ (fun _ _ _ _ _ _ h=>h.elim)
  rintro r M3 L' bE yQ bB ⟨hr,rfl, -⟩
  have hTT:=fV.trans ut
  cases nq:(pp cols 1 0 x).1 with
  | ok t=>
   rw [nq] at hr
   simp only [CK] at hr
   subst hr
   simp +contextual only [go_sem,aD,sevalprocAttr]
   exact ak hTT rfl
  | error er=>
   rw [nq] at hr
   obtain ⟨cu,t,rfl⟩:=hr
   simp +contextual only [go_sem,aD,sevalprocAttr,cu]
   exact ak hTT ⟨cu,_,rfl⟩
def Kp (cols:List Int)(x:Ex):Int:=match rF cols x with | .ok _=>0 | .error e=>e
theorem xC {M:aS}{cols:List Int}{cv:Value}{x:Ex}{cs:List Value}(lk:RS M RI 1 cols cv)(hx:ij M x cs)(T:Tm):
 bV Tryz.prog 201 [cv,.agg ⟨cs⟩] T M [] [] (fun r _ _ _=>r=.int .i64 (Kp cols x)/\∀ e,rF cols x=.error e ->e≠0) aM:=by
 obtain ⟨s0,EI,xh,o7⟩:=dF hx
 refine az ahF rfl rfl ?_
 intro bi _
 have hl:=eb hx
 subst EI
 simp +contextual only [go_sem,sevalprocAttr]
 intro b3 T3 ii fV gD
 refine aI (C0 lk hx T3) ?_
 rintro r M1 aV bG hr
 unfold Kp rF
 cases nq:kZ cols x with
 | error er=>
  rw [nq] at hr
  obtain ⟨cu,t,rfl⟩:=hr
  simp +contextual only [go_sem,aD,sevalprocAttr,cu]
  exact ak fV ⟨rfl,fun e h=>by injection h with h;rw [<- h];exact cu⟩
 | ok t=>
  rw [nq] at hr
  simp only [CK] at hr
  subst hr
  by_cases h2:t=2
  ·subst h2
   simp +contextual only [go_sem,aD,sevalprocAttr]
   exact ak fV ⟨rfl,fun e h=>by cases h⟩
  ·by_cases h1:t=1
   ·subst h1
    simp +contextual only [go_sem,aD,sevalprocAttr]
    exact ak fV ⟨rfl,fun e h=>by cases h⟩
   ·simp +contextual only [go_sem,aD,sevalprocAttr,h1,h2]
    exact ak fV ⟨rfl,fun e h=>by injection h with h;rw [<- h];decide⟩
structure Z where
 row:List V
 w:Int
def RZ (M:aS)(z:Z)(cs:List Value):Prop:=∃ s,RS M RV 3 z.row s/\cs=[s,.int .i64 z.w]
theorem br {M:aS}{z:Z}{cs}(h:RZ M z cs):cs.length=2:=by obtain ⟨_,_,rfl⟩:=h;rfl
theorem fJ {M M':aS}(he:bm M M')(z:Z)(cs)(h:RZ M z cs):RZ M' z cs:=by
 obtain ⟨s,h1,h2⟩:=h;exact ⟨s,aH he (fun _ _ h=>h) h1,h2⟩
theorem qz {M M':aS}(he:bm M M'){l:List V}{v:Value}(h:RS M RV 3 l v):RS M' RV 3 l v:=aH he (fun _ _ h=>h) h
theorem cR {M M':aS}(he:bm M M'){l:List Z}{v:Value}(h:RS M (RZ M) 2 l v):RS M' (RZ M') 2 l v:=aH he (fJ he) h
def mu {α:Type}(f:α ->Int):List α ->Int
 | []=>0
 | x::l=>kM (f x) (mu f l)
def ji (r:List V):Int:=if 8<r.length then 5 else mu eO r
def fZ (w:Int):Bool:=decide (w<=1000000) && decide (w>= -1000000)
def GK (p:Option (List V))(x:Z):Int:=kM (ji x.row) (if x.w=0\/fZ x.w=false then 3 else match p with | some r=>(if bO r x.row>=0 then 2 else 0) | none=>0)
def XF:Option (List V) ->List Z ->Int
 | _,[]=>0
 | p,x::l=>kM (GK p x) (XF (some x.row) l)
def dI (z:List Z):Int:=if 400<z.length then 5 else XF none z
def rU:List V ->List Int ->Int
 | v::l,c::cs=>kM (eO v) (if v.k≠1/\v.k≠c then 9 else rU l cs)
 | _,_=>0
def mf (cols:List Int)(row:List V):Int:=if row.length≠cols.length then 8 else rU row cols
def jq (cols:List Int)(z:List Z):Int:=if 8<cols.length then 5 else kM (dI z) (mu (fun x=>mf cols x.row) z)
theorem nE (b:Int):kM 0 b=b:=by simp [kM]
theorem nI {a b:Int}(h:a≠0):kM a b=a:=if_pos h
variable {M:aS}
theorem ux (w:Int)(T:Tm):bV Tryz.prog 98 [.int .i64 w] T M [] [] (fun r _ _ _=>r=.bool (fZ w)) aM:=by
 unfold fZ
 refine az F98 rfl rfl ?_
 intro _ _
 by_cases h:w<=1000000
 ·simp +contextual only [go_sem,sevalprocAttr,h]
  exact ak aF.rfl' rfl
 ·simp +contextual only [go_sem,sevalprocAttr,h]
  exact ak aF.rfl' rfl
theorem Ko {r:List V}{rv:Value}(hr:RS M RV 3 r rv)(T:Tm):bV Tryz.prog 97 [rv] T M [] [] (fun r' _ _ _=>r'=.int .i64 (ji r)) aM:=by
 obtain ⟨eZ,a,c,rfl,di,_,hg⟩:=ax (by decide) (fun _ _=>eM) hr
 obtain ⟨S,hS⟩:∃ S,S=ji r:=⟨_,rfl⟩
 rw [<- hS]
 unfold ji at hS
 refine az F97 rfl rfl ?_
 intro bi _
 by_cases h8:8<r.length
 ·have th:(8:Int)<(r.length:Int):=by omega
  rw [if_pos h8] at hS
  simp +contextual only [go_sem,aD,sevalprocAttr,th]
  exact ak aF.rfl' (cN hS.symm)
 have th:¬ (8:Int)<(r.length:Int):=by omega
 rw [if_neg h8] at hS
 simp +contextual only [go_sem,aD,sevalprocAttr,th]
 refine aO r.length 11 [(9,.slice a r.length c),(10,.int .i64 (r.length:Int))] (fun i e h=>∃ N',aF T N'/\h=⟨N',M,[],[]⟩/\S=mu eO (r.drop i)) 0 (by omega) (by simp only [aE,go_sem,sevalprocAttr]) (by simp only [go_sem,sevalprocAttr]) ⟨T,aF.rfl',rfl,hS⟩ ?_
 rintro i e h hi aG ht ⟨T1,dh,rfl,am⟩
 simp only [aE] at aG
 by_cases aL:i<r.length
 ·obtain ⟨b',o',cs',rfl,bQ,dV⟩:=hg i r[i] (gq aL)
  unfold RV V.cs at dV;subst dV
  obtain ⟨y0,y1,y2,_⟩:=bQ
  rw [dq aL,mu] at am
  simp +contextual only [go_sem,aD,sevalprocAttr,aG,ht,aL,y0,y1,y2]
  intro b4 T4 eN fG iI
  refine aP (ja r[i] M _) ?_
  by_cases h0:eO r[i]=0
  ·rw [h0,nE] at am
   rw [h0]
   simp +contextual only [go_sem,aD,sevalprocAttr,ht]
   refine aR (bM (aB ⟨r.length - (i+1),by omega,rfl,i+1,by omega,rfl,?_,?_,T4,dh.trans fG,rfl,am⟩))
   ·simp only [aE,aG,go_sem,sevalprocAttr]
   ·simp only [go_sem,sevalprocAttr,aA i (by omega)]
  ·rw [nI h0] at am
   simp +contextual only [go_sem,aD,sevalprocAttr,h0]
   exact ak (dh.trans fG) (cN am.symm)
 ·have:i=r.length:=by omega
  subst this
  rw [List.drop_length,mu] at am
  simp +contextual only [go_sem,aD,sevalprocAttr,aG,ht,aL]
  exact ak dh (cN am.symm)
theorem Ma {cols:List Int}{r:List V}{cv rv:Value}(hc:RS M RI 1 cols cv)(hr:RS M RV 3 r rv)(T:Tm):bV Tryz.prog 56 [cv,rv] T M [] [] (fun r' _ _ _=>r'=.int .i64 (mf cols r)) aM:=by
 obtain ⟨eZ,a,c,rfl,di,_,hg⟩:=ax (by decide) (fun _ _=>eM) hr
 obtain ⟨Of,a2,c2,rfl,ph,_,xb⟩:=ax (by decide) (fun _ _=>ct) hc
 obtain ⟨S,hS⟩:∃ S,S=mf cols r:=⟨_,rfl⟩
 rw [<- hS]
 unfold mf at hS
 refine az F56 rfl rfl ?_
 intro bi _
 by_cases hl:r.length=cols.length
 rotate_left
 ·have jm:¬ (r.length:Int)=(cols.length:Int):=by omega
  rw [if_pos hl] at hS
  simp +contextual only [go_sem,aD,sevalprocAttr,jm]
  exact ak aF.rfl' (cN hS.symm)
 rw [if_neg (fun h=>h hl)] at hS
 simp +contextual only [go_sem,aD,sevalprocAttr,hl]
 refine aO cols.length 15 [(0,.slice a2 cols.length c2),(13,.slice a cols.length c),(14,.int .i64 (cols.length:Int))] (fun i e h=>∃ N',aF T N'/\h=⟨N',M,[],[]⟩/\S=rU (r.drop i) (cols.drop i)) 0 (by omega) (by simp only [aE,hl,go_sem,sevalprocAttr]) (by simp only [go_sem,sevalprocAttr]) ⟨T,aF.rfl',rfl,hS⟩ ?_
 rintro i e h hi aG ht ⟨T1,dh,rfl,am⟩
 simp only [aE] at aG
 by_cases aL:i<cols.length
 ·obtain ⟨b',o',cs',rfl,bQ,dV⟩:=hg i r[i] (gq (by omega))
  unfold RV V.cs at dV;subst dV
  obtain ⟨y0,y1,y2,_⟩:=bQ
  obtain ⟨b2,o2,cs2,rfl,oK,R8⟩:=xb i cols[i] (gq aL)
  unfold RI at R8;subst R8
  have x0:=xG oK
  rw [Nat.mul_one] at x0
  rw [dq aL,dq (show i<r.length by omega),rU] at am
  simp +contextual only [go_sem,aD,sevalprocAttr,aG,ht,aL,y0,y1,y2]
  intro b6 T6 pt um CO
  have hT:=dh.trans um
  refine aP (ja r[i] M _) ?_
  by_cases h0:eO r[i]=0
  ·rw [h0,nE] at am
   rw [h0]
   simp +contextual only [go_sem,aD,sevalprocAttr]
   refine aX ?_
   by_cases h1:r[i].k=1
   ·rw [if_neg (fun h=>h.1 h1)] at am
    simp +contextual only [go_sem,aD,sevalprocAttr,ht,aC pt,h1]
    refine aR (bM (aB ⟨cols.length - (i+1),by omega,rfl,i+1,by omega,rfl,?_,?_,T6,hT,rfl,am⟩))
    ·simp only [aE,aG,go_sem,sevalprocAttr]
    ·simp only [go_sem,sevalprocAttr,aA i (by omega)]
   ·by_cases h2:r[i].k=cols[i]
    ·rw [if_neg (fun h=>h.2 h2)] at am
     have h3:¬ cols[i]=1:=by rw [<- h2];exact h1
     simp +contextual only [go_sem,aD,sevalprocAttr,aG,ht,aL,aC pt,x0,h2,h3]
     refine aR (bM (aB ⟨cols.length - (i+1),by omega,rfl,i+1,by omega,rfl,?_,?_,T6,hT,rfl,am⟩))
     ·simp only [aE,aG,go_sem,sevalprocAttr]
     ·simp only [go_sem,sevalprocAttr,aA i (by omega)]
    ·rw [if_pos ⟨h1,h2⟩] at am
     simp +contextual only [go_sem,aD,sevalprocAttr,aG,aL,aC pt,h1,x0,h2]
     exact ak hT (cN am.symm)
  ·rw [nI h0] at am
   simp +contextual only [go_sem,aD,sevalprocAttr,h0]
   exact ak hT (cN am.symm)
 ·have:i=cols.length:=by omega
  subst this
  rw [List.drop_length,List.drop_eq_nil_of_le (by omega),rU] at am
  simp +contextual only [go_sem,aD,sevalprocAttr,aG,ht,aL]
  exact ak dh (cN am.symm)
  all_goals simp
def BH (z:List Z)(i:Nat):Option (List V):=if i=0 then none else (z[i - 1]?).map Z.row
theorem Bv {z:List Z}{zv:Value}(hz:RS M (RZ M) 2 z zv)(T:Tm):bV Tryz.prog 161 [zv] T M [] [] (fun r' _ _ _=>r'=.int .i64 (dI z)) aM:=by
 obtain ⟨eZ,a,c,rfl,di,_,hg⟩:=ax (by decide) (fun _ _=>br) hz
 obtain ⟨S,hS⟩:∃ S,S=dI z:=⟨_,rfl⟩
 rw [<- hS]
 unfold dI at hS
 refine az aiX rfl rfl ?_
 intro bi _
 by_cases h8:400<z.length
 ·have th:(400:Int)<(z.length:Int):=by omega
  rw [if_pos h8] at hS
  simp +contextual only [go_sem,aD,sevalprocAttr,th]
  exact ak aF.rfl' (cN hS.symm)
 have th:¬ (400:Int)<(z.length:Int):=by omega
 rw [if_neg h8] at hS
 simp +contextual only [go_sem,aD,sevalprocAttr,th]
 refine aO z.length 11 [(0,.slice a z.length c),(9,.slice a z.length c),(10,.int .i64 (z.length:Int))] (fun i e h=>∃ N',aF T N'/\h=⟨N',M,[],[]⟩/\S=XF (BH z i) (z.drop i)) 0 (by omega) (by simp only [aE,go_sem,sevalprocAttr]) (by simp only [go_sem,sevalprocAttr]) ⟨T,aF.rfl',rfl,hS⟩ ?_
 rintro i e h hi aG ht ⟨T1,dh,rfl,am⟩
 simp only [aE] at aG
 by_cases aL:i<z.length
 ·obtain ⟨b',o',cs',rfl,bQ,s,bP,rfl⟩:=hg i z[i] (gq aL)
  obtain ⟨y0,y1,_⟩:=bQ
  have iX:=(dA bP).1
  rw [dq aL,XF] at am
  unfold GK at am
  have dY:some z[i].row=BH z (i+1):=by simp [BH,aL]
  rw [dY] at am
  simp +contextual only [go_sem,aD,sevalprocAttr,aG,ht,aL,y0,y1,iX]
  intro b4 T4 eN fG iI
  have hT:=dh.trans fG
  refine aP (Ko bP _) ?_
  by_cases h0:ji z[i].row=0
  rotate_left
  ·have am:S=ji z[i].row:=by rw [am,nI];exact nI h0;rw [nI h0];exact h0
   simp +contextual only [go_sem,aD,sevalprocAttr,h0]
   exact ak hT (cN am.symm)
  rw [h0,nE] at am
  rw [h0]
  simp +contextual only [go_sem,aD,sevalprocAttr,aC eN]
  by_cases HF:z[i].w=0
  ·have am:S=3:=by rw [am,nI];exact if_pos (.inl HF);rw [if_pos (.inl HF)];decide
   simp +contextual only [go_sem,sevalprocAttr,HF]
   exact ak hT (cN am.symm)
  simp +contextual only [go_sem,sevalprocAttr,HF]
  refine aP (ux _ _) ?_
  cases hwb:fZ z[i].w with
  | false=>
   have am:S=3:=by rw [am,nI];exact if_pos (.inr hwb);rw [if_pos (.inr hwb)];decide
   simp +contextual only [go_sem,aD,sevalprocAttr,HF]
   exact ak hT (cN am.symm)
  | true=>
  rw [if_neg (by rintro (h | h);exact HF h;rw [hwb] at h;cases h)] at am
  simp +contextual only [go_sem,aD,sevalprocAttr,HF]
  refine aX ?_
  cases i with
  | zero=>
   simp only [BH,if_true,nE] at am
   simp +contextual only [go_sem,aD,sevalprocAttr,ht]
   refine aR (bM (aB ⟨z.length - 1,by omega,rfl,1,by omega,rfl,?_,?_,T4,hT,rfl,am⟩))
   ·simp only [aE,aG,go_sem,sevalprocAttr]
   ·simp only [go_sem,sevalprocAttr]
    exact cN (by decide)
  | succ j=>
   have hj:j<z.length:=by omega
   obtain ⟨b2,o2,cs2,dN,oK,s2,aeP,rfl⟩:=hg j z[j] (gq hj)
   injection dN with dN
   injection dN with ahI ajM ajf
   subst ahI ajM
   obtain ⟨x0,x1,_⟩:=oK
   have hp:BH z (j+1)=some z[j].row:=by simp [BH,hj]
   rw [hp] at am
   simp only [] at am
   simp +contextual only [go_sem,sevalprocAttr,aG]
   have e1:IntKind.i64.wrap (((j+1:Nat):Int) - 1)=(j:Int):=by rw [bH (by omega) (by omega)];omega
   simp +contextual only [go_sem,sevalprocAttr,aC eN,e1,hj,x0]
   refine aP (tD aeP bP _) ?_
   by_cases Pn:bO z[j].row z[j+1].row>=0
   ·rw [if_pos Pn,nI (by decide)] at am
    have abf:0<=bO z[j].row z[j+1].row:=Pn
    simp +contextual only [go_sem,aD,sevalprocAttr,abf]
    exact ak hT (cN am.symm)
   ·rw [if_neg Pn,nE] at am
    have abf:¬ 0<=bO z[j].row z[j+1].row:=Pn
    simp +contextual only [go_sem,aD,sevalprocAttr,abf,ht]
    refine aR (bM (aB ⟨z.length - (j+1+1),by omega,rfl,j+1+1,by omega,rfl,?_,?_,T4,hT,rfl,am⟩))
    ·simp only [aE,aG,go_sem,sevalprocAttr]
    ·simp only [go_sem,sevalprocAttr,aA (j+1) (by omega)]
 ·have:i=z.length:=by omega
  subst this
  rw [List.drop_length,XF] at am
  simp +contextual only [go_sem,aD,sevalprocAttr,aG,ht,aL]
  exact ak dh (cN am.symm)
theorem Cs {zs:List (List Z)}{zv:Value}(hz:RS M (fun z cs=>∃ s,RS M (RZ M) 2 z s/\cs=[s]) 1 zs zv)(T:Tm):bV Tryz.prog 151 [zv] T M [] [] (fun r' _ _ _=>r'=.int .i64 (mu dI zs)) aM:=by
 obtain ⟨eZ,a,c,rfl,di,_,hg⟩:=ax (by decide) (by rintro _ _ ⟨_,_,rfl⟩;rfl) hz
 obtain ⟨S,hS⟩:∃ S,S=mu dI zs:=⟨_,rfl⟩
 rw [<- hS]
 refine az abB rfl rfl ?_
 intro bi _
 simp +contextual only [go_sem,aD,sevalprocAttr]
 refine aO zs.length 8 [(6,.slice a zs.length c),(7,.int .i64 (zs.length:Int))] (fun i e h=>h=⟨T,M,[],[]⟩/\S=mu dI (zs.drop i)) 0 (by omega) (by simp only [aE,go_sem,sevalprocAttr]) (by simp only [go_sem,sevalprocAttr]) ⟨rfl,hS⟩ ?_
 rintro i e h hi aG ht ⟨rfl,am⟩
 simp only [aE] at aG
 by_cases aL:i<zs.length
 ·obtain ⟨b',o',cs',rfl,bQ,s,bP,rfl⟩:=hg i zs[i] (gq aL)
  have y0:=xG bQ
  rw [Nat.mul_one] at y0
  rw [dq aL,mu] at am
  simp +contextual only [go_sem,aD,sevalprocAttr,aG,ht,aL,y0]
  refine aP (Bv bP _) ?_
  by_cases h0:dI zs[i]=0
  ·rw [h0,nE] at am
   rw [h0]
   simp +contextual only [go_sem,aD,sevalprocAttr,ht]
   refine ce aL ?_ ?_ ⟨rfl,am⟩
   ·simp only [aE,aG,go_sem,sevalprocAttr]
   ·simp only [go_sem,sevalprocAttr,aA i (by omega)]
  ·rw [nI h0] at am
   simp +contextual only [go_sem,aD,sevalprocAttr,h0]
   exact ak aF.rfl' (cN am.symm)
 ·have:i=zs.length:=by omega
  subst this
  rw [List.drop_length,mu] at am
  simp +contextual only [go_sem,aD,sevalprocAttr,aG,ht,aL]
  exact ak aF.rfl' (cN am.symm)
theorem Eo {cols:List Int}{z:List Z}{cv zv:Value}(hc:RS M RI 1 cols cv)(hz:RS M (RZ M) 2 z zv)(T:Tm):bV Tryz.prog 106 [cv,zv] T M [] [] (fun r' _ _ _=>r'=.int .i64 (jq cols z)) aM:=by
 obtain ⟨eZ,a,c,rfl,di,_,hg⟩:=ax (by decide) (fun _ _=>br) hz
 obtain ⟨Of,a2,c2,rfl,ph,_,_⟩:=ax (by decide) (fun _ _=>ct) hc
 obtain ⟨S,hS⟩:∃ S,S=jq cols z:=⟨_,rfl⟩
 rw [<- hS]
 unfold jq at hS
 refine az ajP rfl rfl ?_
 intro bi _
 by_cases h8:8<cols.length
 ·have th:(8:Int)<(cols.length:Int):=by omega
  rw [if_pos h8] at hS
  simp +contextual only [go_sem,aD,sevalprocAttr,th]
  exact ak aF.rfl' (cN hS.symm)
 have th:¬ (8:Int)<(cols.length:Int):=by omega
 rw [if_neg h8] at hS
 simp +contextual only [go_sem,aD,sevalprocAttr,th]
 refine aP (Bv hz _) ?_
 by_cases hw:dI z=0
 rotate_left
 ·rw [nI hw] at hS
  simp +contextual only [go_sem,aD,sevalprocAttr,hw]
  exact ak aF.rfl' (cN hS.symm)
 rw [hw,nE] at hS
 rw [hw]
 simp +contextual only [go_sem,aD,sevalprocAttr]
 refine aO z.length 19 [(0,.slice a2 cols.length c2),(17,.slice a z.length c),(18,.int .i64 (z.length:Int))] (fun i e h=>∃ N',aF T N'/\h=⟨N',M,[],[]⟩/\S=mu (fun x=>mf cols x.row) (z.drop i)) 0 (by omega) (by simp only [aE,go_sem,sevalprocAttr]) (by simp only [go_sem,sevalprocAttr]) ⟨T,aF.rfl',rfl,hS⟩ ?_
 rintro i e h hi aG ht ⟨T1,dh,rfl,am⟩
 simp only [aE] at aG
 by_cases aL:i<z.length
 ·obtain ⟨b',o',cs',rfl,bQ,s,bP,rfl⟩:=hg i z[i] (gq aL)
  obtain ⟨y0,y1,_⟩:=bQ
  have iX:=(dA bP).1
  rw [dq aL,mu] at am
  simp +contextual only [go_sem,aD,sevalprocAttr,aG,ht,aL,y0,y1,iX]
  intro b4 T4 eN fG iI
  have hT:=dh.trans fG
  refine aP (Ma hc bP _) ?_
  by_cases h0:mf cols z[i].row=0
  ·rw [h0,nE] at am
   rw [h0]
   simp +contextual only [go_sem,aD,sevalprocAttr,ht]
   refine aR (bM (aB ⟨z.length - (i+1),by omega,rfl,i+1,by omega,rfl,?_,?_,T4,hT,rfl,am⟩))
   ·simp only [aE,aG,go_sem,sevalprocAttr]
   ·simp only [go_sem,sevalprocAttr,aA i (by omega)]
  ·rw [nI h0] at am
   simp +contextual only [go_sem,aD,sevalprocAttr,h0]
   exact ak hT (cN am.symm)
 ·have:i=z.length:=by omega
  subst this
  rw [List.drop_length,mu] at am
  simp +contextual only [go_sem,aD,sevalprocAttr,aG,ht,aL]
  exact ak dh (cN am.symm)
abbrev PV:=Value×Value
def fl {α:Type}(enc:α ->PV)(l:List α):List Value:=l.flatMap fun e=>[(enc e).1,(enc e).2]
section
variable {α:Type} {enc:α ->PV}
theorem jh:∀ (l:List α),(fl enc l).length=l.length*2
 | []=>rfl
 | e::l=>by
  have:=jh l
  simp only [fl,List.flatMap_cons,List.length_append,ln] at this ⊢
  omega
theorem eg:∀ {l:List α} {i:Nat} (junk:List Value) (h:i<l.length),(fl enc l++junk)[i*2]?=some (enc l[i]).1
 | e::l,0,_,_=>rfl
 | e::l,i+1,junk,h=>by
  have:=eg (l:=l) (i:=i) junk (by simpa using h)
  simpa [fl,Nat.add_mul] using this
theorem eh:∀ {l:List α} {i:Nat} (junk:List Value) (h:i<l.length),(fl enc l++junk)[i*2+1]?=some (enc l[i]).2
 | e::l,0,_,_=>rfl
 | e::l,i+1,junk,h=>by
  have:=eh (l:=l) (i:=i) junk (by simpa using h)
  have h2:(i+1)*2+1=(i*2+1)+2:=by omega
  rw [h2]
  simpa [fl] using this
theorem tO:∀ {l:List α} {i:Nat} (junk:List Value) (x:α) (h:i<l.length),((fl enc l++junk).set (i*2) (enc x).1).set (i*2+1) (enc x).2=fl enc (l.set i x)++junk
 | e::l,0,_,_,_=>rfl
 | e::l,i+1,junk,x,h=>by
  have:=tO (l:=l) (i:=i) junk x (by simpa using h)
  have h1:(i+1)*2=i*2+2:=by omega
  have h2:(i+1)*2+1=(i*2+1)+2:=by omega
  rw [h2,h1]
  simpa [fl] using this
end
inductive SF:FuncId ->FuncId ->FuncId ->FuncId ->FuncId ->FuncId ->Prop
 | z:SF 268 319 299 269 245 209
def sw {α:Type}[Inhabited α](l:List α)(i j:Nat):List α:=(l.set i (l.getD j default)).set j (l.getD i default)
theorem kD {α:Type}[Inhabited α](l:List α)(i j:Nat):(sw l i j).length=l.length:=by simp [sw]
theorem pX {α:Type}[Inhabited α]{ok:α ->Prop}{l:List α}{i j:Nat}(hi:i<l.length)(hj:j<l.length)(h:∀ e∈l,ok e):∀ e∈sw l i j,ok e:=by
 intro e he
 unfold sw at he
 rcases List.mem_or_eq_of_mem_set he with he | rfl
 ·rcases List.mem_or_eq_of_mem_set he with he | rfl
  ·exact h e he
  ·rw [List.getD_eq_getElem?_getD,gq hj];exact h _ (gm hj)
 ·rw [List.getD_eq_getElem?_getD,gq hi];exact h _ (gm hi)
theorem fC {α:Type}[Inhabited α]{l:List α}{i:Nat}(h:i<l.length):l.getD i default=l[i]:=by simp [h]
theorem qD {α:Type}[Inhabited α]{enc:α ->PV}{l:List α}{i j:Nat}(junk:List Value)(hi:i<l.length)(hj:j<l.length):
 ((((fl enc l++junk).set (i*2) (enc l[j]).1).set (i*2+1) (enc l[j]).2).set (j*2) (enc l[i]).1).set (j*2+1) (enc l[i]).2=fl enc (sw l i j)++junk:=by
 rw [tO junk _ hi,tO junk _ (by simpa using hj),sw,fC hi,fC hj]
def pr {α:Type}[Inhabited α](cf:α ->α ->Int)(l:List α)(i j:Nat):Bool:=decide (cf (l.getD i default) (l.getD j default)<0)
def lw {α:Type}[Inhabited α](cf:α ->α ->Int)(a:Nat):Nat ->List α ->List α
 | 0,l=>l
 | j+1,l=>if a<j+1/\pr cf l (j+1) j=true then lw cf a j (sw l (j+1) j) else l
def wS {α:Type}[Inhabited α](cf:α ->α ->Int)(a:Nat):Nat ->Nat ->List α ->List α
 | 0,_,l=>l
 | f+1,i,l=>wS cf a f (i+1) (lw cf a i l)
def py {α:Type}[Inhabited α](cf:α ->α ->Int)(l:List α)(a b:Nat):List α:=wS cf a (b - (a+1)) (a+1) l
structure CmpOk {α:Type} (M:aS) (enc:α ->PV) (g:FuncId) (caps:List Value) (cf:α ->α ->Int) (ok:α ->Prop):Prop where
 bod:dm Tryz.prog g=true
 one:∀ x,ok x ->(enc x).1.oneCell'=true/\(enc x).2.oneCell'=true
 call:∀ x y,ok x ->ok y ->∀ T,bV Tryz.prog g ([.agg ⟨[(enc x).1,(enc x).2]⟩,.agg ⟨[(enc y).1,(enc y).2]⟩]++caps) T M [] [] (fun r _ _ _=>r=.int .i64 (cf x y)) aM
section
variable {P:Program} {F:Fi} {s:List Vc.Item} {e:dp} {ds:List Deferred} {h:Sh} {b:Code}
def LW (ds0:List Deferred)(lv:List (Nat×Value))(K:Nat ->dp ->Sh ->Prop):Nat ->dp ->List Deferred ->Sh ->Prop:=fun m e ds h=>ds=ds0/\aE e lv/\K m e h
theorem jD (lv:List (Nat×Value))(K:Nat ->dp ->Sh ->Prop)(m0:Nat)(hl:aE e lv)(hK:K m0 e h)(hs:∀ m e' h',aE e' lv ->K m e' h' ->cy P F (.code b:: .lp (LW ds lv K) m::s) e' ds h' ⟨⟩):Gj P F b s e ds h ⟨⟩:=
 gn (LW ds lv K) ⟨m0,rfl,hl,hK⟩ (by rintro m e' ds' h' ⟨rfl,h1,h2⟩;exact hs m e' h' h1 h2)
theorem mZ {lv:List (Nat×Value)}{K:Nat ->dp ->Sh ->Prop}{m m':Nat}(hm:m'<m)(hl:aE e lv)(hK:K m' e h):cy P F (.lp (LW ds lv K) m::s) e ds h ⟨⟩:=by
 rw [eJ];exact aB ⟨m',hm,rfl,hl,hK⟩
end
variable {M:aS} {α:Type} [Inhabited α] {enc:α ->PV}
theorem Mg {fi fs fr fm ft fo:FuncId}(hs:SF fi fs fr fm ft fo){g:FuncId}{caps:List Value}{cf:α ->α ->Int}{ok:α ->Prop}(hc:CmpOk M enc g caps cf ok){db n cap a b:Nat}{l:List α}{junk:List Value}(hl:l.length=n)(lS:n<=cap)(cB:∀ e∈l,ok e)(W7:a<=b)(hb:b<=n)(hn:n<=4294967296)(T:Tm):
 bV Tryz.prog fi [.slice (some ⟨db,0,none⟩) n cap,.int .i64 (a:Int),.int .i64 (b:Int),.func (.func g) #[] ⟨caps⟩] T M [(db,fl enc l++junk)] [] (fun r M' L' R'=>r=.tuple #[]/\M'=M/\L'=[(db,fl enc (py cf l a b)++junk)]/\R'=[]) aM:=by
 obtain ⟨S,hS⟩:∃ S,S=py cf l a b:=⟨_,rfl⟩
 rw [<- hS]
 have L7:=hs
 cases hs
 all_goals
  refine az aki rfl rfl ?_
  intro bi _
  simp +contextual only [go_sem,aD,sevalprocAttr]
  have hwa:IntKind.i64.wrap ((a:Int)+1)=((a+1:Nat):Int):=aA a (by omega)
  refine jD [(0,.slice (some ⟨db,0,none⟩) n cap),(1,.int .i64 (a:Int)),(2,.int .i64 (b:Int)),(3,.func (.func g) #[] ⟨caps⟩)] (fun m e h=>∃ i l',e 8=.int .i64 ((i:Nat):Int)/\h=⟨T,M,[(db,fl enc l'++junk)],[]⟩/\l'.length=n/\(∀ e∈l',ok e)/\a<i/\i<=b+1/\m=b+1 - i/\S=wS cf a (b - i) i l') (b+1 - (a+1)) (by simp only [aE,go_sem,sevalprocAttr]) ⟨a+1,l,by simp only [go_sem,sevalprocAttr,hwa],rfl,hl,cB,by omega,by omega,rfl,hS⟩ ?_
  rintro m e h aG ⟨i,l',e8,rfl,jm,iR,hai,U8,rfl,am⟩
  simp only [aE] at aG
  by_cases aL:i<b
  rotate_left
  ·have h0:b - i=0:=by omega
   rw [h0,wS] at am
   simp +contextual only [go_sem,aD,sevalprocAttr,aG,e8,aL]
   exact aQ aF.rfl' rfl rfl ⟨rfl,rfl,by rw [am],rfl⟩
  obtain ⟨f,hf⟩:∃ f,b - i=f+1:=⟨b - i - 1,by omega⟩
  rw [hf,wS] at am
  simp +contextual only [go_sem,aD,sevalprocAttr,aG,e8,aL]
  refine jD [(0,.slice (some ⟨db,0,none⟩) n cap),(1,.int .i64 (a:Int)),(2,.int .i64 (b:Int)),(3,.func (.func g) #[] ⟨caps⟩),(8,.int .i64 (i:Int))] (fun m e h=>∃ j l2,e 9=.int .i64 ((j:Nat):Int)/\h=⟨T,M,[(db,fl enc l2++junk)],[]⟩/\l2.length=n/\(∀ e∈l2,ok e)/\j<=i/\m=j/\lw cf a i l'=lw cf a j l2) i (by simp only [aE,go_sem,sevalprocAttr,aG,e8]) ⟨i,l',by simp only [go_sem,sevalprocAttr],rfl,jm,iR,by omega,rfl,rfl⟩ ?_
  rintro j e h aG ⟨_,l2,e9,rfl,fp,pq,xi,rfl,Uh⟩
  simp only [aE] at aG
  simp +contextual only [go_sem,sevalprocAttr]
  refine aX ?_
  by_cases haj:a<j
  rotate_left
  ·simp +contextual only [go_sem,aD,sevalprocAttr,aG,e9,haj]
   refine mZ (m':=b+1 - (i+1)) (by omega) (by simp only [aE,go_sem,sevalprocAttr,aG]) ⟨i+1,l2,?_,rfl,fp,pq,by omega,by omega,rfl,?_⟩
   ·simp only [go_sem,sevalprocAttr,aA i (by omega)]
   ·have h1:b - (i+1)=f:=by omega
    rw [h1,am,Uh]
    cases j with
    | zero=>rw [lw]
    | succ j=>rw [lw,if_neg (fun h=>haj h.1)]
  obtain ⟨j,rfl⟩:∃ k,j=k+1:=⟨j - 1,by omega⟩
  have Pb:j+1<l2.length:=by omega
  have DP:j<l2.length:=by omega
  have hjn:j+1<n:=by omega
  have aeB:j<n:=by omega
  have e1:IntKind.i64.wrap (((j+1:Nat):Int) - 1)=((j:Nat):Int):=by rw [bH (by omega) (by omega)];omega
  have c0:=eg (enc:=enc) junk DP
  have c1:=eh (enc:=enc) junk DP
  have d0:=eg (enc:=enc) junk Pb
  have d1:=eh (enc:=enc) junk Pb
  have o1:=hc.one _ (pq _ (gm Pb))
  have o0:=hc.one _ (pq _ (gm DP))
  simp +contextual only [go_sem,sevalprocAttr,aG,e9,haj,e1,hjn,aeB,aC bi.1,c0,c1,d0,d1]
  refine aP (hc.call _ _ (pq _ (gm Pb)) (pq _ (gm DP)) _) ?_
  simp +contextual only [go_sem,aD,sevalprocAttr,aG]
  by_cases xB:cf l2[j+1] l2[j]<0
  rotate_left
  ·rw [if_neg xB]
   refine mZ (m':=b+1 - (i+1)) (by omega) (by simp only [aE,go_sem,sevalprocAttr,aG]) ⟨i+1,l2,?_,rfl,fp,pq,by omega,by omega,rfl,?_⟩
   ·simp only [go_sem,sevalprocAttr,aA i (by omega)]
   ·have h1:b - (i+1)=f:=by omega
    have h2:pr cf l2 (j+1) j=false:=by simp only [pr,fC Pb,fC DP];simp [xB]
    rw [h1,am,Uh,lw,if_neg (by rw [h2];simp)]
  rw [if_pos xB]
  refine aX ?_
  have Lu:(j+1)*2+2<=(fl enc l2++junk).length:=by rw [List.length_append,jh];omega
  have QD:j*2+2<=(fl enc l2++junk).length:=by rw [List.length_append,jh];omega
  simp +contextual only [go_sem,sevalprocAttr,aG,e9,e1,hjn,aeB,aC bi.1,c0,c1,d0,d1,o1,o0,Lu,QD]
  refine mZ (m':=j) (by omega) (by simp only [aE,go_sem,sevalprocAttr,aG]) ⟨j,sw l2 (j+1) j,?_,?_,by rw [kD];exact fp,pX Pb DP pq,by omega,rfl,?_⟩
  ·simp only [go_sem,sevalprocAttr]
  ·rw [qD junk Pb DP]
  ·have h2:pr cf l2 (j+1) j=true:=by simp only [pr,fC Pb,fC DP];simp [xB]
   rw [Uh,lw,if_pos ⟨haj,h2⟩]
def Gu {α:Type}[Inhabited α](a b:Nat):Nat ->Nat ->List α ->List α
 | 0,_,l=>l
 | f+1,i,l=>Gu a b f (i+1) (sw l (a+i) (b+i))
def Cd {α:Type}[Inhabited α](l:List α)(m i j:Nat):List α:=
 if i≠j/\0<i/\0<j then (if i>j then Cd (Gu (m - i) m j 0 l) m (i - j) j else Cd (Gu (m - i) (m+j - i) i 0 l) m i (j - i)) else Gu (m - i) m i 0 l
termination_by i+j
decreasing_by all_goals omega
def FS (p:Nat ->Bool)(i j:Nat):Nat:=if i<j then (if p ((i+j) / 2)=true then FS p ((i+j) / 2+1) j else FS p i ((i+j) / 2)) else i
termination_by j - i
decreasing_by all_goals omega
def xd {α:Type}[Inhabited α](l:List α)(k e:Nat):List α:=if k+1<e then xd (sw l k (k+1)) (k+1) e else l
termination_by e - k
def uP {α:Type}[Inhabited α](i:Nat):Nat ->List α ->List α
 | 0,l=>l
 | k+1,l=>if i<k+1 then uP i k (sw l (k+1) k) else l
theorem mG {α:Type}[Inhabited α](a b:Nat):∀ (f i:Nat) (l:List α),(Gu a b f i l).length=l.length
 | 0,_,_=>rfl
 | f+1,i,l=>by rw [Gu,mG a b f];exact kD _ _ _
theorem qJ {α:Type}[Inhabited α]{ok:α ->Prop}(a b:Nat):∀ (f i:Nat) (l:List α),a+i+f<=l.length ->b+i+f<=l.length ->(∀ e∈l,ok e) ->∀ e∈Gu a b f i l,ok e
 | 0,_,_,_,_,h=>h
 | f+1,i,l,h1,h2,h=>by
  rw [Gu]
  exact qJ a b f (i+1) _ (by rw [kD];omega) (by rw [kD];omega) (pX (by omega) (by omega) h)
theorem Kq {α:Type}[Inhabited α](l:List α)(m i j:Nat):(Cd l m i j).length=l.length:=by
 fun_induction Cd l m i j with
 | case1 l i j h h2 ih=>rw [ih,mG]
 | case2 l i j h h2 ih=>rw [ih,mG]
 | case3 l i j h=>rw [mG]
theorem Lj {α:Type}[Inhabited α]{ok:α ->Prop}(l:List α)(m i j:Nat)(h1:i<=m)(h2:m+j<=l.length)(wO:i≠0/\j≠0)(h:∀ e∈l,ok e):∀ e∈Cd l m i j,ok e:=by
 fun_induction Cd l m i j with
 | case1 l i j hc AC ih=>exact ih (by omega) (by rw [mG];omega) (by omega) (qJ _ _ _ _ _ (by omega) (by omega) h)
 | case2 l i j hc AC ih=>exact ih (by omega) (by rw [mG];omega) (by omega) (qJ _ _ _ _ _ (by omega) (by omega) h)
 | case3 l i j hc=>exact qJ _ _ _ _ _ (by omega) (by omega) h
variable {M:aS} {α:Type} [Inhabited α] {enc:α ->PV}
theorem jk {F:Fi}{s:List Vc.Item}{e:dp}{ds:List Deferred}{dd:Option Nat}{N:Tm}{L:LL}{R:RR}{f:FuncId}{args:List Value}{x:Value}{b:Nat}{cs cs':List Value}
 (hc:bV Tryz.prog f args N M [(b,cs)] [] (fun r M' L' R'=>r=x/\M'=M/\L'=[(b,cs')]/\R'=[]) aM) (hn:cy Tryz.prog F s (cI e dd x) ds ⟨N,M,(b,cs')::L,R⟩ ⟨⟩):dx Tryz.prog F f args dd s e ds ⟨N,M,(b,cs)::L,R⟩ ⟨⟩:=
 gu [] [(b,cs)] L [] [] R hc (by rintro v M' L' R' _ _ _ _ ⟨rfl,rfl,rfl,rfl⟩;exact hn) (fun _ _ _ _ _ _ _ _ h=>h.elim)
theorem DE {fi fs fr fm ft fo:FuncId}(hs:SF fi fs fr fm ft fo){fv:Value}{ok:α ->Prop}(dt:∀ x,ok x ->(enc x).1.oneCell'=true/\(enc x).2.oneCell'=true){db n cap a b c:Nat}{l:List α}{junk:List Value}(hl:l.length=n)(lS:n<=cap)(cB:∀ e∈l,ok e)(ha:a+c<=n)(hb:b+c<=n)(hn:n<=4294967296)(T:Tm):
 bV Tryz.prog fs [.slice (some ⟨db,0,none⟩) n cap,.int .i64 (a:Int),.int .i64 (b:Int),.int .i64 (c:Int),fv] T M [(db,fl enc l++junk)] [] (fun r M' L' R'=>r=.tuple #[]/\M'=M/\L'=[(db,fl enc (Gu a b c 0 l)++junk)]/\R'=[]) aM:=by
 obtain ⟨S,hS⟩:∃ S,S=Gu a b c 0 l:=⟨_,rfl⟩
 rw [<- hS]
 have L7:=hs
 cases hs
 all_goals
  refine az ak8 rfl rfl ?_
  intro bi _
  simp +contextual only [go_sem,aD,sevalprocAttr]
  refine jD [(0,.slice (some ⟨db,0,none⟩) n cap),(1,.int .i64 (a:Int)),(2,.int .i64 (b:Int)),(3,.int .i64 (c:Int))] (fun m e h=>∃ i l',e 10=.int .i64 ((i:Nat):Int)/\h=⟨T,M,[(db,fl enc l'++junk)],[]⟩/\l'.length=n/\(∀ e∈l',ok e)/\i<=c/\m=c - i/\S=Gu a b (c - i) i l') c (by simp only [aE,go_sem,sevalprocAttr]) ⟨0,l,by simp only [go_sem,sevalprocAttr],rfl,hl,cB,by omega,rfl,hS⟩ ?_
  rintro m e h aG ⟨i,l',e10,rfl,jm,iR,hic,rfl,am⟩
  simp only [aE] at aG
  by_cases aL:i<c
  rotate_left
  ·have h0:c - i=0:=by omega
   rw [h0,Gu] at am
   simp +contextual only [go_sem,aD,sevalprocAttr,aG,e10,aL]
   exact aQ aF.rfl' rfl rfl ⟨rfl,rfl,by rw [am],rfl⟩
  obtain ⟨f,hf⟩:∃ f,c - i=f+1:=⟨c - i - 1,by omega⟩
  rw [hf,Gu] at am
  simp +contextual only [go_sem,aD,sevalprocAttr,aG,e10,aL]
  refine aX ?_
  have hai:a+i<l'.length:=by omega
  have WI:b+i<l'.length:=by omega
  have wa:IntKind.i64.wrap ((a:Int)+(i:Int))=((a+i:Nat):Int):=by rw [bH (by omega) (by omega)];omega
  have wb:IntKind.i64.wrap ((b:Int)+(i:Int))=((b+i:Nat):Int):=by rw [bH (by omega) (by omega)];omega
  have han:a+i<n:=by omega
  have hbn:b+i<n:=by omega
  have c0:=eg (enc:=enc) junk hai
  have c1:=eh (enc:=enc) junk hai
  have d0:=eg (enc:=enc) junk WI
  have d1:=eh (enc:=enc) junk WI
  have o1:=dt _ (iR _ (gm hai))
  have o0:=dt _ (iR _ (gm WI))
  have Lu:(a+i)*2+2<=(fl enc l'++junk).length:=by rw [List.length_append,jh];omega
  have QD:(b+i)*2+2<=(fl enc l'++junk).length:=by rw [List.length_append,jh];omega
  simp +contextual only [go_sem,sevalprocAttr,aG,e10,wa,wb,han,hbn,aC bi.1,c0,c1,d0,d1,o1,o0,Lu,QD]
  refine mZ (m':=c - (i+1)) (by omega) (by simp only [aE,go_sem,sevalprocAttr,aG]) ⟨i+1,sw l' (a+i) (b+i),?_,?_,by rw [kD];exact jm,pX hai WI iR,by omega,rfl,?_⟩
  ·simp only [go_sem,sevalprocAttr,aA i (by omega)]
  ·rw [qD junk hai WI]
  ·rw [am];congr 1;omega
theorem V6 {fi fs fr fm ft fo:FuncId}(hs:SF fi fs fr fm ft fo){fv:Value}{ok:α ->Prop}(dt:∀ x,ok x ->(enc x).1.oneCell'=true/\(enc x).2.oneCell'=true){db n cap a m b:Nat}{l:List α}{junk:List Value}(hl:l.length=n)(lS:n<=cap)(cB:∀ e∈l,ok e)(ham:a<m)(hmb:m<b)(hb:b<=n)(hn:n<=4294967296)(T:Tm):
 bV Tryz.prog fr [.slice (some ⟨db,0,none⟩) n cap,.int .i64 (a:Int),.int .i64 (m:Int),.int .i64 (b:Int),fv] T M [(db,fl enc l++junk)] [] (fun r M' L' R'=>r=.tuple #[]/\M'=M/\L'=[(db,fl enc (Cd l m (m - a) (b - m))++junk)]/\R'=[]) aM:=by
 obtain ⟨S,hS⟩:∃ S,S=Cd l m (m - a) (b - m):=⟨_,rfl⟩
 rw [<- hS]
 have L7:=hs
 cases hs
 all_goals
  refine az akS rfl rfl ?_
  intro bi _
  have w1:IntKind.i64.wrap ((m:Int) - (a:Int))=((m - a:Nat):Int):=by rw [bH (by omega) (by omega)];omega
  have w2:IntKind.i64.wrap ((b:Int) - (m:Int))=((b - m:Nat):Int):=by rw [bH (by omega) (by omega)];omega
  simp +contextual only [go_sem,aD,sevalprocAttr,w1,w2]
  refine jD [(0,.slice (some ⟨db,0,none⟩) n cap),(2,.int .i64 (m:Int)),(4,fv)] (fun k e h=>∃ i j l',e 10=.int .i64 ((i:Nat):Int)/\e 11=.int .i64 ((j:Nat):Int)/\h=⟨T,M,[(db,fl enc l'++junk)],[]⟩/\l'.length=n/\(∀ e∈l',ok e)/\0<i/\0<j/\i<=m/\m+j<=n/\k=i+j/\S=Cd l' m i j) (m - a+(b - m)) (by simp only [aE,go_sem,sevalprocAttr]) ⟨m - a,b - m,l,by simp only [go_sem,sevalprocAttr],by simp only [go_sem,sevalprocAttr],rfl,hl,cB,by omega,by omega,by omega,by omega,rfl,hS⟩ ?_
  rintro k e h aG ⟨i,j,l',e10,e11,rfl,jm,iR,uu,DP,him,hjn,rfl,am⟩
  simp only [aE] at aG
  have w3:IntKind.i64.wrap ((m:Int) - (i:Int))=((m - i:Nat):Int):=by rw [bH (by omega) (by omega)];omega
  by_cases wO:i=j
  ·subst wO
   rw [Cd,if_neg (fun h=>h.1 rfl)] at am
   simp +contextual only [go_sem,aD,sevalprocAttr,aG,e10,e11,w3]
   refine jk (DE L7 dt jm lS iR (by omega) (by omega) hn _) ?_
   simp +contextual only [go_sem,sevalprocAttr]
   exact aQ aF.rfl' rfl rfl ⟨rfl,rfl,by rw [am],rfl⟩
  have ads:¬ (i:Int)=(j:Int):=by omega
  by_cases AC:j<i
  ·rw [Cd,if_pos ⟨wO,uu,DP⟩,if_pos AC] at am
   simp +contextual only [go_sem,aD,sevalprocAttr,aG,e10,e11,w3,ads,AC]
   refine jk (DE L7 dt jm lS iR (by omega) (by omega) hn _) ?_
   have w4:IntKind.i64.wrap ((i:Int) - (j:Int))=((i - j:Nat):Int):=by rw [bH (by omega) (by omega)];omega
   simp +contextual only [go_sem,sevalprocAttr,e10,e11,w4]
   exact mZ (m':=i - j+j) (by omega) (by simp only [aE,go_sem,sevalprocAttr,aG]) ⟨i - j,j,_,by simp only [go_sem,sevalprocAttr],by simp only [go_sem,sevalprocAttr,e11],rfl,by rw [mG];exact jm,qJ _ _ _ _ _ (by omega) (by omega) iR,by omega,by omega,by omega,by omega,rfl,am⟩
  ·rw [Cd,if_pos ⟨wO,uu,DP⟩,if_neg (by omega)] at am
   have w5:IntKind.i64.wrap ((m:Int)+(j:Int))=((m+j:Nat):Int):=by rw [bH (by omega) (by omega)];omega
   have w6:IntKind.i64.wrap (((m+j:Nat):Int) - (i:Int))=((m+j - i:Nat):Int):=by rw [bH (by omega) (by omega)];omega
   simp +contextual only [go_sem,aD,sevalprocAttr,aG,e10,e11,w3,ads,AC,w5,w6]
   refine jk (DE L7 dt jm lS iR (by omega) (by omega) hn _) ?_
   have w4:IntKind.i64.wrap ((j:Int) - (i:Int))=((j - i:Nat):Int):=by rw [bH (by omega) (by omega)];omega
   simp +contextual only [go_sem,sevalprocAttr,e10,e11,w4]
   exact mZ (m':=i+(j - i)) (by omega) (by simp only [aE,go_sem,sevalprocAttr,aG]) ⟨i,j - i,_,by simp only [go_sem,sevalprocAttr,e10],by simp only [go_sem,sevalprocAttr],rfl,by rw [mG];exact jm,qJ _ _ _ _ _ (by omega) (by omega) iR,by omega,by omega,by omega,by omega,rfl,am⟩
set_option maxHeartbeats 1000000
def dL {α:Type}[Inhabited α](cf:α ->α ->Int)(l:List α)(a m b:Nat):Nat:=
 FS (fun c=> !pr cf l ((a+b) / 2+m - 1 - c) c) (if (a+b) / 2<m then (a+b) / 2+m - b else a) (if (a+b) / 2<m then (a+b) / 2 else m)
def nM {α:Type}[Inhabited α](l:List α)(m st en:Nat):List α:=if st<m/\m<en then Cd l m (m - st) (en - m) else l
def mU {α:Type}[Inhabited α](cf:α ->α ->Int)(l:List α)(a m b:Nat):List α:=
 if m - a=1 then xd l a (FS (fun h=>pr cf l h a) m b)
 else if b - m=1 then uP (FS (fun h=> !pr cf l m h) a m) m l
 else if (a+b) / 2<(a+b) / 2+m - dL cf l a m b/\(a+b) / 2+m - dL cf l a m b<b then
  mU cf (if a<dL cf l a m b/\dL cf l a m b<(a+b) / 2 then mU cf (nM l m (dL cf l a m b) ((a+b) / 2+m - dL cf l a m b)) a (dL cf l a m b) ((a+b) / 2) else nM l m (dL cf l a m b) ((a+b) / 2+m - dL cf l a m b))
   ((a+b) / 2) ((a+b) / 2+m - dL cf l a m b) b
 else (if a<dL cf l a m b/\dL cf l a m b<(a+b) / 2 then mU cf (nM l m (dL cf l a m b) ((a+b) / 2+m - dL cf l a m b)) a (dL cf l a m b) ((a+b) / 2) else nM l m (dL cf l a m b) ((a+b) / 2+m - dL cf l a m b))
termination_by b - a
decreasing_by all_goals omega
theorem z7 (p:Nat ->Bool)(i j:Nat)(h:i<=j):i<=FS p i j/\FS p i j<=j:=by
 fun_induction FS p i j with
 | case1 i j h1 h2 ih=>have:=ih (by omega);omega
 | case2 i j h1 h2 ih=>have:=ih (by omega);omega
 | case3 i j h1=>omega
theorem Yl (i j:Nat)(h:i+j<=9223372036854775807):IntKind.u64.wrap ((i+j:Nat):Int)=((i+j:Nat):Int):=by
 rw [IntKind.wrap_u64];omega
theorem Ly (x:Nat):(x:Int).fdiv (2 ^ (min 1 64))=((x / 2:Nat):Int):=by
 have:(2:Int) ^ (min 1 64)=2:=by decide
 rw [this]
 exact Int.fdiv_eq_ediv_of_nonneg _ (by omega)
theorem QT {α:Type}[Inhabited α](l:List α)(k e:Nat)(he:e<=l.length):(xd l k e).length=l.length/\∀ ok:α ->Prop,(∀ x∈l,ok x) ->∀ x∈xd l k e,ok x:=by
 fun_induction xd l k e with
 | case1 l k h ih=>
  have ih:=ih (by rw [kD];omega)
  exact ⟨by rw [ih.1,kD],fun ok h2=>ih.2 ok (pX (by omega) (by omega) h2)⟩
 | case2 l k h=>exact ⟨rfl,fun _ h=>h⟩
theorem GQ {α:Type}[Inhabited α](i:Nat):∀ (k:Nat) (l:List α),k<l.length ->(uP i k l).length=l.length/\∀ ok:α ->Prop,(∀ x∈l,ok x) ->∀ x∈uP i k l,ok x
 | 0,l,_=>⟨rfl,fun _ h=>h⟩
 | k+1,l,hk=>by
  rw [uP]
  split
  ·have ih:=GQ i k (sw l (k+1) k) (by rw [kD];omega)
   exact ⟨by rw [ih.1,kD],fun ok h2=>ih.2 ok (pX (by omega) (by omega) h2)⟩
  ·exact ⟨rfl,fun _ h=>h⟩
theorem U0 {α:Type}[Inhabited α](cf:α ->α ->Int)(l:List α)(a m b:Nat)(h1:a<m)(h2:m<b):a<=dL cf l a m b/\dL cf l a m b<=m/\dL cf l a m b<=(a+b) / 2/\(a+b) / 2+m - dL cf l a m b<=b:=by
 unfold dL
 have:=z7 (fun c=> !pr cf l ((a+b) / 2+m - 1 - c) c) (if (a+b) / 2<m then (a+b) / 2+m - b else a) (if (a+b) / 2<m then (a+b) / 2 else m) (by split<;>omega)
 revert this
 split<;>(intro this;omega)
theorem us {α:Type}[Inhabited α]:∀ (d:Nat) (cf:α ->α ->Int) (l:List α) (a m b:Nat),b - a<=d ->a<m ->m<b ->b<=l.length ->(mU cf l a m b).length=l.length/\∀ ok:α ->Prop,(∀ x∈l,ok x) ->∀ x∈mU cf l a m b,ok x:=by
 intro d
 induction d with
 | zero=>intro cf l a m b h1 h2 h3 _;exfalso;omega
 | succ d ih=>
  intro cf l a m b hd ham hmb hb
  rw [mU]
  split
  ·have:=z7 (fun h=>pr cf l h a) m b (by omega)
   exact QT _ _ _ (by omega)
  split
  ·exact GQ _ _ _ (by omega)
  have qL:=U0 cf l a m b ham hmb
  obtain ⟨st,hs⟩:∃ st,st=dL cf l a m b:=⟨_,rfl⟩
  rw [<- hs] at qL ⊢
  have h1:(nM l m st ((a+b) / 2+m - st)).length=l.length/\∀ ok:α ->Prop,(∀ x∈l,ok x) ->∀ x∈nM l m st ((a+b) / 2+m - st),ok x:=by
   unfold nM
   split
   ·exact ⟨Kq _ _ _ _,fun ok h=>Lj _ _ _ _ (by omega) (by omega) (by omega) h⟩
   ·exact ⟨rfl,fun _ h=>h⟩
  obtain ⟨l1,gK⟩:∃ l1,l1=nM l m st ((a+b) / 2+m - st):=⟨_,rfl⟩
  rw [<- gK] at h1 ⊢
  obtain ⟨l2,fp⟩:∃ l2,l2=if a<st/\st<(a+b) / 2 then mU cf l1 a st ((a+b) / 2) else l1:=⟨_,rfl⟩
  rw [<- fp]
  have h2:l2.length=l.length/\∀ ok:α ->Prop,(∀ x∈l,ok x) ->∀ x∈l2,ok x:=by
   rw [fp]
   split
   ·rename_i hq
    have hi:=ih cf l1 a st ((a+b) / 2) (by omega) hq.1 hq.2 (by omega)
    exact ⟨hi.1.trans h1.1,fun ok h=>hi.2 ok (h1.2 ok h)⟩
   ·exact h1
  split
  ·rename_i hq
   have hi:=ih cf l2 ((a+b) / 2) ((a+b) / 2+m - st) b (by omega) hq.1 hq.2 (by omega)
   exact ⟨hi.1.trans h2.1,fun ok h=>hi.2 ok (h2.2 ok h)⟩
  ·exact h2
variable {M:aS} {α:Type} [Inhabited α] {enc:α ->PV}
def akl (fm:FuncId)(enc:α ->PV)(g:FuncId)(caps:List Value)(cf:α ->α ->Int)(ok:α ->Prop)(M:aS)(d:Nat):Prop:=∀ (db n cap a m b:Nat) (l:List α) (junk:List Value),b - a<=d ->l.length=n ->n<=cap ->(∀ e∈l,ok e) ->a<m ->m<b ->b<=n ->n<=4294967296 ->∀ T:Tm,
 bV Tryz.prog fm [.slice (some ⟨db,0,none⟩) n cap,.int .i64 (a:Int),.int .i64 (m:Int),.int .i64 (b:Int),.func (.func g) #[] ⟨caps⟩] T M [(db,fl enc l++junk)] [] (fun r M' L' R'=>r=.tuple #[]/\M'=M/\L'=[(db,fl enc (mU cf l a m b)++junk)]/\R'=[]) aM
theorem LX {fi fs fr fm ft fo:FuncId}(hs:SF fi fs fr fm ft fo){g:FuncId}{caps:List Value}{cf:α ->α ->Int}{ok:α ->Prop}(hc:CmpOk M enc g caps cf ok):∀ d,akl fm enc g caps cf ok M d:=by
 intro d
 induction d with
 | zero=>intro db n cap a m b l junk hd hl lS cB ham hmb hb hn T;omega
 | succ d ih=>
  intro db n cap a m b l junk hd hl lS cB ham hmb hb hn T
  obtain ⟨S,hS⟩:∃ S,S=mU cf l a m b:=⟨_,rfl⟩
  rw [<- hS]
  rw [mU] at hS
  have w1:IntKind.i64.wrap ((m:Int) - (a:Int))=((m - a:Nat):Int):=by rw [bH (by omega) (by omega)];omega
  have w2:IntKind.i64.wrap ((b:Int) - (m:Int))=((b - m:Nat):Int):=by rw [bH (by omega) (by omega)];omega
  have L7:=hs
  cases hs
  all_goals
   refine az ahg rfl rfl ?_
   intro bi _
   by_cases h1:m - a=1
   ·rw [if_pos h1] at hS
    have qZ:((m - a:Nat):Int)=1:=by omega
    simp +contextual only [go_sem,aD,sevalprocAttr,w1,qZ]
    obtain ⟨E,hE⟩:∃ E,E=FS (fun h=>pr cf l h a) m b:=⟨_,rfl⟩
    rw [<- hE] at hS
    have hEb:=z7 (fun h=>pr cf l h a) m b (by omega)
    rw [<- hE] at hEb
    refine jD [(0,.slice (some ⟨db,0,none⟩) n cap),(1,.int .i64 (a:Int)),(2,.int .i64 (m:Int)),(3,.int .i64 (b:Int)),(4,.func (.func g) #[] ⟨caps⟩)] (fun k e h=>∃ i j,e 10=.int .i64 ((i:Nat):Int)/\e 11=.int .i64 ((j:Nat):Int)/\h=⟨T,M,[(db,fl enc l++junk)],[]⟩/\m<=i/\i<=j/\b>=j/\k=j - i/\E=FS (fun h=>pr cf l h a) i j) (b - m) (by simp only [aE,go_sem,sevalprocAttr]) ⟨m,b,by simp only [go_sem,sevalprocAttr],by simp only [go_sem,sevalprocAttr],rfl,by omega,by omega,by omega,rfl,hE⟩ ?_
    rintro k e h aG ⟨i,j,e10,e11,rfl,Al,wO,Zd,rfl,am⟩
    simp only [aE] at aG
    rw [FS] at am
    by_cases aL:i<j
    ·rw [if_pos aL] at am
     have w3:IntKind.i64.wrap ((i:Int)+(j:Int))=((i+j:Nat):Int):=by rw [bH (by omega) (by omega)];omega
     have w4:IntKind.i64.wrap (((i+j) / 2:Nat):Int)=(((i+j) / 2:Nat):Int):=bH (by omega) (by omega)
     have hx:(i+j) / 2<l.length:=by omega
     have VR:(i+j) / 2<n:=by omega
     have cx0:=eg (enc:=enc) junk hx
     have cx1:=eh (enc:=enc) junk hx
     have ox:=hc.one _ (cB _ (gm hx))
     have hy:a<l.length:=by omega
     have Xn:a<n:=by omega
     have cy0:=eg (enc:=enc) junk hy
     have cy1:=eh (enc:=enc) junk hy
     have oy:=hc.one _ (cB _ (gm hy))
     simp +contextual only [go_sem,aD,sevalprocAttr,e10,e11,aL,w3,Yl i j (by omega),Ly,w4]
     refine aX ?_
     simp +contextual only [go_sem,sevalprocAttr,aG,VR,cx0,cx1,Xn,cy0,cy1,aC bi.1]
     refine aP (hc.call _ _ (cB _ (gm hx)) (cB _ (gm hy)) _) ?_
     by_cases xB:cf (l[(i+j) / 2]'hx) (l[a]'hy)<0
     ·have hp:pr cf l ((i+j) / 2) (a)=true:=by simp only [pr,fC hx,fC hy];simp [xB]
      rw [if_pos (by simp [hp])] at am
      simp +contextual only [go_sem,aD,sevalprocAttr,xB,aA ((i+j) / 2) (by omega)]
      exact mZ (m':=j - ((i+j) / 2+1)) (by omega) (by simp only [aE,go_sem,sevalprocAttr,aG]) ⟨(i+j) / 2+1,j,by simp only [go_sem,sevalprocAttr],by simp only [go_sem,sevalprocAttr,e11],rfl,by omega,by omega,by omega,rfl,am⟩
     ·have hp:pr cf l ((i+j) / 2) (a)=false:=by simp only [pr,fC hx,fC hy];simp [xB]
      rw [if_neg (by simp [hp])] at am
      simp +contextual only [go_sem,aD,sevalprocAttr,xB]
      exact mZ (m':=(i+j) / 2 - i) (by omega) (by simp only [aE,go_sem,sevalprocAttr,aG]) ⟨i,(i+j) / 2,by simp only [go_sem,sevalprocAttr,e10],by simp only [go_sem,sevalprocAttr],rfl,by omega,by omega,by omega,rfl,am⟩
    rw [if_neg aL] at am
    obtain rfl:=am.symm
    simp +contextual only [go_sem,aD,sevalprocAttr,aG,e10,e11,aL]
    have we:IntKind.i64.wrap ((i:Int) - 1)=((i - 1:Nat):Int):=by rw [bH (by omega) (by omega)];omega
    refine jD [(0,.slice (some ⟨db,0,none⟩) n cap),(1,.int .i64 (a:Int)),(2,.int .i64 (m:Int)),(3,.int .i64 (b:Int)),(4,.func (.func g) #[] ⟨caps⟩),(10,.int .i64 ((i:Nat):Int))] (fun k e h=>∃ q l',e 13=.int .i64 ((q:Nat):Int)/\h=⟨T,M,[(db,fl enc l'++junk)],[]⟩/\l'.length=n/\(∀ e∈l',ok e)/\k=i - q/\S=xd l' q i) (i - a) (by simp only [aE,go_sem,sevalprocAttr,aG,e10]) ⟨a,l,by simp only [go_sem,sevalprocAttr],rfl,hl,cB,rfl,hS⟩ ?_
    rintro k e h aG ⟨q,l',e13,rfl,jm,iR,rfl,am⟩
    simp only [aE] at aG
    rw [xd] at am
    by_cases hq:q+1<i
    ·rw [if_pos hq] at am
     have hq':(q:Int)<((i - 1:Nat):Int):=by omega
     have hx:q<l'.length:=by omega
     have VR:q<n:=by omega
     have cx0:=eg (enc:=enc) junk hx
     have cx1:=eh (enc:=enc) junk hx
     have ox:=hc.one _ (iR _ (gm hx))
     have hy:q+1<l'.length:=by omega
     have Xn:q+1<n:=by omega
     have cy0:=eg (enc:=enc) junk hy
     have cy1:=eh (enc:=enc) junk hy
     have oy:=hc.one _ (iR _ (gm hy))
     have hlx:q*2+2<=(fl enc l'++junk).length:=by rw [List.length_append,jh];omega
     have hly:(q+1)*2+2<=(fl enc l'++junk).length:=by rw [List.length_append,jh];omega
     simp +contextual only [go_sem,aD,sevalprocAttr,aG,e13,we,hq']
     refine aX ?_
     simp +contextual only [go_sem,sevalprocAttr,aG,e13,VR,cx0,cx1,ox,Xn,cy0,cy1,oy,aC bi.1,hlx,hly,aA q (by omega)]
     refine mZ (m':=i - (q+1)) (by omega) (by simp only [aE,go_sem,sevalprocAttr,aG]) ⟨q+1,sw l' q (q+1),?_,?_,by rw [kD];exact jm,pX hx hy iR,rfl,am⟩
     ·simp only [go_sem,sevalprocAttr]
     ·rw [qD junk hx hy]
    rw [if_neg hq] at am
    have hq':¬ (q:Int)<((i - 1:Nat):Int):=by omega
    simp +contextual only [go_sem,aD,sevalprocAttr,aG,e13,we,hq']
    exact aQ aF.rfl' rfl rfl ⟨rfl,rfl,by rw [am],rfl⟩
   rw [if_neg h1] at hS
   have qZ:¬ ((m - a:Nat):Int)=1:=by omega
   by_cases h2:b - m=1
   ·rw [if_pos h2] at hS
    have HB:((b - m:Nat):Int)=1:=by omega
    simp +contextual only [go_sem,aD,sevalprocAttr,w1,qZ,w2,HB]
    obtain ⟨E,hE⟩:∃ E,E=FS (fun h=> !pr cf l m h) a m:=⟨_,rfl⟩
    rw [<- hE] at hS
    have hEb:=z7 (fun h=> !pr cf l m h) a m (by omega)
    rw [<- hE] at hEb
    refine jD [(0,.slice (some ⟨db,0,none⟩) n cap),(1,.int .i64 (a:Int)),(2,.int .i64 (m:Int)),(3,.int .i64 (b:Int)),(4,.func (.func g) #[] ⟨caps⟩)] (fun k e h=>∃ i j,e 14=.int .i64 ((i:Nat):Int)/\e 15=.int .i64 ((j:Nat):Int)/\h=⟨T,M,[(db,fl enc l++junk)],[]⟩/\a<=i/\i<=j/\m>=j/\k=j - i/\E=FS (fun h=> !pr cf l m h) i j) (m - a) (by simp only [aE,go_sem,sevalprocAttr]) ⟨a,m,by simp only [go_sem,sevalprocAttr],by simp only [go_sem,sevalprocAttr],rfl,by omega,by omega,by omega,rfl,hE⟩ ?_
    rintro k e h aG ⟨i,j,e10,e11,rfl,Al,wO,Zd,rfl,am⟩
    simp only [aE] at aG
    rw [FS] at am
    by_cases aL:i<j
    ·rw [if_pos aL] at am
     have w3:IntKind.i64.wrap ((i:Int)+(j:Int))=((i+j:Nat):Int):=by rw [bH (by omega) (by omega)];omega
     have w4:IntKind.i64.wrap (((i+j) / 2:Nat):Int)=(((i+j) / 2:Nat):Int):=bH (by omega) (by omega)
     have hx:m<l.length:=by omega
     have VR:m<n:=by omega
     have cx0:=eg (enc:=enc) junk hx
     have cx1:=eh (enc:=enc) junk hx
     have ox:=hc.one _ (cB _ (gm hx))
     have hy:(i+j) / 2<l.length:=by omega
     have Xn:(i+j) / 2<n:=by omega
     have cy0:=eg (enc:=enc) junk hy
     have cy1:=eh (enc:=enc) junk hy
     have oy:=hc.one _ (cB _ (gm hy))
     simp +contextual only [go_sem,aD,sevalprocAttr,e10,e11,aL,w3,Yl i j (by omega),Ly,w4]
     refine aX ?_
     simp +contextual only [go_sem,sevalprocAttr,aG,VR,cx0,cx1,Xn,cy0,cy1,aC bi.1]
     refine aP (hc.call _ _ (cB _ (gm hx)) (cB _ (gm hy)) _) ?_
     by_cases xB:cf (l[m]'hx) (l[(i+j) / 2]'hy)<0
     ·have hp:pr cf l (m) ((i+j) / 2)=true:=by simp only [pr,fC hx,fC hy];simp [xB]
      rw [if_neg (by simp [hp])] at am
      simp +contextual only [go_sem,aD,sevalprocAttr,xB]
      exact mZ (m':=(i+j) / 2 - i) (by omega) (by simp only [aE,go_sem,sevalprocAttr,aG]) ⟨i,(i+j) / 2,by simp only [go_sem,sevalprocAttr,e10],by simp only [go_sem,sevalprocAttr],rfl,by omega,by omega,by omega,rfl,am⟩
     ·have hp:pr cf l (m) ((i+j) / 2)=false:=by simp only [pr,fC hx,fC hy];simp [xB]
      rw [if_pos (by simp [hp])] at am
      simp +contextual only [go_sem,aD,sevalprocAttr,xB,aA ((i+j) / 2) (by omega)]
      exact mZ (m':=j - ((i+j) / 2+1)) (by omega) (by simp only [aE,go_sem,sevalprocAttr,aG]) ⟨(i+j) / 2+1,j,by simp only [go_sem,sevalprocAttr],by simp only [go_sem,sevalprocAttr,e11],rfl,by omega,by omega,by omega,rfl,am⟩
    rw [if_neg aL] at am
    obtain rfl:=am.symm
    simp +contextual only [go_sem,aD,sevalprocAttr,aG,e10,e11,aL]
    refine jD [(0,.slice (some ⟨db,0,none⟩) n cap),(1,.int .i64 (a:Int)),(2,.int .i64 (m:Int)),(3,.int .i64 (b:Int)),(4,.func (.func g) #[] ⟨caps⟩),(14,.int .i64 ((i:Nat):Int))] (fun k e h=>∃ q l',e 17=.int .i64 ((q:Nat):Int)/\h=⟨T,M,[(db,fl enc l'++junk)],[]⟩/\l'.length=n/\(∀ e∈l',ok e)/\q<=m/\k=q/\S=uP i q l') m (by simp only [aE,go_sem,sevalprocAttr,aG,e10]) ⟨m,l,by simp only [go_sem,sevalprocAttr],rfl,hl,cB,by omega,rfl,hS⟩ ?_
    rintro q e h aG ⟨_,l',e13,rfl,jm,iR,hqm,rfl,am⟩
    simp only [aE] at aG
    by_cases hq:i<q
    ·obtain ⟨q,rfl⟩:∃ k,q=k+1:=⟨q - 1,by omega⟩
     rw [uP,if_pos hq] at am
     have hx:q<l'.length:=by omega
     have VR:q<n:=by omega
     have cx0:=eg (enc:=enc) junk hx
     have cx1:=eh (enc:=enc) junk hx
     have ox:=hc.one _ (iR _ (gm hx))
     have hy:q+1<l'.length:=by omega
     have Xn:q+1<n:=by omega
     have cy0:=eg (enc:=enc) junk hy
     have cy1:=eh (enc:=enc) junk hy
     have oy:=hc.one _ (iR _ (gm hy))
     have e1:IntKind.i64.wrap (((q+1:Nat):Int) - 1)=((q:Nat):Int):=by rw [bH (by omega) (by omega)];omega
     have hlx:q*2+2<=(fl enc l'++junk).length:=by rw [List.length_append,jh];omega
     have hly:(q+1)*2+2<=(fl enc l'++junk).length:=by rw [List.length_append,jh];omega
     simp +contextual only [go_sem,aD,sevalprocAttr,aG,e13,hq]
     refine aX ?_
     simp +contextual only [go_sem,sevalprocAttr,aG,e13,VR,cx0,cx1,ox,Xn,cy0,cy1,oy,aC bi.1,hlx,hly,e1]
     refine mZ (m':=q) (by omega) (by simp only [aE,go_sem,sevalprocAttr,aG]) ⟨q,sw l' (q+1) q,?_,?_,by rw [kD];exact jm,pX hy hx iR,by omega,rfl,am⟩
     ·simp only [go_sem,sevalprocAttr]
     ·rw [qD junk hy hx]
    have am:S=l':=by
     cases q with
     | zero=>rw [am,uP]
     | succ q=>rw [am,uP,if_neg hq]
    simp +contextual only [go_sem,aD,sevalprocAttr,aG,e13,hq]
    exact aQ aF.rfl' rfl rfl ⟨rfl,rfl,by rw [am],rfl⟩
   rw [if_neg h2] at hS
   have HB:¬ ((b - m:Nat):Int)=1:=by omega
   obtain ⟨mid,TE⟩:∃ mid,mid=(a+b) / 2:=⟨_,rfl⟩
   have wab:IntKind.i64.wrap ((a:Int)+(b:Int))=((a+b:Nat):Int):=by rw [bH (by omega) (by omega)];omega
   have wm0:IntKind.i64.wrap (mid:Int)=(mid:Int):=bH (by omega) (by omega)
   have wm1:IntKind.i64.wrap ((mid:Int)+(m:Int))=((mid+m:Nat):Int):=by rw [bH (by omega) (by omega)];omega
   obtain ⟨s0,xh⟩:∃ s0,s0=if mid<m then mid+m - b else a:=⟨_,rfl⟩
   obtain ⟨r0,rL⟩:∃ r0,r0=if mid<m then mid else m:=⟨_,rfl⟩
   have Aw:s0<=r0/\r0<=m/\r0<=mid/\mid+m - s0<=b/\a<=s0/\s0<=m:=by rw [xh,rL];split<;>omega
   simp +contextual only [go_sem,sevalprocAttr,w1,qZ]
   simp only [dG,Bool.false_eq_true,if_false]
   simp +contextual only [go_sem,sevalprocAttr,w2,HB]
   simp only [dG,Bool.false_eq_true,if_false]
   simp +contextual only [go_sem,sevalprocAttr,wab,Yl a b (by omega),Ly,<- TE,wm0,wm1]
   refine eU (fun e ds h=>ds=[]/\aE e [(0,.slice (some ⟨db,0,none⟩) n cap),(1,.int .i64 (a:Int)),(2,.int .i64 (m:Int)),(3,.int .i64 (b:Int)),(4,.func (.func g) #[] ⟨caps⟩),(18,.int .i64 ((mid:Nat):Int)),(19,.int .i64 ((mid+m:Nat):Int)),(20,.int .i64 ((s0:Nat):Int)),(21,.int .i64 ((r0:Nat):Int))]/\h=⟨T,M,[(db,fl enc l++junk)],[]⟩) (fun S' eY=> ?_) ?_
   ·rw [dG]
    by_cases hmm:mid<m
    ·rw [if_pos hmm] at xh rL
     have wn:IntKind.i64.wrap (((mid+m:Nat):Int) - (b:Int))=((mid+m - b:Nat):Int):=by rw [bH (by omega) (by omega)];omega
     simp +contextual only [go_sem,sevalprocAttr,hmm,wn]
     exact eY _ _ _ ⟨rfl,by simp only [aE,xh,rL,go_sem,sevalprocAttr],rfl⟩
    ·rw [if_neg hmm] at xh rL
     simp +contextual only [go_sem,sevalprocAttr,hmm]
     exact eY _ _ _ ⟨rfl,by simp only [aE,xh,rL,go_sem,sevalprocAttr],rfl⟩
   rintro e ds h ⟨rfl,aG,rfl⟩
   simp only [aE] at aG
   have wn1:IntKind.i64.wrap (((mid+m:Nat):Int) - 1)=((mid+m - 1:Nat):Int):=by rw [bH (by omega) (by omega)];omega
   simp +contextual only [go_sem,sevalprocAttr,OT,aG,wn1]
   obtain ⟨E,hE⟩:∃ E,E=FS (fun c=> !pr cf l (mid+m - 1 - c) c) s0 r0:=⟨_,rfl⟩
   have hEb:=z7 (fun c=> !pr cf l (mid+m - 1 - c) c) s0 r0 (by omega)
   rw [<- hE] at hEb
   refine jD [(0,.slice (some ⟨db,0,none⟩) n cap),(1,.int .i64 (a:Int)),(2,.int .i64 (m:Int)),(3,.int .i64 (b:Int)),(4,.func (.func g) #[] ⟨caps⟩),(18,.int .i64 ((mid:Nat):Int)),(19,.int .i64 ((mid+m:Nat):Int)),(22,.int .i64 ((mid+m - 1:Nat):Int))] (fun k e h=>∃ i j,e 20=.int .i64 ((i:Nat):Int)/\e 21=.int .i64 ((j:Nat):Int)/\h=⟨T,M,[(db,fl enc l++junk)],[]⟩/\s0<=i/\i<=j/\r0>=j/\k=j - i/\E=FS (fun c=> !pr cf l (mid+m - 1 - c) c) i j) (r0 - s0) (by simp only [aE,go_sem,sevalprocAttr,aG]) ⟨s0,r0,by simp only [go_sem,sevalprocAttr,aG],by simp only [go_sem,sevalprocAttr,aG],rfl,by omega,by omega,by omega,rfl,hE⟩ ?_
   rintro k e h aG ⟨i,j,e10,e11,rfl,Al,wO,Zd,rfl,am⟩
   simp only [aE] at aG
   rw [FS] at am
   by_cases aL:i<j
   ·rw [if_pos aL] at am
    have w3:IntKind.i64.wrap ((i:Int)+(j:Int))=((i+j:Nat):Int):=by rw [bH (by omega) (by omega)];omega
    have w4:IntKind.i64.wrap (((i+j) / 2:Nat):Int)=(((i+j) / 2:Nat):Int):=bH (by omega) (by omega)
    have hx:mid+m - 1 - (i+j) / 2<l.length:=by omega
    have VR:mid+m - 1 - (i+j) / 2<n:=by omega
    have cx0:=eg (enc:=enc) junk hx
    have cx1:=eh (enc:=enc) junk hx
    have ox:=hc.one _ (cB _ (gm hx))
    have hy:(i+j) / 2<l.length:=by omega
    have Xn:(i+j) / 2<n:=by omega
    have cy0:=eg (enc:=enc) junk hy
    have cy1:=eh (enc:=enc) junk hy
    have oy:=hc.one _ (cB _ (gm hy))
    have wpc:IntKind.i64.wrap (((mid+m - 1:Nat):Int) - (((i+j) / 2:Nat):Int))=((mid+m - 1 - (i+j) / 2:Nat):Int):=by rw [bH (by omega) (by omega)];omega
    simp +contextual only [go_sem,aD,sevalprocAttr,e10,e11,aL,w3,Yl i j (by omega),Ly,w4]
    refine aX ?_
    simp +contextual only [go_sem,sevalprocAttr,aG,VR,cx0,cx1,Xn,cy0,cy1,aC bi.1,wpc]
    refine aP (hc.call _ _ (cB _ (gm hx)) (cB _ (gm hy)) _) ?_
    by_cases xB:cf (l[mid+m - 1 - (i+j) / 2]'hx) (l[(i+j) / 2]'hy)<0
    ·have hp:pr cf l (mid+m - 1 - (i+j) / 2) ((i+j) / 2)=true:=by simp only [pr,fC hx,fC hy];simp [xB]
     rw [if_neg (by simp [hp])] at am
     simp +contextual only [go_sem,aD,sevalprocAttr,xB]
     exact mZ (m':=(i+j) / 2 - i) (by omega) (by simp only [aE,go_sem,sevalprocAttr,aG]) ⟨i,(i+j) / 2,by simp only [go_sem,sevalprocAttr,e10],by simp only [go_sem,sevalprocAttr],rfl,by omega,by omega,by omega,rfl,am⟩
    ·have hp:pr cf l (mid+m - 1 - (i+j) / 2) ((i+j) / 2)=false:=by simp only [pr,fC hx,fC hy];simp [xB]
     rw [if_pos (by simp [hp])] at am
     simp +contextual only [go_sem,aD,sevalprocAttr,xB,aA ((i+j) / 2) (by omega)]
     exact mZ (m':=j - ((i+j) / 2+1)) (by omega) (by simp only [aE,go_sem,sevalprocAttr,aG]) ⟨(i+j) / 2+1,j,by simp only [go_sem,sevalprocAttr],by simp only [go_sem,sevalprocAttr,e11],rfl,by omega,by omega,by omega,rfl,am⟩
   rw [if_neg aL] at am
   obtain rfl:=am.symm
   simp +contextual only [go_sem,sevalprocAttr,e10,e11,aL]
   simp only [dG,Bool.false_eq_true,if_false]
   have qL:dL cf l a m b=i:=by unfold dL;rw [<- TE,<- xh,<- rL];exact hE.symm
   have wen:IntKind.i64.wrap (((mid+m:Nat):Int) - (i:Int))=((mid+m - i:Nat):Int):=by rw [bH (by omega) (by omega)];omega
   obtain ⟨en,hen⟩:∃ en,en=mid+m - i:=⟨_,rfl⟩
   rw [qL,<- TE,<- hen] at hS
   have anX:mid<=en/\en<=b/\m<=en:=by omega
   simp +contextual only [go_sem,sevalprocAttr,aG,e10,wen,<- hen]
   obtain ⟨l1,gK⟩:∃ l1,l1=nM l m i en:=⟨_,rfl⟩
   rw [<- gK] at hS
   have l1n:l1.length=n:=by rw [gK];unfold nM;split;rw [Kq];exact hl;exact hl
   have l1ok:∀ e∈l1,ok e:=by rw [gK];unfold nM;split;exact Lj _ _ _ _ (by omega) (by omega) (by omega) cB;exact cB
   refine eU (fun e ds h=>ds=[]/\aE e [(0,.slice (some ⟨db,0,none⟩) n cap),(1,.int .i64 (a:Int)),(3,.int .i64 (b:Int)),(4,.func (.func g) #[] ⟨caps⟩),(18,.int .i64 ((mid:Nat):Int)),(20,.int .i64 ((i:Nat):Int)),(24,.int .i64 ((en:Nat):Int))]/\h=⟨T,M,[(db,fl enc l1++junk)],[]⟩) (fun S' eY=> ?_) ?_
   ·rw [dG]
    by_cases hr:i<m/\m<en
    ·have abp:l1=Cd l m (m - i) (en - m):=by rw [gK,nM,if_pos hr]
     simp +contextual only [go_sem,sevalprocAttr,hr,aG,e10]
     refine jk (V6 L7 hc.one hl lS cB hr.1 hr.2 (by omega) hn _) ?_
     simp +contextual only [go_sem,sevalprocAttr]
     exact eY _ _ _ ⟨rfl,by simp only [aE,go_sem,sevalprocAttr,aG,e10],by rw [abp]⟩
    ·have abp:l1=l:=by rw [gK,nM,if_neg hr]
     simp +contextual only [go_sem,sevalprocAttr,hr]
     exact eY _ _ _ ⟨rfl,by simp only [aE,go_sem,sevalprocAttr,aG,e10],by rw [abp]⟩
   rintro e2 ds h ⟨rfl,aG,rfl⟩
   simp only [aE] at aG
   simp +contextual only [go_sem,sevalprocAttr,aG]
   obtain ⟨l2,fp⟩:∃ l2,l2=if a<i/\i<mid then mU cf l1 a i mid else l1:=⟨_,rfl⟩
   rw [<- fp] at hS
   have l2i:l2.length=n/\∀ e∈l2,ok e:=by
    rw [fp]
    split
    ·rename_i hq
     have hi:=us _ cf l1 a i mid (Nat.le_refl _) hq.1 hq.2 (by omega)
     exact ⟨by rw [hi.1];exact l1n,hi.2 ok l1ok⟩
    ·exact ⟨l1n,l1ok⟩
   refine eU (fun e ds h=>ds=[]/\aE e [(0,.slice (some ⟨db,0,none⟩) n cap),(3,.int .i64 (b:Int)),(4,.func (.func g) #[] ⟨caps⟩),(18,.int .i64 ((mid:Nat):Int)),(24,.int .i64 ((en:Nat):Int))]/\h=⟨T,M,[(db,fl enc l2++junk)],[]⟩) (fun S' eY=> ?_) ?_
   ·rw [dG]
    by_cases hr:a<i/\i<mid
    ·rw [if_pos hr] at fp
     simp +contextual only [go_sem,sevalprocAttr,hr,aG]
     refine jk (ih db n cap a i mid l1 junk (by omega) l1n lS l1ok hr.1 hr.2 (by omega) hn _) ?_
     simp +contextual only [go_sem,sevalprocAttr]
     exact eY _ _ _ ⟨rfl,by simp only [aE,go_sem,sevalprocAttr,aG],by rw [fp]⟩
    ·rw [if_neg hr] at fp
     simp +contextual only [go_sem,sevalprocAttr,hr]
     exact eY _ _ _ ⟨rfl,by simp only [aE,go_sem,sevalprocAttr,aG],by rw [fp]⟩
   rintro e3 ds h ⟨rfl,aG,rfl⟩
   simp only [aE] at aG
   by_cases hr:mid<en/\en<b
   ·rw [if_pos hr] at hS
    simp +contextual only [go_sem,aD,sevalprocAttr,hr,aG]
    refine jk (ih db n cap mid en b l2 junk (by omega) l2i.1 lS l2i.2 hr.1 hr.2 (by omega) hn _) ?_
    simp +contextual only [go_sem,sevalprocAttr]
    exact aQ aF.rfl' rfl rfl ⟨rfl,rfl,by rw [hS],rfl⟩
   ·rw [if_neg hr] at hS
    simp +contextual only [go_sem,aD,sevalprocAttr,hr,aG]
    exact aQ aF.rfl' rfl rfl ⟨rfl,rfl,by rw [hS],rfl⟩
def OR {α:Type}[Inhabited α](cf:α ->α ->Int)(l:List α)(a n:Nat):List α:=if a+20<=n then OR cf (py cf l a (a+20)) (a+20) n else py cf l a n
termination_by n - a
decreasing_by omega
def NX {α:Type}[Inhabited α](cf:α ->α ->Int)(s:Nat)(l:List α)(a n:Nat):List α:=
 if 0<s/\a+2*s<=n then NX cf s (mU cf l a (a+s) (a+2*s)) (a+2*s) n else if 0<s/\a+s<n then mU cf l a (a+s) n else l
termination_by n - a
decreasing_by omega
def Pd {α:Type}[Inhabited α](cf:α ->α ->Int)(s:Nat)(l:List α)(n:Nat):List α:=if 0<s/\s<n then Pd cf (2*s) (NX cf s l 0 n) n else l
termination_by n - s
decreasing_by omega
def jf {α:Type}[Inhabited α](cf:α ->α ->Int)(l:List α):List α:=Pd cf 20 (OR cf l 0 l.length) l.length
def qi {α:Type}[Inhabited α](l l':List α):Prop:=l'.length=l.length/\∀ ok:α ->Prop,(∀ x∈l,ok x) ->∀ x∈l',ok x
theorem qi.rfl' {α:Type}[Inhabited α]{l:List α}:qi l l:=⟨rfl,fun _ h=>h⟩
theorem qi.trans {α:Type}[Inhabited α]{a b c:List α}(h:qi a b)(h':qi b c):qi a c:=⟨h'.1.trans h.1,fun ok hh=>h'.2 ok (h.2 ok hh)⟩
theorem zA {α:Type}[Inhabited α](cf:α ->α ->Int)(a:Nat):∀ (j:Nat) (l:List α),j<l.length ->qi l (lw cf a j l)
 | 0,l,_=> .rfl'
 | j+1,l,hj=>by
  rw [lw]
  split
  ·exact qi.trans ⟨kD _ _ _,fun ok h=>pX hj (by omega) h⟩ (zA cf a j _ (by rw [kD];omega))
  ·exact .rfl'
theorem B6 {α:Type}[Inhabited α](cf:α ->α ->Int)(a:Nat):∀ (f i:Nat) (l:List α),i+f<=l.length ->qi l (wS cf a f i l)
 | 0,i,l,_=> .rfl'
 | f+1,i,l,h=>by
  have h1:=zA cf a i l (by omega)
  exact h1.trans (B6 cf a f (i+1) _ (by rw [h1.1];omega))
theorem vx {α:Type}[Inhabited α](cf:α ->α ->Int)(l:List α)(a b:Nat)(h:b<=l.length):qi l (py cf l a b):=by
 unfold py
 by_cases W7:a+1<=b
 ·exact B6 cf a _ _ _ (by omega)
 ·have:b - (a+1)=0:=by omega
  rw [this];exact .rfl'
theorem FI {α:Type}[Inhabited α](cf:α ->α ->Int)(l:List α)(a n:Nat)(h:n<=l.length):qi l (OR cf l a n):=by
 fun_induction OR cf l a n with
 | case1 l a h1 ih=>have h2:=vx cf l a (a+20) (by omega);exact h2.trans (ih (by rw [h2.1];exact h))
 | case2 l a h1=>exact vx cf l a n h
theorem G1 {α:Type}[Inhabited α](cf:α ->α ->Int)(s:Nat)(l:List α)(a n:Nat)(h:n<=l.length):qi l (NX cf s l a n):=by
 fun_induction NX cf s l a n with
 | case1 l a h1 ih=>have h2:=us _ cf l a (a+s) (a+2*s) (Nat.le_refl _) (by omega) (by omega) (by omega);exact qi.trans h2 (ih (by rw [h2.1];exact h))
 | case2 l a h1 h2=>exact us _ cf l a (a+s) n (Nat.le_refl _) (by omega) (by omega) (by omega)
 | case3=>exact .rfl'
theorem SW {α:Type}[Inhabited α](cf:α ->α ->Int)(s:Nat)(l:List α)(n:Nat)(h:n<=l.length):qi l (Pd cf s l n):=by
 fun_induction Pd cf s l n with
 | case1 s l h1 ih=>have h2:=G1 cf s l 0 n h;exact h2.trans (ih (by rw [h2.1];exact h))
 | case2=>exact .rfl'
theorem IN {α:Type}[Inhabited α](cf:α ->α ->Int)(l:List α):qi l (jf cf l):=by
 have h:=FI cf l 0 l.length (Nat.le_refl _)
 exact h.trans (SW cf 20 _ _ (by rw [h.1];exact Nat.le_refl _))
variable {M:aS} {α:Type} [Inhabited α] {enc:α ->PV}
theorem PJ {fi fs fr fm ft fo:FuncId}(hs:SF fi fs fr fm ft fo){g:FuncId}{caps:List Value}{cf:α ->α ->Int}{ok:α ->Prop}(hc:CmpOk M enc g caps cf ok){db n cap:Nat}{l:List α}{junk:List Value}(hl:l.length=n)(lS:n<=cap)(cB:∀ e∈l,ok e)(hn:n<=4294967296)(T:Tm):
 bV Tryz.prog ft [.slice (some ⟨db,0,none⟩) n cap,.int .i64 (n:Int),.func (.func g) #[] ⟨caps⟩] T M [(db,fl enc l++junk)] [] (fun r M' L' R'=>r=.tuple #[]/\M'=M/\L'=[(db,fl enc (jf cf l)++junk)]/\R'=[]) aM:=by
 obtain ⟨S,hS⟩:∃ S,S=jf cf l:=⟨_,rfl⟩
 rw [<- hS]
 unfold jf at hS
 rw [hl] at hS
 obtain ⟨l1,gK⟩:∃ l1,l1=OR cf l 0 n:=⟨_,rfl⟩
 rw [<- gK] at hS
 have iX:qi l l1:=by rw [gK];exact FI cf l 0 n (by omega)
 have L7:=hs
 cases hs
 all_goals
  refine az aic rfl rfl ?_
  intro bi _
  simp +contextual only [go_sem,aD,sevalprocAttr]
  refine jD [(0,.slice (some ⟨db,0,none⟩) n cap),(1,.int .i64 (n:Int)),(2,.func (.func g) #[] ⟨caps⟩),(6,.int .i64 20)] (fun k e h=>∃ a l',e 7=.int .i64 ((a:Nat):Int)/\e 8=.int .i64 ((a+20:Nat):Int)/\h=⟨T,M,[(db,fl enc l'++junk)],[]⟩/\l'.length=n/\(∀ e∈l',ok e)/\a<=n/\k=n - a/\l1=OR cf l' a n) n (by simp only [aE,go_sem,sevalprocAttr]) ⟨0,l,by simp only [go_sem,sevalprocAttr],by simp only [go_sem,sevalprocAttr],rfl,hl,cB,by omega,rfl,gK⟩ ?_
  rintro k e h aG ⟨a,l',e7,e8,rfl,jm,iR,han,rfl,am⟩
  simp only [aE] at aG
  rw [OR] at am
  by_cases aL:a+20<=n
  ·rw [if_pos aL] at am
   have w1:IntKind.i64.wrap (((a+20:Nat):Int)+20)=((a+20+20:Nat):Int):=by rw [bH (by omega) (by omega)];omega
   simp +contextual only [go_sem,aD,sevalprocAttr,aG,e7,e8,aL]
   refine jk (Mg L7 hc jm lS iR (by omega) aL hn _) ?_
   have hs:=vx cf l' a (a+20) (by omega)
   simp +contextual only [go_sem,sevalprocAttr,aG,e8,w1]
   exact mZ (m':=n - (a+20)) (by omega) (by simp only [aE,go_sem,sevalprocAttr,aG]) ⟨a+20,_,by simp only [go_sem,sevalprocAttr],by simp only [go_sem,sevalprocAttr],rfl,by rw [hs.1];exact jm,hs.2 ok iR,by omega,rfl,am⟩
  rw [if_neg aL] at am
  simp +contextual only [go_sem,aD,sevalprocAttr,aG,e7,e8,aL]
  refine jk (Mg L7 hc jm lS iR han (Nat.le_refl _) hn _) ?_
  rw [<- am]
  simp +contextual only [go_sem,aD,sevalprocAttr]
  refine jD [(0,.slice (some ⟨db,0,none⟩) n cap),(1,.int .i64 (n:Int)),(2,.func (.func g) #[] ⟨caps⟩)] (fun k e h=>∃ s l',e 6=.int .i64 ((s:Nat):Int)/\h=⟨T,M,[(db,fl enc l'++junk)],[]⟩/\l'.length=n/\(∀ e∈l',ok e)/\0<s/\s<=2*n+20/\k=n - s/\S=Pd cf s l' n) (n - 20) (by simp only [aE,go_sem,sevalprocAttr,aG]) ⟨20,l1,by simp only [go_sem,sevalprocAttr,aG],rfl,by rw [iX.1];exact hl,iX.2 ok cB,by omega,by omega,rfl,hS⟩ ?_
  rintro k e h aG ⟨s,l2,e6,rfl,fp,pq,xh,hsn,rfl,am⟩
  simp only [aE] at aG
  rw [Pd] at am
  by_cases aL:s<n
  rotate_left
  ·rw [if_neg (fun h=>aL h.2)] at am
   simp +contextual only [go_sem,aD,sevalprocAttr,aG,e6,aL]
   exact aQ aF.rfl' rfl rfl ⟨rfl,rfl,by rw [am],rfl⟩
  rw [if_pos ⟨xh,aL⟩] at am
  have w2:IntKind.i64.wrap (2*(s:Int))=((2*s:Nat):Int):=by rw [bH (by omega) (by omega)];omega
  have w2':IntKind.i64.wrap ((s:Int)*2)=((2*s:Nat):Int):=by rw [bH (by omega) (by omega)];omega
  obtain ⟨l3,fF⟩:∃ l3,l3=NX cf s l2 0 n:=⟨_,rfl⟩
  rw [<- fF] at am
  have Ft:qi l2 l3:=by rw [fF];exact G1 cf s l2 0 n (by omega)
  simp +contextual only [go_sem,aD,sevalprocAttr,aG,e6,aL,w2]
  refine jD [(0,.slice (some ⟨db,0,none⟩) n cap),(1,.int .i64 (n:Int)),(2,.func (.func g) #[] ⟨caps⟩),(6,.int .i64 (s:Int))] (fun k e h=>∃ a l',e 7=.int .i64 ((a:Nat):Int)/\e 8=.int .i64 ((a+2*s:Nat):Int)/\h=⟨T,M,[(db,fl enc l'++junk)],[]⟩/\l'.length=n/\(∀ e∈l',ok e)/\a<=n/\k=n - a/\l3=NX cf s l' a n) n (by simp only [aE,go_sem,sevalprocAttr,aG,e6]) ⟨0,l2,by simp only [go_sem,sevalprocAttr],by simp only [go_sem,sevalprocAttr,Nat.zero_add],rfl,fp,pq,by omega,rfl,fF⟩ ?_
  rintro k e h aG ⟨a,l',e7,e8,rfl,jm,iR,han,rfl,vH⟩
  simp only [aE] at aG
  rw [NX] at vH
  have w3:IntKind.i64.wrap ((a:Int)+(s:Int))=((a+s:Nat):Int):=by rw [bH (by omega) (by omega)];omega
  by_cases di:a+2*s<=n
  ·rw [if_pos ⟨xh,di⟩] at vH
   have w4:IntKind.i64.wrap (((a+2*s:Nat):Int)+((2*s:Nat):Int))=((a+2*s+2*s:Nat):Int):=by rw [bH (by omega) (by omega)];omega
   simp +contextual only [go_sem,aD,sevalprocAttr,aG,e7,e8,di,w3]
   refine jk (LX L7 hc _ db n cap a (a+s) (a+2*s) l' junk (Nat.le_refl _) jm lS iR (by omega) (by omega) di hn _) ?_
   have hs:=us _ cf l' a (a+s) (a+2*s) (Nat.le_refl _) (by omega) (by omega) (by omega)
   simp +contextual only [go_sem,sevalprocAttr,aG,e8,w2,w4]
   exact mZ (m':=n - (a+2*s)) (by omega) (by simp only [aE,go_sem,sevalprocAttr,aG]) ⟨a+2*s,_,by simp only [go_sem,sevalprocAttr],by simp only [go_sem,sevalprocAttr],rfl,by rw [hs.1];exact jm,hs.2 ok iR,by omega,rfl,vH⟩
  rw [if_neg (fun h=>di h.2)] at vH
  simp +contextual only [go_sem,aD,sevalprocAttr,aG,e7,e8,di,w3]
  by_cases hmn:a+s<n
  ·rw [if_pos ⟨xh,hmn⟩] at vH
   simp +contextual only [go_sem,sevalprocAttr,hmn]
   refine jk (LX L7 hc _ db n cap a (a+s) n l' junk (Nat.le_refl _) jm lS iR (by omega) hmn (Nat.le_refl _) hn _) ?_
   rw [<- vH]
   simp +contextual only [go_sem,sevalprocAttr,aG,w2']
   exact mZ (m':=n - 2*s) (by omega) (by simp only [aE,go_sem,sevalprocAttr,aG]) ⟨2*s,l3,by simp only [go_sem,sevalprocAttr],rfl,by rw [Ft.1];exact fp,Ft.2 ok pq,by omega,by omega,rfl,am⟩
  ·rw [if_neg (fun h=>hmn h.2)] at vH
   simp +contextual only [go_sem,sevalprocAttr,hmn]
   exact mZ (m':=n - 2*s) (by omega) (by simp only [aE,go_sem,sevalprocAttr,aG]) ⟨2*s,l',by simp only [go_sem,sevalprocAttr,w2'],rfl,jm,iR,by omega,by omega,rfl,by rw [<- vH];exact am⟩
theorem QP {fi fs fr fm ft fo:FuncId}(hs:SF fi fs fr fm ft fo){g:FuncId}{caps:List Value}{cf:α ->α ->Int}{ok:α ->Prop}(hc:CmpOk M enc g caps cf ok){db n cap:Nat}{l:List α}{junk:List Value}(hl:l.length=n)(lS:n<=cap)(cB:∀ e∈l,ok e)(hn:n<=4294967296)(T:Tm):
 bV Tryz.prog fo [.slice (some ⟨db,0,none⟩) n cap,.func (.func g) #[] ⟨caps⟩] T M [(db,fl enc l++junk)] [] (fun r M' L' R'=>r=.tuple #[]/\M'=M/\L'=[(db,fl enc (jf cf l)++junk)]/\R'=[]) aM:=by
 have L7:=hs
 cases hs
 all_goals
  refine az akO rfl rfl ?_
  intro bi _
  simp +contextual only [go_sem,sevalprocAttr]
  refine jk (PJ L7 hc hl lS cB hn _) ?_
  simp +contextual only [go_sem,sevalprocAttr]
  exact aQ aF.rfl' rfl rfl ⟨rfl,rfl,rfl,rfl⟩
section
variable {α β:Type} [Inhabited α] [Inhabited β] {f:α ->β} (hd:f default=default) {cf:α ->α ->Int} {cg:β ->β ->Int} (hc:∀ x y,cg (f x) (f y)=cf x y)
include hd
theorem A7 (l:List α)(i:Nat):(l.map f).getD i default=f (l.getD i default):=by
 simp only [List.getD_eq_getElem?_getD,List.getElem?_map]
 cases l[i]?<;>simp [hd]
theorem DK (l:List α)(i j:Nat):sw (l.map f) i j=(sw l i j).map f:=by
 simp only [sw,A7 hd,List.map_set]
theorem xo (a b:Nat):∀ (n i:Nat) (l:List α),Gu a b n i (l.map f)=(Gu a b n i l).map f
 | 0,_,_=>rfl
 | n+1,i,l=>by rw [Gu,Gu,DK hd,xo a b n]
theorem W4 (l:List α)(m i j:Nat):Cd (l.map f) m i j=(Cd l m i j).map f:=by
 fun_induction Cd l m i j with
 | case1 l i j h h2 ih=>rw [Cd,if_pos h,if_pos h2,xo hd,ih]
 | case2 l i j h h2 ih=>rw [Cd,if_pos h,if_neg h2,xo hd,ih]
 | case3 l i j h=>rw [Cd,if_neg h,xo hd]
theorem FE (l:List α)(m st en:Nat):nM (l.map f) m st en=(nM l m st en).map f:=by
 unfold nM;split
 ·exact W4 hd _ _ _ _
 ·rfl
theorem Fw (l:List α)(k e:Nat):xd (l.map f) k e=(xd l k e).map f:=by
 fun_induction xd l k e with
 | case1 l k h ih=>rw [xd,if_pos h,DK hd,ih]
 | case2 l k h=>rw [xd,if_neg h]
theorem yg (i:Nat):∀ (k:Nat) (l:List α),uP i k (l.map f)=(uP i k l).map f
 | 0,_=>rfl
 | k+1,l=>by
  rw [uP,uP]
  split
  ·rw [DK hd,yg i k]
  ·rfl
include hc
theorem xl (l:List α)(i j:Nat):pr cg (l.map f) i j=pr cf l i j:=by simp only [pr,A7 hd,hc]
theorem Bm (a:Nat):∀ (j:Nat) (l:List α),lw cg a j (l.map f)=(lw cf a j l).map f
 | 0,_=>rfl
 | j+1,l=>by
  rw [lw,lw,xl hd hc]
  split
  ·rw [DK hd,Bm a j]
  ·rfl
theorem zT (a:Nat):∀ (n i:Nat) (l:List α),wS cg a n i (l.map f)=(wS cf a n i l).map f
 | 0,_,_=>rfl
 | n+1,i,l=>by rw [wS,wS,Bm hd hc,zT a n]
theorem BR (l:List α)(a m b:Nat):dL cg (l.map f) a m b=dL cf l a m b:=by
 unfold dL;simp only [xl hd hc]
theorem FD:∀ (d:Nat) (l:List α) (a m b:Nat),b - a<=d ->mU cg (l.map f) a m b=(mU cf l a m b).map f:=by
 intro d
 induction d with
 | zero=>
  intro l a m b h
  conv=>lhs;rw [mU]
  conv=>rhs;rw [mU]
  rw [BR hd hc,FE hd]
  simp only [xl hd hc]
  split
  ·exact Fw hd _ _ _
  split
  ·exact yg hd _ _ _
  rw [if_neg (by omega),if_neg (by omega),if_neg (by omega),if_neg (by omega)]
 | succ d ih=>
  intro l a m b h
  conv=>lhs;rw [mU]
  conv=>rhs;rw [mU]
  rw [BR hd hc,FE hd]
  simp only [xl hd hc]
  split
  ·exact Fw hd _ _ _
  split
  ·exact yg hd _ _ _
  have h2:(if a<dL cf l a m b/\dL cf l a m b<(a+b) / 2 then mU cg ((nM l m (dL cf l a m b) ((a+b) / 2+m - dL cf l a m b)).map f) a (dL cf l a m b) ((a+b) / 2) else (nM l m (dL cf l a m b) ((a+b) / 2+m - dL cf l a m b)).map f)=
   (if a<dL cf l a m b/\dL cf l a m b<(a+b) / 2 then mU cf (nM l m (dL cf l a m b) ((a+b) / 2+m - dL cf l a m b)) a (dL cf l a m b) ((a+b) / 2) else nM l m (dL cf l a m b) ((a+b) / 2+m - dL cf l a m b)).map f:=by
   split
   ·exact ih _ _ _ _ (by omega)
   ·rfl
  rw [h2]
  split
  ·exact ih _ _ _ _ (by omega)
  ·rfl
theorem Wa (l:List α)(a n:Nat):OR cg (l.map f) a n=(OR cf l a n).map f:=by
 fun_induction OR cf l a n with
 | case1 l a h ih=>rw [OR,if_pos h,py,zT hd hc];exact ih
 | case2 l a h=>rw [OR,if_neg h,py,zT hd hc];rfl
theorem Xl (s:Nat)(l:List α)(a n:Nat):NX cg s (l.map f) a n=(NX cf s l a n).map f:=by
 fun_induction NX cf s l a n with
 | case1 l a h ih=>rw [NX,if_pos h,FD hd hc _ _ _ _ _ (Nat.le_refl _)];exact ih
 | case2 l a h h2=>rw [NX,if_neg h,if_pos h2,FD hd hc _ _ _ _ _ (Nat.le_refl _)]
 | case3 l a h h2=>rw [NX,if_neg h,if_neg h2]
theorem VN (s:Nat)(l:List α)(n:Nat):Pd cg s (l.map f) n=(Pd cf s l n).map f:=by
 fun_induction Pd cf s l n with
 | case1 s l h ih=>rw [Pd,if_pos h,Xl hd hc];exact ih
 | case2 s l h=>rw [Pd,if_neg h]
theorem O0 (l:List α):jf cg (l.map f)=(jf cf l).map f:=by
 unfold jf
 rw [List.length_map,Wa hd hc,VN hd hc]
end
def Sk (l:List V):List Value:=l.flatMap V.cs
theorem Lt:∀ (l:List V),(Sk l).length=l.length*3
 | []=>rfl
 | e::l=>by
  have:=Lt l
  simp only [Sk,List.flatMap_cons,List.length_append,List.length_cons,V.cs,List.length_nil] at this ⊢
  omega
theorem KD:∀ {l:List V} {i:Nat} (k n:Int) (t:Bs) (h:i<l.length),(((Sk l).set (i*3) (.int .i64 k)).set (i*3+1) (.int .i64 n)).set (i*3+2) (.string (bs t))=Sk (l.set i ⟨k,n,t⟩)
 | e::l,0,_,_,_,_=>rfl
 | e::l,i+1,k,n,t,h=>by
  have:=KD (l:=l) (i:=i) k n t (by simpa using h)
  have h1:(i+1)*3=i*3+3:=by omega
  have h2:(i+1)*3+1=(i*3+1)+3:=by omega
  have h3:(i+1)*3+2=(i*3+2)+3:=by omega
  rw [h3,h2,h1]
  simpa [Sk,V.cs] using this
theorem GH:∀ (n:Nat),((List.range n).flatMap fun _=>[.int .i64 0,.int .i64 0,.string (bs [])])=Sk (List.replicate n ⟨0,0,[]⟩)
 | 0=>rfl
 | n+1=>by
  rw [List.range_succ,List.flatMap_append,GH n,List.replicate_succ']
  simp [Sk,V.cs,st]
theorem U3:∀ (l:List V),RL RV l (Sk l)
 | []=>rfl
 | e::l=>⟨e.cs,Sk l,rfl,rfl,U3 l⟩
theorem rX {α:Type}{l m:List α}{i:Nat}{x:α}(h:l.take i=m.take i)(hi:i<l.length)(hx:m[i]?=some x):(l.set i x).take (i+1)=m.take (i+1):=by
 rw [List.take_add_one,List.take_add_one,List.take_set_of_le (Nat.le_refl _),h]
 simp [hi,hx]
variable {M:aS}
theorem Lo {r:List V}{rv:Value}(hr:RS M RV 3 r rv)(bq:r.length<=4294967296)(T:Tm):bV Tryz.prog 173 [rv] T M [] [] (fun v M' _ _=>RS M' RV 3 (r.map bJ) v) aM:=by
 obtain ⟨eZ,a,c,rfl,di,_,hg⟩:=ax (by decide) (fun _ _=>eM) hr
 refine az akQ rfl rfl ?_
 intro bi _
 simp +contextual only [go_sem,aD,sevalprocAttr,bq]
 intro b8 px
 rw [GH]
 refine aO r.length 11 [(3,.slice (some ⟨b8,0,none⟩) r.length r.length),(9,.slice a r.length c),(10,.int .i64 (r.length:Int))] (fun i e h=>∃ N' l',aF T N'/\h=⟨N',M,[(b8,Sk l')],[]⟩/\l'.length=r.length/\l'.take i=(r.map bJ).take i) 0 (by omega) (by simp only [aE,go_sem,sevalprocAttr]) (by simp only [go_sem,sevalprocAttr]) ⟨T,_,aF.rfl',rfl,by simp,by simp⟩ ?_
 rintro i e h hi aG ht ⟨T1,l',dh,rfl,jm,tX⟩
 simp only [aE] at aG
 by_cases aL:i<r.length
 ·obtain ⟨b',o',cs',rfl,bQ,dV⟩:=hg i r[i] (gq aL)
  unfold RV V.cs at dV;subst dV
  obtain ⟨y0,y1,y2,_⟩:=bQ
  simp +contextual only [go_sem,aD,sevalprocAttr,aG,ht,aL,y0,y1,y2]
  intro b5 T5 j6 ea lG oQ
  refine aP (lX r[i] _) ?_
  have Bd:i*3+3<=(Sk l').length:=by rw [Lt];omega
  simp +contextual only [go_sem,sevalprocAttr,ht,aL,ea,Bd]
  refine aR (al (aB ⟨r.length - (i+1),by omega,rfl,i+1,by omega,rfl,?_,?_,T5,l'.set i (bJ r[i]),dh.trans lG,?_,by simpa using jm,?_⟩))
  ·simp only [aE,aG,go_sem,sevalprocAttr]
  ·simp only [go_sem,sevalprocAttr,aA i (by omega)]
  ·rw [KD _ _ _ (by omega)]
  ·exact rX tX (by omega) (by simp [aL])
 ·have:i=r.length:=by omega
  subst this
  simp +contextual only [go_sem,aD,sevalprocAttr,aG,ht,aL]
  rw [List.take_of_length_le (by omega),List.take_of_length_le (by simp)] at tX
  subst tX
  refine aT fun he hk aZ=>ak dh ?_
  exact dB (fun _ _=>eM) hk (U3 _) jm (by omega)
end Go.Proofs.YtmeeifechggoeaaGreatDoor

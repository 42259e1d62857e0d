import Derived.Test.YtmccpbcbofhmlaaGreatDoorI
import Derived.Test.YtmccpbcbofhmlaaGreatDoorF
set_option linter.all false
namespace Go.Proofs.YtmccpbcbofhmlaaGreatDoor
open Go Vc
set_option maxRecDepth 10000
def nd (k:Int)(a b:V):V:=if k=6 then G0 a b else if k=7 then H1 (G0 a b) else if k=8 then sM a b else if k=9 then H1 (sM b a) else if k=10 then sM b a else H1 (sM a b)
def ofK (k:Int)(v:V)(c:Int)(row:List V)(g:Nat ->V):V:=
 if k=1 then fY v else if k=2 then (if (row.length:Int)<=c then fT else fY (row.getD c.toNat fT))
 else if k=3 then H1 (g 0) else if k=4 then V7 (g 0) (g 1) else if k=5 then orV (g 0) (g 1)
 else if k=12 then uX 43 (g 0) (g 1) else if k=13 then uX 45 (g 0) (g 1) else if k=14 then uX 42 (g 0) (g 1)
 else if k=15 then Bz (g 0) (g 1) else if k=16 then wQ (decide ((g 0).k=1))
 else if k=17 then (if sU (g 0)=true then g 1 else g 2) else if k=18 then (if (g 0).k=1 then g 1 else g 0) else nd k (g 0) (g 1)
mutual
def vN:Ex ->List V ->V
 | .mk k v c kids,row=>ofK k v c row fun i=>(B4 kids row).getD i fT
def B4:List Ex ->List V ->List V
 | [],_=>[]
 | x::l,row=>vN x row::B4 l row
end
theorem Gz (row:List V):∀ (l:List Ex) (i:Nat) (x:Ex),l[i]?=some x ->(B4 l row).getD i fT=vN x row
 | [],i,x,h=>by simp at h
 | y::l,0,x,h=>by simp at h;subst h;rfl
 | y::l,i+1,x,h=>by
  have:=Gz row l i x (by simpa using h)
  simpa [B4] using this
mutual
def mA:Ex ->Prop
 | .mk k v c kids=>(1<=k/\k<=18)/\(k=1 ->(fY v).t.length<=1099511627776)/\(k=2 ->0<=c)/\(kids.length:Int)=fR k/\FS kids
def FS:List Ex ->Prop
 | []=>True
 | x::l=>mA x/\FS l
end
theorem AA:∀ {l:List Ex} {x:Ex},FS l ->x∈l ->mA x
 | y::l,x,h,hx=>by
  rcases rP hx with rfl | hx
  ·exact h.1
  ·exact AA h.2 hx
def jU (row:List V):Prop:=∀ v∈row,(fY v).t.length<=1099511627776
theorem Y4 {B:Nat}(hB:60<=B){k:Int}{v:V}{c:Int}{row:List V}{g:Nat ->V}(hv:k=1 ->(fY v).t.length<=B)(hr:∀ v∈row,(fY v).t.length<=B)(hg:∀ i,(g i).t.length<=B):(ofK k v c row g).t.length<=B:=by
 have hn:fT.t.length<=B:=by simp [fT]
 have hb:∀ b,(wQ b).t.length<=B:=fun b=>by simp [wQ]
 have hk:∀ n,(l5 n).t.length<=B:=fun n=>by unfold l5;split;exact hn;exact hb _
 have hi:∀ n,(yH n).t.length<=B:=fun n=>by unfold yH;split;exact hn;simp
 have hq:∀ a b,(G0 a b).t.length<=B:=fun a b=>by unfold G0;split;exact hb _;exact hn
 have hl:∀ a b,(sM a b).t.length<=B:=fun a b=>by unfold sM;split;exact hb _;exact hn
 have UQ:∀ s a b,(uX s a b).t.length<=B:=fun s a b=>by
  unfold uX Rc
  (repeat' split)<;>first | exact hi _ | exact hn
 have ite:∀ {c:Prop} [Decidable c] {a b:V},a.t.length<=B ->b.t.length<=B ->(if c then a else b).t.length<=B:=fun ha hb=>by split<;>assumption
 have hj:∀ a b,(Bz a b).t.length<=B:=fun a b=>by
  unfold Bz
  split
  ·rename_i h;simp only [List.length_append];omega
  ·exact hn
 unfold ofK nd
 by_cases h1:k=1
 ·rw [if_pos h1];exact hv h1
 rw [if_neg h1]
 refine ite (ite hn ?_) ?_
 ·rw [List.getD_eq_getElem?_getD]
  cases h:row[c.toNat]? with
  | none=>exact hn
  | some u=>exact hr u (List.mem_of_getElem? h)
 refine ite (hk _) (ite (hk _) (ite (hk _) (ite (UQ _ _ _) (ite (UQ _ _ _) (ite (UQ _ _ _) (ite (hj _ _) (ite (hb _) (ite (ite (hg _) (hg _)) (ite (ite (hg _) (hg _)) ?_)))))))))
 exact ite (hq _ _) (ite (hk _) (ite (hl _ _) (ite (hk _) (ite (hl _ _) (hk _)))))
theorem adt {k:Int}{v:V}{c:Int}{row:List V}{g:Nat ->V}(hv:k=1 ->(fY v).t.length<=1099511627776)(hr:jU row)(hg:∀ i,(g i).t.length<=1099511627776):(ofK k v c row g).t.length<=1099511627776:=Y4 (by omega) hv hr hg
mutual
theorem adq {row:List V}(hr:jU row):∀ (x:Ex),mA x ->(vN x row).t.length<=1099511627776
 | .mk k v c kids,h=>by
  rw [vN]
  exact adt h.2.1 hr (Jo hr kids h.2.2.2.2)
theorem Jo {row:List V}(hr:jU row):∀ (l:List Ex),FS l ->∀ i,((B4 l row).getD i fT).t.length<=1099511627776
 | [],_,i=>by simp [B4,fT]
 | x::l,h,0=>by simpa [B4] using adq hr x h.1
 | x::l,h,i+1=>by simpa [B4] using Jo hr l h.2 i
end
variable {M:aS}
theorem D6 (k:Int)(a b:V)(T:Tm):cw Tryz.prog 254 [.int .i64 k,.agg ⟨a.cs⟩,.agg ⟨b.cs⟩] T M [] [] (fun r _ _ _=>r=.agg ⟨(nd k a b).cs⟩) aO:=by
 obtain ⟨S,hS⟩:∃ S,S=nd k a b:=⟨_,rfl⟩
 rw [<- hS]
 unfold nd at hS
 refine aC agU rfl rfl ?_
 intro _ _
 simp +contextual only [go_sem,aE,sevalprocAttr, -Int.reduceAdd, -Int.reduceSub, -Int.reduceMul,V.cs]
 intro b1 T1 fD cV ig b2 T2 ey gx dV fG b4 T4 dI dY fj gH
 have hT:=(cV.trans dV).trans fj
 by_cases h:k=6
 ·rw [if_pos h] at hS
  simp +contextual only [go_sem,sevalprocAttr, -Int.reduceAdd, -Int.reduceSub, -Int.reduceMul,h]
  refine aP (AJ a b _) ?_
  simp +contextual only [go_sem,sevalprocAttr, -Int.reduceAdd, -Int.reduceSub, -Int.reduceMul,aA dI,V.cs]
  exact am hT (by subst hS;rfl)
 rw [if_neg h] at hS
 by_cases h':k=7
 ·rw [if_pos h'] at hS
  simp +contextual only [go_sem,sevalprocAttr, -Int.reduceAdd, -Int.reduceSub, -Int.reduceMul,h']
  refine aP (AJ a b _) ?_
  simp +contextual only [go_sem,sevalprocAttr, -Int.reduceAdd, -Int.reduceSub, -Int.reduceMul]
  refine aP (wk _ _) ?_
  simp +contextual only [go_sem,sevalprocAttr, -Int.reduceAdd, -Int.reduceSub, -Int.reduceMul,aA dI,V.cs]
  exact am hT (by subst hS;rfl)
 rw [if_neg h'] at hS
 by_cases h8:k=8
 ·rw [if_pos h8] at hS
  simp +contextual only [go_sem,sevalprocAttr, -Int.reduceAdd, -Int.reduceSub, -Int.reduceMul,h8]
  refine aP (rX a b _) ?_
  simp +contextual only [go_sem,sevalprocAttr, -Int.reduceAdd, -Int.reduceSub, -Int.reduceMul,aA dI,V.cs]
  exact am hT (by subst hS;rfl)
 rw [if_neg h8] at hS
 by_cases h9:k=9
 ·rw [if_pos h9] at hS
  simp +contextual only [go_sem,sevalprocAttr, -Int.reduceAdd, -Int.reduceSub, -Int.reduceMul,h9]
  refine aP (rX b a _) ?_
  simp +contextual only [go_sem,sevalprocAttr, -Int.reduceAdd, -Int.reduceSub, -Int.reduceMul]
  refine aP (wk _ _) ?_
  simp +contextual only [go_sem,sevalprocAttr, -Int.reduceAdd, -Int.reduceSub, -Int.reduceMul,aA dI,V.cs]
  exact am hT (by subst hS;rfl)
 rw [if_neg h9] at hS
 by_cases Jp:k=10
 ·rw [if_pos Jp] at hS
  simp +contextual only [go_sem,sevalprocAttr, -Int.reduceAdd, -Int.reduceSub, -Int.reduceMul,Jp]
  refine aP (rX b a _) ?_
  simp +contextual only [go_sem,sevalprocAttr, -Int.reduceAdd, -Int.reduceSub, -Int.reduceMul,aA dI,V.cs]
  exact am hT (by subst hS;rfl)
 rw [if_neg Jp] at hS
 simp +contextual only [go_sem,sevalprocAttr, -Int.reduceAdd, -Int.reduceSub, -Int.reduceMul,h,h',h8,h9,Jp]
 refine aP (rX a b _) ?_
 simp +contextual only [go_sem,sevalprocAttr, -Int.reduceAdd, -Int.reduceSub, -Int.reduceMul]
 refine aP (wk _ _) ?_
 simp +contextual only [go_sem,sevalprocAttr, -Int.reduceAdd, -Int.reduceSub, -Int.reduceMul,aA dI,V.cs]
 exact am hT (by subst hS;rfl)
def OfB (x:Ex):Prop:=∀ (M:aS) (T:Tm) (b o:Nat) (cs:List Value) (row:List V) (rv:Value),At M b o cs ->gU M x cs ->RS M RV 3 row rv ->mA x ->jU row ->
 cw Tryz.prog 205 [.pointer (some ⟨b,o,none⟩),rv] T M [] [] (fun r _ _ _=>r=.agg ⟨(vN x row).cs⟩) aO
theorem JV {M:aS}{x:Ex}{cs:List Value}{b o:Nat}(hx:gU M x cs)(ha:At M b o cs):∃ s,s.oneCell'=true/\RS M (gU M) 6 x.kids s/\aQ M ⟨b,o,none⟩=some (.int .i64 x.k)/\aQ M ⟨b,o+1,none⟩=some (.int .i64 x.v.k)/\
 aQ M ⟨b,o+2,none⟩=some (.int .i64 x.v.n)/\aQ M ⟨b,o+3,none⟩=some (st x.v.t)/\aQ M ⟨b,o+4,none⟩=some (.int .i64 x.c)/\aQ M ⟨b,o+5,none⟩=some s:=by
 obtain ⟨s,rfl,h1,h2⟩:=dt hx
 obtain ⟨m0,m1,m2,m3,m4,m5,_⟩:=ha
 exact ⟨s,h1,h2,m0,m1,m2,m3,m4,m5⟩
theorem ZW {x y:Ex}{b2 b3 b o i:Nat}{cs:List Value}{row:List V}{rv:Value}(hy:OfB y)(h2:M b2=some [.pointer (some ⟨b,o,none⟩)])(h3:M b3=some [rv])(ha:At M b o cs)(hx:gU M x cs)(hr:RS M RV 3 row rv)
 (hi:x.kids[i]?=some y) (ho:mA y) (bP:jU row) (T:Tm):cw Tryz.prog 247 [.int .i64 (i:Int),.pointer (some ⟨b2,0,none⟩),.pointer (some ⟨b3,0,none⟩)] T M [] [] (fun r _ _ _=>r=.agg ⟨(vN y row).cs⟩) aO:=by
 obtain ⟨s,gF,hk,m0,m1,m2,m3,m4,m5⟩:=JV hx ha
 obtain ⟨fS,a,c,rfl,dJ,_,hg⟩:=aF (by decide) (fun _ _=>dW) hk
 obtain ⟨p,q,ys,rfl,cG,hyx⟩:=hg i y hi
 have aN:i<x.kids.length:=(List.getElem?_eq_some_iff.1 hi).1
 obtain ⟨S,hS⟩:∃ S,S=vN y row:=⟨_,rfl⟩
 rw [<- hS]
 refine aC mw rfl rfl ?_
 intro bi _
 simp +contextual only [go_sem,sevalprocAttr, -Int.reduceAdd, -Int.reduceSub, -Int.reduceMul,V.cs]
 intro b1 T1 fD cV ig
 refine aU ?_
 simp +contextual only [go_sem,sevalprocAttr, -Int.reduceAdd, -Int.reduceSub, -Int.reduceMul,aX h2,aX h3,m5,aN]
 refine aP (hy _ _ _ _ _ _ _ cG hyx hr ho bP) ?_
 simp +contextual only [go_sem,sevalprocAttr, -Int.reduceAdd, -Int.reduceSub, -Int.reduceMul,aA fD,V.cs]
 exact ⟨fZ.refl _,am cV (by subst hS;rfl)⟩
def adl:List (Nat×Sched):=[(6,.take 0<| .take 1<| .take 2<| .take 3<| .take 4<| .take 5<| .take 6<| .done),(8,.take 0<| .take 1<| .take 2<| .take 3<| .take 4<| .take 5<| .take 6<| .eff 7 false (.eff 8 true (.done)<| .no)<| .no),(18,.take 8<| .take 10<| .take 1<| .take 2<| .take 3<| .take 4<| .take 5<| .effN 0 false (.take 6<| .take 7<| .eff 9 false (.eff 11 false (.eff 12 false (.eff 13 true (.done)<| .no)<| .no)<| .no)<| .no)<| .eff 9 false (.effN 0 false (.take 6<| .take 7<| .eff 11 false (.eff 12 false (.eff 13 true (.done)<| .no)<| .no)<| .no)<| .eff 11 false (.effN 0 false (.take 6<| .take 7<| .eff 12 false (.eff 13 true (.done)<| .no)<| .no)<| .no)<| .no)<| .no),(32,.take 4<| .take 6<| .take 0<| .take 1<| .take 2<| .take 3<| .eff 5 false (.eff 7 false (.eff 8 false (.eff 9 true (.done)<| .no)<| .no)<| .no)<| .no)]
attribute [go_sem] adl
theorem sr:∀ (sz:Nat) (x:Ex),SizeOf.sizeOf x<=sz ->OfB x:=by
 intro sz
 induction sz with
 | zero=>intro x hx;cases x;simp at hx
 | succ sz ih=>
  intro x ej M T b o cs row rv ha hx hr cq bP
  obtain ⟨s,gF,hk,m0,m1,m2,m3,m4,m5⟩:=JV hx ha
  obtain ⟨fS,ra,rc,rfl,dJ,_,hg⟩:=aF (by decide) (fun _ _=>fO) hr
  cases x with | mk k v c kids=>
  simp only [Ex.k,Ex.v,Ex.c,Ex.kids] at m0 m1 m2 m3 m4 m5 hk
  obtain ⟨ZJ,hvt,Av,xO,hks⟩:=cq
  obtain ⟨g,Rm⟩:∃ g:Nat ->V,g=fun i=>(B4 kids row).getD i fT:=⟨_,rfl⟩
  have GF:∀ i,(g i).t.length<=1099511627776:=by intro i;rw [Rm];exact Jo bP kids hks i
  obtain ⟨S,hS⟩:∃ S,S=vN (.mk k v c kids) row:=⟨_,rfl⟩
  rw [<- hS]
  rw [vN,<- Rm] at hS
  unfold ofK at hS
  refine He mx W9.bd Tryz.func205 rfl (by rw [W9.nt];exact Nat.le_of_ble_eq_true rfl) (dr:=adl) (by kernel_rfl) W9.rs ?_
  intro bi _
  simp +contextual only [go_sem,sevalprocAttr, -Int.reduceAdd, -Int.reduceSub, -Int.reduceMul,V.cs]
  intro b2 T2 ey dV fG b3 T3 gj cL fB hZ b4 T4 dI dY fj gH
  have hT:=(dV.trans fB).trans fj
  have kid:∀ (i:Nat),i<kids.length ->∀ M',bh M M' ->M' b2=some [.pointer (some ⟨b,o,none⟩)] ->M' b3=some [.slice ra row.length rc] ->∀ T,cw Tryz.prog 247 [.int .i64 (i:Int),.pointer (some ⟨b2,0,none⟩),.pointer (some ⟨b3,0,none⟩)] T M' [] [] (fun r _ _ _=>r=.agg ⟨(g i).cs⟩) aO:=by
   intro i hi M' he h2 h3 T
   have fU:kids[i]?=some kids[i]:=gq hi
   have hm:=gm hi
   have alN:=List.sizeOf_lt_of_mem hm
   have:=ZW (ih kids[i] (by simp only [Ex.mk.sizeOf_spec] at ej;omega)) h2 h3 (ha.ext he) (cu he _ _ hx) (aL he (fun _ _ h=>h) hr) fU (AA hks hm) bP T
   have YQ:g i=vN kids[i] row:=by rw [Rm];exact Gz row kids i kids[i] fU
   rw [YQ]
   exact this
  by_cases k1:k=1
  ·rw [if_pos k1] at hS
   simp +contextual only [go_sem,aE,sevalprocAttr, -Int.reduceAdd, -Int.reduceSub, -Int.reduceMul,cL,dY,aA ey,m0,m1,m2,m3,k1]
   refine aP (lB v _) ?_
   simp +contextual only [go_sem,sevalprocAttr, -Int.reduceAdd, -Int.reduceSub, -Int.reduceMul,aA dI]
   exact am hT (by subst hS;rfl)
  rw [if_neg k1] at hS
  by_cases k2:k=2
  ·rw [if_pos k2] at hS
   by_cases cO:(row.length:Int)<=c
   ·rw [if_pos cO] at hS
    simp +contextual only [go_sem,aE,sevalprocAttr, -Int.reduceAdd, -Int.reduceSub, -Int.reduceMul,m0,k2]
    refine aU ?_
    simp +contextual only [go_sem,aE,sevalprocAttr, -Int.reduceAdd, -Int.reduceSub, -Int.reduceMul,cL,dY,aA ey,aA gj,m4,cO]
    refine aP (fL _) ?_
    simp +contextual only [go_sem,sevalprocAttr, -Int.reduceAdd, -Int.reduceSub, -Int.reduceMul,aA dI]
    exact am hT (by subst hS;rfl)
   ·rw [if_neg cO] at hS
    have h0:=Av k2
    obtain ⟨n,rfl⟩:∃ n:Nat,c=n:=⟨c.toNat,by omega⟩
    have aN:n<row.length:=by omega
    obtain ⟨p,q,ys,rfl,cG,hyx⟩:=hg n row[n] (gq aN)
    unfold RV V.cs at hyx;subst hyx
    obtain ⟨y0,y1,y2,_⟩:=cG
    simp +contextual only [go_sem,aE,sevalprocAttr, -Int.reduceAdd, -Int.reduceSub, -Int.reduceMul,m0,k2]
    refine aU ?_
    simp +contextual only [go_sem,aE,sevalprocAttr, -Int.reduceAdd, -Int.reduceSub, -Int.reduceMul,cL,dY,aA ey,aA gj,m4,cO]
    refine aU ?_
    simp +contextual only [go_sem,sevalprocAttr, -Int.reduceAdd, -Int.reduceSub, -Int.reduceMul,cL,dY,aA ey,aA gj,m4,aN,y0,y1,y2]
    refine aP (lB row[n] _) ?_
    simp +contextual only [go_sem,sevalprocAttr, -Int.reduceAdd, -Int.reduceSub, -Int.reduceMul,aA dI]
    refine ⟨fZ.refl _,am hT ?_⟩
    have:row.getD n fT=row[n]:=by simp [aN]
    rw [hS,Int.toNat_natCast,this]
  rw [if_neg k2] at hS
  by_cases k3:k=3
  ·rw [if_pos k3] at hS
   have hl:kids.length=1:=by subst k3;simp [fR] at xO;omega
   simp +contextual only [go_sem,aE,sevalprocAttr, -Int.reduceAdd, -Int.reduceSub, -Int.reduceMul,m0,k3]
   refine dA mw.bd (fun M' he hL _=>kid 0 (by omega) M' he hL.2.2.1 hL.2.1 _) ?_
   simp +contextual only [go_sem,sevalprocAttr, -Int.reduceAdd, -Int.reduceSub, -Int.reduceMul]
   refine aP (wk _ _) ?_
   simp +contextual only [go_sem,sevalprocAttr, -Int.reduceAdd, -Int.reduceSub, -Int.reduceMul,aA dI,V.cs]
   exact am hT (by subst hS;rfl)
  rw [if_neg k3] at hS
  by_cases k4:k=4
  ·rw [if_pos k4] at hS
   have hl:kids.length=2:=by subst k4;simp [fR] at xO;omega
   simp +contextual only [go_sem,aE,sevalprocAttr, -Int.reduceAdd, -Int.reduceSub, -Int.reduceMul,m0,k4]
   refine dA mw.bd (fun M' he hL _=>kid 0 (by omega) M' he hL.2.2.1 hL.2.1 _) ?_
   simp +contextual only [go_sem,sevalprocAttr, -Int.reduceAdd, -Int.reduceSub, -Int.reduceMul]
   refine dA mw.bd (fun M' he hL _=>kid 1 (by omega) M' he hL.2.2.1 hL.2.1 _) ?_
   simp +contextual only [go_sem,sevalprocAttr, -Int.reduceAdd, -Int.reduceSub, -Int.reduceMul]
   refine aP (WV (g 0) (g 1) _) ?_
   simp +contextual only [go_sem,sevalprocAttr, -Int.reduceAdd, -Int.reduceSub, -Int.reduceMul,aA dI,V.cs]
   exact am hT (by subst hS;rfl)
  rw [if_neg k4] at hS
  by_cases k5:k=5
  ·rw [if_pos k5] at hS
   have hl:kids.length=2:=by subst k5;simp [fR] at xO;omega
   simp +contextual only [go_sem,aE,sevalprocAttr, -Int.reduceAdd, -Int.reduceSub, -Int.reduceMul,m0,k5]
   refine dA mw.bd (fun M' he hL _=>kid 0 (by omega) M' he hL.2.2.1 hL.2.1 _) ?_
   simp +contextual only [go_sem,sevalprocAttr, -Int.reduceAdd, -Int.reduceSub, -Int.reduceMul]
   refine dA mw.bd (fun M' he hL _=>kid 1 (by omega) M' he hL.2.2.1 hL.2.1 _) ?_
   simp +contextual only [go_sem,sevalprocAttr, -Int.reduceAdd, -Int.reduceSub, -Int.reduceMul]
   refine aP (Z7 (g 0) (g 1) _) ?_
   simp +contextual only [go_sem,sevalprocAttr, -Int.reduceAdd, -Int.reduceSub, -Int.reduceMul,aA dI,V.cs]
   exact am hT (by subst hS;rfl)
  rw [if_neg k5] at hS
  by_cases kr:k=12\/k=13\/k=14
  ·have hl:kids.length=2:=by
    have:fR k=2:=by unfold fR;rw [if_neg (by omega),if_neg (by omega),if_pos (by omega)]
    omega
   have e12:IntKind.i64.wrap (12 - 12)=0:=by decide
   have e13:IntKind.i64.wrap (13 - 12)=1:=by decide
   have e14:IntKind.i64.wrap (14 - 12)=2:=by decide
   rcases kr with rfl | rfl | rfl
   all_goals
    simp only [if_true,Int.reduceEq,if_false] at hS
    simp +contextual only [go_sem,aE,sevalprocAttr, -Int.reduceAdd, -Int.reduceSub, -Int.reduceMul,m0]
    refine aU ?_
    simp +contextual only [go_sem,sevalprocAttr, -Int.reduceAdd, -Int.reduceSub, -Int.reduceMul,cL,dY,aA ey,m0]
    refine ⟨?_,?_⟩
    ·intro b9 lu eN
     refine yB (dX bh.rfl' ⟨dI,gj,ey,trivial⟩ ⟨eN.1,eN.2.1,eN.2.2,trivial⟩) ?_
     simp +contextual only [go_sem,sevalprocAttr, -Int.reduceAdd, -Int.reduceSub, -Int.reduceMul,aA lu,e12,e13,e14]
     refine dA mw.bd (fun M' he hL _=>kid 0 (by omega) M' he hL.2.2.2.1 hL.2.2.1 _) ?_
     simp +contextual only [go_sem,sevalprocAttr, -Int.reduceAdd, -Int.reduceSub, -Int.reduceMul,e12,e13,e14]
     refine ⟨fZ.refl _,?_⟩
     refine dA mw.bd (fun M' he hL _=>kid 1 (by omega) M' he hL.2.2.2.1 hL.2.2.1 _) ?_
     simp +contextual only [go_sem,sevalprocAttr, -Int.reduceAdd, -Int.reduceSub, -Int.reduceMul,e12,e13,e14]
     refine ⟨fZ.refl _,?_⟩
     refine aP (rE _ (g 0) (g 1) _) ?_
     simp +contextual only [go_sem,sevalprocAttr, -Int.reduceAdd, -Int.reduceSub, -Int.reduceMul,eN,aA dI,V.cs]
     refine ⟨fZ.refl _,?_⟩
     exact am hT (by subst hS;rfl)
    ·refine dA mw.bd (fun M' he hL _=>kid 0 (by omega) M' he hL.2.2.1 hL.2.1 _) ?_
     simp +contextual only [go_sem,sevalprocAttr, -Int.reduceAdd, -Int.reduceSub, -Int.reduceMul]
     refine ⟨fZ.refl _,?_,?_⟩
     ·intro b9 lu eN
      refine yB (dX bh.rfl' ⟨dI,gj,ey,trivial⟩ ⟨eN.1,eN.2.1,eN.2.2,trivial⟩) ?_
      simp +contextual only [go_sem,sevalprocAttr, -Int.reduceAdd, -Int.reduceSub, -Int.reduceMul,aA lu,e12,e13,e14]
      refine dA mw.bd (fun M' he hL _=>kid 1 (by omega) M' he hL.2.2.2.1 hL.2.2.1 _) ?_
      simp +contextual only [go_sem,sevalprocAttr, -Int.reduceAdd, -Int.reduceSub, -Int.reduceMul,e12,e13,e14]
      refine ⟨fZ.refl _,?_⟩
      refine aP (rE _ (g 0) (g 1) _) ?_
      simp +contextual only [go_sem,sevalprocAttr, -Int.reduceAdd, -Int.reduceSub, -Int.reduceMul,eN,aA dI,V.cs]
      refine ⟨fZ.refl _,?_⟩
      exact am hT (by subst hS;rfl)
     ·refine dA mw.bd (fun M' he hL _=>kid 1 (by omega) M' he hL.2.2.1 hL.2.1 _) ?_
      simp +contextual only [go_sem,sevalprocAttr, -Int.reduceAdd, -Int.reduceSub, -Int.reduceMul]
      refine ⟨fZ.refl _,?_⟩
      intro b9 lu eN
      refine yB (dX bh.rfl' ⟨dI,gj,ey,trivial⟩ ⟨eN.1,eN.2.1,eN.2.2,trivial⟩) ?_
      simp +contextual only [go_sem,sevalprocAttr, -Int.reduceAdd, -Int.reduceSub, -Int.reduceMul,aA lu,e12,e13,e14]
      refine aP (rE _ (g 0) (g 1) _) ?_
      simp +contextual only [go_sem,sevalprocAttr, -Int.reduceAdd, -Int.reduceSub, -Int.reduceMul,eN,aA dI,V.cs]
      refine ⟨fZ.refl _,?_⟩
      exact am hT (by subst hS;rfl)
  have k12:k≠12:=fun h=>kr (.inl h)
  have k13:k≠13:=fun h=>kr (.inr (.inl h))
  have k14:k≠14:=fun h=>kr (.inr (.inr h))
  rw [if_neg k12,if_neg k13,if_neg k14] at hS
  by_cases k15:k=15
  ·rw [if_pos k15] at hS
   have hl:kids.length=2:=by subst k15;simp [fR] at xO;omega
   simp +contextual only [go_sem,aE,sevalprocAttr, -Int.reduceAdd, -Int.reduceSub, -Int.reduceMul,m0,k15]
   refine dA mw.bd (fun M' he hL _=>kid 0 (by omega) M' he hL.2.2.1 hL.2.1 _) ?_
   simp +contextual only [go_sem,sevalprocAttr, -Int.reduceAdd, -Int.reduceSub, -Int.reduceMul]
   refine dA mw.bd (fun M' he hL _=>kid 1 (by omega) M' he hL.2.2.1 hL.2.1 _) ?_
   simp +contextual only [go_sem,sevalprocAttr, -Int.reduceAdd, -Int.reduceSub, -Int.reduceMul]
   refine aP (Qj (g 0) (g 1) (GF _) (GF _) _) ?_
   simp +contextual only [go_sem,sevalprocAttr, -Int.reduceAdd, -Int.reduceSub, -Int.reduceMul,aA dI,V.cs]
   exact am hT (by subst hS;rfl)
  rw [if_neg k15] at hS
  by_cases k16:k=16
  ·rw [if_pos k16] at hS
   have hl:kids.length=1:=by subst k16;simp [fR] at xO;omega
   simp +contextual only [go_sem,aE,sevalprocAttr, -Int.reduceAdd, -Int.reduceSub, -Int.reduceMul,m0,k16]
   refine dA mw.bd (fun M' he hL _=>kid 0 (by omega) M' he hL.2.2.1 hL.2.1 _) ?_
   simp +contextual only [go_sem,sevalprocAttr, -Int.reduceAdd, -Int.reduceSub, -Int.reduceMul,V.cs]
   refine aP (s4 _ _) ?_
   simp +contextual only [go_sem,sevalprocAttr, -Int.reduceAdd, -Int.reduceSub, -Int.reduceMul,aA dI,V.cs]
   exact am hT (by subst hS;rfl)
  rw [if_neg k16] at hS
  by_cases k17:k=17
  ·rw [if_pos k17] at hS
   have hl:kids.length=3:=by subst k17;simp [fR] at xO;omega
   simp +contextual only [go_sem,aE,sevalprocAttr, -Int.reduceAdd, -Int.reduceSub, -Int.reduceMul,m0,k17]
   refine dA mw.bd (fun M' he hL _=>kid 0 (by omega) M' he hL.2.2.1 hL.2.1 _) ?_
   simp +contextual only [go_sem,sevalprocAttr, -Int.reduceAdd, -Int.reduceSub, -Int.reduceMul]
   refine aP (xQ (g 0) _) ?_
   cases ht:sU (g 0) with
   | true=>
    rw [if_pos ht] at hS
    simp +contextual only [go_sem,aE,sevalprocAttr, -Int.reduceAdd, -Int.reduceSub, -Int.reduceMul]
    refine dA mw.bd (fun M' he hL _=>kid 1 (by omega) M' he hL.2.2.1 hL.2.1 _) ?_
    simp +contextual only [go_sem,sevalprocAttr, -Int.reduceAdd, -Int.reduceSub, -Int.reduceMul,aA dI,V.cs]
    exact am hT (by subst hS;rfl)
   | false=>
    rw [if_neg (by rw [ht];exact Bool.false_ne_true)] at hS
    simp +contextual only [go_sem,aE,sevalprocAttr, -Int.reduceAdd, -Int.reduceSub, -Int.reduceMul]
    refine dA mw.bd (fun M' he hL _=>kid 2 (by omega) M' he hL.2.2.1 hL.2.1 _) ?_
    simp +contextual only [go_sem,sevalprocAttr, -Int.reduceAdd, -Int.reduceSub, -Int.reduceMul,aA dI,V.cs]
    exact am hT (by subst hS;rfl)
  rw [if_neg k17] at hS
  by_cases k18:k=18
  ·rw [if_pos k18] at hS
   have hl:kids.length=2:=by subst k18;simp [fR] at xO;omega
   simp +contextual only [go_sem,aE,sevalprocAttr, -Int.reduceAdd, -Int.reduceSub, -Int.reduceMul,m0,k18]
   refine dA mw.bd (fun M' he hL _=>kid 0 (by omega) M' he hL.2.2.1 hL.2.1 _) ?_
   simp +contextual only [go_sem,aE,sevalprocAttr, -Int.reduceAdd, -Int.reduceSub, -Int.reduceMul,V.cs]
   intro b6 T6 oZ fq sK BX
   by_cases hn:(g 0).k=1
   ·rw [if_pos hn] at hS
    simp +contextual only [go_sem,sevalprocAttr, -Int.reduceAdd, -Int.reduceSub, -Int.reduceMul,hn]
    refine dA mw.bd (fun M' he hL _=>kid 1 (by omega) M' he hL.2.2.2.1 hL.2.2.1 _) ?_
    simp +contextual only [go_sem,sevalprocAttr, -Int.reduceAdd, -Int.reduceSub, -Int.reduceMul,fq,aA dI,V.cs]
    exact am (hT.trans sK) (by subst hS;rfl)
   ·rw [if_neg hn] at hS
    simp +contextual only [go_sem,sevalprocAttr, -Int.reduceAdd, -Int.reduceSub, -Int.reduceMul,aA dI,hn]
    exact am (hT.trans sK) (by subst hS;rfl)
  rw [if_neg k18] at hS
  have hl:kids.length=2:=by
   have:fR k=2:=by unfold fR;rw [if_neg (by omega),if_neg (by omega),if_pos (by omega)]
   omega
  simp +contextual only [go_sem,aE,sevalprocAttr, -Int.reduceAdd, -Int.reduceSub, -Int.reduceMul,m0,k1,k2,k3,k4,k5,k12,k13,k14,k15,k16,k17,k18]
  refine aU ?_
  simp +contextual only [go_sem,sevalprocAttr, -Int.reduceAdd, -Int.reduceSub, -Int.reduceMul,cL,dY,aA ey,m0]
  refine dA mw.bd (fun M' he hL _=>kid 0 (by omega) M' he hL.2.2.1 hL.2.1 _) ?_
  simp +contextual only [go_sem,sevalprocAttr, -Int.reduceAdd, -Int.reduceSub, -Int.reduceMul]
  refine ⟨fZ.refl _,?_⟩
  refine dA mw.bd (fun M' he hL _=>kid 1 (by omega) M' he hL.2.2.1 hL.2.1 _) ?_
  simp +contextual only [go_sem,sevalprocAttr, -Int.reduceAdd, -Int.reduceSub, -Int.reduceMul]
  refine ⟨fZ.refl _,?_⟩
  refine aP (D6 _ (g 0) (g 1) _) ?_
  simp +contextual only [go_sem,sevalprocAttr, -Int.reduceAdd, -Int.reduceSub, -Int.reduceMul,aA dI,V.cs]
  refine ⟨fZ.refl _,?_⟩
  exact am hT (by subst hS;rfl)
structure Z where
 row:List V
 w:Int
def RZ (M:aS)(z:Z)(cs:List Value):Prop:=∃ s,RS M RV 3 z.row s/\cs=[s,.int .i64 z.w]
theorem cm {M:aS}{z:Z}{cs}(h:RZ M z cs):cs.length=2:=by obtain ⟨_,_,rfl⟩:=h;rfl
theorem fz {M M':aS}(he:bh M M')(z:Z)(cs)(h:RZ M z cs):RZ M' z cs:=by
 obtain ⟨s,h1,h2⟩:=h;exact ⟨s,aL he (fun _ _ h=>h) h1,h2⟩
theorem gQ {M M':aS}(he:bh M M'){l:List V}{v:Value}(h:RS M RV 3 l v):RS M' RV 3 l v:=aL he (fun _ _ h=>h) h
theorem bX {M M':aS}(he:bh M M'){l:List Z}{v:Value}(h:RS M (RZ M) 2 l v):RS M' (RZ M') 2 l v:=aL he (fz he) h
def nC {α:Type}(f:α ->Int):List α ->Int
 | []=>0
 | x::l=>j4 (f x) (nC f l)
def qX (r:List V):Int:=if 8<r.length then 5 else nC gC r
def jg (w:Int):Bool:=decide (w<=1000000) && decide (w>= -1000000)
def SG (p:Option (List V))(x:Z):Int:=j4 (qX x.row) (if x.w=0\/jg x.w=false then 3 else match p with | some r=>(if ip r x.row>=0 then 2 else 0) | none=>0)
def Zr:Option (List V) ->List Z ->Int
 | _,[]=>0
 | p,x::l=>j4 (SG p x) (Zr (some x.row) l)
def cW (z:List Z):Int:=if 400<z.length then 5 else Zr none z
def Gu:List V ->List Int ->Int
 | v::l,c::cs=>j4 (gC v) (if v.k≠1/\v.k≠c then 9 else Gu l cs)
 | _,_=>0
def BN (cols:List Int)(row:List V):Int:=if row.length≠cols.length then 8 else Gu row cols
def eS (cols:List Int)(z:List Z):Int:=if 8<cols.length then 5 else j4 (cW z) (nC (fun x=>BN cols x.row) z)
theorem zA (b:Int):j4 0 b=b:=by simp [j4]
theorem mY {a b:Int}(h:a≠0):j4 a b=a:=if_pos h
variable {M:aS}
theorem Bk (w:Int)(T:Tm):cw Tryz.prog 195 [.int .i64 w] T M [] [] (fun r _ _ _=>r=.bool (jg w)) aO:=by
 unfold jg
 refine aC aiM rfl rfl ?_
 intro _ _
 by_cases h:w<=1000000
 ·simp +contextual only [go_sem,sevalprocAttr,h]
  exact am aH.rfl' rfl
 ·simp +contextual only [go_sem,sevalprocAttr,h]
  exact am aH.rfl' rfl
theorem Xj {r:List V}{rv:Value}(hr:RS M RV 3 r rv)(T:Tm):cw Tryz.prog 194 [rv] T M [] [] (fun r' _ _ _=>r'=.int .i64 (qX r)) aO:=by
 obtain ⟨fS,a,c,rfl,dJ,_,hg⟩:=aF (by decide) (fun _ _=>fO) hr
 obtain ⟨S,hS⟩:∃ S,S=qX r:=⟨_,rfl⟩
 rw [<- hS]
 unfold qX at hS
 refine aC aiD rfl rfl ?_
 intro bi _
 by_cases h8:8<r.length
 ·have oV:(8:Int)<(r.length:Int):=by omega
  rw [if_pos h8] at hS
  simp +contextual only [go_sem,aE,sevalprocAttr,oV]
  exact am aH.rfl' (cS hS.symm)
 have oV:¬ (8:Int)<(r.length:Int):=by omega
 rw [if_neg h8] at hS
 simp +contextual only [go_sem,aE,sevalprocAttr,oV]
 refine aY r.length 11 [(9,.slice a r.length c),(10,.int .i64 (r.length:Int))] (fun i e h=>∃ N',aH T N'/\h=⟨N',M,[],[]⟩/\S=nC gC (r.drop i)) 0 (by omega) (by simp only [aG,go_sem,sevalprocAttr]) (by simp only [go_sem,sevalprocAttr]) ⟨T,aH.rfl',rfl,hS⟩ ?_
 rintro i e h hi aI ht ⟨T1,cV,rfl,ax⟩
 simp only [aG] at aI
 by_cases aN:i<r.length
 ·obtain ⟨b',o',cs',rfl,cG,fy⟩:=hg i r[i] (gq aN)
  unfold RV V.cs at fy;subst fy
  obtain ⟨y0,y1,y2,_⟩:=cG
  rw [dq aN,nC] at ax
  simp +contextual only [go_sem,aE,sevalprocAttr,aI,ht,aN,y0,y1,y2]
  intro b4 T4 dI fj gH
  refine aP (iU r[i] M _) ?_
  by_cases h0:gC r[i]=0
  ·rw [h0,zA] at ax
   rw [h0]
   simp +contextual only [go_sem,aE,sevalprocAttr,ht]
   refine aR (cX (az ⟨r.length - (i+1),by omega,rfl,i+1,by omega,rfl,?_,?_,T4,cV.trans fj,rfl,ax⟩))
   ·simp only [aG,aI,go_sem,sevalprocAttr]
   ·simp only [go_sem,sevalprocAttr,aB i (by omega)]
  ·rw [mY h0] at ax
   simp +contextual only [go_sem,aE,sevalprocAttr,h0]
   exact am (cV.trans fj) (cS ax.symm)
 ·have:i=r.length:=by omega
  subst this
  rw [List.drop_length,nC] at ax
  simp +contextual only [go_sem,aE,sevalprocAttr,aI,ht,aN]
  exact am cV (cS ax.symm)
theorem U7 {cols:List Int}{r:List V}{cv rv:Value}(hc:RS M RI 1 cols cv)(hr:RS M RV 3 r rv)(T:Tm):cw Tryz.prog 155 [cv,rv] T M [] [] (fun r' _ _ _=>r'=.int .i64 (BN cols r)) aO:=by
 obtain ⟨fS,a,c,rfl,dJ,_,hg⟩:=aF (by decide) (fun _ _=>fO) hr
 obtain ⟨r6,a2,c2,rfl,mz,_,tg⟩:=aF (by decide) (fun _ _=>bV) hc
 obtain ⟨S,hS⟩:∃ S,S=BN cols r:=⟨_,rfl⟩
 rw [<- hS]
 unfold BN at hS
 refine aC ahz rfl rfl ?_
 intro bi _
 by_cases hl:r.length=cols.length
 rotate_left
 ·have gG:¬ (r.length:Int)=(cols.length:Int):=by omega
  rw [if_pos hl] at hS
  simp +contextual only [go_sem,aE,sevalprocAttr,gG]
  exact am aH.rfl' (cS hS.symm)
 rw [if_neg (fun h=>h hl)] at hS
 simp +contextual only [go_sem,aE,sevalprocAttr,hl]
 refine aY cols.length 15 [(0,.slice a2 cols.length c2),(13,.slice a cols.length c),(14,.int .i64 (cols.length:Int))] (fun i e h=>∃ N',aH T N'/\h=⟨N',M,[],[]⟩/\S=Gu (r.drop i) (cols.drop i)) 0 (by omega) (by simp only [aG,hl,go_sem,sevalprocAttr]) (by simp only [go_sem,sevalprocAttr]) ⟨T,aH.rfl',rfl,hS⟩ ?_
 rintro i e h hi aI ht ⟨T1,cV,rfl,ax⟩
 simp only [aG] at aI
 by_cases aN:i<cols.length
 ·obtain ⟨b',o',cs',rfl,cG,fy⟩:=hg i r[i] (gq (by omega))
  unfold RV V.cs at fy;subst fy
  obtain ⟨y0,y1,y2,_⟩:=cG
  obtain ⟨b2,o2,cs2,rfl,kf,wG⟩:=tg i cols[i] (gq aN)
  unfold RI at wG;subst wG
  have x0:=tV kf
  rw [Nat.mul_one] at x0
  rw [dq aN,dq (show i<r.length by omega),Gu] at ax
  simp +contextual only [go_sem,aE,sevalprocAttr,aI,ht,aN,y0,y1,y2]
  intro b6 T6 oZ sK BX
  have hT:=cV.trans sK
  refine aP (iU r[i] M _) ?_
  by_cases h0:gC r[i]=0
  ·rw [h0,zA] at ax
   rw [h0]
   simp +contextual only [go_sem,aE,sevalprocAttr]
   refine aU ?_
   by_cases h1:r[i].k=1
   ·rw [if_neg (fun h=>h.1 h1)] at ax
    simp +contextual only [go_sem,aE,sevalprocAttr,ht,aA oZ,h1]
    refine aR (cX (az ⟨cols.length - (i+1),by omega,rfl,i+1,by omega,rfl,?_,?_,T6,hT,rfl,ax⟩))
    ·simp only [aG,aI,go_sem,sevalprocAttr]
    ·simp only [go_sem,sevalprocAttr,aB i (by omega)]
   ·by_cases h2:r[i].k=cols[i]
    ·rw [if_neg (fun h=>h.2 h2)] at ax
     have h3:¬ cols[i]=1:=by rw [<- h2];exact h1
     simp +contextual only [go_sem,aE,sevalprocAttr,aI,ht,aN,aA oZ,x0,h2,h3]
     refine aR (cX (az ⟨cols.length - (i+1),by omega,rfl,i+1,by omega,rfl,?_,?_,T6,hT,rfl,ax⟩))
     ·simp only [aG,aI,go_sem,sevalprocAttr]
     ·simp only [go_sem,sevalprocAttr,aB i (by omega)]
    ·rw [if_pos ⟨h1,h2⟩] at ax
     simp +contextual only [go_sem,aE,sevalprocAttr,aI,aN,aA oZ,h1,x0,h2]
     exact am hT (cS ax.symm)
  ·rw [mY h0] at ax
   simp +contextual only [go_sem,aE,sevalprocAttr,h0]
   exact am hT (cS ax.symm)
 ·have:i=cols.length:=by omega
  subst this
  rw [List.drop_length,List.drop_eq_nil_of_le (by omega),Gu] at ax
  simp +contextual only [go_sem,aE,sevalprocAttr,aI,ht,aN]
  exact am cV (cS ax.symm)
  all_goals simp
def A8 (z:List Z)(i:Nat):Option (List V):=if i=0 then none else (z[i - 1]?).map Z.row
theorem AT {z:List Z}{zv:Value}(hz:RS M (RZ M) 2 z zv)(T:Tm):cw Tryz.prog 154 [zv] T M [] [] (fun r' _ _ _=>r'=.int .i64 (cW z)) aO:=by
 obtain ⟨fS,a,c,rfl,dJ,_,hg⟩:=aF (by decide) (fun _ _=>cm) hz
 obtain ⟨S,hS⟩:∃ S,S=cW z:=⟨_,rfl⟩
 rw [<- hS]
 unfold cW at hS
 refine aC ajn rfl rfl ?_
 intro bi _
 by_cases h8:400<z.length
 ·have oV:(400:Int)<(z.length:Int):=by omega
  rw [if_pos h8] at hS
  simp +contextual only [go_sem,aE,sevalprocAttr,oV]
  exact am aH.rfl' (cS hS.symm)
 have oV:¬ (400:Int)<(z.length:Int):=by omega
 rw [if_neg h8] at hS
 simp +contextual only [go_sem,aE,sevalprocAttr,oV]
 refine aY z.length 11 [(0,.slice a z.length c),(9,.slice a z.length c),(10,.int .i64 (z.length:Int))] (fun i e h=>∃ N',aH T N'/\h=⟨N',M,[],[]⟩/\S=Zr (A8 z i) (z.drop i)) 0 (by omega) (by simp only [aG,go_sem,sevalprocAttr]) (by simp only [go_sem,sevalprocAttr]) ⟨T,aH.rfl',rfl,hS⟩ ?_
 rintro i e h hi aI ht ⟨T1,cV,rfl,ax⟩
 simp only [aG] at aI
 by_cases aN:i<z.length
 ·obtain ⟨b',o',cs',rfl,cG,s,bP,rfl⟩:=hg i z[i] (gq aN)
  obtain ⟨y0,y1,_⟩:=cG
  have gF:=(cR bP).1
  rw [dq aN,Zr] at ax
  unfold SG at ax
  have qT:some z[i].row=A8 z (i+1):=by simp [A8,aN]
  rw [qT] at ax
  simp +contextual only [go_sem,aE,sevalprocAttr,aI,ht,aN,y0,y1,gF]
  intro b4 T4 dI fj gH
  have hT:=cV.trans fj
  refine aP (Xj bP _) ?_
  by_cases h0:qX z[i].row=0
  rotate_left
  ·have ax:S=qX z[i].row:=by rw [ax,mY];exact mY h0;rw [mY h0];exact h0
   simp +contextual only [go_sem,aE,sevalprocAttr,h0]
   exact am hT (cS ax.symm)
  rw [h0,zA] at ax
  rw [h0]
  simp +contextual only [go_sem,aE,sevalprocAttr,aA dI]
  by_cases MG:z[i].w=0
  ·have ax:S=3:=by rw [ax,mY];exact if_pos (.inl MG);rw [if_pos (.inl MG)];decide
   simp +contextual only [go_sem,sevalprocAttr,MG]
   exact am hT (cS ax.symm)
  simp +contextual only [go_sem,sevalprocAttr,MG]
  refine aP (Bk _ _) ?_
  cases Yu:jg z[i].w with
  | false=>
   have ax:S=3:=by rw [ax,mY];exact if_pos (.inr Yu);rw [if_pos (.inr Yu)];decide
   simp +contextual only [go_sem,aE,sevalprocAttr,MG]
   exact am hT (cS ax.symm)
  | true=>
  rw [if_neg (by rintro (h | h);exact MG h;rw [Yu] at h;cases h)] at ax
  simp +contextual only [go_sem,aE,sevalprocAttr,MG]
  refine aU ?_
  cases i with
  | zero=>
   simp only [A8,if_true,zA] at ax
   simp +contextual only [go_sem,aE,sevalprocAttr,ht]
   refine aR (cX (az ⟨z.length - 1,by omega,rfl,1,by omega,rfl,?_,?_,T4,hT,rfl,ax⟩))
   ·simp only [aG,aI,go_sem,sevalprocAttr]
   ·simp only [go_sem,sevalprocAttr]
    exact cS (by decide)
  | succ j=>
   have hj:j<z.length:=by omega
   obtain ⟨b2,o2,cs2,ey,kf,s2,aeE,rfl⟩:=hg j z[j] (gq hj)
   injection ey with ey
   injection ey with ahR ahO amk
   subst ahR ahO
   obtain ⟨x0,x1,_⟩:=kf
   have hp:A8 z (j+1)=some z[j].row:=by simp [A8,hj]
   rw [hp] at ax
   simp only [] at ax
   simp +contextual only [go_sem,sevalprocAttr,aI]
   have e1:IntKind.i64.wrap (((j+1:Nat):Int) - 1)=(j:Int):=by rw [bJ (by omega) (by omega)];omega
   simp +contextual only [go_sem,sevalprocAttr,aA dI,e1,hj,x0]
   refine aP (mS aeE bP _) ?_
   by_cases Ol:ip z[j].row z[j+1].row>=0
   ·rw [if_pos Ol,mY (by decide)] at ax
    have aaO:0<=ip z[j].row z[j+1].row:=Ol
    simp +contextual only [go_sem,aE,sevalprocAttr,aaO]
    exact am hT (cS ax.symm)
   ·rw [if_neg Ol,zA] at ax
    have aaO:¬ 0<=ip z[j].row z[j+1].row:=Ol
    simp +contextual only [go_sem,aE,sevalprocAttr,aaO,ht]
    refine aR (cX (az ⟨z.length - (j+1+1),by omega,rfl,j+1+1,by omega,rfl,?_,?_,T4,hT,rfl,ax⟩))
    ·simp only [aG,aI,go_sem,sevalprocAttr]
    ·simp only [go_sem,sevalprocAttr,aB (j+1) (by omega)]
 ·have:i=z.length:=by omega
  subst this
  rw [List.drop_length,Zr] at ax
  simp +contextual only [go_sem,aE,sevalprocAttr,aI,ht,aN]
  exact am cV (cS ax.symm)
theorem tZ {zs:List (List Z)}{zv:Value}(hz:RS M (fun z cs=>∃ s,RS M (RZ M) 2 z s/\cs=[s]) 1 zs zv)(T:Tm):cw Tryz.prog 212 [zv] T M [] [] (fun r' _ _ _=>r'=.int .i64 (nC cW zs)) aO:=by
 obtain ⟨fS,a,c,rfl,dJ,_,hg⟩:=aF (by decide) (by rintro _ _ ⟨_,_,rfl⟩;rfl) hz
 obtain ⟨S,hS⟩:∃ S,S=nC cW zs:=⟨_,rfl⟩
 rw [<- hS]
 refine aC Wz rfl rfl ?_
 intro bi _
 simp +contextual only [go_sem,aE,sevalprocAttr]
 refine aY zs.length 8 [(6,.slice a zs.length c),(7,.int .i64 (zs.length:Int))] (fun i e h=>h=⟨T,M,[],[]⟩/\S=nC cW (zs.drop i)) 0 (by omega) (by simp only [aG,go_sem,sevalprocAttr]) (by simp only [go_sem,sevalprocAttr]) ⟨rfl,hS⟩ ?_
 rintro i e h hi aI ht ⟨rfl,ax⟩
 simp only [aG] at aI
 by_cases aN:i<zs.length
 ·obtain ⟨b',o',cs',rfl,cG,s,bP,rfl⟩:=hg i zs[i] (gq aN)
  have y0:=tV cG
  rw [Nat.mul_one] at y0
  rw [dq aN,nC] at ax
  simp +contextual only [go_sem,aE,sevalprocAttr,aI,ht,aN,y0]
  refine aP (AT bP _) ?_
  by_cases h0:cW zs[i]=0
  ·rw [h0,zA] at ax
   rw [h0]
   simp +contextual only [go_sem,aE,sevalprocAttr,ht]
   refine cI aN ?_ ?_ ⟨rfl,ax⟩
   ·simp only [aG,aI,go_sem,sevalprocAttr]
   ·simp only [go_sem,sevalprocAttr,aB i (by omega)]
  ·rw [mY h0] at ax
   simp +contextual only [go_sem,aE,sevalprocAttr,h0]
   exact am aH.rfl' (cS ax.symm)
 ·have:i=zs.length:=by omega
  subst this
  rw [List.drop_length,nC] at ax
  simp +contextual only [go_sem,aE,sevalprocAttr,aI,ht,aN]
  exact am aH.rfl' (cS ax.symm)
theorem lA {cols:List Int}{z:List Z}{cv zv:Value}(hc:RS M RI 1 cols cv)(hz:RS M (RZ M) 2 z zv)(T:Tm):cw Tryz.prog 102 [cv,zv] T M [] [] (fun r' _ _ _=>r'=.int .i64 (eS cols z)) aO:=by
 obtain ⟨fS,a,c,rfl,dJ,_,hg⟩:=aF (by decide) (fun _ _=>cm) hz
 obtain ⟨r6,a2,c2,rfl,mz,_,_⟩:=aF (by decide) (fun _ _=>bV) hc
 obtain ⟨S,hS⟩:∃ S,S=eS cols z:=⟨_,rfl⟩
 rw [<- hS]
 unfold eS at hS
 refine aC ajj rfl rfl ?_
 intro bi _
 by_cases h8:8<cols.length
 ·have oV:(8:Int)<(cols.length:Int):=by omega
  rw [if_pos h8] at hS
  simp +contextual only [go_sem,aE,sevalprocAttr,oV]
  exact am aH.rfl' (cS hS.symm)
 have oV:¬ (8:Int)<(cols.length:Int):=by omega
 rw [if_neg h8] at hS
 simp +contextual only [go_sem,aE,sevalprocAttr,oV]
 refine aP (AT hz _) ?_
 by_cases hw:cW z=0
 rotate_left
 ·rw [mY hw] at hS
  simp +contextual only [go_sem,aE,sevalprocAttr,hw]
  exact am aH.rfl' (cS hS.symm)
 rw [hw,zA] at hS
 rw [hw]
 simp +contextual only [go_sem,aE,sevalprocAttr]
 refine aY z.length 19 [(0,.slice a2 cols.length c2),(17,.slice a z.length c),(18,.int .i64 (z.length:Int))] (fun i e h=>∃ N',aH T N'/\h=⟨N',M,[],[]⟩/\S=nC (fun x=>BN cols x.row) (z.drop i)) 0 (by omega) (by simp only [aG,go_sem,sevalprocAttr]) (by simp only [go_sem,sevalprocAttr]) ⟨T,aH.rfl',rfl,hS⟩ ?_
 rintro i e h hi aI ht ⟨T1,cV,rfl,ax⟩
 simp only [aG] at aI
 by_cases aN:i<z.length
 ·obtain ⟨b',o',cs',rfl,cG,s,bP,rfl⟩:=hg i z[i] (gq aN)
  obtain ⟨y0,y1,_⟩:=cG
  have gF:=(cR bP).1
  rw [dq aN,nC] at ax
  simp +contextual only [go_sem,aE,sevalprocAttr,aI,ht,aN,y0,y1,gF]
  intro b4 T4 dI fj gH
  have hT:=cV.trans fj
  refine aP (U7 hc bP _) ?_
  by_cases h0:BN cols z[i].row=0
  ·rw [h0,zA] at ax
   rw [h0]
   simp +contextual only [go_sem,aE,sevalprocAttr,ht]
   refine aR (cX (az ⟨z.length - (i+1),by omega,rfl,i+1,by omega,rfl,?_,?_,T4,hT,rfl,ax⟩))
   ·simp only [aG,aI,go_sem,sevalprocAttr]
   ·simp only [go_sem,sevalprocAttr,aB i (by omega)]
  ·rw [mY h0] at ax
   simp +contextual only [go_sem,aE,sevalprocAttr,h0]
   exact am hT (cS ax.symm)
 ·have:i=z.length:=by omega
  subst this
  rw [List.drop_length,nC] at ax
  simp +contextual only [go_sem,aE,sevalprocAttr,aI,ht,aN]
  exact am cV (cS ax.symm)
theorem QQ {l:List Int}{lv:Value}(hs:RS M RI 1 l lv)(T:Tm):cw Tryz.prog 202 [lv] T M [] [] (fun r _ _ _=>r=.int .i64 (l.foldr j4 0)) aO:=by
 obtain ⟨fS,a,c,rfl,dJ,_,hg⟩:=aF (by decide) (fun _ _=>bV) hs
 refine aC abi rfl rfl ?_
 intro bi _
 simp +contextual only [go_sem,aE,sevalprocAttr]
 refine aY l.length 8 [(3,.int .i64 0),(6,.slice a l.length c),(7,.int .i64 (l.length:Int))] (fun i e h=>h=⟨T,M,[],[]⟩/\(l.drop i).foldr j4 0=l.foldr j4 0) 0 (by omega) (by simp only [aG,go_sem,sevalprocAttr]) (by simp only [go_sem,sevalprocAttr]) ⟨rfl,rfl⟩ ?_
 rintro i e h hi aI ht ⟨rfl,ax⟩
 simp only [aG] at aI
 by_cases aN:i<l.length
 ·obtain ⟨b',o',cs',rfl,cG,fy⟩:=hg i l[i] (gq aN)
  unfold RI at fy;subst fy
  have x0:=tV cG
  rw [Nat.mul_one] at x0
  have bA:l.drop i=l[i]::l.drop (i+1):=dq aN
  rw [bA,List.foldr_cons] at ax
  simp +contextual only [go_sem,aE,sevalprocAttr,aI,ht,aN,x0]
  by_cases h0:l[i]=0
  ·rw [h0] at ax
   simp +contextual only [go_sem,sevalprocAttr,h0]
   refine cI aN ?_ ?_ ⟨rfl,ax⟩
   ·simp only [aG,aI,go_sem,sevalprocAttr]
   ·simp only [go_sem,sevalprocAttr,aB i (by omega)]
  ·simp +contextual only [go_sem,sevalprocAttr,h0]
   refine am aH.rfl' (cS ?_)
   rw [<- ax,j4,if_pos h0]
 ·have:i=l.length:=by omega
  subst this
  rw [List.drop_length] at ax
  simp +contextual only [go_sem,aE,sevalprocAttr,aI,ht,aN]
  exact am aH.rfl' (congrArg (Value.int .i64) ax)
theorem FK {cols:List Int}{cv:Value}{x:Ex}{cs:List Value}(kM:RS M RI 1 cols cv)(hx:gU M x cs)(T:Tm):
 cw Tryz.prog 203 [cv,.agg ⟨cs⟩] T M [] [] (fun r _ _ _=>r=.int .i64 (nE cols x)) aO:=by
 obtain ⟨s0,Av,tF,kd⟩:=dt hx
 refine aC ahp rfl rfl ?_
 intro bi _
 have hl:=dW hx
 subst Av
 simp +contextual only [go_sem,sevalprocAttr]
 intro b3 T3 gj fB hZ
 refine aD (wv kM hx T3) ?_
 rintro r M1 aV bG hr
 unfold nE oG
 cases kN:jr cols x with
 | error er=>
  rw [kN] at hr
  obtain ⟨cD,t,rfl⟩:=hr
  simp +contextual only [go_sem,aE,sevalprocAttr,cD]
  exact am fB rfl
 | ok t=>
  rw [kN] at hr
  simp only [zY] at hr
  subst hr
  by_cases h2:t=2
  ·subst h2
   simp +contextual only [go_sem,aE,sevalprocAttr]
   exact am fB rfl
  ·by_cases h1:t=1
   ·subst h1
    simp +contextual only [go_sem,aE,sevalprocAttr]
    exact am fB rfl
   ·simp +contextual only [go_sem,aE,sevalprocAttr,h1,h2]
    exact am fB rfl
abbrev PV:=Value×Value
def fl {α:Type}(enc:α ->PV)(l:List α):List Value:=l.flatMap fun e=>[(enc e).1,(enc e).2]
section
variable {α:Type} {enc:α ->PV}
theorem cZ:∀ (l:List α),(fl enc l).length=l.length*2
 | []=>rfl
 | e::l=>by
  have:=cZ l
  simp only [fl,List.flatMap_cons,List.length_append,ln] at this ⊢
  omega
theorem dT:∀ {l:List α} {i:Nat} (junk:List Value) (h:i<l.length),(fl enc l++junk)[i*2]?=some (enc l[i]).1
 | e::l,0,_,_=>rfl
 | e::l,i+1,junk,h=>by
  have:=dT (l:=l) (i:=i) junk (by simpa using h)
  simpa [fl,Nat.add_mul] using this
theorem dR:∀ {l:List α} {i:Nat} (junk:List Value) (h:i<l.length),(fl enc l++junk)[i*2+1]?=some (enc l[i]).2
 | e::l,0,_,_=>rfl
 | e::l,i+1,junk,h=>by
  have:=dR (l:=l) (i:=i) junk (by simpa using h)
  have h2:(i+1)*2+1=(i*2+1)+2:=by omega
  rw [h2]
  simpa [fl] using this
theorem sW:∀ {l:List α} {i:Nat} (junk:List Value) (x:α) (h:i<l.length),((fl enc l++junk).set (i*2) (enc x).1).set (i*2+1) (enc x).2=fl enc (l.set i x)++junk
 | e::l,0,_,_,_=>rfl
 | e::l,i+1,junk,x,h=>by
  have:=sW (l:=l) (i:=i) junk x (by simpa using h)
  have h1:(i+1)*2=i*2+2:=by omega
  have h2:(i+1)*2+1=(i*2+1)+2:=by omega
  rw [h2,h1]
  simpa [fl] using this
end
inductive SF:FuncId ->FuncId ->FuncId ->FuncId ->FuncId ->FuncId ->Prop
 | z:SF 291 323 314 292 245 200
 | g:SF 317 325 324 318 298 261
def sw {α:Type}[Inhabited α](l:List α)(i j:Nat):List α:=(l.set i (l.getD j default)).set j (l.getD i default)
theorem j5 {α:Type}[Inhabited α](l:List α)(i j:Nat):(sw l i j).length=l.length:=by simp [sw]
theorem ph {α:Type}[Inhabited α]{ok:α ->Prop}{l:List α}{i j:Nat}(hi:i<l.length)(hj:j<l.length)(h:∀ e∈l,ok e):∀ e∈sw l i j,ok e:=by
 intro e he
 unfold sw at he
 rcases List.mem_or_eq_of_mem_set he with he | rfl
 ·rcases List.mem_or_eq_of_mem_set he with he | rfl
  ·exact h e he
  ·rw [List.getD_eq_getElem?_getD,gq hj];exact h _ (gm hj)
 ·rw [List.getD_eq_getElem?_getD,gq hi];exact h _ (gm hi)
theorem fg {α:Type}[Inhabited α]{l:List α}{i:Nat}(h:i<l.length):l.getD i default=l[i]:=by simp [h]
theorem qn {α:Type}[Inhabited α]{enc:α ->PV}{l:List α}{i j:Nat}(junk:List Value)(hi:i<l.length)(hj:j<l.length):
 ((((fl enc l++junk).set (i*2) (enc l[j]).1).set (i*2+1) (enc l[j]).2).set (j*2) (enc l[i]).1).set (j*2+1) (enc l[i]).2=fl enc (sw l i j)++junk:=by
 rw [sW junk _ hi,sW junk _ (by simpa using hj),sw,fg hi,fg hj]
def pW {α:Type}[Inhabited α](cf:α ->α ->Int)(l:List α)(i j:Nat):Bool:=decide (cf (l.getD i default) (l.getD j default)<0)
def mg {α:Type}[Inhabited α](cf:α ->α ->Int)(a:Nat):Nat ->List α ->List α
 | 0,l=>l
 | j+1,l=>if a<j+1/\pW cf l (j+1) j=true then mg cf a j (sw l (j+1) j) else l
def zX {α:Type}[Inhabited α](cf:α ->α ->Int)(a:Nat):Nat ->Nat ->List α ->List α
 | 0,_,l=>l
 | f+1,i,l=>zX cf a f (i+1) (mg cf a i l)
def ED {α:Type}[Inhabited α](cf:α ->α ->Int)(l:List α)(a b:Nat):List α:=zX cf a (b - (a+1)) (a+1) l
structure CmpOk {α:Type} (M:aS) (enc:α ->PV) (g:FuncId) (caps:List Value) (cf:α ->α ->Int) (ok:α ->Prop):Prop where
 bod:de Tryz.prog g=true
 one:∀ x,ok x ->(enc x).1.oneCell'=true/\(enc x).2.oneCell'=true
 call:∀ x y,ok x ->ok y ->∀ T,cw Tryz.prog g ([.agg ⟨[(enc x).1,(enc x).2]⟩,.agg ⟨[(enc y).1,(enc y).2]⟩]++caps) T M [] [] (fun r _ _ _=>r=.int .i64 (cf x y)) aO
section
variable {P:Program} {F:Fi} {s:List Vc.Item} {e:dj} {ds:List Deferred} {h:Sh} {b:Code}
def LW (ds0:List Deferred)(lv:List (Nat×Value))(K:Nat ->dj ->Sh ->Prop):Nat ->dj ->List Deferred ->Sh ->Prop:=fun m e ds h=>ds=ds0/\aG e lv/\K m e h
theorem gD (lv:List (Nat×Value))(K:Nat ->dj ->Sh ->Prop)(m0:Nat)(hl:aG e lv)(hK:K m0 e h)(hs:∀ m e' h',aG e' lv ->K m e' h' ->cj P F (.code b:: .lp (LW ds lv K) m::s) e' ds h' ⟨⟩):ES P F b s e ds h ⟨⟩:=
 fE (LW ds lv K) ⟨m0,rfl,hl,hK⟩ (by rintro m e' ds' h' ⟨rfl,h1,h2⟩;exact hs m e' h' h1 h2)
theorem nW {lv:List (Nat×Value)}{K:Nat ->dj ->Sh ->Prop}{m m':Nat}(hm:m'<m)(hl:aG e lv)(hK:K m' e h):cj P F (.lp (LW ds lv K) m::s) e ds h ⟨⟩:=by
 rw [dB];exact az ⟨m',hm,rfl,hl,hK⟩
end
variable {M:aS} {α:Type} [Inhabited α] {enc:α ->PV}
theorem JG {fi fs fr fm ft fo:FuncId}(hs:SF fi fs fr fm ft fo){g:FuncId}{caps:List Value}{cf:α ->α ->Int}{ok:α ->Prop}(hc:CmpOk M enc g caps cf ok){db n cap a b:Nat}{l:List α}{junk:List Value}(hl:l.length=n)(lJ:n<=cap)(cq:∀ e∈l,ok e)(TO:a<=b)(hb:b<=n)(hn:n<=4294967296)(T:Tm):
 cw Tryz.prog fi [.slice (some ⟨db,0,none⟩) n cap,.int .i64 (a:Int),.int .i64 (b:Int),.func (.func g) #[] ⟨caps⟩] T M [(db,fl enc l++junk)] [] (fun r M' L' R'=>r=.tuple #[]/\M'=M/\L'=[(db,fl enc (ED cf l a b)++junk)]/\R'=[]) aO:=by
 obtain ⟨S,hS⟩:∃ S,S=ED cf l a b:=⟨_,rfl⟩
 rw [<- hS]
 have B7:=hs
 cases hs
 all_goals
  first | refine aC acq rfl rfl ?_ | refine aC acE rfl rfl ?_
  intro bi _
  simp +contextual only [go_sem,aE,sevalprocAttr]
  have hwa:IntKind.i64.wrap ((a:Int)+1)=((a+1:Nat):Int):=aB a (by omega)
  refine gD [(0,.slice (some ⟨db,0,none⟩) n cap),(1,.int .i64 (a:Int)),(2,.int .i64 (b:Int)),(3,.func (.func g) #[] ⟨caps⟩)] (fun m e h=>∃ i l',e 8=.int .i64 ((i:Nat):Int)/\h=⟨T,M,[(db,fl enc l'++junk)],[]⟩/\l'.length=n/\(∀ e∈l',ok e)/\a<i/\i<=b+1/\m=b+1 - i/\S=zX cf a (b - i) i l') (b+1 - (a+1)) (by simp only [aG,go_sem,sevalprocAttr]) ⟨a+1,l,by simp only [go_sem,sevalprocAttr,hwa],rfl,hl,cq,by omega,by omega,rfl,hS⟩ ?_
  rintro m e h aI ⟨i,l',e8,rfl,gG,iB,hai,hib,rfl,ax⟩
  simp only [aG] at aI
  by_cases aN:i<b
  rotate_left
  ·have h0:b - i=0:=by omega
   rw [h0,zX] at ax
   simp +contextual only [go_sem,aE,sevalprocAttr,aI,e8,aN]
   exact aM aH.rfl' rfl rfl ⟨rfl,rfl,by rw [ax],rfl⟩
  obtain ⟨f,hf⟩:∃ f,b - i=f+1:=⟨b - i - 1,by omega⟩
  rw [hf,zX] at ax
  simp +contextual only [go_sem,aE,sevalprocAttr,aI,e8,aN]
  refine gD [(0,.slice (some ⟨db,0,none⟩) n cap),(1,.int .i64 (a:Int)),(2,.int .i64 (b:Int)),(3,.func (.func g) #[] ⟨caps⟩),(8,.int .i64 (i:Int))] (fun m e h=>∃ j l2,e 9=.int .i64 ((j:Nat):Int)/\h=⟨T,M,[(db,fl enc l2++junk)],[]⟩/\l2.length=n/\(∀ e∈l2,ok e)/\j<=i/\m=j/\mg cf a i l'=mg cf a j l2) i (by simp only [aG,go_sem,sevalprocAttr,aI,e8]) ⟨i,l',by simp only [go_sem,sevalprocAttr],rfl,gG,iB,by omega,rfl,rfl⟩ ?_
  rintro j e h aI ⟨_,l2,e9,rfl,eD,mu,Bx,rfl,Pu⟩
  simp only [aG] at aI
  simp +contextual only [go_sem,sevalprocAttr]
  refine aU ?_
  by_cases haj:a<j
  rotate_left
  ·simp +contextual only [go_sem,aE,sevalprocAttr,aI,e9,haj]
   refine nW (m':=b+1 - (i+1)) (by omega) (by simp only [aG,go_sem,sevalprocAttr,aI]) ⟨i+1,l2,?_,rfl,eD,mu,by omega,by omega,rfl,?_⟩
   ·simp only [go_sem,sevalprocAttr,aB i (by omega)]
   ·have h1:b - (i+1)=f:=by omega
    rw [h1,ax,Pu]
    cases j with
    | zero=>rw [mg]
    | succ j=>rw [mg,if_neg (fun h=>haj h.1)]
  obtain ⟨j,rfl⟩:∃ k,j=k+1:=⟨j - 1,by omega⟩
  have Ok:j+1<l2.length:=by omega
  have C3:j<l2.length:=by omega
  have hjn:j+1<n:=by omega
  have acl:j<n:=by omega
  have e1:IntKind.i64.wrap (((j+1:Nat):Int) - 1)=((j:Nat):Int):=by rw [bJ (by omega) (by omega)];omega
  have c0:=dT (enc:=enc) junk C3
  have c1:=dR (enc:=enc) junk C3
  have d0:=dT (enc:=enc) junk Ok
  have d1:=dR (enc:=enc) junk Ok
  have o1:=hc.one _ (mu _ (gm Ok))
  have o0:=hc.one _ (mu _ (gm C3))
  simp +contextual only [go_sem,sevalprocAttr,aI,e9,haj,e1,hjn,acl,aA bi.1,c0,c1,d0,d1]
  refine aP (hc.call _ _ (mu _ (gm Ok)) (mu _ (gm C3)) _) ?_
  simp +contextual only [go_sem,aE,sevalprocAttr,aI]
  by_cases rR:cf l2[j+1] l2[j]<0
  rotate_left
  ·rw [if_neg rR]
   refine nW (m':=b+1 - (i+1)) (by omega) (by simp only [aG,go_sem,sevalprocAttr,aI]) ⟨i+1,l2,?_,rfl,eD,mu,by omega,by omega,rfl,?_⟩
   ·simp only [go_sem,sevalprocAttr,aB i (by omega)]
   ·have h1:b - (i+1)=f:=by omega
    have h2:pW cf l2 (j+1) j=false:=by simp only [pW,fg Ok,fg C3];simp [rR]
    rw [h1,ax,Pu,mg,if_neg (by rw [h2];simp)]
  rw [if_pos rR]
  refine aU ?_
  have FN:(j+1)*2+2<=(fl enc l2++junk).length:=by rw [List.length_append,cZ];omega
  have JT:j*2+2<=(fl enc l2++junk).length:=by rw [List.length_append,cZ];omega
  simp +contextual only [go_sem,sevalprocAttr,aI,e9,e1,hjn,acl,aA bi.1,c0,c1,d0,d1,o1,o0,FN,JT]
  refine nW (m':=j) (by omega) (by simp only [aG,go_sem,sevalprocAttr,aI]) ⟨j,sw l2 (j+1) j,?_,?_,by rw [j5];exact eD,ph Ok C3 mu,by omega,rfl,?_⟩
  ·simp only [go_sem,sevalprocAttr]
  ·rw [qn junk Ok C3]
  ·have h2:pW cf l2 (j+1) j=true:=by simp only [pW,fg Ok,fg C3];simp [rR]
   rw [Pu,mg,if_pos ⟨haj,h2⟩]
def F2 {α:Type}[Inhabited α](a b:Nat):Nat ->Nat ->List α ->List α
 | 0,_,l=>l
 | f+1,i,l=>F2 a b f (i+1) (sw l (a+i) (b+i))
def BF {α:Type}[Inhabited α](l:List α)(m i j:Nat):List α:=
 if i≠j/\0<i/\0<j then (if i>j then BF (F2 (m - i) m j 0 l) m (i - j) j else BF (F2 (m - i) (m+j - i) i 0 l) m i (j - i)) else F2 (m - i) m i 0 l
termination_by i+j
decreasing_by all_goals omega
def DS (p:Nat ->Bool)(i j:Nat):Nat:=if i<j then (if p ((i+j) / 2)=true then DS p ((i+j) / 2+1) j else DS p i ((i+j) / 2)) else i
termination_by j - i
decreasing_by all_goals omega
def vD {α:Type}[Inhabited α](l:List α)(k e:Nat):List α:=if k+1<e then vD (sw l k (k+1)) (k+1) e else l
termination_by e - k
def uE {α:Type}[Inhabited α](i:Nat):Nat ->List α ->List α
 | 0,l=>l
 | k+1,l=>if i<k+1 then uE i k (sw l (k+1) k) else l
theorem mf {α:Type}[Inhabited α](a b:Nat):∀ (f i:Nat) (l:List α),(F2 a b f i l).length=l.length
 | 0,_,_=>rfl
 | f+1,i,l=>by rw [F2,mf a b f];exact j5 _ _ _
theorem qi {α:Type}[Inhabited α]{ok:α ->Prop}(a b:Nat):∀ (f i:Nat) (l:List α),a+i+f<=l.length ->b+i+f<=l.length ->(∀ e∈l,ok e) ->∀ e∈F2 a b f i l,ok e
 | 0,_,_,_,_,h=>h
 | f+1,i,l,h1,h2,h=>by
  rw [F2]
  exact qi a b f (i+1) _ (by rw [j5];omega) (by rw [j5];omega) (ph (by omega) (by omega) h)
theorem Kd {α:Type}[Inhabited α](l:List α)(m i j:Nat):(BF l m i j).length=l.length:=by
 fun_induction BF l m i j with
 | case1 l i j h h2 ih=>rw [ih,mf]
 | case2 l i j h h2 ih=>rw [ih,mf]
 | case3 l i j h=>rw [mf]
theorem Ke {α:Type}[Inhabited α]{ok:α ->Prop}(l:List α)(m i j:Nat)(h1:i<=m)(h2:m+j<=l.length)(G4:i≠0/\j≠0)(h:∀ e∈l,ok e):∀ e∈BF l m i j,ok e:=by
 fun_induction BF l m i j with
 | case1 l i j hc GF ih=>exact ih (by omega) (by rw [mf];omega) (by omega) (qi _ _ _ _ _ (by omega) (by omega) h)
 | case2 l i j hc GF ih=>exact ih (by omega) (by rw [mf];omega) (by omega) (qi _ _ _ _ _ (by omega) (by omega) h)
 | case3 l i j hc=>exact qi _ _ _ _ _ (by omega) (by omega) h
variable {M:aS} {α:Type} [Inhabited α] {enc:α ->PV}
theorem hO {F:Fi}{s:List Vc.Item}{e:dj}{ds:List Deferred}{dd:Option Nat}{N:Tm}{L:LL}{R:RR}{f:FuncId}{args:List Value}{x:Value}{b:Nat}{cs cs':List Value}
 (hc:cw Tryz.prog f args N M [(b,cs)] [] (fun r M' L' R'=>r=x/\M'=M/\L'=[(b,cs')]/\R'=[]) aO) (hn:cj Tryz.prog F s (cB e dd x) ds ⟨N,M,(b,cs')::L,R⟩ ⟨⟩):dk Tryz.prog F f args dd s e ds ⟨N,M,(b,cs)::L,R⟩ ⟨⟩:=
 fH [] [(b,cs)] L [] [] R hc (by rintro v M' L' R' _ _ _ _ ⟨rfl,rfl,rfl,rfl⟩;exact hn) (fun _ _ _ _ _ _ _ _ h=>h.elim)
theorem Cg {fi fs fr fm ft fo:FuncId}(hs:SF fi fs fr fm ft fo){fv:Value}{ok:α ->Prop}(dL:∀ x,ok x ->(enc x).1.oneCell'=true/\(enc x).2.oneCell'=true){db n cap a b c:Nat}{l:List α}{junk:List Value}(hl:l.length=n)(lJ:n<=cap)(cq:∀ e∈l,ok e)(ha:a+c<=n)(hb:b+c<=n)(hn:n<=4294967296)(T:Tm):
 cw Tryz.prog fs [.slice (some ⟨db,0,none⟩) n cap,.int .i64 (a:Int),.int .i64 (b:Int),.int .i64 (c:Int),fv] T M [(db,fl enc l++junk)] [] (fun r M' L' R'=>r=.tuple #[]/\M'=M/\L'=[(db,fl enc (F2 a b c 0 l)++junk)]/\R'=[]) aO:=by
 obtain ⟨S,hS⟩:∃ S,S=F2 a b c 0 l:=⟨_,rfl⟩
 rw [<- hS]
 have B7:=hs
 cases hs
 all_goals
  first | refine aC ahc rfl rfl ?_ | refine aC agd rfl rfl ?_
  intro bi _
  simp +contextual only [go_sem,aE,sevalprocAttr]
  refine gD [(0,.slice (some ⟨db,0,none⟩) n cap),(1,.int .i64 (a:Int)),(2,.int .i64 (b:Int)),(3,.int .i64 (c:Int))] (fun m e h=>∃ i l',e 10=.int .i64 ((i:Nat):Int)/\h=⟨T,M,[(db,fl enc l'++junk)],[]⟩/\l'.length=n/\(∀ e∈l',ok e)/\i<=c/\m=c - i/\S=F2 a b (c - i) i l') c (by simp only [aG,go_sem,sevalprocAttr]) ⟨0,l,by simp only [go_sem,sevalprocAttr],rfl,hl,cq,by omega,rfl,hS⟩ ?_
  rintro m e h aI ⟨i,l',e10,rfl,gG,iB,hic,rfl,ax⟩
  simp only [aG] at aI
  by_cases aN:i<c
  rotate_left
  ·have h0:c - i=0:=by omega
   rw [h0,F2] at ax
   simp +contextual only [go_sem,aE,sevalprocAttr,aI,e10,aN]
   exact aM aH.rfl' rfl rfl ⟨rfl,rfl,by rw [ax],rfl⟩
  obtain ⟨f,hf⟩:∃ f,c - i=f+1:=⟨c - i - 1,by omega⟩
  rw [hf,F2] at ax
  simp +contextual only [go_sem,aE,sevalprocAttr,aI,e10,aN]
  refine aU ?_
  have hai:a+i<l'.length:=by omega
  have hbi:b+i<l'.length:=by omega
  have wa:IntKind.i64.wrap ((a:Int)+(i:Int))=((a+i:Nat):Int):=by rw [bJ (by omega) (by omega)];omega
  have wb:IntKind.i64.wrap ((b:Int)+(i:Int))=((b+i:Nat):Int):=by rw [bJ (by omega) (by omega)];omega
  have han:a+i<n:=by omega
  have hbn:b+i<n:=by omega
  have c0:=dT (enc:=enc) junk hai
  have c1:=dR (enc:=enc) junk hai
  have d0:=dT (enc:=enc) junk hbi
  have d1:=dR (enc:=enc) junk hbi
  have o1:=dL _ (iB _ (gm hai))
  have o0:=dL _ (iB _ (gm hbi))
  have FN:(a+i)*2+2<=(fl enc l'++junk).length:=by rw [List.length_append,cZ];omega
  have JT:(b+i)*2+2<=(fl enc l'++junk).length:=by rw [List.length_append,cZ];omega
  simp +contextual only [go_sem,sevalprocAttr,aI,e10,wa,wb,han,hbn,aA bi.1,c0,c1,d0,d1,o1,o0,FN,JT]
  refine nW (m':=c - (i+1)) (by omega) (by simp only [aG,go_sem,sevalprocAttr,aI]) ⟨i+1,sw l' (a+i) (b+i),?_,?_,by rw [j5];exact gG,ph hai hbi iB,by omega,rfl,?_⟩
  ·simp only [go_sem,sevalprocAttr,aB i (by omega)]
  ·rw [qn junk hai hbi]
  ·rw [ax];congr 1;omega
theorem VP {fi fs fr fm ft fo:FuncId}(hs:SF fi fs fr fm ft fo){fv:Value}{ok:α ->Prop}(dL:∀ x,ok x ->(enc x).1.oneCell'=true/\(enc x).2.oneCell'=true){db n cap a m b:Nat}{l:List α}{junk:List Value}(hl:l.length=n)(lJ:n<=cap)(cq:∀ e∈l,ok e)(Yf:a<m)(hmb:m<b)(hb:b<=n)(hn:n<=4294967296)(T:Tm):
 cw Tryz.prog fr [.slice (some ⟨db,0,none⟩) n cap,.int .i64 (a:Int),.int .i64 (m:Int),.int .i64 (b:Int),fv] T M [(db,fl enc l++junk)] [] (fun r M' L' R'=>r=.tuple #[]/\M'=M/\L'=[(db,fl enc (BF l m (m - a) (b - m))++junk)]/\R'=[]) aO:=by
 obtain ⟨S,hS⟩:∃ S,S=BF l m (m - a) (b - m):=⟨_,rfl⟩
 rw [<- hS]
 have B7:=hs
 cases hs
 all_goals
  first | refine aC af6 rfl rfl ?_ | refine aC ai8 rfl rfl ?_
  intro bi _
  have w1:IntKind.i64.wrap ((m:Int) - (a:Int))=((m - a:Nat):Int):=by rw [bJ (by omega) (by omega)];omega
  have w2:IntKind.i64.wrap ((b:Int) - (m:Int))=((b - m:Nat):Int):=by rw [bJ (by omega) (by omega)];omega
  simp +contextual only [go_sem,aE,sevalprocAttr,w1,w2]
  refine gD [(0,.slice (some ⟨db,0,none⟩) n cap),(2,.int .i64 (m:Int)),(4,fv)] (fun k e h=>∃ i j l',e 10=.int .i64 ((i:Nat):Int)/\e 11=.int .i64 ((j:Nat):Int)/\h=⟨T,M,[(db,fl enc l'++junk)],[]⟩/\l'.length=n/\(∀ e∈l',ok e)/\0<i/\0<j/\i<=m/\m+j<=n/\k=i+j/\S=BF l' m i j) (m - a+(b - m)) (by simp only [aG,go_sem,sevalprocAttr]) ⟨m - a,b - m,l,by simp only [go_sem,sevalprocAttr],by simp only [go_sem,sevalprocAttr],rfl,hl,cq,by omega,by omega,by omega,by omega,rfl,hS⟩ ?_
  rintro k e h aI ⟨i,j,l',e10,e11,rfl,gG,iB,rU,C3,him,hjn,rfl,ax⟩
  simp only [aG] at aI
  have w3:IntKind.i64.wrap ((m:Int) - (i:Int))=((m - i:Nat):Int):=by rw [bJ (by omega) (by omega)];omega
  by_cases G4:i=j
  ·subst G4
   rw [BF,if_neg (fun h=>h.1 rfl)] at ax
   simp +contextual only [go_sem,aE,sevalprocAttr,aI,e10,e11,w3]
   refine hO (Cg B7 dL gG lJ iB (by omega) (by omega) hn _) ?_
   simp +contextual only [go_sem,sevalprocAttr]
   exact aM aH.rfl' rfl rfl ⟨rfl,rfl,by rw [ax],rfl⟩
  have aeA:¬ (i:Int)=(j:Int):=by omega
  by_cases GF:j<i
  ·rw [BF,if_pos ⟨G4,rU,C3⟩,if_pos GF] at ax
   simp +contextual only [go_sem,aE,sevalprocAttr,aI,e10,e11,w3,aeA,GF]
   refine hO (Cg B7 dL gG lJ iB (by omega) (by omega) hn _) ?_
   have w4:IntKind.i64.wrap ((i:Int) - (j:Int))=((i - j:Nat):Int):=by rw [bJ (by omega) (by omega)];omega
   simp +contextual only [go_sem,sevalprocAttr,e10,e11,w4]
   exact nW (m':=i - j+j) (by omega) (by simp only [aG,go_sem,sevalprocAttr,aI]) ⟨i - j,j,_,by simp only [go_sem,sevalprocAttr],by simp only [go_sem,sevalprocAttr,e11],rfl,by rw [mf];exact gG,qi _ _ _ _ _ (by omega) (by omega) iB,by omega,by omega,by omega,by omega,rfl,ax⟩
  ·rw [BF,if_pos ⟨G4,rU,C3⟩,if_neg (by omega)] at ax
   have w5:IntKind.i64.wrap ((m:Int)+(j:Int))=((m+j:Nat):Int):=by rw [bJ (by omega) (by omega)];omega
   have w6:IntKind.i64.wrap (((m+j:Nat):Int) - (i:Int))=((m+j - i:Nat):Int):=by rw [bJ (by omega) (by omega)];omega
   simp +contextual only [go_sem,aE,sevalprocAttr,aI,e10,e11,w3,aeA,GF,w5,w6]
   refine hO (Cg B7 dL gG lJ iB (by omega) (by omega) hn _) ?_
   have w4:IntKind.i64.wrap ((j:Int) - (i:Int))=((j - i:Nat):Int):=by rw [bJ (by omega) (by omega)];omega
   simp +contextual only [go_sem,sevalprocAttr,e10,e11,w4]
   exact nW (m':=i+(j - i)) (by omega) (by simp only [aG,go_sem,sevalprocAttr,aI]) ⟨i,j - i,_,by simp only [go_sem,sevalprocAttr,e10],by simp only [go_sem,sevalprocAttr],rfl,by rw [mf];exact gG,qi _ _ _ _ _ (by omega) (by omega) iB,by omega,by omega,by omega,by omega,rfl,ax⟩
set_option maxHeartbeats 1000000
def dM {α:Type}[Inhabited α](cf:α ->α ->Int)(l:List α)(a m b:Nat):Nat:=
 DS (fun c=> !pW cf l ((a+b) / 2+m - 1 - c) c) (if (a+b) / 2<m then (a+b) / 2+m - b else a) (if (a+b) / 2<m then (a+b) / 2 else m)
def mJ {α:Type}[Inhabited α](l:List α)(m st en:Nat):List α:=if st<m/\m<en then BF l m (m - st) (en - m) else l
def ms {α:Type}[Inhabited α](cf:α ->α ->Int)(l:List α)(a m b:Nat):List α:=
 if m - a=1 then vD l a (DS (fun h=>pW cf l h a) m b)
 else if b - m=1 then uE (DS (fun h=> !pW cf l m h) a m) m l
 else if (a+b) / 2<(a+b) / 2+m - dM cf l a m b/\(a+b) / 2+m - dM cf l a m b<b then
  ms cf (if a<dM cf l a m b/\dM cf l a m b<(a+b) / 2 then ms cf (mJ l m (dM cf l a m b) ((a+b) / 2+m - dM cf l a m b)) a (dM cf l a m b) ((a+b) / 2) else mJ l m (dM cf l a m b) ((a+b) / 2+m - dM cf l a m b))
   ((a+b) / 2) ((a+b) / 2+m - dM cf l a m b) b
 else (if a<dM cf l a m b/\dM cf l a m b<(a+b) / 2 then ms cf (mJ l m (dM cf l a m b) ((a+b) / 2+m - dM cf l a m b)) a (dM cf l a m b) ((a+b) / 2) else mJ l m (dM cf l a m b) ((a+b) / 2+m - dM cf l a m b))
termination_by b - a
decreasing_by all_goals omega
theorem yG (p:Nat ->Bool)(i j:Nat)(h:i<=j):i<=DS p i j/\DS p i j<=j:=by
 fun_induction DS p i j with
 | case1 i j h1 h2 ih=>have:=ih (by omega);omega
 | case2 i j h1 h2 ih=>have:=ih (by omega);omega
 | case3 i j h1=>omega
theorem Xk (i j:Nat)(h:i+j<=9223372036854775807):IntKind.u64.wrap ((i+j:Nat):Int)=((i+j:Nat):Int):=by
 rw [IntKind.wrap_u64];omega
theorem KP (x:Nat):(x:Int).fdiv (2 ^ (min 1 64))=((x / 2:Nat):Int):=by
 have:(2:Int) ^ (min 1 64)=2:=by decide
 rw [this]
 exact Int.fdiv_eq_ediv_of_nonneg _ (by omega)
theorem PM {α:Type}[Inhabited α](l:List α)(k e:Nat)(he:e<=l.length):(vD l k e).length=l.length/\∀ ok:α ->Prop,(∀ x∈l,ok x) ->∀ x∈vD l k e,ok x:=by
 fun_induction vD l k e with
 | case1 l k h ih=>
  have ih:=ih (by rw [j5];omega)
  exact ⟨by rw [ih.1,j5],fun ok h2=>ih.2 ok (ph (by omega) (by omega) h2)⟩
 | case2 l k h=>exact ⟨rfl,fun _ h=>h⟩
theorem Ee {α:Type}[Inhabited α](i:Nat):∀ (k:Nat) (l:List α),k<l.length ->(uE i k l).length=l.length/\∀ ok:α ->Prop,(∀ x∈l,ok x) ->∀ x∈uE i k l,ok x
 | 0,l,_=>⟨rfl,fun _ h=>h⟩
 | k+1,l,hk=>by
  rw [uE]
  split
  ·have ih:=Ee i k (sw l (k+1) k) (by rw [j5];omega)
   exact ⟨by rw [ih.1,j5],fun ok h2=>ih.2 ok (ph (by omega) (by omega) h2)⟩
  ·exact ⟨rfl,fun _ h=>h⟩
theorem RB {α:Type}[Inhabited α](cf:α ->α ->Int)(l:List α)(a m b:Nat)(h1:a<m)(h2:m<b):a<=dM cf l a m b/\dM cf l a m b<=m/\dM cf l a m b<=(a+b) / 2/\(a+b) / 2+m - dM cf l a m b<=b:=by
 unfold dM
 have:=yG (fun c=> !pW cf l ((a+b) / 2+m - 1 - c) c) (if (a+b) / 2<m then (a+b) / 2+m - b else a) (if (a+b) / 2<m then (a+b) / 2 else m) (by split<;>omega)
 revert this
 split<;>(intro this;omega)
theorem sJ {α:Type}[Inhabited α]:∀ (d:Nat) (cf:α ->α ->Int) (l:List α) (a m b:Nat),b - a<=d ->a<m ->m<b ->b<=l.length ->(ms cf l a m b).length=l.length/\∀ ok:α ->Prop,(∀ x∈l,ok x) ->∀ x∈ms cf l a m b,ok x:=by
 intro d
 induction d with
 | zero=>intro cf l a m b h1 h2 h3 _;exfalso;omega
 | succ d ih=>
  intro cf l a m b hd Yf hmb hb
  rw [ms]
  split
  ·have:=yG (fun h=>pW cf l h a) m b (by omega)
   exact PM _ _ _ (by omega)
  split
  ·exact Ee _ _ _ (by omega)
  have kE:=RB cf l a m b Yf hmb
  obtain ⟨st,hs⟩:∃ st,st=dM cf l a m b:=⟨_,rfl⟩
  rw [<- hs] at kE ⊢
  have h1:(mJ l m st ((a+b) / 2+m - st)).length=l.length/\∀ ok:α ->Prop,(∀ x∈l,ok x) ->∀ x∈mJ l m st ((a+b) / 2+m - st),ok x:=by
   unfold mJ
   split
   ·exact ⟨Kd _ _ _ _,fun ok h=>Ke _ _ _ _ (by omega) (by omega) (by omega) h⟩
   ·exact ⟨rfl,fun _ h=>h⟩
  obtain ⟨l1,gI⟩:∃ l1,l1=mJ l m st ((a+b) / 2+m - st):=⟨_,rfl⟩
  rw [<- gI] at h1 ⊢
  obtain ⟨l2,eD⟩:∃ l2,l2=if a<st/\st<(a+b) / 2 then ms cf l1 a st ((a+b) / 2) else l1:=⟨_,rfl⟩
  rw [<- eD]
  have h2:l2.length=l.length/\∀ ok:α ->Prop,(∀ x∈l,ok x) ->∀ x∈l2,ok x:=by
   rw [eD]
   split
   ·rename_i hq
    have hi:=ih cf l1 a st ((a+b) / 2) (by omega) hq.1 hq.2 (by omega)
    exact ⟨hi.1.trans h1.1,fun ok h=>hi.2 ok (h1.2 ok h)⟩
   ·exact h1
  split
  ·rename_i hq
   have hi:=ih cf l2 ((a+b) / 2) ((a+b) / 2+m - st) b (by omega) hq.1 hq.2 (by omega)
   exact ⟨hi.1.trans h2.1,fun ok h=>hi.2 ok (h2.2 ok h)⟩
  ·exact h2
variable {M:aS} {α:Type} [Inhabited α] {enc:α ->PV}
def ahw (fm:FuncId)(enc:α ->PV)(g:FuncId)(caps:List Value)(cf:α ->α ->Int)(ok:α ->Prop)(M:aS)(d:Nat):Prop:=∀ (db n cap a m b:Nat) (l:List α) (junk:List Value),b - a<=d ->l.length=n ->n<=cap ->(∀ e∈l,ok e) ->a<m ->m<b ->b<=n ->n<=4294967296 ->∀ T:Tm,
 cw Tryz.prog fm [.slice (some ⟨db,0,none⟩) n cap,.int .i64 (a:Int),.int .i64 (m:Int),.int .i64 (b:Int),.func (.func g) #[] ⟨caps⟩] T M [(db,fl enc l++junk)] [] (fun r M' L' R'=>r=.tuple #[]/\M'=M/\L'=[(db,fl enc (ms cf l a m b)++junk)]/\R'=[]) aO
theorem KB {fi fs fr fm ft fo:FuncId}(hs:SF fi fs fr fm ft fo){g:FuncId}{caps:List Value}{cf:α ->α ->Int}{ok:α ->Prop}(hc:CmpOk M enc g caps cf ok):∀ d,ahw fm enc g caps cf ok M d:=by
 intro d
 induction d with
 | zero=>intro db n cap a m b l junk hd hl lJ cq Yf hmb hb hn T;omega
 | succ d ih=>
  intro db n cap a m b l junk hd hl lJ cq Yf hmb hb hn T
  obtain ⟨S,hS⟩:∃ S,S=ms cf l a m b:=⟨_,rfl⟩
  rw [<- hS]
  rw [ms] at hS
  have w1:IntKind.i64.wrap ((m:Int) - (a:Int))=((m - a:Nat):Int):=by rw [bJ (by omega) (by omega)];omega
  have w2:IntKind.i64.wrap ((b:Int) - (m:Int))=((b - m:Nat):Int):=by rw [bJ (by omega) (by omega)];omega
  have B7:=hs
  cases hs
  all_goals
   first | refine aC af4 rfl rfl ?_ | refine aC ajf rfl rfl ?_
   intro bi _
   by_cases h1:m - a=1
   ·rw [if_pos h1] at hS
    have qC:((m - a:Nat):Int)=1:=by omega
    simp +contextual only [go_sem,aE,sevalprocAttr,w1,qC]
    obtain ⟨E,hE⟩:∃ E,E=DS (fun h=>pW cf l h a) m b:=⟨_,rfl⟩
    rw [<- hE] at hS
    have hEb:=yG (fun h=>pW cf l h a) m b (by omega)
    rw [<- hE] at hEb
    refine gD [(0,.slice (some ⟨db,0,none⟩) n cap),(1,.int .i64 (a:Int)),(2,.int .i64 (m:Int)),(3,.int .i64 (b:Int)),(4,.func (.func g) #[] ⟨caps⟩)] (fun k e h=>∃ i j,e 10=.int .i64 ((i:Nat):Int)/\e 11=.int .i64 ((j:Nat):Int)/\h=⟨T,M,[(db,fl enc l++junk)],[]⟩/\m<=i/\i<=j/\b>=j/\k=j - i/\E=DS (fun h=>pW cf l h a) i j) (b - m) (by simp only [aG,go_sem,sevalprocAttr]) ⟨m,b,by simp only [go_sem,sevalprocAttr],by simp only [go_sem,sevalprocAttr],rfl,by omega,by omega,by omega,rfl,hE⟩ ?_
    rintro k e h aI ⟨i,j,e10,e11,rfl,zw,G4,X2,rfl,ax⟩
    simp only [aG] at aI
    rw [DS] at ax
    by_cases aN:i<j
    ·rw [if_pos aN] at ax
     have w3:IntKind.i64.wrap ((i:Int)+(j:Int))=((i+j:Nat):Int):=by rw [bJ (by omega) (by omega)];omega
     have w4:IntKind.i64.wrap (((i+j) / 2:Nat):Int)=(((i+j) / 2:Nat):Int):=bJ (by omega) (by omega)
     have hx:(i+j) / 2<l.length:=by omega
     have W4:(i+j) / 2<n:=by omega
     have cx0:=dT (enc:=enc) junk hx
     have cx1:=dR (enc:=enc) junk hx
     have ox:=hc.one _ (cq _ (gm hx))
     have hy:a<l.length:=by omega
     have Vf:a<n:=by omega
     have cy0:=dT (enc:=enc) junk hy
     have cy1:=dR (enc:=enc) junk hy
     have oy:=hc.one _ (cq _ (gm hy))
     simp +contextual only [go_sem,aE,sevalprocAttr,e10,e11,aN,w3,Xk i j (by omega),KP,w4]
     refine aU ?_
     simp +contextual only [go_sem,sevalprocAttr,aI,W4,cx0,cx1,Vf,cy0,cy1,aA bi.1]
     refine aP (hc.call _ _ (cq _ (gm hx)) (cq _ (gm hy)) _) ?_
     by_cases rR:cf (l[(i+j) / 2]'hx) (l[a]'hy)<0
     ·have hp:pW cf l ((i+j) / 2) (a)=true:=by simp only [pW,fg hx,fg hy];simp [rR]
      rw [if_pos (by simp [hp])] at ax
      simp +contextual only [go_sem,aE,sevalprocAttr,rR,aB ((i+j) / 2) (by omega)]
      exact nW (m':=j - ((i+j) / 2+1)) (by omega) (by simp only [aG,go_sem,sevalprocAttr,aI]) ⟨(i+j) / 2+1,j,by simp only [go_sem,sevalprocAttr],by simp only [go_sem,sevalprocAttr,e11],rfl,by omega,by omega,by omega,rfl,ax⟩
     ·have hp:pW cf l ((i+j) / 2) (a)=false:=by simp only [pW,fg hx,fg hy];simp [rR]
      rw [if_neg (by simp [hp])] at ax
      simp +contextual only [go_sem,aE,sevalprocAttr,rR]
      exact nW (m':=(i+j) / 2 - i) (by omega) (by simp only [aG,go_sem,sevalprocAttr,aI]) ⟨i,(i+j) / 2,by simp only [go_sem,sevalprocAttr,e10],by simp only [go_sem,sevalprocAttr],rfl,by omega,by omega,by omega,rfl,ax⟩
    rw [if_neg aN] at ax
    obtain rfl:=ax.symm
    simp +contextual only [go_sem,aE,sevalprocAttr,aI,e10,e11,aN]
    have we:IntKind.i64.wrap ((i:Int) - 1)=((i - 1:Nat):Int):=by rw [bJ (by omega) (by omega)];omega
    refine gD [(0,.slice (some ⟨db,0,none⟩) n cap),(1,.int .i64 (a:Int)),(2,.int .i64 (m:Int)),(3,.int .i64 (b:Int)),(4,.func (.func g) #[] ⟨caps⟩),(10,.int .i64 ((i:Nat):Int))] (fun k e h=>∃ q l',e 13=.int .i64 ((q:Nat):Int)/\h=⟨T,M,[(db,fl enc l'++junk)],[]⟩/\l'.length=n/\(∀ e∈l',ok e)/\k=i - q/\S=vD l' q i) (i - a) (by simp only [aG,go_sem,sevalprocAttr,aI,e10]) ⟨a,l,by simp only [go_sem,sevalprocAttr],rfl,hl,cq,rfl,hS⟩ ?_
    rintro k e h aI ⟨q,l',e13,rfl,gG,iB,rfl,ax⟩
    simp only [aG] at aI
    rw [vD] at ax
    by_cases hq:q+1<i
    ·rw [if_pos hq] at ax
     have hq':(q:Int)<((i - 1:Nat):Int):=by omega
     have hx:q<l'.length:=by omega
     have W4:q<n:=by omega
     have cx0:=dT (enc:=enc) junk hx
     have cx1:=dR (enc:=enc) junk hx
     have ox:=hc.one _ (iB _ (gm hx))
     have hy:q+1<l'.length:=by omega
     have Vf:q+1<n:=by omega
     have cy0:=dT (enc:=enc) junk hy
     have cy1:=dR (enc:=enc) junk hy
     have oy:=hc.one _ (iB _ (gm hy))
     have hlx:q*2+2<=(fl enc l'++junk).length:=by rw [List.length_append,cZ];omega
     have hly:(q+1)*2+2<=(fl enc l'++junk).length:=by rw [List.length_append,cZ];omega
     simp +contextual only [go_sem,aE,sevalprocAttr,aI,e13,we,hq']
     refine aU ?_
     simp +contextual only [go_sem,sevalprocAttr,aI,e13,W4,cx0,cx1,ox,Vf,cy0,cy1,oy,aA bi.1,hlx,hly,aB q (by omega)]
     refine nW (m':=i - (q+1)) (by omega) (by simp only [aG,go_sem,sevalprocAttr,aI]) ⟨q+1,sw l' q (q+1),?_,?_,by rw [j5];exact gG,ph hx hy iB,rfl,ax⟩
     ·simp only [go_sem,sevalprocAttr]
     ·rw [qn junk hx hy]
    rw [if_neg hq] at ax
    have hq':¬ (q:Int)<((i - 1:Nat):Int):=by omega
    simp +contextual only [go_sem,aE,sevalprocAttr,aI,e13,we,hq']
    exact aM aH.rfl' rfl rfl ⟨rfl,rfl,by rw [ax],rfl⟩
   rw [if_neg h1] at hS
   have qC:¬ ((m - a:Nat):Int)=1:=by omega
   by_cases h2:b - m=1
   ·rw [if_pos h2] at hS
    have Ib:((b - m:Nat):Int)=1:=by omega
    simp +contextual only [go_sem,aE,sevalprocAttr,w1,qC,w2,Ib]
    obtain ⟨E,hE⟩:∃ E,E=DS (fun h=> !pW cf l m h) a m:=⟨_,rfl⟩
    rw [<- hE] at hS
    have hEb:=yG (fun h=> !pW cf l m h) a m (by omega)
    rw [<- hE] at hEb
    refine gD [(0,.slice (some ⟨db,0,none⟩) n cap),(1,.int .i64 (a:Int)),(2,.int .i64 (m:Int)),(3,.int .i64 (b:Int)),(4,.func (.func g) #[] ⟨caps⟩)] (fun k e h=>∃ i j,e 14=.int .i64 ((i:Nat):Int)/\e 15=.int .i64 ((j:Nat):Int)/\h=⟨T,M,[(db,fl enc l++junk)],[]⟩/\a<=i/\i<=j/\m>=j/\k=j - i/\E=DS (fun h=> !pW cf l m h) i j) (m - a) (by simp only [aG,go_sem,sevalprocAttr]) ⟨a,m,by simp only [go_sem,sevalprocAttr],by simp only [go_sem,sevalprocAttr],rfl,by omega,by omega,by omega,rfl,hE⟩ ?_
    rintro k e h aI ⟨i,j,e10,e11,rfl,zw,G4,X2,rfl,ax⟩
    simp only [aG] at aI
    rw [DS] at ax
    by_cases aN:i<j
    ·rw [if_pos aN] at ax
     have w3:IntKind.i64.wrap ((i:Int)+(j:Int))=((i+j:Nat):Int):=by rw [bJ (by omega) (by omega)];omega
     have w4:IntKind.i64.wrap (((i+j) / 2:Nat):Int)=(((i+j) / 2:Nat):Int):=bJ (by omega) (by omega)
     have hx:m<l.length:=by omega
     have W4:m<n:=by omega
     have cx0:=dT (enc:=enc) junk hx
     have cx1:=dR (enc:=enc) junk hx
     have ox:=hc.one _ (cq _ (gm hx))
     have hy:(i+j) / 2<l.length:=by omega
     have Vf:(i+j) / 2<n:=by omega
     have cy0:=dT (enc:=enc) junk hy
     have cy1:=dR (enc:=enc) junk hy
     have oy:=hc.one _ (cq _ (gm hy))
     simp +contextual only [go_sem,aE,sevalprocAttr,e10,e11,aN,w3,Xk i j (by omega),KP,w4]
     refine aU ?_
     simp +contextual only [go_sem,sevalprocAttr,aI,W4,cx0,cx1,Vf,cy0,cy1,aA bi.1]
     refine aP (hc.call _ _ (cq _ (gm hx)) (cq _ (gm hy)) _) ?_
     by_cases rR:cf (l[m]'hx) (l[(i+j) / 2]'hy)<0
     ·have hp:pW cf l (m) ((i+j) / 2)=true:=by simp only [pW,fg hx,fg hy];simp [rR]
      rw [if_neg (by simp [hp])] at ax
      simp +contextual only [go_sem,aE,sevalprocAttr,rR]
      exact nW (m':=(i+j) / 2 - i) (by omega) (by simp only [aG,go_sem,sevalprocAttr,aI]) ⟨i,(i+j) / 2,by simp only [go_sem,sevalprocAttr,e10],by simp only [go_sem,sevalprocAttr],rfl,by omega,by omega,by omega,rfl,ax⟩
     ·have hp:pW cf l (m) ((i+j) / 2)=false:=by simp only [pW,fg hx,fg hy];simp [rR]
      rw [if_pos (by simp [hp])] at ax
      simp +contextual only [go_sem,aE,sevalprocAttr,rR,aB ((i+j) / 2) (by omega)]
      exact nW (m':=j - ((i+j) / 2+1)) (by omega) (by simp only [aG,go_sem,sevalprocAttr,aI]) ⟨(i+j) / 2+1,j,by simp only [go_sem,sevalprocAttr],by simp only [go_sem,sevalprocAttr,e11],rfl,by omega,by omega,by omega,rfl,ax⟩
    rw [if_neg aN] at ax
    obtain rfl:=ax.symm
    simp +contextual only [go_sem,aE,sevalprocAttr,aI,e10,e11,aN]
    refine gD [(0,.slice (some ⟨db,0,none⟩) n cap),(1,.int .i64 (a:Int)),(2,.int .i64 (m:Int)),(3,.int .i64 (b:Int)),(4,.func (.func g) #[] ⟨caps⟩),(14,.int .i64 ((i:Nat):Int))] (fun k e h=>∃ q l',e 17=.int .i64 ((q:Nat):Int)/\h=⟨T,M,[(db,fl enc l'++junk)],[]⟩/\l'.length=n/\(∀ e∈l',ok e)/\q<=m/\k=q/\S=uE i q l') m (by simp only [aG,go_sem,sevalprocAttr,aI,e10]) ⟨m,l,by simp only [go_sem,sevalprocAttr],rfl,hl,cq,by omega,rfl,hS⟩ ?_
    rintro q e h aI ⟨_,l',e13,rfl,gG,iB,hqm,rfl,ax⟩
    simp only [aG] at aI
    by_cases hq:i<q
    ·obtain ⟨q,rfl⟩:∃ k,q=k+1:=⟨q - 1,by omega⟩
     rw [uE,if_pos hq] at ax
     have hx:q<l'.length:=by omega
     have W4:q<n:=by omega
     have cx0:=dT (enc:=enc) junk hx
     have cx1:=dR (enc:=enc) junk hx
     have ox:=hc.one _ (iB _ (gm hx))
     have hy:q+1<l'.length:=by omega
     have Vf:q+1<n:=by omega
     have cy0:=dT (enc:=enc) junk hy
     have cy1:=dR (enc:=enc) junk hy
     have oy:=hc.one _ (iB _ (gm hy))
     have e1:IntKind.i64.wrap (((q+1:Nat):Int) - 1)=((q:Nat):Int):=by rw [bJ (by omega) (by omega)];omega
     have hlx:q*2+2<=(fl enc l'++junk).length:=by rw [List.length_append,cZ];omega
     have hly:(q+1)*2+2<=(fl enc l'++junk).length:=by rw [List.length_append,cZ];omega
     simp +contextual only [go_sem,aE,sevalprocAttr,aI,e13,hq]
     refine aU ?_
     simp +contextual only [go_sem,sevalprocAttr,aI,e13,W4,cx0,cx1,ox,Vf,cy0,cy1,oy,aA bi.1,hlx,hly,e1]
     refine nW (m':=q) (by omega) (by simp only [aG,go_sem,sevalprocAttr,aI]) ⟨q,sw l' (q+1) q,?_,?_,by rw [j5];exact gG,ph hy hx iB,by omega,rfl,ax⟩
     ·simp only [go_sem,sevalprocAttr]
     ·rw [qn junk hy hx]
    have ax:S=l':=by
     cases q with
     | zero=>rw [ax,uE]
     | succ q=>rw [ax,uE,if_neg hq]
    simp +contextual only [go_sem,aE,sevalprocAttr,aI,e13,hq]
    exact aM aH.rfl' rfl rfl ⟨rfl,rfl,by rw [ax],rfl⟩
   rw [if_neg h2] at hS
   have Ib:¬ ((b - m:Nat):Int)=1:=by omega
   obtain ⟨mid,OO⟩:∃ mid,mid=(a+b) / 2:=⟨_,rfl⟩
   have wab:IntKind.i64.wrap ((a:Int)+(b:Int))=((a+b:Nat):Int):=by rw [bJ (by omega) (by omega)];omega
   have wm0:IntKind.i64.wrap (mid:Int)=(mid:Int):=bJ (by omega) (by omega)
   have wm1:IntKind.i64.wrap ((mid:Int)+(m:Int))=((mid+m:Nat):Int):=by rw [bJ (by omega) (by omega)];omega
   obtain ⟨s0,tF⟩:∃ s0,s0=if mid<m then mid+m - b else a:=⟨_,rfl⟩
   obtain ⟨r0,tB⟩:∃ r0,r0=if mid<m then mid else m:=⟨_,rfl⟩
   have vn:s0<=r0/\r0<=m/\r0<=mid/\mid+m - s0<=b/\a<=s0/\s0<=m:=by rw [tF,tB];split<;>omega
   simp +contextual only [go_sem,sevalprocAttr,w1,qC]
   simp only [cd,Bool.false_eq_true,if_false]
   simp +contextual only [go_sem,sevalprocAttr,w2,Ib]
   simp only [cd,Bool.false_eq_true,if_false]
   simp +contextual only [go_sem,sevalprocAttr,wab,Xk a b (by omega),KP,<- OO,wm0,wm1]
   refine dQ (fun e ds h=>ds=[]/\aG e [(0,.slice (some ⟨db,0,none⟩) n cap),(1,.int .i64 (a:Int)),(2,.int .i64 (m:Int)),(3,.int .i64 (b:Int)),(4,.func (.func g) #[] ⟨caps⟩),(18,.int .i64 ((mid:Nat):Int)),(19,.int .i64 ((mid+m:Nat):Int)),(20,.int .i64 ((s0:Nat):Int)),(21,.int .i64 ((r0:Nat):Int))]/\h=⟨T,M,[(db,fl enc l++junk)],[]⟩) (fun S' dU=> ?_) ?_
   ·rw [cd]
    by_cases XT:mid<m
    ·rw [if_pos XT] at tF tB
     have wn:IntKind.i64.wrap (((mid+m:Nat):Int) - (b:Int))=((mid+m - b:Nat):Int):=by rw [bJ (by omega) (by omega)];omega
     simp +contextual only [go_sem,sevalprocAttr,XT,wn]
     exact dU _ _ _ ⟨rfl,by simp only [aG,tF,tB,go_sem,sevalprocAttr],rfl⟩
    ·rw [if_neg XT] at tF tB
     simp +contextual only [go_sem,sevalprocAttr,XT]
     exact dU _ _ _ ⟨rfl,by simp only [aG,tF,tB,go_sem,sevalprocAttr],rfl⟩
   rintro e ds h ⟨rfl,aI,rfl⟩
   simp only [aG] at aI
   have wn1:IntKind.i64.wrap (((mid+m:Nat):Int) - 1)=((mid+m - 1:Nat):Int):=by rw [bJ (by omega) (by omega)];omega
   simp +contextual only [go_sem,sevalprocAttr,AV,aI,wn1]
   obtain ⟨E,hE⟩:∃ E,E=DS (fun c=> !pW cf l (mid+m - 1 - c) c) s0 r0:=⟨_,rfl⟩
   have hEb:=yG (fun c=> !pW cf l (mid+m - 1 - c) c) s0 r0 (by omega)
   rw [<- hE] at hEb
   refine gD [(0,.slice (some ⟨db,0,none⟩) n cap),(1,.int .i64 (a:Int)),(2,.int .i64 (m:Int)),(3,.int .i64 (b:Int)),(4,.func (.func g) #[] ⟨caps⟩),(18,.int .i64 ((mid:Nat):Int)),(19,.int .i64 ((mid+m:Nat):Int)),(22,.int .i64 ((mid+m - 1:Nat):Int))] (fun k e h=>∃ i j,e 20=.int .i64 ((i:Nat):Int)/\e 21=.int .i64 ((j:Nat):Int)/\h=⟨T,M,[(db,fl enc l++junk)],[]⟩/\s0<=i/\i<=j/\r0>=j/\k=j - i/\E=DS (fun c=> !pW cf l (mid+m - 1 - c) c) i j) (r0 - s0) (by simp only [aG,go_sem,sevalprocAttr,aI]) ⟨s0,r0,by simp only [go_sem,sevalprocAttr,aI],by simp only [go_sem,sevalprocAttr,aI],rfl,by omega,by omega,by omega,rfl,hE⟩ ?_
   rintro k e h aI ⟨i,j,e10,e11,rfl,zw,G4,X2,rfl,ax⟩
   simp only [aG] at aI
   rw [DS] at ax
   by_cases aN:i<j
   ·rw [if_pos aN] at ax
    have w3:IntKind.i64.wrap ((i:Int)+(j:Int))=((i+j:Nat):Int):=by rw [bJ (by omega) (by omega)];omega
    have w4:IntKind.i64.wrap (((i+j) / 2:Nat):Int)=(((i+j) / 2:Nat):Int):=bJ (by omega) (by omega)
    have hx:mid+m - 1 - (i+j) / 2<l.length:=by omega
    have W4:mid+m - 1 - (i+j) / 2<n:=by omega
    have cx0:=dT (enc:=enc) junk hx
    have cx1:=dR (enc:=enc) junk hx
    have ox:=hc.one _ (cq _ (gm hx))
    have hy:(i+j) / 2<l.length:=by omega
    have Vf:(i+j) / 2<n:=by omega
    have cy0:=dT (enc:=enc) junk hy
    have cy1:=dR (enc:=enc) junk hy
    have oy:=hc.one _ (cq _ (gm hy))
    have wpc:IntKind.i64.wrap (((mid+m - 1:Nat):Int) - (((i+j) / 2:Nat):Int))=((mid+m - 1 - (i+j) / 2:Nat):Int):=by rw [bJ (by omega) (by omega)];omega
    simp +contextual only [go_sem,aE,sevalprocAttr,e10,e11,aN,w3,Xk i j (by omega),KP,w4]
    refine aU ?_
    simp +contextual only [go_sem,sevalprocAttr,aI,W4,cx0,cx1,Vf,cy0,cy1,aA bi.1,wpc]
    refine aP (hc.call _ _ (cq _ (gm hx)) (cq _ (gm hy)) _) ?_
    by_cases rR:cf (l[mid+m - 1 - (i+j) / 2]'hx) (l[(i+j) / 2]'hy)<0
    ·have hp:pW cf l (mid+m - 1 - (i+j) / 2) ((i+j) / 2)=true:=by simp only [pW,fg hx,fg hy];simp [rR]
     rw [if_neg (by simp [hp])] at ax
     simp +contextual only [go_sem,aE,sevalprocAttr,rR]
     exact nW (m':=(i+j) / 2 - i) (by omega) (by simp only [aG,go_sem,sevalprocAttr,aI]) ⟨i,(i+j) / 2,by simp only [go_sem,sevalprocAttr,e10],by simp only [go_sem,sevalprocAttr],rfl,by omega,by omega,by omega,rfl,ax⟩
    ·have hp:pW cf l (mid+m - 1 - (i+j) / 2) ((i+j) / 2)=false:=by simp only [pW,fg hx,fg hy];simp [rR]
     rw [if_pos (by simp [hp])] at ax
     simp +contextual only [go_sem,aE,sevalprocAttr,rR,aB ((i+j) / 2) (by omega)]
     exact nW (m':=j - ((i+j) / 2+1)) (by omega) (by simp only [aG,go_sem,sevalprocAttr,aI]) ⟨(i+j) / 2+1,j,by simp only [go_sem,sevalprocAttr],by simp only [go_sem,sevalprocAttr,e11],rfl,by omega,by omega,by omega,rfl,ax⟩
   rw [if_neg aN] at ax
   obtain rfl:=ax.symm
   simp +contextual only [go_sem,sevalprocAttr,e10,e11,aN]
   simp only [cd,Bool.false_eq_true,if_false]
   have kE:dM cf l a m b=i:=by unfold dM;rw [<- OO,<- tF,<- tB];exact hE.symm
   have wen:IntKind.i64.wrap (((mid+m:Nat):Int) - (i:Int))=((mid+m - i:Nat):Int):=by rw [bJ (by omega) (by omega)];omega
   obtain ⟨en,hen⟩:∃ en,en=mid+m - i:=⟨_,rfl⟩
   rw [kE,<- OO,<- hen] at hS
   have aoa:mid<=en/\en<=b/\m<=en:=by omega
   simp +contextual only [go_sem,sevalprocAttr,aI,e10,wen,<- hen]
   obtain ⟨l1,gI⟩:∃ l1,l1=mJ l m i en:=⟨_,rfl⟩
   rw [<- gI] at hS
   have l1n:l1.length=n:=by rw [gI];unfold mJ;split;rw [Kd];exact hl;exact hl
   have l1ok:∀ e∈l1,ok e:=by rw [gI];unfold mJ;split;exact Ke _ _ _ _ (by omega) (by omega) (by omega) cq;exact cq
   refine dQ (fun e ds h=>ds=[]/\aG e [(0,.slice (some ⟨db,0,none⟩) n cap),(1,.int .i64 (a:Int)),(3,.int .i64 (b:Int)),(4,.func (.func g) #[] ⟨caps⟩),(18,.int .i64 ((mid:Nat):Int)),(20,.int .i64 ((i:Nat):Int)),(24,.int .i64 ((en:Nat):Int))]/\h=⟨T,M,[(db,fl enc l1++junk)],[]⟩) (fun S' dU=> ?_) ?_
   ·rw [cd]
    by_cases hr:i<m/\m<en
    ·have aaX:l1=BF l m (m - i) (en - m):=by rw [gI,mJ,if_pos hr]
     simp +contextual only [go_sem,sevalprocAttr,hr,aI,e10]
     refine hO (VP B7 hc.one hl lJ cq hr.1 hr.2 (by omega) hn _) ?_
     simp +contextual only [go_sem,sevalprocAttr]
     exact dU _ _ _ ⟨rfl,by simp only [aG,go_sem,sevalprocAttr,aI,e10],by rw [aaX]⟩
    ·have aaX:l1=l:=by rw [gI,mJ,if_neg hr]
     simp +contextual only [go_sem,sevalprocAttr,hr]
     exact dU _ _ _ ⟨rfl,by simp only [aG,go_sem,sevalprocAttr,aI,e10],by rw [aaX]⟩
   rintro e2 ds h ⟨rfl,aI,rfl⟩
   simp only [aG] at aI
   simp +contextual only [go_sem,sevalprocAttr,aI]
   obtain ⟨l2,eD⟩:∃ l2,l2=if a<i/\i<mid then ms cf l1 a i mid else l1:=⟨_,rfl⟩
   rw [<- eD] at hS
   have l2i:l2.length=n/\∀ e∈l2,ok e:=by
    rw [eD]
    split
    ·rename_i hq
     have hi:=sJ _ cf l1 a i mid (Nat.le_refl _) hq.1 hq.2 (by omega)
     exact ⟨by rw [hi.1];exact l1n,hi.2 ok l1ok⟩
    ·exact ⟨l1n,l1ok⟩
   refine dQ (fun e ds h=>ds=[]/\aG e [(0,.slice (some ⟨db,0,none⟩) n cap),(3,.int .i64 (b:Int)),(4,.func (.func g) #[] ⟨caps⟩),(18,.int .i64 ((mid:Nat):Int)),(24,.int .i64 ((en:Nat):Int))]/\h=⟨T,M,[(db,fl enc l2++junk)],[]⟩) (fun S' dU=> ?_) ?_
   ·rw [cd]
    by_cases hr:a<i/\i<mid
    ·rw [if_pos hr] at eD
     simp +contextual only [go_sem,sevalprocAttr,hr,aI]
     refine hO (ih db n cap a i mid l1 junk (by omega) l1n lJ l1ok hr.1 hr.2 (by omega) hn _) ?_
     simp +contextual only [go_sem,sevalprocAttr]
     exact dU _ _ _ ⟨rfl,by simp only [aG,go_sem,sevalprocAttr,aI],by rw [eD]⟩
    ·rw [if_neg hr] at eD
     simp +contextual only [go_sem,sevalprocAttr,hr]
     exact dU _ _ _ ⟨rfl,by simp only [aG,go_sem,sevalprocAttr,aI],by rw [eD]⟩
   rintro e3 ds h ⟨rfl,aI,rfl⟩
   simp only [aG] at aI
   by_cases hr:mid<en/\en<b
   ·rw [if_pos hr] at hS
    simp +contextual only [go_sem,aE,sevalprocAttr,hr,aI]
    refine hO (ih db n cap mid en b l2 junk (by omega) l2i.1 lJ l2i.2 hr.1 hr.2 (by omega) hn _) ?_
    simp +contextual only [go_sem,sevalprocAttr]
    exact aM aH.rfl' rfl rfl ⟨rfl,rfl,by rw [hS],rfl⟩
   ·rw [if_neg hr] at hS
    simp +contextual only [go_sem,aE,sevalprocAttr,hr,aI]
    exact aM aH.rfl' rfl rfl ⟨rfl,rfl,by rw [hS],rfl⟩
def Oj {α:Type}[Inhabited α](cf:α ->α ->Int)(l:List α)(a n:Nat):List α:=if a+20<=n then Oj cf (ED cf l a (a+20)) (a+20) n else ED cf l a n
termination_by n - a
decreasing_by omega
def Ln {α:Type}[Inhabited α](cf:α ->α ->Int)(s:Nat)(l:List α)(a n:Nat):List α:=
 if 0<s/\a+2*s<=n then Ln cf s (ms cf l a (a+s) (a+2*s)) (a+2*s) n else if 0<s/\a+s<n then ms cf l a (a+s) n else l
termination_by n - a
decreasing_by omega
def Q1 {α:Type}[Inhabited α](cf:α ->α ->Int)(s:Nat)(l:List α)(n:Nat):List α:=if 0<s/\s<n then Q1 cf (2*s) (Ln cf s l 0 n) n else l
termination_by n - s
decreasing_by omega
def iG {α:Type}[Inhabited α](cf:α ->α ->Int)(l:List α):List α:=Q1 cf 20 (Oj cf l 0 l.length) l.length
def oL {α:Type}[Inhabited α](l l':List α):Prop:=l'.length=l.length/\∀ ok:α ->Prop,(∀ x∈l,ok x) ->∀ x∈l',ok x
theorem oL.rfl' {α:Type}[Inhabited α]{l:List α}:oL l l:=⟨rfl,fun _ h=>h⟩
theorem oL.trans {α:Type}[Inhabited α]{a b c:List α}(h:oL a b)(h':oL b c):oL a c:=⟨h'.1.trans h.1,fun ok hh=>h'.2 ok (h.2 ok hh)⟩
theorem yQ {α:Type}[Inhabited α](cf:α ->α ->Int)(a:Nat):∀ (j:Nat) (l:List α),j<l.length ->oL l (mg cf a j l)
 | 0,l,_=> .rfl'
 | j+1,l,hj=>by
  rw [mg]
  split
  ·exact oL.trans ⟨j5 _ _ _,fun ok h=>ph hj (by omega) h⟩ (yQ cf a j _ (by rw [j5];omega))
  ·exact .rfl'
theorem Ai {α:Type}[Inhabited α](cf:α ->α ->Int)(a:Nat):∀ (f i:Nat) (l:List α),i+f<=l.length ->oL l (zX cf a f i l)
 | 0,i,l,_=> .rfl'
 | f+1,i,l,h=>by
  have h1:=yQ cf a i l (by omega)
  exact h1.trans (Ai cf a f (i+1) _ (by rw [h1.1];omega))
theorem tQ {α:Type}[Inhabited α](cf:α ->α ->Int)(l:List α)(a b:Nat)(h:b<=l.length):oL l (ED cf l a b):=by
 unfold ED
 by_cases TO:a+1<=b
 ·exact Ai cf a _ _ _ (by omega)
 ·have:b - (a+1)=0:=by omega
  rw [this];exact .rfl'
theorem DK {α:Type}[Inhabited α](cf:α ->α ->Int)(l:List α)(a n:Nat)(h:n<=l.length):oL l (Oj cf l a n):=by
 fun_induction Oj cf l a n with
 | case1 l a h1 ih=>have h2:=tQ cf l a (a+20) (by omega);exact h2.trans (ih (by rw [h2.1];exact h))
 | case2 l a h1=>exact tQ cf l a n h
theorem FE {α:Type}[Inhabited α](cf:α ->α ->Int)(s:Nat)(l:List α)(a n:Nat)(h:n<=l.length):oL l (Ln cf s l a n):=by
 fun_induction Ln cf s l a n with
 | case1 l a h1 ih=>have h2:=sJ _ cf l a (a+s) (a+2*s) (Nat.le_refl _) (by omega) (by omega) (by omega);exact oL.trans h2 (ih (by rw [h2.1];exact h))
 | case2 l a h1 h2=>exact sJ _ cf l a (a+s) n (Nat.le_refl _) (by omega) (by omega) (by omega)
 | case3=>exact .rfl'
theorem OZ {α:Type}[Inhabited α](cf:α ->α ->Int)(s:Nat)(l:List α)(n:Nat)(h:n<=l.length):oL l (Q1 cf s l n):=by
 fun_induction Q1 cf s l n with
 | case1 s l h1 ih=>have h2:=FE cf s l 0 n h;exact h2.trans (ih (by rw [h2.1];exact h))
 | case2=>exact .rfl'
theorem jh {α:Type}[Inhabited α](cf:α ->α ->Int)(l:List α):oL l (iG cf l):=by
 have h:=DK cf l 0 l.length (Nat.le_refl _)
 exact h.trans (OZ cf 20 _ _ (by rw [h.1];exact Nat.le_refl _))
variable {M:aS} {α:Type} [Inhabited α] {enc:α ->PV}
theorem Qe {fi fs fr fm ft fo:FuncId}(hs:SF fi fs fr fm ft fo){g:FuncId}{caps:List Value}{cf:α ->α ->Int}{ok:α ->Prop}(hc:CmpOk M enc g caps cf ok){db n cap:Nat}{l:List α}{junk:List Value}(hl:l.length=n)(lJ:n<=cap)(cq:∀ e∈l,ok e)(hn:n<=4294967296)(T:Tm):
 cw Tryz.prog ft [.slice (some ⟨db,0,none⟩) n cap,.int .i64 (n:Int),.func (.func g) #[] ⟨caps⟩] T M [(db,fl enc l++junk)] [] (fun r M' L' R'=>r=.tuple #[]/\M'=M/\L'=[(db,fl enc (iG cf l)++junk)]/\R'=[]) aO:=by
 obtain ⟨S,hS⟩:∃ S,S=iG cf l:=⟨_,rfl⟩
 rw [<- hS]
 unfold iG at hS
 rw [hl] at hS
 obtain ⟨l1,gI⟩:∃ l1,l1=Oj cf l 0 n:=⟨_,rfl⟩
 rw [<- gI] at hS
 have gF:oL l l1:=by rw [gI];exact DK cf l 0 n (by omega)
 have B7:=hs
 cases hs
 all_goals
  first | refine aC aeh rfl rfl ?_ | refine aC adE rfl rfl ?_
  intro bi _
  simp +contextual only [go_sem,aE,sevalprocAttr]
  refine gD [(0,.slice (some ⟨db,0,none⟩) n cap),(1,.int .i64 (n:Int)),(2,.func (.func g) #[] ⟨caps⟩),(6,.int .i64 20)] (fun k e h=>∃ a l',e 7=.int .i64 ((a:Nat):Int)/\e 8=.int .i64 ((a+20:Nat):Int)/\h=⟨T,M,[(db,fl enc l'++junk)],[]⟩/\l'.length=n/\(∀ e∈l',ok e)/\a<=n/\k=n - a/\l1=Oj cf l' a n) n (by simp only [aG,go_sem,sevalprocAttr]) ⟨0,l,by simp only [go_sem,sevalprocAttr],by simp only [go_sem,sevalprocAttr],rfl,hl,cq,by omega,rfl,gI⟩ ?_
  rintro k e h aI ⟨a,l',e7,e8,rfl,gG,iB,han,rfl,ax⟩
  simp only [aG] at aI
  rw [Oj] at ax
  by_cases aN:a+20<=n
  ·rw [if_pos aN] at ax
   have w1:IntKind.i64.wrap (((a+20:Nat):Int)+20)=((a+20+20:Nat):Int):=by rw [bJ (by omega) (by omega)];omega
   simp +contextual only [go_sem,aE,sevalprocAttr,aI,e7,e8,aN]
   refine hO (JG B7 hc gG lJ iB (by omega) aN hn _) ?_
   have hs:=tQ cf l' a (a+20) (by omega)
   simp +contextual only [go_sem,sevalprocAttr,aI,e8,w1]
   exact nW (m':=n - (a+20)) (by omega) (by simp only [aG,go_sem,sevalprocAttr,aI]) ⟨a+20,_,by simp only [go_sem,sevalprocAttr],by simp only [go_sem,sevalprocAttr],rfl,by rw [hs.1];exact gG,hs.2 ok iB,by omega,rfl,ax⟩
  rw [if_neg aN] at ax
  simp +contextual only [go_sem,aE,sevalprocAttr,aI,e7,e8,aN]
  refine hO (JG B7 hc gG lJ iB han (Nat.le_refl _) hn _) ?_
  rw [<- ax]
  simp +contextual only [go_sem,aE,sevalprocAttr]
  refine gD [(0,.slice (some ⟨db,0,none⟩) n cap),(1,.int .i64 (n:Int)),(2,.func (.func g) #[] ⟨caps⟩)] (fun k e h=>∃ s l',e 6=.int .i64 ((s:Nat):Int)/\h=⟨T,M,[(db,fl enc l'++junk)],[]⟩/\l'.length=n/\(∀ e∈l',ok e)/\0<s/\s<=2*n+20/\k=n - s/\S=Q1 cf s l' n) (n - 20) (by simp only [aG,go_sem,sevalprocAttr,aI]) ⟨20,l1,by simp only [go_sem,sevalprocAttr,aI],rfl,by rw [gF.1];exact hl,gF.2 ok cq,by omega,by omega,rfl,hS⟩ ?_
  rintro k e h aI ⟨s,l2,e6,rfl,eD,mu,tF,hsn,rfl,ax⟩
  simp only [aG] at aI
  rw [Q1] at ax
  by_cases aN:s<n
  rotate_left
  ·rw [if_neg (fun h=>aN h.2)] at ax
   simp +contextual only [go_sem,aE,sevalprocAttr,aI,e6,aN]
   exact aM aH.rfl' rfl rfl ⟨rfl,rfl,by rw [ax],rfl⟩
  rw [if_pos ⟨tF,aN⟩] at ax
  have w2:IntKind.i64.wrap (2*(s:Int))=((2*s:Nat):Int):=by rw [bJ (by omega) (by omega)];omega
  have w2':IntKind.i64.wrap ((s:Int)*2)=((2*s:Nat):Int):=by rw [bJ (by omega) (by omega)];omega
  obtain ⟨l3,eR⟩:∃ l3,l3=Ln cf s l2 0 n:=⟨_,rfl⟩
  rw [<- eR] at ax
  have FU:oL l2 l3:=by rw [eR];exact FE cf s l2 0 n (by omega)
  simp +contextual only [go_sem,aE,sevalprocAttr,aI,e6,aN,w2]
  refine gD [(0,.slice (some ⟨db,0,none⟩) n cap),(1,.int .i64 (n:Int)),(2,.func (.func g) #[] ⟨caps⟩),(6,.int .i64 (s:Int))] (fun k e h=>∃ a l',e 7=.int .i64 ((a:Nat):Int)/\e 8=.int .i64 ((a+2*s:Nat):Int)/\h=⟨T,M,[(db,fl enc l'++junk)],[]⟩/\l'.length=n/\(∀ e∈l',ok e)/\a<=n/\k=n - a/\l3=Ln cf s l' a n) n (by simp only [aG,go_sem,sevalprocAttr,aI,e6]) ⟨0,l2,by simp only [go_sem,sevalprocAttr],by simp only [go_sem,sevalprocAttr,Nat.zero_add],rfl,eD,mu,by omega,rfl,eR⟩ ?_
  rintro k e h aI ⟨a,l',e7,e8,rfl,gG,iB,han,rfl,uT⟩
  simp only [aG] at aI
  rw [Ln] at uT
  have w3:IntKind.i64.wrap ((a:Int)+(s:Int))=((a+s:Nat):Int):=by rw [bJ (by omega) (by omega)];omega
  by_cases dJ:a+2*s<=n
  ·rw [if_pos ⟨tF,dJ⟩] at uT
   have w4:IntKind.i64.wrap (((a+2*s:Nat):Int)+((2*s:Nat):Int))=((a+2*s+2*s:Nat):Int):=by rw [bJ (by omega) (by omega)];omega
   simp +contextual only [go_sem,aE,sevalprocAttr,aI,e7,e8,dJ,w3]
   refine hO (KB B7 hc _ db n cap a (a+s) (a+2*s) l' junk (Nat.le_refl _) gG lJ iB (by omega) (by omega) dJ hn _) ?_
   have hs:=sJ _ cf l' a (a+s) (a+2*s) (Nat.le_refl _) (by omega) (by omega) (by omega)
   simp +contextual only [go_sem,sevalprocAttr,aI,e8,w2,w4]
   exact nW (m':=n - (a+2*s)) (by omega) (by simp only [aG,go_sem,sevalprocAttr,aI]) ⟨a+2*s,_,by simp only [go_sem,sevalprocAttr],by simp only [go_sem,sevalprocAttr],rfl,by rw [hs.1];exact gG,hs.2 ok iB,by omega,rfl,uT⟩
  rw [if_neg (fun h=>dJ h.2)] at uT
  simp +contextual only [go_sem,aE,sevalprocAttr,aI,e7,e8,dJ,w3]
  by_cases hmn:a+s<n
  ·rw [if_pos ⟨tF,hmn⟩] at uT
   simp +contextual only [go_sem,sevalprocAttr,hmn]
   refine hO (KB B7 hc _ db n cap a (a+s) n l' junk (Nat.le_refl _) gG lJ iB (by omega) hmn (Nat.le_refl _) hn _) ?_
   rw [<- uT]
   simp +contextual only [go_sem,sevalprocAttr,aI,w2']
   exact nW (m':=n - 2*s) (by omega) (by simp only [aG,go_sem,sevalprocAttr,aI]) ⟨2*s,l3,by simp only [go_sem,sevalprocAttr],rfl,by rw [FU.1];exact eD,FU.2 ok mu,by omega,by omega,rfl,ax⟩
  ·rw [if_neg (fun h=>hmn h.2)] at uT
   simp +contextual only [go_sem,sevalprocAttr,hmn]
   exact nW (m':=n - 2*s) (by omega) (by simp only [aG,go_sem,sevalprocAttr,aI]) ⟨2*s,l',by simp only [go_sem,sevalprocAttr,w2'],rfl,gG,iB,by omega,by omega,rfl,by rw [<- uT];exact ax⟩
theorem xD {fi fs fr fm ft fo:FuncId}(hs:SF fi fs fr fm ft fo){g:FuncId}{caps:List Value}{cf:α ->α ->Int}{ok:α ->Prop}(hc:CmpOk M enc g caps cf ok){db n cap:Nat}{l:List α}{junk:List Value}(hl:l.length=n)(lJ:n<=cap)(cq:∀ e∈l,ok e)(hn:n<=4294967296)(T:Tm):
 cw Tryz.prog fo [.slice (some ⟨db,0,none⟩) n cap,.func (.func g) #[] ⟨caps⟩] T M [(db,fl enc l++junk)] [] (fun r M' L' R'=>r=.tuple #[]/\M'=M/\L'=[(db,fl enc (iG cf l)++junk)]/\R'=[]) aO:=by
 have B7:=hs
 cases hs
 all_goals
  first | refine aC V5 rfl rfl ?_ | refine aC aeI rfl rfl ?_
  intro bi _
  simp +contextual only [go_sem,sevalprocAttr]
  refine hO (Qe B7 hc hl lJ cq hn _) ?_
  simp +contextual only [go_sem,sevalprocAttr]
  exact aM aH.rfl' rfl rfl ⟨rfl,rfl,rfl,rfl⟩
section
variable {α β:Type} [Inhabited α] [Inhabited β] {f:α ->β} (hd:f default=default) {cf:α ->α ->Int} {cg:β ->β ->Int} (hc:∀ x y,cg (f x) (f y)=cf x y)
include hd
theorem Bh (l:List α)(i:Nat):(l.map f).getD i default=f (l.getD i default):=by
 simp only [List.getD_eq_getElem?_getD,List.getElem?_map]
 cases l[i]?<;>simp [hd]
theorem CG (l:List α)(i j:Nat):sw (l.map f) i j=(sw l i j).map f:=by
 simp only [sw,Bh hd,List.map_set]
theorem wl (a b:Nat):∀ (n i:Nat) (l:List α),F2 a b n i (l.map f)=(F2 a b n i l).map f
 | 0,_,_=>rfl
 | n+1,i,l=>by rw [F2,F2,CG hd,wl a b n]
theorem UV (l:List α)(m i j:Nat):BF (l.map f) m i j=(BF l m i j).map f:=by
 fun_induction BF l m i j with
 | case1 l i j h h2 ih=>rw [BF,if_pos h,if_pos h2,wl hd,ih]
 | case2 l i j h h2 ih=>rw [BF,if_pos h,if_neg h2,wl hd,ih]
 | case3 l i j h=>rw [BF,if_neg h,wl hd]
theorem D0 (l:List α)(m st en:Nat):mJ (l.map f) m st en=(mJ l m st en).map f:=by
 unfold mJ;split
 ·exact UV hd _ _ _ _
 ·rfl
theorem Gx (l:List α)(k e:Nat):vD (l.map f) k e=(vD l k e).map f:=by
 fun_induction vD l k e with
 | case1 l k h ih=>rw [vD,if_pos h,CG hd,ih]
 | case2 l k h=>rw [vD,if_neg h]
theorem xY (i:Nat):∀ (k:Nat) (l:List α),uE i k (l.map f)=(uE i k l).map f
 | 0,_=>rfl
 | k+1,l=>by
  rw [uE,uE]
  split
  ·rw [CG hd,xY i k]
  ·rfl
include hc
theorem vR (l:List α)(i j:Nat):pW cg (l.map f) i j=pW cf l i j:=by simp only [pW,Bh hd,hc]
theorem Ab (a:Nat):∀ (j:Nat) (l:List α),mg cg a j (l.map f)=(mg cf a j l).map f
 | 0,_=>rfl
 | j+1,l=>by
  rw [mg,mg,vR hd hc]
  split
  ·rw [CG hd,Ab a j]
  ·rfl
theorem wV (a:Nat):∀ (n i:Nat) (l:List α),zX cg a n i (l.map f)=(zX cf a n i l).map f
 | 0,_,_=>rfl
 | n+1,i,l=>by rw [zX,zX,Ab hd hc,wV a n]
theorem Bj (l:List α)(a m b:Nat):dM cg (l.map f) a m b=dM cf l a m b:=by
 unfold dM;simp only [vR hd hc]
theorem E3:∀ (d:Nat) (l:List α) (a m b:Nat),b - a<=d ->ms cg (l.map f) a m b=(ms cf l a m b).map f:=by
 intro d
 induction d with
 | zero=>
  intro l a m b h
  conv=>lhs;rw [ms]
  conv=>rhs;rw [ms]
  rw [Bj hd hc,D0 hd]
  simp only [vR hd hc]
  split
  ·exact Gx hd _ _ _
  split
  ·exact xY hd _ _ _
  rw [if_neg (by omega),if_neg (by omega),if_neg (by omega),if_neg (by omega)]
 | succ d ih=>
  intro l a m b h
  conv=>lhs;rw [ms]
  conv=>rhs;rw [ms]
  rw [Bj hd hc,D0 hd]
  simp only [vR hd hc]
  split
  ·exact Gx hd _ _ _
  split
  ·exact xY hd _ _ _
  have h2:(if a<dM cf l a m b/\dM cf l a m b<(a+b) / 2 then ms cg ((mJ l m (dM cf l a m b) ((a+b) / 2+m - dM cf l a m b)).map f) a (dM cf l a m b) ((a+b) / 2) else (mJ l m (dM cf l a m b) ((a+b) / 2+m - dM cf l a m b)).map f)=
   (if a<dM cf l a m b/\dM cf l a m b<(a+b) / 2 then ms cf (mJ l m (dM cf l a m b) ((a+b) / 2+m - dM cf l a m b)) a (dM cf l a m b) ((a+b) / 2) else mJ l m (dM cf l a m b) ((a+b) / 2+m - dM cf l a m b)).map f:=by
   split
   ·exact ih _ _ _ _ (by omega)
   ·rfl
  rw [h2]
  split
  ·exact ih _ _ _ _ (by omega)
  ·rfl
theorem UF (l:List α)(a n:Nat):Oj cg (l.map f) a n=(Oj cf l a n).map f:=by
 fun_induction Oj cf l a n with
 | case1 l a h ih=>rw [Oj,if_pos h,ED,wV hd hc];exact ih
 | case2 l a h=>rw [Oj,if_neg h,ED,wV hd hc];rfl
theorem Ui (s:Nat)(l:List α)(a n:Nat):Ln cg s (l.map f) a n=(Ln cf s l a n).map f:=by
 fun_induction Ln cf s l a n with
 | case1 l a h ih=>rw [Ln,if_pos h,E3 hd hc _ _ _ _ _ (Nat.le_refl _)];exact ih
 | case2 l a h h2=>rw [Ln,if_neg h,if_pos h2,E3 hd hc _ _ _ _ _ (Nat.le_refl _)]
 | case3 l a h h2=>rw [Ln,if_neg h,if_neg h2]
theorem Wb (s:Nat)(l:List α)(n:Nat):Q1 cg s (l.map f) n=(Q1 cf s l n).map f:=by
 fun_induction Q1 cf s l n with
 | case1 s l h ih=>rw [Q1,if_pos h,Ui hd hc];exact ih
 | case2 s l h=>rw [Q1,if_neg h]
theorem uv (l:List α):iG cg (l.map f)=(iG cf l).map f:=by
 unfold iG
 rw [List.length_map,UF hd hc,Wb hd hc]
end
def RA (l:List V):List Value:=l.flatMap V.cs
theorem Ku:∀ (l:List V),(RA l).length=l.length*3
 | []=>rfl
 | e::l=>by
  have:=Ku l
  simp only [RA,List.flatMap_cons,List.length_append,List.length_cons,V.cs,List.length_nil] at this ⊢
  omega
theorem KW:∀ {l:List V} {i:Nat} (k n:Int) (t:Bs) (h:i<l.length),(((RA l).set (i*3) (.int .i64 k)).set (i*3+1) (.int .i64 n)).set (i*3+2) (.string (bs t))=RA (l.set i ⟨k,n,t⟩)
 | e::l,0,_,_,_,_=>rfl
 | e::l,i+1,k,n,t,h=>by
  have:=KW (l:=l) (i:=i) k n t (by simpa using h)
  have h1:(i+1)*3=i*3+3:=by omega
  have h2:(i+1)*3+1=(i*3+1)+3:=by omega
  have h3:(i+1)*3+2=(i*3+2)+3:=by omega
  rw [h3,h2,h1]
  simpa [RA,V.cs] using this
theorem DJ:∀ (n:Nat),((List.range n).flatMap fun _=>[.int .i64 0,.int .i64 0,.string (bs [])])=RA (List.replicate n ⟨0,0,[]⟩)
 | 0=>rfl
 | n+1=>by
  rw [List.range_succ,List.flatMap_append,DJ n,List.replicate_succ']
  simp [RA,V.cs,st]
theorem P7:∀ (l:List V),RL RV l (RA l)
 | []=>rfl
 | e::l=>⟨e.cs,RA l,rfl,rfl,P7 l⟩
theorem rg {α:Type}{l m:List α}{i:Nat}{x:α}(h:l.take i=m.take i)(hi:i<l.length)(hx:m[i]?=some x):(l.set i x).take (i+1)=m.take (i+1):=by
 rw [List.take_add_one,List.take_add_one,List.take_set_of_le (Nat.le_refl _),h]
 simp [hi,hx]
variable {M:aS}
theorem KH {r:List V}{rv:Value}(hr:RS M RV 3 r rv)(bw:r.length<=4294967296)(T:Tm):cw Tryz.prog 199 [rv] T M [] [] (fun v M' _ _=>RS M' RV 3 (r.map fY) v) aO:=by
 obtain ⟨fS,a,c,rfl,dJ,_,hg⟩:=aF (by decide) (fun _ _=>fO) hr
 refine aC aj3 rfl rfl ?_
 intro bi _
 simp +contextual only [go_sem,aE,sevalprocAttr,bw]
 intro b8 mG
 rw [DJ]
 refine aY r.length 11 [(3,.slice (some ⟨b8,0,none⟩) r.length r.length),(9,.slice a r.length c),(10,.int .i64 (r.length:Int))] (fun i e h=>∃ N' l',aH T N'/\h=⟨N',M,[(b8,RA l')],[]⟩/\l'.length=r.length/\l'.take i=(r.map fY).take i) 0 (by omega) (by simp only [aG,go_sem,sevalprocAttr]) (by simp only [go_sem,sevalprocAttr]) ⟨T,_,aH.rfl',rfl,by simp,by simp⟩ ?_
 rintro i e h hi aI ht ⟨T1,l',cV,rfl,gG,tu⟩
 simp only [aG] at aI
 by_cases aN:i<r.length
 ·obtain ⟨b',o',cs',rfl,cG,fy⟩:=hg i r[i] (gq aN)
  unfold RV V.cs at fy;subst fy
  obtain ⟨y0,y1,y2,_⟩:=cG
  simp +contextual only [go_sem,aE,sevalprocAttr,aI,ht,aN,y0,y1,y2]
  intro b5 T5 mp gK nw o9
  refine aP (lB r[i] _) ?_
  have uO:i*3+3<=(RA l').length:=by rw [Ku];omega
  simp +contextual only [go_sem,sevalprocAttr,ht,aN,gK,uO]
  refine aR (ak (az ⟨r.length - (i+1),by omega,rfl,i+1,by omega,rfl,?_,?_,T5,l'.set i (fY r[i]),cV.trans nw,?_,by simpa using gG,?_⟩))
  ·simp only [aG,aI,go_sem,sevalprocAttr]
  ·simp only [go_sem,sevalprocAttr,aB i (by omega)]
  ·rw [KW _ _ _ (by omega)]
  ·exact rg tu (by omega) (by simp [aN])
 ·have:i=r.length:=by omega
  subst this
  simp +contextual only [go_sem,aE,sevalprocAttr,aI,ht,aN]
  rw [List.take_of_length_le (by omega),List.take_of_length_le (by simp)] at tu
  subst tu
  refine aT fun he hk aZ=>am cV ?_
  exact cK (fun _ _=>fO) hk (P7 _) gG (by omega)
instance:Inhabited V:=⟨⟨0,0,[]⟩⟩
instance:Inhabited Z:=⟨⟨[],0⟩⟩
def DT (z:Z):Z:=⟨z.row.map fY,z.w⟩
def cfZ (x y:Z):Int:=ip x.row y.row
def Bu (x:Z):List Z:=if x.w=0 then [] else [x]
def nO (x:Z):List Z ->List Z
 | []=>Bu x
 | y::l=>if ip y.row x.row=0 then nO ⟨x.row,IntKind.i64.wrap (x.w+y.w)⟩ l else Bu x++nO y l
def pG:List Z ->List Z
 | []=>[]
 | x::l=>nO x l
def xp (l:List Z):List Z:=pG (iG cfZ (l.map DT))
def k9 (e:Z×Value):PV:=(e.2,.int .i64 e.1.w)
def XM (x:Z):List Z ->Bool
 | y::_=>decide (ip y.row x.row=0)
 | []=>false
theorem DU {x:Z}{l:List Z}(h:∀ y r,l=y::r ->ip y.row x.row≠0):nO x l=Bu x++pG l:=by
 cases l with
 | nil=>simp [nO,pG]
 | cons y r=>rw [nO,if_neg (h y r rfl),pG]
theorem FV:∀ (n:Nat),((List.range n).flatMap fun _=>[Value.slice none 0 0,.int .i64 0])=fl k9 (List.replicate n (⟨[],0⟩,.slice none 0 0))
 | 0=>rfl
 | n+1=>by
  rw [List.range_succ,List.flatMap_append,FV n,List.replicate_succ']
  simp [fl,k9]
theorem i8 {M:aS}{z:Z}{cs:List Value}(h:RZ M z cs):∀ u∈cs,u.oneCell'=true:=by
 obtain ⟨s,h1,rfl⟩:=h
 have:=(cR h1).1
 intro u hu
 simp only [mn] at hu
 rcases hu with rfl | rfl<;>first | exact this | rfl
theorem aab {α:Type}{enc:α ->PV}{l:List α}{i:Nat}(x:α)(h:i<l.length):((fl enc l).set (i*2) (enc x).1).set (i*2+1) (enc x).2=fl enc (l.set i x):=by
 have:=sW (enc:=enc) [] x h
 simpa using this
theorem J6 {α:Type}{enc:α ->PV}{l:List α}{i:Nat}(h:i<l.length):(fl enc l)[i*2]?=some (enc l[i]).1:=by
 have:=dT (enc:=enc) [] h
 simpa using this
theorem JZ {α:Type}{enc:α ->PV}{l:List α}{i:Nat}(h:i<l.length):(fl enc l)[i*2+1]?=some (enc l[i]).2:=by
 have:=dR (enc:=enc) [] h
 simpa using this
theorem cT {M:aS}{r:List V}{v:Value}(h:RS M RV 3 r v):∃ a c,v=.slice a r.length c:=by
 obtain ⟨_,a,c,h,_⟩:=aF (by decide) (fun _ _=>fO) h;exact ⟨a,c,h⟩
variable {M:aS}
theorem MK {a b:List V}{av bv:Value}{m n:Int}(ha:RS M RV 3 a av)(hb:RS M RV 3 b bv)(T:Tm):cw Tryz.prog 201 [.agg ⟨[av,.int .i64 m]⟩,.agg ⟨[bv,.int .i64 n]⟩] T M [] [] (fun r _ _ _=>r=.int .i64 (ip a b)) aO:=by
 have h1:=(cR ha).1
 have h2:=(cR hb).1
 refine aC aeU rfl rfl ?_
 intro bi _
 simp +contextual only [go_sem,sevalprocAttr]
 intro b1 T1 fD cV ig b2 T2 ey gx dV fG
 refine aP (mS ha hb _) ?_
 simp +contextual only [go_sem,sevalprocAttr]
 exact am (cV.trans dV) rfl
theorem ahr:CmpOk M k9 201 [] (fun x y=>cfZ x.1 y.1) (fun e=>RS M RV 3 e.1.row e.2) where
 bod:=aeU.bd
 one:=fun x hx=>⟨(cR hx).1,rfl⟩
 call:=fun x y hx hy T=>MK hx hy T
theorem Le {fi fs fr fm ft fo:FuncId}(hs:SF fi fs fr fm ft fo){α:Type}[Inhabited α]{enc:α ->PV}{g:FuncId}{caps:List Value}{cf:α ->α ->Int}{ok:α ->Prop}(hc:CmpOk M enc g caps cf ok){db n:Nat}{l:List α}(hl:l.length=n)(cq:∀ e∈l,ok e)(hn:n<=4294967296)(T:Tm):
 cw Tryz.prog fo [.slice (some ⟨db,0,none⟩) n n,.func (.func g) #[] ⟨caps⟩] T M [(db,fl enc l)] [] (fun r M' L' R'=>r=.tuple #[]/\M'=M/\L'=[(db,fl enc (iG cf l))]/\R'=[]) aO:=by
 have:=xD hs (junk:=[]) (db:=db) hc hl (Nat.le_refl _) cq hn T
 simpa only [List.append_nil] using this
theorem QO {l:List Z}{lv:Value}(hl:RS M (RZ M) 2 l lv)(bw:l.length<=4294967296)(bP:∀ z∈l,z.row.length<=4294967296)(T:Tm):cw Tryz.prog 157 [lv] T M [] [] (fun v M' _ _=>RS M' (RZ M') 2 (xp l) v) aO:=by
 obtain ⟨fS,a,c,rfl,dJ,_,hg⟩:=aF (by decide) (fun _ _=>cm) hl
 obtain ⟨S,hS⟩:∃ S,S=xp l:=⟨_,rfl⟩
 rw [<- hS]
 unfold xp at hS
 refine aC aig rfl rfl ?_
 intro bi _
 simp +contextual only [go_sem,aE,sevalprocAttr,bw]
 intro b3 gj
 rw [FV]
 refine aY l.length 14 [(3,.slice (some ⟨b3,0,none⟩) l.length l.length),(12,.slice a l.length c),(13,.int .i64 (l.length:Int))] (fun i e h=>∃ N' M' zs,aH T N'/\bh M M'/\M' b3=none/\h=⟨N',M',[(b3,fl k9 zs)],[]⟩/\zs.length=l.length/\(zs.map Prod.fst).take i=(l.map DT).take i/\∀ e∈zs,RS M' RV 3 e.1.row e.2) 0 (by omega) (by simp only [aG,go_sem,sevalprocAttr]) (by simp only [go_sem,sevalprocAttr]) ⟨T,M,_,aH.rfl',bh.rfl',gj,rfl,by simp,by simp,by intro e he;rw [List.eq_of_mem_replicate he];exact bu⟩ ?_
 rintro i e h hi aI ht ⟨T1,M1,zs,cV,aV,U3,rfl,uz,tu,cq⟩
 simp only [aG] at aI
 by_cases aN:i<l.length
 ·obtain ⟨b',o',cs',rfl,cG,s,cC,rfl⟩:=hg i l[i] (gq aN)
  obtain ⟨y0,y1,_⟩:=cG.ext aV
  have gF:=(cR cC).1
  simp +contextual only [go_sem,aE,sevalprocAttr,aI,ht,aN,y0,y1,gF]
  intro b5 T5 mp gK nw o9
  refine aU ?_
  simp +contextual only [go_sem,sevalprocAttr,aI,aA mp]
  refine aD (KH (gQ aV cC) (bP _ (gm aN)) _) ?_
  rintro v M2 bg aZ hv
  simp only [aJ] at aZ
  have uO:i*2+2<=(fl k9 zs).length:=by rw [cZ];omega
  obtain ⟨va,vc,rfl⟩:=cT hv
  simp +contextual only [go_sem,sevalprocAttr,ht,aN,gK,uO]
  refine ⟨em bg ⟨aZ.1,aZ.2.1,trivial⟩,?_⟩
  refine aR (ak (az ⟨l.length - (i+1),by omega,rfl,i+1,by omega,rfl,?_,?_,T5,M2,zs.set i (DT l[i],.slice va (l[i].row.map fY).length vc),cV.trans nw,aV.trans bg,aZ.2.1,?_,by simpa using uz,?_,?_⟩))
  ·simp only [aG,aI,go_sem,sevalprocAttr]
  ·simp only [go_sem,sevalprocAttr,aB i (by omega)]
  ·have:=aab (enc:=k9) (l:=zs) (i:=i) (DT l[i],.slice va (l[i].row.map fY).length vc) (by omega)
   rw [<- this];rfl
  ·rw [List.map_set]
   exact rg tu (by simp;omega) (by simp [aN])
  ·intro e he
   rcases List.mem_or_eq_of_mem_set he with he | rfl
   ·exact gQ bg (cq e he)
   ·exact hv
 have:i=l.length:=by omega
 subst this
 rw [List.take_of_length_le (by simp [uz]),List.take_of_length_le (by simp)] at tu
 simp +contextual only [go_sem,aE,sevalprocAttr,aI,ht,aN]
 refine hO (Le .z ahr uz cq (by omega) _) ?_
 obtain ⟨zt,TV⟩:∃ zt,zt=iG (fun x y=>cfZ x.1 y.1) zs:=⟨_,rfl⟩
 have hF:=jh (fun x y:Z×Value=>cfZ x.1 y.1) zs
 rw [<- TV] at hF
 have hm:zt.map Prod.fst=iG cfZ (l.map DT):=by rw [TV,<- tu];exact (uv (f:=Prod.fst) rfl (fun _ _=>rfl) zs).symm
 rw [<- hm] at hS
 have ztl:zt.length=l.length:=hF.1.trans uz
 have ztok:=hF.2 _ cq
 rw [<- TV]
 simp +contextual only [go_sem,aE,sevalprocAttr]
 refine gD [(3,.slice (some ⟨b3,0,none⟩) l.length l.length)] (fun k e h=>∃ i N' R' fv acc,e 7=.int .i64 ((i:Nat):Int)/\e 6=fv/\aH T N'/\h=⟨N',M1,[(b3,fl k9 zt)],R'⟩/\kV 159 2 (RZ M1) [] R' fv acc/\acc.length<=i/\i<=l.length/\k=l.length - i/\S=acc++pG ((zt.map Prod.fst).drop i)) l.length (by simp only [aG,aI,go_sem,sevalprocAttr]) ⟨0,T1,[],_,[],by simp only [go_sem,sevalprocAttr],by simp only [go_sem,sevalprocAttr],cV,rfl,dg,by simp,by omega,rfl,hS⟩ ?_
 rintro k e h aI ⟨i,N2,R2,fv,acc,e7,e6,zC,rfl,bC,iz,A2,rfl,ax⟩
 simp only [aG] at aI
 by_cases aN:i<l.length
 rotate_left
 ·rw [List.drop_eq_nil_of_le (by simp;omega),pG,List.append_nil] at ax
  simp +contextual only [go_sem,aE,sevalprocAttr,aI,e7,e6,aN]
  subst e6
  refine ct bC (by omega) (by decide) ⟨U3,trivial⟩ fun M2 bg aZ cC=>am zC ?_
  rw [ax]
  exact aL bh.rfl' (fz bg) cC
 have hiz:i<zt.length:=by omega
 have c0:=J6 (enc:=k9) hiz
 have c1:=JZ (enc:=k9) hiz
 obtain ⟨⟨x,xv⟩,hx⟩:∃ p,p=zt[i]:=⟨_,rfl⟩
 have hxr:RS M1 RV 3 x.row xv:=by have:=ztok _ (gm hiz);rw [<- hx] at this;exact this
 rw [<- hx] at c0 c1
 simp only [k9] at c0 c1
 have hmd:(zt.map Prod.fst).drop i=x::(zt.map Prod.fst).drop (i+1):=by
  rw [dq (by simpa using hiz)];simp [<- hx]
 rw [hmd,pG] at ax
 obtain ⟨xa,xc,rfl⟩:=cT hxr
 simp +contextual only [go_sem,aE,sevalprocAttr,aI,e7,aN,aA U3,c0,c1]
 intro b8 T8 mG eA qI vH
 refine gD [(3,.slice (some ⟨b3,0,none⟩) l.length l.length),(6,fv),(8,.pointer (some ⟨b8,0,none⟩))] (fun k e h=>∃ q y yv,e 7=.int .i64 ((q:Nat):Int)/\h=⟨T8,M1,[(b8,[yv,.int .i64 y.w]),(b3,fl k9 zt)],R2⟩/\RS M1 RV 3 y.row yv/\i<q/\q<=l.length/\k=l.length - q/\S=acc++nO y ((zt.map Prod.fst).drop q)) (l.length - (i+1)) (by simp only [aG,aI,e6,go_sem,sevalprocAttr]) ⟨i+1,x,_,by simp only [go_sem,sevalprocAttr,aB i (by omega)],rfl,hxr,by omega,by omega,rfl,ax⟩ ?_
 clear ax hx hmd c0 c1 aI e7 e6
 rintro k e h aI ⟨q,y,yv,e7,rfl,hyr,hiq,hql,rfl,ax⟩
 simp only [aG] at aI
 obtain ⟨ya,yc,rfl⟩:=cT hyr
 simp +contextual only [go_sem,sevalprocAttr]
 refine lS (fun e ds h=>ds=[]/\aG e [(3,.slice (some ⟨b3,0,none⟩) l.length l.length),(6,fv),(8,.pointer (some ⟨b8,0,none⟩)),(7,.int .i64 ((q:Nat):Int))]/\e 55=.bool (XM y ((zt.map Prod.fst).drop q))/\h=⟨T8,M1,[(b8,[.slice ya y.row.length yc,.int .i64 y.w]),(b3,fl k9 zt)],R2⟩) (fun S' dU=> ?_) ?_
 ·refine aU ?_
  by_cases hq:q<l.length
  ·have hqz:q<zt.length:=by omega
   have c0:=J6 (enc:=k9) hqz
   have hz:=ztok _ (gm hqz)
   have vi:XM y ((zt.map Prod.fst).drop q)=decide (ip zt[q].1.row y.row=0):=by
    rw [dq (by simpa using hqz)];simp [XM]
   simp only [k9] at c0
   simp +contextual only [go_sem,sevalprocAttr,aI,e7,hq,aA U3,aA mG,eA,c0]
   refine aP (mS hz hyr _) ?_
   simp +contextual only [go_sem,sevalprocAttr]
   exact dU _ _ _ ⟨rfl,by simp only [aG,go_sem,sevalprocAttr,aI,e7],by simp only [go_sem,sevalprocAttr,vi],rfl⟩
  ·have vi:XM y ((zt.map Prod.fst).drop q)=false:=by
    rw [List.drop_eq_nil_of_le (by simp;omega)];rfl
   simp +contextual only [go_sem,sevalprocAttr,aI,e7,hq]
   exact dU _ _ _ ⟨rfl,by simp only [aG,go_sem,sevalprocAttr,aI,e7],by simp only [go_sem,sevalprocAttr,vi],rfl⟩
 clear aI e7
 rintro e ds h ⟨rfl,aI,e55,rfl⟩
 simp only [aG] at aI
 cases vi:XM y ((zt.map Prod.fst).drop q) with
 | true=>
  obtain ⟨z,r,hzr⟩:∃ z r,(zt.map Prod.fst).drop q=z::r:=by
   cases hd:(zt.map Prod.fst).drop q with
   | nil=>rw [hd] at vi;cases vi
   | cons z r=>exact ⟨z,r,rfl⟩
  have hqz:q<zt.length:=by
   have:=congrArg List.length hzr
   simp only [List.length_drop,List.length_map,List.length_cons] at this
   omega
  have hdq:(zt.map Prod.fst).drop q=zt[q].1::(zt.map Prod.fst).drop (q+1):=by
   rw [dq (by simpa using hqz)];simp
  rw [hdq] at vi ax
  simp only [XM,decide_eq_true_eq] at vi
  rw [nO,if_pos vi] at ax
  have hql:q<l.length:=by omega
  have c1:=JZ (enc:=k9) hqz
  simp only [k9] at c1
  rw [hdq] at e55
  simp only [XM,vi,decide_true] at e55
  simp +contextual only [go_sem,aE,sevalprocAttr,e55]
  refine aU ?_
  simp +contextual only [go_sem,sevalprocAttr,aI,hql,aA U3,aA mG,eA,c1]
  exact nW (m':=l.length - (q+1)) (by omega) (by simp only [aG,go_sem,sevalprocAttr,aI]) ⟨q+1,⟨y.row,IntKind.i64.wrap (y.w+zt[q].1.w)⟩,_,by simp only [go_sem,sevalprocAttr,aB q (by omega)],rfl,hyr,by omega,by omega,rfl,ax⟩
 | false=>
  have hmg:nO y ((zt.map Prod.fst).drop q)=Bu y++pG ((zt.map Prod.fst).drop q):=DU (by
   intro z r hz
   rw [hz] at vi
   simpa [XM] using vi)
  rw [hmg] at ax
  rw [vi] at e55
  simp +contextual only [go_sem,aE,sevalprocAttr,aI,e55,aA mG]
  by_cases hw:y.w=0
  ·rw [Bu,if_pos hw,List.nil_append] at ax
   rw [if_pos hw]
   exact aR (ak (az ⟨l.length - q,by omega,rfl,by simp only [aG,go_sem,sevalprocAttr,aI],q,T8,R2,fv,acc,by simp only [go_sem,sevalprocAttr,aI],by simp only [go_sem,sevalprocAttr,aI],zC.trans qI,rfl,bC,by omega,hql,rfl,ax⟩))
  ·rw [Bu,if_neg hw,<- List.append_assoc] at ax
   rw [if_neg hw]
   intro b9 lu eN
   refine cy (Tryz.underlying80) mm ml (x:=y) (cs:=[.slice ya y.row.length yc,.int .i64 y.w]) bC ⟨_,hyr,rfl⟩ (fun _ _=>cm) (i8 ⟨_,hyr,rfl⟩) lu (by omega) (by decide) ?_
   intro fv' R' bI
   simp +contextual only [go_sem,sevalprocAttr]
   exact aR (ak (ak (az ⟨l.length - q,by omega,rfl,by simp only [aG,go_sem,sevalprocAttr,aI],q,T8,R',fv',acc++[y],by simp only [go_sem,sevalprocAttr,aI],by simp only [go_sem,sevalprocAttr],zC.trans qI,rfl,bI,by rw [List.length_append];simp only [ln];omega,hql,rfl,ax⟩)))
theorem tC {v:V}{cs:List Value}(h:RV v cs):∀ u∈cs,u.oneCell'=true:=by
 unfold RV V.cs at h;subst h
 intro u hu
 simp only [mn] at hu
 rcases hu with rfl | rfl | rfl<;>rfl
theorem Tv {M:aS}(n:Nat)(hn:n<=1073741824)(T:Tm):
 HV Tryz.prog 259 [.slice none 0 0,.int .i64 (n:Nat)] T M [] [] 1 (fun v _ _ R'=>∃ a c,v=.slice a 0 c/\R'=[(v,159,2,[])]) aO:=by
 refine iP ah6 rfl rfl ?_
 intro bi _
 have h0:¬ ((n:Int)<0):=by omega
 by_cases hz:n=0
 ·subst hz
  simp +contextual only [go_sem,aE,sevalprocAttr, -Int.reduceAdd, -Int.reduceSub, -Int.reduceMul]
  exact dC (aM aH.rfl' rfl rfl ⟨none,0,rfl,rfl⟩)
 ·have hp:0<n:=by omega
  have Fw:(0:Int)<(n:Int):=by omega
  have hw:IntKind.i64.wrap (n:Int)=(n:Int):=bJ (by omega) (by omega)
  have MG:IntKind.i64.wrap (0 - 0)=0:=by decide
  have zq:IntKind.i64.wrap ((n:Int) - IntKind.i64.wrap (0 - 0))=(n:Int):=by rw [MG,Int.sub_zero];exact hw
  have vB:kB none 0 0 2=none:=rfl
  simp +contextual only [go_sem,aE,sevalprocAttr, -Int.reduceAdd, -Int.reduceSub, -Int.reduceMul,h0]
  rw [zq,if_pos Fw,vB]
  refine yT (ik:=.i64) mm ml Tryz.underlying3 hp (by omega) ?_
  intro a c zs uz dJ
  simp +contextual only [go_sem,sevalprocAttr, -Int.reduceAdd, -Int.reduceSub, -Int.reduceMul]
  have Ya:kB a c 0 2=a:=by
   unfold kB
   cases a<;>simp [Addr.add]
  rw [Ya]
  exact nJ (by decide) (aM aH.rfl' rfl rfl ⟨a,c,rfl,rfl⟩)
theorem xe {M:aS}{ls:List (List Z)}{sv:Value}(hs:RS M (fun l cs=>∃ v,cs=[v]/\RS M (RZ M) 2 l v) 1 ls sv)(bw:ls.length<=64)(hl:∀ l∈ls,l.length<=16777216)(T:Tm):
 cw Tryz.prog 213 [sv] T M [] [] (fun v M' _ _=>RS M' (RZ M') 2 ls.flatten v) aO:=by
 obtain ⟨fS,a,c,rfl,dJ,_,hg⟩:=aF (by decide) (by rintro _ _ ⟨_,rfl,_⟩;rfl) hs
 obtain ⟨B,hB⟩:∃ B:Nat,B=16777216:=⟨_,rfl⟩
 rw [<- hB] at hl
 have Ed:∀ i,(ls.take i).flatten.length<=i*B:=by
  intro i
  induction i with
  | zero=>simp
  | succ i ih=>
   rw [Nat.succ_mul]
   by_cases hi:i<ls.length
   ·rw [<- List.take_append_getElem hi,List.flatten_append,List.length_append]
    have:=hl ls[i] (gm hi)
    simp only [List.flatten_cons,List.flatten_nil,List.append_nil]
    omega
   ·rw [List.take_of_length_le (by omega)]
    rw [List.take_of_length_le (by omega)] at ih
    omega
 have rZ:∀ i,i<=ls.length ->(ls.take i).flatten.length<=1073741824:=by
  intro i hi
  refine Nat.le_trans (Ed i) ?_
  rw [hB]
  exact Nat.le_trans (Nat.mul_le_mul_right _ (show i<=64 by omega)) (by decide)
 refine aC US rfl rfl ?_
 intro bi _
 simp +contextual only [go_sem,aE,sevalprocAttr, -Int.reduceAdd, -Int.reduceSub, -Int.reduceMul]
 refine aY ls.length 11 [(0,.slice a ls.length c),(9,.slice a ls.length c),(10,.int .i64 (ls.length:Int))] (fun i e h=>h=⟨T,M,[],[]⟩/\e 3=.int .i64 ((ls.take i).flatten.length:Int)) 0 (by omega) (by simp only [aG,go_sem,sevalprocAttr, -Int.reduceAdd, -Int.reduceSub, -Int.reduceMul]) (by simp only [go_sem,sevalprocAttr, -Int.reduceAdd, -Int.reduceSub, -Int.reduceMul]) ⟨rfl,by simp only [go_sem,sevalprocAttr, -Int.reduceAdd, -Int.reduceSub, -Int.reduceMul];simp⟩ ?_
 rintro i e h hi aI ht ⟨rfl,e3⟩
 simp only [aG] at aI
 have TP:=rZ i hi
 by_cases aN:i<ls.length
 ·obtain ⟨b',o',cs',rfl,cG,v,rfl,rj⟩:=hg i ls[i] (gq aN)
  obtain ⟨_,va,vc,rfl,_⟩:=aF (by decide) (fun _ _=>cm) rj
  have x0:=tV cG
  rw [Nat.mul_one] at x0
  have eG:(ls.take (i+1)).flatten.length=(ls.take i).flatten.length+ls[i].length:=by
   rw [<- List.take_append_getElem aN,List.flatten_append,List.length_append];simp
  have FQ:=rZ (i+1) aN
  have hw:IntKind.i64.wrap (((ls.take i).flatten.length:Int)+(ls[i].length:Int))=((ls.take (i+1)).flatten.length:Int):=by
   have h1:((ls.take i).flatten.length:Int)+(ls[i].length:Int)=((ls.take (i+1)).flatten.length:Int):=by omega
   rw [h1,bJ (by omega) (by omega)]
  have Xs:¬ (((ls.take (i+1)).flatten.length:Int)<0):=by omega
  simp +contextual only [go_sem,aE,sevalprocAttr, -Int.reduceAdd, -Int.reduceSub, -Int.reduceMul,aI,ht,aN,x0,e3,hw,Xs]
  refine aR (az ⟨ls.length - (i+1),by omega,rfl,i+1,by omega,rfl,?_,?_,rfl,?_⟩)
  ·simp only [aG,aI,go_sem,sevalprocAttr, -Int.reduceAdd, -Int.reduceSub, -Int.reduceMul]
  ·simp only [go_sem,sevalprocAttr, -Int.reduceAdd, -Int.reduceSub, -Int.reduceMul,aB i (by omega)]
  ·simp only [go_sem,sevalprocAttr, -Int.reduceAdd, -Int.reduceSub, -Int.reduceMul]
 ·have:i=ls.length:=by omega
  subst this
  rw [List.take_length] at e3 TP
  simp +contextual only [go_sem,aE,sevalprocAttr, -Int.reduceAdd, -Int.reduceSub, -Int.reduceMul,aI,ht,aN,e3]
  refine eK (Tv ls.flatten.length TP T) ?_ (fun _ _ _ _ h=>h.elim)
  rintro v M2 row bg aZ ⟨ga,gc,rfl,bP⟩
  simp only [List.cons.injEq,and_true] at bP
  subst bP
  simp +contextual only [go_sem,aE,sevalprocAttr, -Int.reduceAdd, -Int.reduceSub, -Int.reduceMul,aI]
  refine aY ls.length 27 [(0,.slice a ls.length c),(25,.slice a ls.length c),(26,.int .i64 (ls.length:Int))] (fun i e h=>∃ R fv,h=⟨T,M2,[],R⟩/\e 6=fv/\kV 159 2 (RZ M2) [] R fv (ls.take i).flatten) 0 (by omega) (by simp only [aG,aI,go_sem,sevalprocAttr, -Int.reduceAdd, -Int.reduceSub, -Int.reduceMul]) (by simp only [go_sem,sevalprocAttr, -Int.reduceAdd, -Int.reduceSub, -Int.reduceMul]) ⟨[(.slice ga 0 gc,159,2,[])],.slice ga 0 gc,rfl,by simp only [go_sem,sevalprocAttr, -Int.reduceAdd, -Int.reduceSub, -Int.reduceMul],by rw [List.take_zero];exact .inr ⟨ga,gc,[],rfl,rfl,rfl⟩⟩ ?_
  clear aI ht e3 aN hi e
  rintro i e h hi aI ht ⟨R1,fv,rfl,e6,bC⟩
  simp only [aG] at aI
  have QP:=rZ i hi
  by_cases aN:i<ls.length
  ·obtain ⟨b',o',cs',rfl,cG,v,rfl,rj⟩:=hg i ls[i] (gq aN)
   obtain ⟨_,va,vc,rfl,_⟩:=aF (by decide) (fun _ _=>cm) rj
   have x0:=tV (cG.ext bg)
   rw [Nat.mul_one] at x0
   have eG:(ls.take (i+1)).flatten=(ls.take i).flatten++ls[i]:=by
    rw [<- List.take_append_getElem aN,List.flatten_append];simp
   have FQ:=rZ (i+1) aN
   obtain ⟨ys,Mn,zu,vn⟩:=kx (P:=Tryz.prog) Tryz.underlying80 (fun _ _=>cm) (fun _ _ h=>i8 h) (aL bg (fz bg) rj)
   simp +contextual only [go_sem,aE,sevalprocAttr, -Int.reduceAdd, -Int.reduceSub, -Int.reduceMul,aI,ht,aN,x0,e6]
   refine sB mm ml bC zu (fun _=>vn _ _ _) (fun _ _=>cm) (by rw [eG,List.length_append] at FQ;omega) (by decide) ?_
   intro fv' R' bI
   rw [<- eG] at bI
   simp +contextual only [go_sem,sevalprocAttr, -Int.reduceAdd, -Int.reduceSub, -Int.reduceMul,ht]
   refine aR (az ⟨ls.length - (i+1),by omega,rfl,i+1,by omega,rfl,?_,?_,R',fv',rfl,?_,bI⟩)
   ·simp only [aG,aI,go_sem,sevalprocAttr, -Int.reduceAdd, -Int.reduceSub, -Int.reduceMul]
   ·simp only [go_sem,sevalprocAttr, -Int.reduceAdd, -Int.reduceSub, -Int.reduceMul,aB i (by omega)]
   ·simp only [go_sem,sevalprocAttr, -Int.reduceAdd, -Int.reduceSub, -Int.reduceMul]
  ·have:i=ls.length:=by omega
   subst this
   rw [List.take_length] at bC QP
   simp +contextual only [go_sem,aE,sevalprocAttr, -Int.reduceAdd, -Int.reduceSub, -Int.reduceMul,aI,ht,aN,e6]
   exact ct bC (by omega) (by decide) aZ fun M3 bM bj cC=>am aH.rfl' (aL bh.rfl' (fz bM) cC)
theorem PA {M:aS}(n:Nat)(hn:n<=1073741824)(T:Tm):
 HV Tryz.prog 316 [.slice none 0 0,.int .i64 (n:Nat)] T M [] [] 1 (fun v _ _ R'=>∃ a c,v=.slice a 0 c/\R'=[(v,29,3,[])]) aO:=by
 refine iP af3 rfl rfl ?_
 intro bi _
 have h0:¬ ((n:Int)<0):=by omega
 by_cases hz:n=0
 ·subst hz
  simp +contextual only [go_sem,aE,sevalprocAttr, -Int.reduceAdd, -Int.reduceSub, -Int.reduceMul]
  exact dC (aM aH.rfl' rfl rfl ⟨none,0,rfl,rfl⟩)
 ·have hp:0<n:=by omega
  have Fw:(0:Int)<(n:Int):=by omega
  have hw:IntKind.i64.wrap (n:Int)=(n:Int):=bJ (by omega) (by omega)
  have MG:IntKind.i64.wrap (0 - 0)=0:=by decide
  have zq:IntKind.i64.wrap ((n:Int) - IntKind.i64.wrap (0 - 0))=(n:Int):=by rw [MG,Int.sub_zero];exact hw
  have vB:kB none 0 0 3=none:=rfl
  simp +contextual only [go_sem,aE,sevalprocAttr, -Int.reduceAdd, -Int.reduceSub, -Int.reduceMul,h0]
  rw [zq,if_pos Fw,vB]
  refine yT (ik:=.i64) mI mB Tryz.underlying3 hp (by omega) ?_
  intro a c zs uz dJ
  simp +contextual only [go_sem,sevalprocAttr, -Int.reduceAdd, -Int.reduceSub, -Int.reduceMul]
  have Ya:kB a c 0 3=a:=by
   unfold kB
   cases a<;>simp [Addr.add]
  rw [Ya]
  exact nJ (by decide) (aM aH.rfl' rfl rfl ⟨a,c,rfl,rfl⟩)
theorem Hj {M:aS}{ls:List (List V)}{sv:Value}(hs:RS M (fun l cs=>∃ v,cs=[v]/\RS M RV 3 l v) 1 ls sv)(bw:ls.length<=64)(hl:∀ l∈ls,l.length<=16777216)(T:Tm):
 cw Tryz.prog 297 [sv] T M [] [] (fun v M' _ _=>RS M' RV 3 ls.flatten v) aO:=by
 obtain ⟨fS,a,c,rfl,dJ,_,hg⟩:=aF (by decide) (by rintro _ _ ⟨_,rfl,_⟩;rfl) hs
 obtain ⟨B,hB⟩:∃ B:Nat,B=16777216:=⟨_,rfl⟩
 rw [<- hB] at hl
 have Ed:∀ i,(ls.take i).flatten.length<=i*B:=by
  intro i
  induction i with
  | zero=>simp
  | succ i ih=>
   rw [Nat.succ_mul]
   by_cases hi:i<ls.length
   ·rw [<- List.take_append_getElem hi,List.flatten_append,List.length_append]
    have:=hl ls[i] (gm hi)
    simp only [List.flatten_cons,List.flatten_nil,List.append_nil]
    omega
   ·rw [List.take_of_length_le (by omega)]
    rw [List.take_of_length_le (by omega)] at ih
    omega
 have rZ:∀ i,i<=ls.length ->(ls.take i).flatten.length<=1073741824:=by
  intro i hi
  refine Nat.le_trans (Ed i) ?_
  rw [hB]
  exact Nat.le_trans (Nat.mul_le_mul_right _ (show i<=64 by omega)) (by decide)
 refine aC ads rfl rfl ?_
 intro bi _
 simp +contextual only [go_sem,aE,sevalprocAttr, -Int.reduceAdd, -Int.reduceSub, -Int.reduceMul]
 refine aY ls.length 11 [(0,.slice a ls.length c),(9,.slice a ls.length c),(10,.int .i64 (ls.length:Int))] (fun i e h=>h=⟨T,M,[],[]⟩/\e 3=.int .i64 ((ls.take i).flatten.length:Int)) 0 (by omega) (by simp only [aG,go_sem,sevalprocAttr, -Int.reduceAdd, -Int.reduceSub, -Int.reduceMul]) (by simp only [go_sem,sevalprocAttr, -Int.reduceAdd, -Int.reduceSub, -Int.reduceMul]) ⟨rfl,by simp only [go_sem,sevalprocAttr, -Int.reduceAdd, -Int.reduceSub, -Int.reduceMul];simp⟩ ?_
 rintro i e h hi aI ht ⟨rfl,e3⟩
 simp only [aG] at aI
 have TP:=rZ i hi
 by_cases aN:i<ls.length
 ·obtain ⟨b',o',cs',rfl,cG,v,rfl,rj⟩:=hg i ls[i] (gq aN)
  obtain ⟨_,va,vc,rfl,_⟩:=aF (by decide) (fun _ _=>fO) rj
  have x0:=tV cG
  rw [Nat.mul_one] at x0
  have eG:(ls.take (i+1)).flatten.length=(ls.take i).flatten.length+ls[i].length:=by
   rw [<- List.take_append_getElem aN,List.flatten_append,List.length_append];simp
  have FQ:=rZ (i+1) aN
  have hw:IntKind.i64.wrap (((ls.take i).flatten.length:Int)+(ls[i].length:Int))=((ls.take (i+1)).flatten.length:Int):=by
   have h1:((ls.take i).flatten.length:Int)+(ls[i].length:Int)=((ls.take (i+1)).flatten.length:Int):=by omega
   rw [h1,bJ (by omega) (by omega)]
  have Xs:¬ (((ls.take (i+1)).flatten.length:Int)<0):=by omega
  simp +contextual only [go_sem,aE,sevalprocAttr, -Int.reduceAdd, -Int.reduceSub, -Int.reduceMul,aI,ht,aN,x0,e3,hw,Xs]
  refine aR (az ⟨ls.length - (i+1),by omega,rfl,i+1,by omega,rfl,?_,?_,rfl,?_⟩)
  ·simp only [aG,aI,go_sem,sevalprocAttr, -Int.reduceAdd, -Int.reduceSub, -Int.reduceMul]
  ·simp only [go_sem,sevalprocAttr, -Int.reduceAdd, -Int.reduceSub, -Int.reduceMul,aB i (by omega)]
  ·simp only [go_sem,sevalprocAttr, -Int.reduceAdd, -Int.reduceSub, -Int.reduceMul]
 ·have:i=ls.length:=by omega
  subst this
  rw [List.take_length] at e3 TP
  simp +contextual only [go_sem,aE,sevalprocAttr, -Int.reduceAdd, -Int.reduceSub, -Int.reduceMul,aI,ht,aN,e3]
  refine eK (PA ls.flatten.length TP T) ?_ (fun _ _ _ _ h=>h.elim)
  rintro v M2 row bg aZ ⟨ga,gc,rfl,bP⟩
  simp only [List.cons.injEq,and_true] at bP
  subst bP
  simp +contextual only [go_sem,aE,sevalprocAttr, -Int.reduceAdd, -Int.reduceSub, -Int.reduceMul,aI]
  refine aY ls.length 27 [(0,.slice a ls.length c),(25,.slice a ls.length c),(26,.int .i64 (ls.length:Int))] (fun i e h=>∃ R fv,h=⟨T,M2,[],R⟩/\e 6=fv/\kV 29 3 RV [] R fv (ls.take i).flatten) 0 (by omega) (by simp only [aG,aI,go_sem,sevalprocAttr, -Int.reduceAdd, -Int.reduceSub, -Int.reduceMul]) (by simp only [go_sem,sevalprocAttr, -Int.reduceAdd, -Int.reduceSub, -Int.reduceMul]) ⟨[(.slice ga 0 gc,29,3,[])],.slice ga 0 gc,rfl,by simp only [go_sem,sevalprocAttr, -Int.reduceAdd, -Int.reduceSub, -Int.reduceMul],by rw [List.take_zero];exact .inr ⟨ga,gc,[],rfl,rfl,rfl⟩⟩ ?_
  clear aI ht e3 aN hi e
  rintro i e h hi aI ht ⟨R1,fv,rfl,e6,bC⟩
  simp only [aG] at aI
  have QP:=rZ i hi
  by_cases aN:i<ls.length
  ·obtain ⟨b',o',cs',rfl,cG,v,rfl,rj⟩:=hg i ls[i] (gq aN)
   obtain ⟨_,va,vc,rfl,_⟩:=aF (by decide) (fun _ _=>fO) rj
   have x0:=tV (cG.ext bg)
   rw [Nat.mul_one] at x0
   have eG:(ls.take (i+1)).flatten=(ls.take i).flatten++ls[i]:=by
    rw [<- List.take_append_getElem aN,List.flatten_append];simp
   have FQ:=rZ (i+1) aN
   obtain ⟨ys,Mn,zu,vn⟩:=kx (P:=Tryz.prog) Tryz.underlying157 (fun _ _=>fO) (fun _ _ h=>tC h) (aL bg (fun _ _ h=>h) rj)
   simp +contextual only [go_sem,aE,sevalprocAttr, -Int.reduceAdd, -Int.reduceSub, -Int.reduceMul,aI,ht,aN,x0,e6]
   refine sB mI mB bC zu (fun _=>vn _ _ _) (fun _ _=>fO) (by rw [eG,List.length_append] at FQ;omega) (by decide) ?_
   intro fv' R' bI
   rw [<- eG] at bI
   simp +contextual only [go_sem,sevalprocAttr, -Int.reduceAdd, -Int.reduceSub, -Int.reduceMul,ht]
   refine aR (az ⟨ls.length - (i+1),by omega,rfl,i+1,by omega,rfl,?_,?_,R',fv',rfl,?_,bI⟩)
   ·simp only [aG,aI,go_sem,sevalprocAttr, -Int.reduceAdd, -Int.reduceSub, -Int.reduceMul]
   ·simp only [go_sem,sevalprocAttr, -Int.reduceAdd, -Int.reduceSub, -Int.reduceMul,aB i (by omega)]
   ·simp only [go_sem,sevalprocAttr, -Int.reduceAdd, -Int.reduceSub, -Int.reduceMul]
  ·have:i=ls.length:=by omega
   subst this
   rw [List.take_length] at bC QP
   simp +contextual only [go_sem,aE,sevalprocAttr, -Int.reduceAdd, -Int.reduceSub, -Int.reduceMul,aI,ht,aN,e6]
   exact ct bC (by omega) (by decide) aZ fun M3 bM bj cC=>am aH.rfl' (aL bh.rfl' (fun _ _ h=>h) cC)
def GR (z:List Z):Int:=if z.any (fun x=> !jg x.w)=true then 3 else if 400<z.length then 5 else 0
def adB (z:List Z):Except Int (List Z):=if GR z=0 then .ok z else .error (GR z)
def vM (l:List Z):Except Int (List Z):=adB (xp l)
def oS (res:Except Int (List Z))(v:Value)(M:aS):Prop:=match res with
 | .ok z=>∃ s,v=.tuple ⟨[s,.int .i64 0]⟩/\RS M (RZ M) 2 z s
 | .error e=>e≠0/\v=.tuple ⟨[.slice none 0 0,.int .i64 e]⟩
theorem Qh {res:Except Int (List Z)}{v:Value}{M M':aS}(he:bh M M')(h:oS res v M):oS res v M':=by
 cases res with
 | ok z=>obtain ⟨s,h1,h2⟩:=h;exact ⟨s,h1,bX he h2⟩
 | error e=>exact h
variable {M:aS}
theorem WE {z:Z}{cs:List Value}(hz:RZ M z cs)(T:Tm):cw Tryz.prog 198 [.agg ⟨cs⟩] T M [] [] (fun r _ _ _=>r=.bool (!jg z.w)) aO:=by
 obtain ⟨s,hs,rfl⟩:=hz
 have h1:=(cR hs).1
 refine aC ajP rfl rfl ?_
 intro _ _
 simp +contextual only [go_sem,sevalprocAttr]
 intro b1 T1 fD cV ig
 refine aP (Bk z.w _) ?_
 simp +contextual only [go_sem,sevalprocAttr]
 exact am cV rfl
theorem FJ {z:List Z}{zv:Value}(hz:RS M (RZ M) 2 z zv)(T:Tm):cw Tryz.prog 244 [zv,.func (.func 198) #[] #[]] T M [] [] (fun r _ _ _=>∃ n,r=.int .i64 n/\(0<=n ↔ z.any (fun x=> !jg x.w)=true)) aO:=by
 obtain ⟨fS,a,c,rfl,dJ,_,hg⟩:=aF (by decide) (fun _ _=>cm) hz
 refine aC ajv rfl rfl ?_
 intro bi _
 simp +contextual only [go_sem,aE,sevalprocAttr]
 refine aY z.length 8 [(0,.slice a z.length c),(1,.func (.func 198) #[] #[]),(7,.int .i64 (z.length:Int))] (fun i e h=>h=⟨T,M,[],[]⟩/\z.any (fun x=> !jg x.w)=(z.drop i).any (fun x=> !jg x.w)) 0 (by omega) (by simp only [aG,go_sem,sevalprocAttr]) (by simp only [go_sem,sevalprocAttr]) ⟨rfl,rfl⟩ ?_
 rintro i e h hi aI ht ⟨rfl,ax⟩
 simp only [aG] at aI
 by_cases aN:i<z.length
 ·obtain ⟨b',o',cs',rfl,cG,s,bP,rfl⟩:=hg i z[i] (gq aN)
  obtain ⟨y0,y1,_⟩:=cG
  rw [dq aN,List.any_cons] at ax
  simp +contextual only [go_sem,aE,sevalprocAttr,aI,ht,aN,y0,y1]
  refine aP (WE (z:=z[i]) ⟨s,bP,rfl⟩ _) ?_
  cases hw:jg z[i].w with
  | true=>
   rw [hw,Bool.not_true,Bool.false_or] at ax
   simp +contextual only [go_sem,aE,sevalprocAttr,ht]
   refine cI aN ?_ ?_ ⟨rfl,ax⟩
   ·simp only [aG,aI,go_sem,sevalprocAttr]
   ·simp only [go_sem,sevalprocAttr,aB i (by omega)]
  | false=>
   rw [hw,Bool.not_false,Bool.true_or] at ax
   simp +contextual only [go_sem,aE,sevalprocAttr]
   exact am aH.rfl' ⟨_,rfl,by rw [ax];simp⟩
 ·have:i=z.length:=by omega
  subst this
  rw [List.drop_length] at ax
  simp +contextual only [go_sem,aE,sevalprocAttr,aI,ht,aN]
  exact am aH.rfl' ⟨_,rfl,by rw [ax];simp⟩
theorem aaW {z:List Z}{zv:Value}(hz:RS M (RZ M) 2 z zv)(T:Tm):cw Tryz.prog 156 [zv] T M [] [] (fun r _ _ _=>r=.tuple ⟨[if GR z=0 then zv else .slice none 0 0,.int .i64 (GR z)]⟩) aO:=by
 obtain ⟨fS,a,c,rfl,dJ,_,hg⟩:=aF (by decide) (fun _ _=>cm) hz
 obtain ⟨E,hE⟩:∃ E,E=GR z:=⟨_,rfl⟩
 rw [<- hE]
 unfold GR at hE
 refine aC ahZ rfl rfl ?_
 intro bi _
 simp +contextual only [go_sem,sevalprocAttr]
 have hC:cw Tryz.prog 197 [.slice a z.length c,.func (.func 198) #[] #[]] T M [] [] (fun r _ _ _=>r=.bool (z.any (fun x=> !jg x.w))) aO:=by
  refine aC ahH rfl rfl ?_
  intro bi _
  simp +contextual only [go_sem,sevalprocAttr]
  refine aD (FJ hz T) ?_
  rintro _ M1 aV _ ⟨n,rfl,hn⟩
  simp +contextual only [go_sem,sevalprocAttr]
  refine am aH.rfl' ?_
  congr 1
  rw [Bool.eq_iff_iff,<- hn];simp
 refine aP hC ?_
 cases ha:z.any (fun x=> !jg x.w) with
 | true=>
  rw [ha,if_pos rfl] at hE
  subst hE
  simp +contextual only [go_sem,aE,sevalprocAttr]
  exact am aH.rfl' rfl
 | false=>
  rw [ha,if_neg Bool.false_ne_true] at hE
  by_cases h4:400<z.length
  ·have UI:(400:Int)<(z.length:Int):=by omega
   rw [if_pos h4] at hE
   subst hE
   simp +contextual only [go_sem,aE,sevalprocAttr,UI]
   exact am aH.rfl' rfl
  ·have UI:¬ (400:Int)<(z.length:Int):=by omega
   rw [if_neg h4] at hE
   subst hE
   simp +contextual only [go_sem,aE,sevalprocAttr,UI]
   exact am aH.rfl' rfl
theorem lR {l:List Z}{lv:Value}(hl:RS M (RZ M) 2 l lv)(bw:l.length<=4294967296)(bP:∀ z∈l,z.row.length<=4294967296)(T:Tm):cw Tryz.prog 103 [lv] T M [] [] (fun v M' _ _=>oS (vM l) v M') aO:=by
 refine aC Py rfl rfl ?_
 intro bi _
 simp +contextual only [go_sem,sevalprocAttr]
 refine aD (QO hl bw bP T) ?_
 rintro v M1 aV _ hv
 simp +contextual only [go_sem,sevalprocAttr]
 refine aP (aaW hv _) ?_
 simp +contextual only [go_sem,sevalprocAttr]
 refine am aH.rfl' ?_
 unfold vM adB
 by_cases h:GR (xp l)=0
 ·rw [if_pos h,if_pos h,h];exact ⟨_,rfl,hv⟩
 ·rw [if_neg h,if_neg h];exact ⟨h,rfl⟩
def iS (fw:Int ->Int):List Z ->List Z
 | []=>[]
 | x::l=>(if fw x.w=0 then [] else [⟨x.row.map fY,fw x.w⟩])++iS fw l
def l7 (fw:Int ->Int)(z:List Z):Except Int (List Z):=if cW z=0 then .ok (iS fw z) else .error (cW z)
def Ls (res:Except Int (List Z))(v:Value)(M:aS)(R:RR):Prop:=match res with
 | .ok z=>∃ a c xs,v=.tuple ⟨[.slice a z.length c,.int .i64 0]⟩/\RL (RZ M) z xs/\R=[(.slice a z.length c,159,2,xs)]
 | .error e=>e≠0/\v=.tuple ⟨[.slice none 0 0,.int .i64 e]⟩/\R=[(.slice none 0 0,159,2,[])]
theorem p8 (fw:Int ->Int):∀ (z:List Z),(iS fw z).length<=z.length
 | []=>Nat.le_refl _
 | x::l=>by
  have:=p8 fw l
  rw [iS,List.length_append]
  split<;>simp only [List.length_nil,List.length_cons]<;>omega
theorem uh {fw:Int ->Int}{n:Nat}:∀ {z:List Z},(∀ x∈z,x.row.length<=n) ->∀ x∈iS fw z,x.row.length<=n
 | [],_,x,hx=>by cases hx
 | y::l,h,x,hx=>by
  rw [iS] at hx
  rcases qM hx with hx | hx
  ·split at hx
   ·cases hx
   ·simp only [mn] at hx
    subst hx
    have:=h y (by simp)
    simpa using this
  ·exact uh (fun x hx=>h x (p5 hx)) x hx
variable {M:aS}
theorem uN {z:List Z}(h:cW z=0):∀ x∈z,qX x.row=0:=by
 have key:∀ (z:List Z) p,Zr p z=0 ->∀ x∈z,qX x.row=0:=by
  intro z
  induction z with
  | nil=>intro p _ x hx;cases hx
  | cons y l ih=>
   intro p h0 x hx
   rw [Zr,j4] at h0
   split at h0
   ·rename_i cD;exact absurd h0 cD
   rename_i hz
   simp only [ne_eq,Decidable.not_not] at hz
   rcases rP hx with rfl | hx
   ·unfold SG at hz
    rw [j4] at hz
    split at hz
    ·rename_i cD;exact absurd hz cD
    ·rename_i hr;simpa using hr
   ·exact ih _ h0 x hx
 unfold cW at h
 split at h
 ·cases h
 ·exact key z none h
theorem eE {z:List Z}(h:cW z=0):z.length<=400/\∀ x∈z,x.row.length<=8:=by
 refine ⟨?_,fun x hx=> ?_⟩
 ·unfold cW at h;split at h
  ·cases h
  ·omega
 ·have hr:=uN h x hx
  unfold qX at hr;split at hr
  ·cases hr
  ·omega
theorem BS {g:FuncId}{fw:Int ->Int}(Oc:de Tryz.prog g=true)(hf:∀ (w:Int) (M:aS) (T:Tm),cw Tryz.prog g [.int .i64 w] T M [] [] (fun r _ _ _=>r=.int .i64 (fw w)) aO){z:List Z}{zv:Value}(hz:RS M (RZ M) 2 z zv)(T:Tm):
 HV Tryz.prog 215 [zv,.func (.func g) #[] #[]] T M [] [] 1 (fun v M' _ R'=>Ls (l7 fw z) v M' R') aO:=by
 obtain ⟨fS,a,c,rfl,dJ,_,hg⟩:=aF (by decide) (fun _ _=>cm) hz
 obtain ⟨S,hS⟩:∃ S,S=l7 fw z:=⟨_,rfl⟩
 rw [<- hS]
 unfold l7 at hS
 refine iP aiY rfl rfl ?_
 intro bi _
 simp +contextual only [go_sem,sevalprocAttr]
 intro b12 lr
 refine dA Wz.bd (fun M' he hL _=>tZ (zs:=[z]) (cK (by rintro _ _ ⟨_,_,rfl⟩;rfl) hL.1 ⟨_,[],rfl,⟨_,bX he hz,rfl⟩,rfl⟩ rfl (by simp)) _) ?_
 simp only [nC]
 by_cases hw:cW z=0
 rotate_left
 ·rw [if_neg hw] at hS
  rw [mY hw]
  simp +contextual only [go_sem,aE,sevalprocAttr,hw]
  refine ak (dC (e:=159) (sz:=2) (aM aH.rfl' rfl rfl ?_))
  rw [hS];exact ⟨hw,rfl,rfl⟩
 rw [if_pos hw] at hS
 obtain ⟨Zz,Uc⟩:=eE hw
 rw [hw,zA]
 simp +contextual only [go_sem,aE,sevalprocAttr]
 refine br z.length 19 [(1,.func (.func g) #[] #[]),(17,.slice a z.length c),(18,.int .i64 (z.length:Int))] (fun i e h=>∃ N' M' R' fv acc,aH T N'/\bh M M'/\h=⟨N',M',[],R'⟩/\e 7=fv/\kV 159 2 (RZ M') [] R' fv acc/\acc.length<=i/\S=.ok (acc++iS fw (z.drop i))) 0 (by omega) (by simp only [aG,go_sem,sevalprocAttr]) (by simp only [go_sem,sevalprocAttr]) (ak (az ⟨T,M,[],_,[],aH.rfl',bh.rfl',rfl,by simp only [go_sem,sevalprocAttr],dg,by simp,hS⟩)) ?_
 rintro i e h hi aI ht ⟨T1,M1,R1,fv,acc,cV,aV,rfl,e7,bC,iz,ax⟩
 simp only [aG] at aI
 by_cases aN:i<z.length
 ·obtain ⟨b',o',cs',rfl,cG,s,cC,rfl⟩:=hg i z[i] (gq aN)
  obtain ⟨y0,y1,_⟩:=cG.ext aV
  obtain ⟨sa,sc,rfl⟩:=cT cC
  rw [dq aN,iS] at ax
  simp +contextual only [go_sem,aE,sevalprocAttr,aI,ht,aN,y0,y1]
  intro b9 T9 lu oY l4
  have hT:=cV.trans oY
  refine aP (hf z[i].w _ _) ?_
  by_cases h0:fw z[i].w=0
  ·rw [if_pos h0,List.nil_append] at ax
   simp +contextual only [go_sem,aE,sevalprocAttr,ht,h0]
   refine aR (ak (az ⟨z.length - (i+1),by omega,rfl,i+1,by omega,rfl,?_,?_,T9,M1,R1,fv,acc,hT,aV,rfl,?_,bC,by omega,ax⟩))
   ·simp only [aG,aI,go_sem,sevalprocAttr]
   ·simp only [go_sem,sevalprocAttr,aB i (by omega)]
   ·simp only [go_sem,sevalprocAttr,e7]
  ·rw [if_neg h0,<- List.append_assoc] at ax
   simp +contextual only [go_sem,aE,sevalprocAttr,h0,aA lu]
   refine aD (KH (gQ aV cC) (by have:=Uc _ (gm aN);omega) _) ?_
   rintro v M2 bg aZ hv
   simp only [aJ] at aZ
   obtain ⟨va,vc,rfl⟩:=cT hv
   simp +contextual only [go_sem,sevalprocAttr,e7]
   intro b3 gj cL
   refine cy (Tryz.underlying80) mm ml (x:=⟨z[i].row.map fY,fw z[i].w⟩) (gJ (fz bg) bC) ⟨_,hv,rfl⟩ (fun _ _=>cm) (i8 (z:=⟨z[i].row.map fY,fw z[i].w⟩) ⟨_,hv,rfl⟩) gj (by omega) (by decide) ?_
   intro fv' R' bI
   simp +contextual only [go_sem,sevalprocAttr,ht]
   refine aR (ak (ak (az ⟨z.length - (i+1),by omega,rfl,i+1,by omega,rfl,?_,?_,T9,M2,R',fv',acc++[⟨z[i].row.map fY,fw z[i].w⟩],hT,aV.trans bg,rfl,?_,bI,by rw [List.length_append];simp only [ln];omega,ax⟩)))
   ·simp only [aG,aI,go_sem,sevalprocAttr]
   ·simp only [go_sem,sevalprocAttr,aB i (by omega)]
   ·simp only [go_sem,sevalprocAttr]
 ·have:i=z.length:=by omega
  subst this
  rw [List.drop_length,iS,List.append_nil] at ax
  simp +contextual only [go_sem,aE,sevalprocAttr,aI,ht,aN,e7]
  rw [ax]
  rcases bC with ⟨rfl,rfl,rfl⟩ | ⟨ra,rc,xs,rfl,Lh,rfl⟩
  ·exact dC (aM cV rfl rfl ⟨none,0,[],rfl,rfl,rfl⟩)
  ·exact aM cV rfl rfl ⟨ra,rc,xs,rfl,Lh,rfl⟩
def vw (w:Int):Int:=if 0>w then 0 else w
def aaq (w:Int):Int:=if 1<vw w then 1 else vw w
def Eb (w:Int):Int:=IntKind.i64.wrap (0 - w)
theorem Wh (w:Int)(M:aS)(T:Tm):cw Tryz.prog 216 [.int .i64 w] T M [] [] (fun r _ _ _=>r=.int .i64 (vw w)) aO:=by
 refine aC ady rfl rfl ?_
 intro _ _
 simp +contextual only [go_sem,sevalprocAttr]
 exact am aH.rfl' rfl
theorem Wt (w:Int)(M:aS)(T:Tm):cw Tryz.prog 217 [.int .i64 w] T M [] [] (fun r _ _ _=>r=.int .i64 (aaq w)) aO:=by
 refine aC acN rfl rfl ?_
 intro _ _
 simp +contextual only [go_sem,sevalprocAttr]
 exact am aH.rfl' rfl
theorem Vg (w:Int)(M:aS)(T:Tm):cw Tryz.prog 260 [.int .i64 w] T M [] [] (fun r _ _ _=>r=.int .i64 (Eb w)) aO:=by
 refine aC abW rfl rfl ?_
 intro _ _
 simp +contextual only [go_sem,sevalprocAttr]
 exact am aH.rfl' rfl
theorem o4 {res:Except Int (List Z)}{v:Value}{M:aS}{R:RR}(h:Ls res v M R):∃ s e,v=.tuple ⟨[s,.int .i64 e]⟩/\s.oneCell'=true:=by
 cases res with
 | ok z=>obtain ⟨a,c,xs,rfl,_⟩:=h;exact ⟨_,_,rfl,rfl⟩
 | error e=>obtain ⟨_,rfl,_⟩:=h;exact ⟨_,_,rfl,rfl⟩
theorem vo {z:List Z}{zv:Value}(hz:RS M (RZ M) 2 z zv)(T:Tm):HV Tryz.prog 166 [zv] T M [] [] 1 (fun v M' _ R'=>Ls (l7 vw z) v M' R') aO:=by
 refine iP aht rfl rfl ?_
 intro bi _
 simp +contextual only [go_sem,sevalprocAttr]
 refine eK (BS ady.bd Wh hz T) ?_ (fun _ _ _ _ h=>h.elim)
 rintro v M1 row aV _ hv
 obtain ⟨s,e,rfl,_⟩:=o4 hv
 simp +contextual only [go_sem,sevalprocAttr]
 exact aM aH.rfl' rfl rfl hv
theorem F4 {z:List Z}{zv:Value}(hz:RS M (RZ M) 2 z zv)(T:Tm):HV Tryz.prog 167 [zv] T M [] [] 1 (fun v M' _ R'=>Ls (l7 aaq z) v M' R') aO:=by
 refine iP ai9 rfl rfl ?_
 intro bi _
 simp +contextual only [go_sem,sevalprocAttr]
 refine eK (BS acN.bd Wt hz T) ?_ (fun _ _ _ _ h=>h.elim)
 rintro v M1 row aV _ hv
 obtain ⟨s,e,rfl,_⟩:=o4 hv
 simp +contextual only [go_sem,sevalprocAttr]
 exact aM aH.rfl' rfl rfl hv
theorem aaP {z:List Z}{zv:Value}(hz:RS M (RZ M) 2 z zv)(T:Tm):HV Tryz.prog 214 [zv] T M [] [] 1 (fun v M' _ R'=>Ls (l7 Eb z) v M' R') aO:=by
 refine iP ai3 rfl rfl ?_
 intro bi _
 simp +contextual only [go_sem,sevalprocAttr]
 refine eK (BS abW.bd Vg hz T) ?_ (fun _ _ _ _ h=>h.elim)
 rintro v M1 row aV _ hv
 obtain ⟨s,e,rfl,_⟩:=o4 hv
 simp +contextual only [go_sem,sevalprocAttr]
 exact aM aH.rfl' rfl rfl hv
theorem J9 {M:aS}{b:Nat}{x y:List Z}{xv yv:Value}(hx:RS M (RZ M) 2 x xv)(hy:RS M (RZ M) 2 y yv)(hb:M b=some [xv,yv]):
 RS M (fun l cs=>∃ v,cs=[v]/\RS M (RZ M) 2 l v) 1 [x,y] (.slice (some ⟨b,0,none⟩) 2 2):=
 cK (by rintro _ _ ⟨_,rfl,_⟩;rfl) hb ⟨[xv],[yv],rfl,⟨_,rfl,hx⟩,[yv],[],rfl,⟨_,rfl,hy⟩,rfl⟩ rfl (by simp)
theorem Ev {M:aS}{b:Nat}{x y:List Z}{xv yv:Value}(hx:RS M (RZ M) 2 x xv)(hy:RS M (RZ M) 2 y yv)(hb:M b=some [xv,yv]):
 RS M (fun l cs=>∃ v,RS M (RZ M) 2 l v/\cs=[v]) 1 [x,y] (.slice (some ⟨b,0,none⟩) 2 2):=
 cK (by rintro _ _ ⟨_,_,rfl⟩;rfl) hb ⟨[xv],[yv],rfl,⟨_,hx,rfl⟩,[yv],[],rfl,⟨_,hy,rfl⟩,rfl⟩ rfl (by simp)
def addM (a b:List Z):Except Int (List Z):=if j4 (cW a) (cW b)=0 then vM (a++b) else .error (j4 (cW a) (cW b))
def WP (a b:List Z):Except Int (List Z):=if j4 (cW a) (cW b)=0 then vM (a++iS Eb b) else .error (j4 (cW a) (cW b))
theorem ZB {a b:List Z}{av bv:Value}(ha:RS M (RZ M) 2 a av)(hb:RS M (RZ M) 2 b bv)(T:Tm):cw Tryz.prog 164 [av,bv] T M [] [] (fun v M' _ _=>oS (addM a b) v M') aO:=by
 have NO:=ha
 have Ng:=hb
 obtain ⟨fS,aa,ac,rfl,_⟩:=aF (by decide) (fun _ _=>cm) ha
 obtain ⟨r6,ba,bc,rfl,_⟩:=aF (by decide) (fun _ _=>cm) hb
 obtain ⟨S,hS⟩:∃ S,S=addM a b:=⟨_,rfl⟩
 rw [<- hS]
 unfold addM at hS
 refine aC ah7 rfl rfl ?_
 intro bi _
 simp +contextual only [go_sem,sevalprocAttr]
 intro b9 lu
 refine dA Wz.bd (fun M' he hL _=>tZ (Ev (bX he NO) (bX he Ng) hL.1) _) ?_
 have hf:nC cW [a,b]=j4 (cW a) (cW b):=by
  have h0:∀ x,j4 x 0=x:=by intro x;unfold j4;split<;>omega
  simp only [nC,h0]
 rw [hf]
 by_cases hw:j4 (cW a) (cW b)=0
 rotate_left
 ·rw [if_neg hw] at hS
  simp +contextual only [go_sem,aE,sevalprocAttr,hw]
  refine ak (am aH.rfl' ?_)
  rw [hS];exact ⟨hw,rfl⟩
 rw [if_pos hw] at hS
 have hwa:cW a=0:=by unfold j4 at hw;split at hw<;>omega
 have Yu:cW b=0:=by unfold j4 at hw;split at hw<;>omega
 obtain ⟨rV,ha8⟩:=eE hwa
 obtain ⟨dI,mG⟩:=eE Yu
 rw [hw]
 simp +contextual only [go_sem,aE,sevalprocAttr]
 intro b16 CP Gt
 refine di US.bd fun M1 aV Hk bG=> ?_
 refine aD (xe (J9 (bX aV NO) (bX aV Ng) Hk) (by simp) (by intro l hl;simp only [mn] at hl;rcases hl with rfl | rfl<;>omega) _) ?_
 rintro v M2 bg _ hv
 have Ad:[a,b].flatten=a++b:=by simp
 rw [Ad] at hv
 simp +contextual only [go_sem,sevalprocAttr]
 refine aD (lR hv (by rw [List.length_append];omega) (by intro z hz;rcases qM hz with h | h;have:=ha8 z h;omega;have:=mG z h;omega) _) ?_
 rintro r M3 bM _ hr
 rw [<- hS] at hr
 obtain ⟨s,e,rfl⟩:∃ s e,r=.tuple ⟨[s,.int .i64 e]⟩:=by
  cases S with
  | ok z=>obtain ⟨s,h,_⟩:=hr;exact ⟨s,0,h⟩
  | error e=>obtain ⟨_,h⟩:=hr;exact ⟨_,e,h⟩
 simp +contextual only [go_sem,sevalprocAttr]
 exact ak (am aH.rfl' hr)
theorem ZP {a b:List Z}{av bv:Value}(ha:RS M (RZ M) 2 a av)(hb:RS M (RZ M) 2 b bv)(T:Tm):cw Tryz.prog 165 [av,bv] T M [] [] (fun v M' _ _=>oS (WP a b) v M') aO:=by
 have NO:=ha
 have Ng:=hb
 obtain ⟨fS,aa,ac,rfl,_⟩:=aF (by decide) (fun _ _=>cm) ha
 obtain ⟨r6,ba,bc,rfl,_⟩:=aF (by decide) (fun _ _=>cm) hb
 obtain ⟨S,hS⟩:∃ S,S=WP a b:=⟨_,rfl⟩
 rw [<- hS]
 unfold WP at hS
 refine aC ahq rfl rfl ?_
 intro bi _
 simp +contextual only [go_sem,sevalprocAttr]
 intro b9 lu
 refine dA Wz.bd (fun M' he hL _=>tZ (Ev (bX he NO) (bX he Ng) hL.1) _) ?_
 have hf:nC cW [a,b]=j4 (cW a) (cW b):=by
  have h0:∀ x,j4 x 0=x:=by intro x;unfold j4;split<;>omega
  simp only [nC,h0]
 rw [hf]
 by_cases hw:j4 (cW a) (cW b)=0
 rotate_left
 ·rw [if_neg hw] at hS
  simp +contextual only [go_sem,aE,sevalprocAttr,hw]
  refine ak (am aH.rfl' ?_)
  rw [hS];exact ⟨hw,rfl⟩
 rw [if_pos hw] at hS
 have hwa:cW a=0:=by unfold j4 at hw;split at hw<;>omega
 have Yu:cW b=0:=by unfold j4 at hw;split at hw<;>omega
 obtain ⟨rV,ha8⟩:=eE hwa
 obtain ⟨dI,mG⟩:=eE Yu
 rw [hw]
 simp +contextual only [go_sem,aE,sevalprocAttr]
 refine eK (aaP Ng _) ?_ (fun _ _ _ _ h=>h.elim)
 rintro v M1 row aV bG hv
 have tB:l7 Eb b=.ok (iS Eb b):=by unfold l7;rw [if_pos Yu]
 rw [tB] at hv
 obtain ⟨na,nc,xs,rfl,eJ,bP⟩:=hv
 simp only [List.cons.injEq,and_true] at bP
 subst bP
 simp +contextual only [go_sem,sevalprocAttr]
 intro b16 CP Gt
 refine di US.bd fun M2 bg Hk aZ=> ?_
 refine Bw US.bd fun M3 bM gi=> ?_
 have he3:=(aV.trans bg).trans bM
 have ae0:(iS Eb b).length<=400:=Nat.le_trans (p8 _ _) dI
 refine aD (xe (J9 (bX he3 NO) ⟨by omega,xs,gi,cH (fz (bg.trans bM)) eJ⟩ (bM _ _ Hk)) (by simp) (by intro l hl;simp only [mn] at hl;rcases hl with rfl | rfl<;>omega) _) ?_
 rintro v M4 dh _ hv
 have Ad:[a,iS Eb b].flatten=a++iS Eb b:=by simp
 rw [Ad] at hv
 simp +contextual only [go_sem,sevalprocAttr]
 refine aD (lR hv (by rw [List.length_append];omega) (by intro z hz;rcases qM hz with h | h;have:=ha8 z h;omega;have:=uh mG z h;omega) _) ?_
 rintro r M3 bM _ hr
 rw [<- hS] at hr
 obtain ⟨s,e,rfl⟩:∃ s e,r=.tuple ⟨[s,.int .i64 e]⟩:=by
  cases S with
  | ok z=>obtain ⟨s,h,_⟩:=hr;exact ⟨s,0,h⟩
  | error e=>obtain ⟨_,h⟩:=hr;exact ⟨_,e,h⟩
 simp +contextual only [go_sem,sevalprocAttr]
 exact ak (am aH.rfl' hr)
theorem Rt {k:Int}{t:List Int}{e:Int}(h:ud k t=.error e):e≠0:=by
 unfold ud at h
 repeat' split at h
 all_goals first | (cases h;done) | (injection h with h;omega)
mutual
theorem K2 (cols:List Int):∀ (x:Ex) (bq n:Nat) (e:Int) (m:Nat),oW cols bq n x=(.error e,m) ->e≠0
 | .mk k v c kids,bq,n,e,m,h=>by
  rw [oW] at h
  split at h
  ·injection h with h _;injection h with h;omega
  split at h
  ·injection h with h _;injection h with h;omega
  split at h
  ·injection h with h _;injection h with h;omega
  split at h
  ·rename_i e' m' hl
   injection h with h _;injection h with h
   subst h
   exact KT cols kids _ _ _ _ hl
  ·rename_i t m' hl
   injection h with h _
   split at h
   ·split at h
    ·cases h
    ·rename_i hw;injection h with h;rw [<- h];exact hw
   split at h
   ·split at h
    ·cases h
    ·injection h with h;omega
   split at h
   ·cases h
   ·exact Rt h
theorem KT (cols:List Int):∀ (l:List Ex) (bq n:Nat) (e:Int) (m:Nat),mE cols bq n l=(.error e,m) ->e≠0
 | [],_,_,_,_,h=>by rw [mE] at h;cases h
 | x::l,bq,n,e,m,h=>by
  rw [mE] at h
  split at h
  ·rename_i e' m' hx
   injection h with h _;injection h with h
   subst h
   exact K2 cols x _ _ _ _ hx
  ·split at h
   ·rename_i e' m' hx
    injection h with h _;injection h with h
    subst h
    exact KT cols l _ _ _ _ hx
   ·cases h
end
theorem zd {cols:List Int}{x:Ex}{e:Int}(h:jr cols x=.error e):e≠0:=by
 unfold jr at h
 split at h
 ·injection h with h;omega
 split at h
 ·exact K2 cols x 1 0 e _ (Prod.ext h rfl)
 ·injection h with h;omega
theorem wZ {v:V}(h:gC v=0):(fY v).t.length<=1099511627776:=by
 unfold gC at h
 unfold fY
 repeat' split
 all_goals first | exact Nat.zero_le _ | (dsimp only;subst_vars;simp_all;omega)
mutual
theorem BR (cols:List Int):∀ (x:Ex) (bq n:Nat) (t:Int) (m:Nat),oW cols bq n x=(.ok t,m) ->mA x
 | .mk k v c kids,bq,n,t,m,h=>by
  rw [oW] at h
  split at h
  ·cases h
  split at h
  ·cases h
  rename_i kd
  split at h
  ·cases h
  rename_i oJ
  simp only [ne_eq,Decidable.not_not] at oJ
  have ZJ:1<=k/\k<=18:=by
   unfold fR at kd
   repeat' split at kd
   all_goals omega
  split at h
  ·cases h
  ·rename_i t' m' hl
   refine ⟨ZJ,?_,?_,oJ,AD cols kids _ _ _ _ hl⟩
   ·intro h1
    rw [if_pos h1] at h
    injection h with h _
    split at h
    ·rename_i hw;exact wZ hw
    ·cases h
   intro h2
   subst h2
   rw [if_neg (by omega),if_pos rfl] at h
   injection h with h _
   split at h
   ·rename_i hc;exact hc.1
   ·cases h
theorem AD (cols:List Int):∀ (l:List Ex) (bq n:Nat) (t:List Int) (m:Nat),mE cols bq n l=(.ok t,m) ->FS l
 | [],_,_,_,_,h=>trivial
 | x::l,bq,n,t,m,h=>by
  rw [mE] at h
  split at h
  ·cases h
  ·rename_i t' m' h1
   split at h
   ·cases h
   ·rename_i ts m2 h2
    exact ⟨BR cols x _ _ _ _ h1,AD cols l _ _ _ _ h2⟩
end
theorem yO {cols:List Int}{x:Ex}{t:Int}(h:jr cols x=.ok t):mA x:=by
 unfold jr at h
 split at h
 ·cases h
 split at h
 ·exact BR cols x 1 0 t _ (Prod.ext h rfl)
 ·cases h
theorem EG {cols:List Int}{x:Ex}(h:nE cols x=0):mA x:=by
 unfold nE oG at h
 cases ht:jr cols x with
 | ok t=>exact yO ht
 | error e=>rw [ht] at h;exact absurd h (zd ht)
def jX (n:Nat)(z:List Z):Prop:=∀ x∈z,x.row.length<=n/\jU x.row
def fp (xs:List Ex)(row:List V):List V:=xs.map fun x=>vN x row
def nU (x:Ex)(z:List Z):List Z:=z.filter fun r=>sU (vN x r.row)
def wz (cols:List Int)(x:Ex)(z:List Z):Except Int (List Z):=if j4 (nE cols x) (eS cols z)=0 then vM (nU x z) else .error (j4 (nE cols x) (eS cols z))
theorem CN (x:Ex)(y:Z)(l:List Z):nU x (y::l)=(if sU (vN x y.row)=true then [y] else [])++nU x l:=by
 unfold nU;rw [List.filter_cons];split<;>rfl
theorem FZ (x:Ex):nU x []=[]:=rfl
theorem iD {cols:List Int}{z:List Z}(h:eS cols z=0):cols.length<=8/\cW z=0:=by
 unfold eS at h
 split at h
 ·cases h
 ·refine ⟨by omega,?_⟩
  unfold j4 at h;split at h
  ·rename_i h2;exact absurd h h2
  ·rename_i h2;simpa using h2
theorem lO {a b:Int}(h:j4 a b=0):a=0/\b=0:=by
 unfold j4 at h;split at h
 ·rename_i h2;exact absurd h h2
 ·rename_i h2;exact ⟨by simpa using h2,h⟩
theorem zZ {α:Type}{f:α ->Int}:∀ {l:List α},nC f l=0 ->∀ x∈l,f x=0
 | y::l,h,x,hx=>by
  obtain ⟨h1,h2⟩:=lO h
  rcases rP hx with rfl | hx
  ·exact h1
  ·exact zZ h2 x hx
theorem kb {cols:List Int}{z:List Z}(h:eS cols z=0):∀ r∈z,jU r.row:=by
 intro r hr v hv
 have h1:=uN (iD h).2 r hr
 unfold qX at h1
 split at h1
 ·cases h1
 ·exact wZ (zZ h1 v hv)
variable {M:aS}
theorem nX {α:Type}{F:Fi}{f:FuncId}{args:List Value}{dd:Option Nat}{s:List Vc.Item}{e:dj}{ds:List Deferred}{N:Tm}{L:LL}{el:TypeId}{sz:Nat}{r:α ->List Value ->Prop}{R0 R:RR}{fv:Value}{acc:List α}(hb:de Tryz.prog f=true)
 (h:kV el sz r R0 R fv acc) (A7:acc.length*sz<=4398046511104) (dG:0<sz) (bi:aJ M L) (k:∀ M',bh M M' ->aJ M' L ->RS M' r sz acc fv ->dk Tryz.prog F f args dd s e ds ⟨N,M',L,R0⟩ ⟨⟩):dk Tryz.prog F f args dd s e ds ⟨N,M,L,R⟩ ⟨⟩:=
 cQ (k:=fun h'=>∃ M',bh M M'/\aJ M' L/\RS M' r sz acc fv/\h'=⟨N,M',L,R0⟩) (ct h A7 dG bi fun M' he hn cC=>az ⟨M',he,hn,cC,rfl⟩) (by rintro h' ⟨M',he,hn,cC,rfl⟩;exact k M' he hn cC) hb
theorem dE {res:Except Int (List Z)}{v:Value}{M:aS}(h:oS res v M):∃ s e,v=.tuple ⟨[s,.int .i64 e]⟩:=by
 cases res with
 | ok z=>obtain ⟨s,h,_⟩:=h;exact ⟨s,0,h⟩
 | error e=>obtain ⟨_,h⟩:=h;exact ⟨_,e,h⟩
theorem mP {xs:List Ex}{row:List V}{xv rv:Value}(hx:RS M (gU M) 6 xs xv)(hr:RS M RV 3 row rv)(cq:∀ x∈xs,mA x)(bP:jU row)(T:Tm):cw Tryz.prog 206 [xv,rv] T M [] [] (fun v M' _ _=>RS M' RV 3 (fp xs row) v) aO:=by
 obtain ⟨fS,a,c,rfl,dJ,_,hg⟩:=aF (by decide) (fun _ _=>dW) hx
 refine aC af7 rfl rfl ?_
 intro bi _
 simp +contextual only [go_sem,aE,sevalprocAttr]
 refine aY xs.length 9 [(0,.slice a xs.length c),(1,rv),(8,.int .i64 (xs.length:Int))] (fun i e h=>∃ R' fv,h=⟨T,M,[],R'⟩/\e 5=fv/\kV 29 3 RV [] R' fv (fp (xs.take i) row)) 0 (by omega) (by simp only [aG,go_sem,sevalprocAttr]) (by simp only [go_sem,sevalprocAttr]) ⟨[],_,rfl,by simp only [go_sem,sevalprocAttr],dg⟩ ?_
 rintro i e h hi aI ht ⟨R1,fv,rfl,e5,bC⟩
 simp only [aG] at aI
 by_cases aN:i<xs.length
 ·obtain ⟨b',o',cs',rfl,cG,hxr⟩:=hg i xs[i] (gq aN)
  have hm:=gm aN
  simp +contextual only [go_sem,aE,sevalprocAttr,aI,ht,aN]
  refine aP (sr _ xs[i] (Nat.le_refl _) _ _ _ _ _ _ _ cG hxr hr (cq _ hm) bP) ?_
  simp +contextual only [go_sem,sevalprocAttr,e5,V.cs]
  intro b7 iN
  refine cy (Tryz.underlying157) mI mB (x:=vN xs[i] row) bC rfl (fun _ _=>fO) (tC rfl) iN (by simp [fp];omega) (by decide) ?_
  intro fv' R' bI
  have qT:fp (xs.take i) row++[vN xs[i] row]=fp (xs.take (i+1)) row:=by
   unfold fp;rw [<- List.take_append_getElem aN,List.map_append];rfl
  rw [qT] at bI
  simp +contextual only [go_sem,sevalprocAttr,ht]
  refine aR (ak (az ⟨xs.length - (i+1),by omega,rfl,i+1,by omega,rfl,?_,?_,R',fv',rfl,?_,bI⟩))
  ·simp only [aG,aI,go_sem,sevalprocAttr]
  ·simp only [go_sem,sevalprocAttr,aB i (by omega)]
  ·simp only [go_sem,sevalprocAttr]
 ·have:i=xs.length:=by omega
  subst this
  rw [List.take_length] at bC
  simp +contextual only [go_sem,aE,sevalprocAttr,aI,ht,aN,e5]
  exact ct bC (by simp [fp];omega) (by decide) bi fun M2 bg aZ cC=>am aH.rfl' cC
theorem UG {M:aS}{b:Nat}{x y:Int}(hb:M b=some [.int .i64 x,.int .i64 y]):RS M RI 1 [x,y] (.slice (some ⟨b,0,none⟩) 2 2):=
 cK (fun _ _=>bV) hb ⟨[_],_,rfl,rfl,[_],[],rfl,rfl,rfl⟩ rfl (by simp)
theorem or2 (a b:Int):[a,b].foldr j4 0=j4 a b:=by
 have h0:∀ x,j4 x 0=x:=by intro x;unfold j4;split<;>omega
 simp only [List.foldr,h0]
theorem Nh {cols:List Int}{cv zv:Value}{x:Ex}{xc:List Value}{z:List Z}(hc:RS M RI 1 cols cv)(hx:gU M x xc)(hz:RS M (RZ M) 2 z zv)(T:Tm):cw Tryz.prog 158 [cv,.agg ⟨xc⟩,zv] T M [] [] (fun v M' _ _=>oS (wz cols x z) v M') aO:=by
 have Dj:=hz
 have zr:=hx
 obtain ⟨fS,a,c,rfl,dJ,_,hg⟩:=aF (by decide) (fun _ _=>cm) hz
 obtain ⟨x5,rfl,ox,_⟩:=dt hx
 obtain ⟨S,hS⟩:∃ S,S=wz cols x z:=⟨_,rfl⟩
 rw [<- hS]
 unfold wz at hS
 refine aC ajg rfl rfl ?_
 intro bi _
 simp +contextual only [go_sem,sevalprocAttr]
 intro b4 T4 dI fj gH
 refine aP (FK hc zr _) ?_
 simp +contextual only [go_sem,sevalprocAttr]
 refine aP (lA hc Dj _) ?_
 simp +contextual only [go_sem,sevalprocAttr]
 intro b18 Zm aeO
 refine dA abi.bd (fun M' he hL _=>QQ (UG hL.1) _) ?_
 rw [or2]
 by_cases hw:j4 (nE cols x) (eS cols z)=0
 rotate_left
 ·rw [if_neg hw] at hS
  simp +contextual only [go_sem,aE,sevalprocAttr,hw]
  refine ak (ak (am fj ?_))
  rw [hS];exact ⟨hw,rfl⟩
 rw [if_pos hw] at hS
 have Xa:=EG (lO hw).1
 have TI:=kb (lO hw).2
 obtain ⟨Zz,Uc⟩:=eE (iD (lO hw).2).2
 rw [hw]
 simp +contextual only [go_sem,aE,sevalprocAttr]
 refine br z.length 25 [(4,.pointer (some ⟨b4,0,none⟩)),(23,.slice a z.length c),(24,.int .i64 (z.length:Int))] (fun i e h=>∃ N' R' fv acc,aH T N'/\h=⟨N',M,[(b4,[.int .i64 x.k,.int .i64 x.v.k,.int .i64 x.v.n,st x.v.t,.int .i64 x.c,x5])],R'⟩/\e 9=fv/\kV 159 2 (RZ M) [] R' fv acc/\acc.length<=i/\nU x z=acc++nU x (z.drop i)) 0 (by omega) (by simp only [aG,go_sem,sevalprocAttr]) (by simp only [go_sem,sevalprocAttr]) (ak (az ⟨T4,[],_,[],fj,rfl,by simp only [go_sem,sevalprocAttr],dg,by simp,rfl⟩)) ?_
 rintro i e h hi aI ht ⟨T1,R1,fv,acc,cV,rfl,e9,bC,iz,ax⟩
 simp only [aG] at aI
 by_cases aN:i<z.length
 ·obtain ⟨b',o',cs',rfl,cG,s,cC,rfl⟩:=hg i z[i] (gq aN)
  obtain ⟨y0,y1,_⟩:=cG
  obtain ⟨sa,sc,rfl⟩:=cT cC
  rw [dq aN,CN] at ax
  simp +contextual only [go_sem,aE,sevalprocAttr,aI,ht,aN,y0,y1]
  intro b11 T11 tU nr yt JS
  have hT:=cV.trans yt
  refine dA W9.bd (fun M' he hL _=>sr _ x (Nat.le_refl _) _ _ _ _ _ _ _ (kJ hL.2.1 _ 0 (fun i v h=>by rw [Nat.zero_add];exact h)) (cu he _ _ zr) (gQ he cC) Xa (TI _ (gm aN))) ?_
  simp +contextual only [go_sem,sevalprocAttr]
  refine aP (xQ _ _) ?_
  cases htr:sU (vN x z[i].row) with
  | true=>
   rw [htr,if_pos rfl,<- List.append_assoc] at ax
   simp +contextual only [go_sem,aE,sevalprocAttr,e9,aA tU]
   intro b3 gj cL
   refine cy (Tryz.underlying80) mm ml (x:=z[i]) bC ⟨_,cC,rfl⟩ (fun _ _=>cm) (i8 ⟨_,cC,rfl⟩) gj (by omega) (by decide) ?_
   intro fv' R' bI
   simp +contextual only [go_sem,sevalprocAttr,ht]
   refine aR (ak (ak (az ⟨z.length - (i+1),by omega,rfl,i+1,by omega,rfl,?_,?_,T11,R',fv',acc++[z[i]],hT,rfl,?_,bI,by rw [List.length_append];simp only [ln];omega,ax⟩)))
   ·simp only [aG,aI,go_sem,sevalprocAttr]
   ·simp only [go_sem,sevalprocAttr,aB i (by omega)]
   ·simp only [go_sem,sevalprocAttr]
  | false=>
   rw [htr,if_neg Bool.false_ne_true,List.nil_append] at ax
   simp +contextual only [go_sem,aE,sevalprocAttr,ht]
   refine aR (ak (az ⟨z.length - (i+1),by omega,rfl,i+1,by omega,rfl,?_,?_,T11,R1,fv,acc,hT,rfl,?_,bC,by omega,ax⟩))
   ·simp only [aG,aI,go_sem,sevalprocAttr]
   ·simp only [go_sem,sevalprocAttr,aB i (by omega)]
   ·simp only [go_sem,sevalprocAttr,e9]
 ·have:i=z.length:=by omega
  subst this
  rw [List.drop_length,FZ,List.append_nil] at ax
  simp +contextual only [go_sem,aE,sevalprocAttr,aI,ht,aN,e9]
  subst ax
  refine nX Py.bd bC (by omega) (by decide) ⟨dI,trivial⟩ fun M2 bg aZ cC=> ?_
  refine aD (lR (aL bh.rfl' (fz bg) cC) (by omega) (fun r hr=>by have:=Uc r (List.mem_filter.1 hr).1;omega) _) ?_
  rintro v M3 bM _ hv
  rw [<- hS] at hv
  obtain ⟨s,e,rfl⟩:=dE hv
  simp +contextual only [go_sem,sevalprocAttr]
  exact ak (am cV hv)
section
variable {σ:Type} (step:σ ->Nat ->Nat ->List V ->σ) (x:Ex)
def lE (i:Nat)(l:Z):Nat ->List Z ->σ ->σ
 | _,[],s=>s
 | k,r::b,s=>lE i l (k+1) b (if sU (vN x (l.row++r.row))=true then step s i k (l.row++r.row) else s)
def jB (b:List Z):Nat ->List Z ->σ ->σ
 | _,[],s=>s
 | i,l::a,s=>jB b (i+1) a (lE step x i l 0 b s)
end
structure CbOk {σ:Type} (g:FuncId) (caps:List Value) (I:σ ->aS ->LL ->RR ->Prop) (na nb:Nat) (ok:List V ->Prop) (sz:σ ->Nat) (step:σ ->Nat ->Nat ->List V ->σ):Prop where
 len:∀ s i k row,sz (step s i k row)<=sz s+1
 bod:de Tryz.prog g=true
 ext:∀ s M M' L R,I s M L R ->bh M M' ->aJ M' L ->I s M' L R
 call:∀ s M L R i k row rv T,I s M L R ->i<na ->k<nb ->sz s<=i*nb+k ->ok row ->RS M RV 3 row rv ->
  cw Tryz.prog g ([.int .i64 ((i:Nat):Int),.int .i64 ((k:Nat):Int),rv]++caps) T M L R (fun r M' L' R'=>r=.tuple #[]/\I (step s i k row) M' L' R') aO
variable {M:aS}
theorem SA {M:aS}{b:Nat}{x y:List V}{xv yv:Value}(hx:RS M RV 3 x xv)(hy:RS M RV 3 y yv)(hb:M b=some [xv,yv]):
 RS M (fun l cs=>∃ v,cs=[v]/\RS M RV 3 l v) 1 [x,y] (.slice (some ⟨b,0,none⟩) 2 2):=
 cK (by rintro _ _ ⟨_,rfl,_⟩;rfl) hb ⟨[xv],[yv],rfl,⟨_,rfl,hx⟩,[yv],[],rfl,⟨_,rfl,hy⟩,rfl⟩ rfl (by simp)
theorem Bc {a b:List V}(ha:jU a)(hb:jU b):jU (a++b):=fun v hv=>by
 rcases qM hv with h | h;exact ha v h;exact hb v h
theorem EX {σ:Type}{g:FuncId}{caps:List Value}{I:σ ->aS ->LL ->RR ->Prop}{step:σ ->Nat ->Nat ->List V ->σ}{x:Ex}{bx ox:Nat}{xc:List Value}{a b:List Z}{av bv:Value}{ok:List V ->Prop}{len:σ ->Nat}
 (Ve:CbOk g caps I a.length b.length ok len step) (Yp:At M bx ox xc) (hx:gU M x xc) (ha:RS M (RZ M) 2 a av) (hb:RS M (RZ M) 2 b bv) (zL:mA x) (Ud:jX 1000 a) (NY:jX 1000 b) (aiU:∀ l∈a,∀ r∈b,ok (l.row++r.row)) {s0:σ} {L:LL} {R:RR} (hI:I s0 M L R) (JT:len s0=0) (T:Tm):
 cw Tryz.prog 255 [.pointer (some ⟨bx,ox,none⟩),av,bv,.func (.func g) #[] ⟨caps⟩] T M L R (fun r M' L' R'=>r=.tuple #[]/\I (jB step x b 0 a s0) M' L' R') aO:=by
 obtain ⟨fS,aa,ac,rfl,dJ,_,hg⟩:=aF (by decide) (fun _ _=>cm) ha
 obtain ⟨r6,ba,bc,rfl,mz,_,tg⟩:=aF (by decide) (fun _ _=>cm) hb
 obtain ⟨S,hS⟩:∃ S,S=jB step x b 0 a s0:=⟨_,rfl⟩
 rw [<- hS]
 refine aC LM rfl rfl ?_
 intro bi _
 simp +contextual only [go_sem,aE,sevalprocAttr]
 refine gD [(0,.pointer (some ⟨bx,ox,none⟩)),(2,.slice ba b.length bc),(3,.func (.func g) #[] ⟨caps⟩),(13,.slice aa a.length ac),(14,.int .i64 (a.length:Int))] (fun m e h=>∃ i N' M' L' R' s,e 15=.int .i64 ((i:Nat):Int)/\aH T N'/\bh M M'/\keys L'=keys L/\R'.length=R.length/\h=⟨N',M',L',R'⟩/\aJ M' L'/\I s M' L' R'/\len s<=i*b.length/\i<=a.length/\m=a.length - i/\S=jB step x b i (a.drop i) s) a.length (by simp only [aG,go_sem,sevalprocAttr]) ⟨0,T,M,L,R,s0,by simp only [go_sem,sevalprocAttr],aH.rfl',bh.rfl',rfl,rfl,rfl,bi,hI,by omega,by omega,rfl,hS⟩ ?_
 rintro m e h aI ⟨i,N1,M1,L1,R1,s,e15,tH,aV,kY,hR1,rfl,bG,hI1,FN,hia,rfl,ax⟩
 simp only [aG] at aI
 by_cases aN:i<a.length
 rotate_left
 ·have:i=a.length:=by omega
  subst this
  rw [List.drop_length,jB] at ax
  simp +contextual only [go_sem,aE,sevalprocAttr,aI,e15,aN]
  exact aM tH kY hR1 ⟨rfl,by rw [ax];exact hI1⟩
 obtain ⟨b',o',cs',hbo,cG,ls,GK,rfl⟩:=hg i a[i] (gq aN)
 subst hbo
 obtain ⟨y0,y1,_⟩:=cG.ext aV
 obtain ⟨la,lc,rfl⟩:=cT GK
 rw [dq aN,jB] at ax
 simp +contextual only [go_sem,aE,sevalprocAttr,aI,e15,aN,y0,y1]
 intro b9 T9 lu eN oY l4
 have Yf:=gm aN
 refine gD [(0,.pointer (some ⟨bx,ox,none⟩)),(2,.slice ba b.length bc),(3,.func (.func g) #[] ⟨caps⟩),(13,.slice (some ⟨b',o',none⟩) a.length ac),(14,.int .i64 (a.length:Int)),(15,.int .i64 (i:Int)),(8,.int .i64 (i:Int)),(9,.pointer (some ⟨b9,0,none⟩)),(20,.slice ba b.length bc),(21,.int .i64 (b.length:Int))] (fun m e h=>∃ k N' M' L' R' s,e 22=.int .i64 ((k:Nat):Int)/\aH T N'/\bh M1 M'/\keys L'=keys L/\R'.length=R.length/\h=⟨N',M',(b9,[.slice la a[i].row.length lc,.int .i64 a[i].w])::L',R'⟩/\aJ M' ((b9,[.slice la a[i].row.length lc,.int .i64 a[i].w])::L')/\I s M' L' R'/\len s<=i*b.length+k/\k<=b.length/\m=b.length - k/\S=jB step x b (i+1) (a.drop (i+1)) (lE step x i a[i] k (b.drop k) s)) b.length (by simp only [aG,go_sem,sevalprocAttr,aI,e15]) ⟨0,T9,M1,L1,R1,s,by simp only [go_sem,sevalprocAttr],tH.trans oY,bh.rfl',kY,hR1,rfl,⟨lu,bG⟩,hI1,by omega,by omega,rfl,ax⟩ ?_
 clear ax hI1 hR1 kY e15 aI
 rintro m e h aI ⟨k,N2,M2,L2,R2,s2,e22,zC,bg,iJ,hR2,rfl,aZ,hI2,uO,TU,rfl,ax⟩
 simp only [aG] at aI
 by_cases hlk:k<b.length
 rotate_left
 ·have:k=b.length:=by omega
  subst this
  rw [List.drop_length,lE] at ax
  simp +contextual only [go_sem,aE,sevalprocAttr,aI,e22,hlk]
  exact aR (ak (az ⟨a.length - (i+1),by omega,rfl,by simp only [aG,go_sem,sevalprocAttr,aI],i+1,N2,M2,L2,R2,s2,by simp only [go_sem,sevalprocAttr,aB i (by omega)],zC,aV.trans bg,iJ,hR2,rfl,aZ.2,hI2,by rw [Nat.succ_mul];omega,by omega,rfl,ax⟩))
 obtain ⟨b2,o2,cs2,aj0,kf,rs,cC,rfl⟩:=tg k b[k] (gq hlk)
 subst aj0
 have eh:=aV.trans bg
 obtain ⟨x0,x1,_⟩:=kf.ext eh
 obtain ⟨ra,rc,rfl⟩:=cT cC
 rw [dq hlk,lE] at ax
 have z8:=gm hlk
 simp +contextual only [go_sem,aE,sevalprocAttr,aI,e22,hlk,x0,x1]
 intro b11 T11 tU nr yt JS
 simp +contextual only [go_sem,sevalprocAttr,aA tU,aA aZ.1]
 intro b13 VC Ec
 refine di ads.bd fun M3 bM Hk bj=> ?_
 have lW:=eh.trans bM
 refine aD (Hj (SA (gQ lW GK) (gQ lW cC) Hk) (by simp) (by intro l hl;simp only [mn] at hl;rcases hl with rfl | rfl;have:=(Ud _ Yf).1;omega;have:=(NY _ z8).1;omega) _) ?_
 rintro rv M4 dh cE rj
 have vv:=lW.trans dh
 have Ad:[a[i].row,b[k].row].flatten=a[i].row++b[k].row:=by simp
 rw [Ad] at rj
 have bP:jU (a[i].row++b[k].row):=Bc (Ud _ Yf).2 (NY _ z8).2
 simp +contextual only [go_sem,sevalprocAttr,aI]
 refine aP (sr _ x (Nat.le_refl _) _ _ _ _ _ _ _ (Yp.ext vv) (cu vv _ _ hx) rj zL bP) ?_
 simp +contextual only [go_sem,sevalprocAttr]
 refine aP (xQ _ _) ?_
 have hI4:=Ve.ext s2 _ M4 _ _ hI2 (bM.trans dh) cE.2.2
 cases htr:sU (vN x (a[i].row++b[k].row)) with
 | false=>
  rw [htr,if_neg Bool.false_ne_true] at ax
  simp +contextual only [go_sem,aE,sevalprocAttr,e22]
  exact aR (ak (az ⟨b.length - (k+1),by omega,rfl,by simp only [aG,go_sem,sevalprocAttr,aI],k+1,T11,M4,L2,R2,s2,by simp only [go_sem,sevalprocAttr,aB k (by omega)],zC.trans yt,(bg.trans bM).trans dh,iJ,hR2,rfl,cE.2,hI4,by omega,by omega,rfl,ax⟩))
 | true=>
  rw [htr,if_pos rfl] at ax
  simp +contextual only [go_sem,aE,sevalprocAttr,aI]
  refine lL [(b11,_),(b9,_)] [] (Ve.call s2 M4 L2 R2 i k _ rv _ hI4 aN hlk uO (aiU _ Yf _ z8) rj) ?_ (fun _ _ _ _ _ _ _ h=>h.elim)
  rintro _ M5 L5 R5 dF hk5 hR5 bE ⟨rfl,hI5⟩
  simp only [nn] at bE
  simp +contextual only [go_sem,sevalprocAttr,e22]
  exact aR (ak (az ⟨b.length - (k+1),by omega,rfl,by simp only [aG,go_sem,sevalprocAttr,aI],k+1,T11,M5,L5,R5,_,by simp only [go_sem,sevalprocAttr,aB k (by omega)],zC.trans yt,((bg.trans bM).trans dh).trans dF,hk5.trans iJ,hR5.trans hR2,rfl,bE.2,hI5,by have:=Ve.len s2 i k (a[i].row++b[k].row);omega,by omega,rfl,ax⟩))
theorem qY {cols:List Int}:∀ {xs:List Ex} {ts:List Int},ge cols xs=.ok ts ->∀ x∈xs,∃ t,jr cols x=.ok t
 | [],ts,_,x,hx=>by cases hx
 | y::l,ts,h,x,hx=>by
  cases ht:jr cols y with
  | error e=>rw [rK ht] at h;cases h
  | ok t=>
   rw [uw ht] at h
   cases hl:ge cols l with
   | error e=>rw [hl] at h;cases h
   | ok ts'=>
    rcases rP hx with rfl | hx
    ·exact ⟨t,ht⟩
    ·exact qY hl x hx
theorem Ap {cols:List Int}:∀ {xs:List Ex} {e:Int},ge cols xs=.error e ->e≠0
 | [],e,h=>by cases h
 | y::l,e,h=>by
  cases ht:jr cols y with
  | error e'=>rw [rK ht] at h;injection h with h;rw [<- h];exact zd ht
  | ok t=>
   rw [uw ht] at h
   cases hl:ge cols l with
   | error e'=>rw [hl] at h;injection h with h;rw [<- h];exact Ap hl
   | ok ts'=>rw [hl] at h;cases h
theorem pw {cols:List Int}{xs:List Ex}{ts:List Int}(h:dZ cols xs=.ok ts):∀ x∈xs,mA x:=by
 unfold dZ at h
 split at h
 ·cases h
 intro x hm
 obtain ⟨t,ht⟩:=qY h x hm
 exact yO ht
theorem Iy {cols:List Int}{xs:List Ex}{ts:List Int}(h:dZ cols xs=.ok ts):xs.length<=8:=by
 unfold dZ at h
 split at h
 ·cases h
 ·omega
def Fm (xs:List Ex)(z:List Z):List Z:=z.map fun r=>⟨fp xs r.row,r.w⟩
def oU {α:Type}(r:Except Int α):Int:=match r with
 | .ok _=>0
 | .error e=>e
def Ws (cols:List Int)(xs:List Ex)(z:List Z):Except Int (List Z):=if oU (dZ cols xs)=0 then if eS cols z=0 then vM (Fm xs z) else .error (eS cols z) else .error (oU (dZ cols xs))
variable {M:aS}
theorem mb {M M':aS}(he:bh M M'){l:List Int}{v:Value}(h:RS M RI 1 l v):RS M' RI 1 l v:=aL he (fun _ _ h=>h) h
theorem qj {M M':aS}(he:bh M M'){l:List Ex}{v:Value}(h:RS M (gU M) 6 l v):RS M' (gU M') 6 l v:=aL he (cu he) h
theorem sV {res:Except Int (List Int)}{v:Value}{M:aS}(h:Sf res v M):∃ s,v=.tuple ⟨[s,.int .i64 (oU res)]⟩:=by
 cases res with
 | ok l=>obtain ⟨s,h,_⟩:=h;exact ⟨s,h⟩
 | error e=>exact ⟨_,h.2⟩
theorem wq {α:Type}{r:Except Int α}(hn:∀ e,r=.error e ->e≠0)(h:oU r=0):∃ a,r=.ok a:=by
 cases r with
 | ok a=>exact ⟨a,rfl⟩
 | error e=>exact absurd h (hn e rfl)
theorem us {cols:List Int}{xs:List Ex}{e:Int}(h:dZ cols xs=.error e):e≠0:=by
 unfold dZ at h
 split at h
 ·injection h with h;omega
 ·exact Ap h
theorem aaN {cols:List Int}{cv xv zv:Value}{xs:List Ex}{z:List Z}(hc:RS M RI 1 cols cv)(hx:RS M (gU M) 6 xs xv)(hz:RS M (RZ M) 2 z zv)(T:Tm):cw Tryz.prog 159 [cv,xv,zv] T M [] [] (fun v M' _ _=>oS (Ws cols xs z) v M') aO:=by
 have Dj:=hz
 obtain ⟨fS,a,c,rfl,dJ,_,hg⟩:=aF (by decide) (fun _ _=>cm) hz
 obtain ⟨S,hS⟩:∃ S,S=Ws cols xs z:=⟨_,rfl⟩
 rw [<- hS]
 unfold Ws at hS
 refine aC agS rfl rfl ?_
 intro bi _
 simp +contextual only [go_sem,sevalprocAttr]
 refine aD (nl hc hx _) ?_
 rintro v0 M0 zp V6 wA
 obtain ⟨s0,rfl⟩:=sV wA
 by_cases ht:oU (dZ cols xs)=0
 rotate_left
 ·rw [if_neg ht] at hS
  simp +contextual only [go_sem,aE,sevalprocAttr,ht]
  refine am aH.rfl' ?_
  rw [hS];exact ⟨ht,rfl⟩
 rw [if_pos ht] at hS
 obtain ⟨ts,CW⟩:=wq (fun _=>us) ht
 have cq:=pw CW
 have hx8:=Iy CW
 simp +contextual only [go_sem,aE,sevalprocAttr,ht]
 refine aP (lA (mb zp hc) (bX zp Dj) _) ?_
 by_cases hw:eS cols z=0
 rotate_left
 ·rw [if_neg hw] at hS
  simp +contextual only [go_sem,aE,sevalprocAttr,hw]
  refine am aH.rfl' ?_
  rw [hS];exact ⟨hw,rfl⟩
 rw [if_pos hw] at hS
 have TI:=kb hw
 obtain ⟨Zz,Uc⟩:=eE (iD hw).2
 simp +contextual only [go_sem,aE,sevalprocAttr,hw]
 refine br z.length 31 [(1,xv),(29,.slice a z.length c),(30,.int .i64 (z.length:Int))] (fun i e h=>∃ N' M' R' fv,aH T N'/\bh M M'/\h=⟨N',M',[],R'⟩/\e 11=fv/\kV 159 2 (RZ M') [] R' fv (Fm xs (z.take i))) 0 (by omega) (by simp only [aG,go_sem,sevalprocAttr]) (by simp only [go_sem,sevalprocAttr]) (az ⟨T,M0,[],_,aH.rfl',zp,rfl,by simp only [go_sem,sevalprocAttr],dg⟩) ?_
 rintro i e h hi aI Dd ⟨T1,M1,R1,fv,cV,aV,rfl,e11,bC⟩
 simp only [aG] at aI
 by_cases aN:i<z.length
 ·obtain ⟨b',o',cs',rfl,cG,s,cC,rfl⟩:=hg i z[i] (gq aN)
  obtain ⟨y0,y1,_⟩:=cG.ext aV
  obtain ⟨sa,sc,rfl⟩:=cT cC
  simp +contextual only [go_sem,aE,sevalprocAttr,aI,Dd,aN,y0,y1]
  intro b13 T13 VC TM abS
  have hT:=cV.trans TM
  refine aU ?_
  simp +contextual only [go_sem,sevalprocAttr,aI,e11,aA VC]
  refine aD (mP (qj aV hx) (gQ aV cC) cq (TI _ (gm aN)) _) ?_
  rintro v M2 bg aZ hv
  simp only [aJ] at aZ
  obtain ⟨va,vc,rfl⟩:=cT hv
  simp +contextual only [go_sem,sevalprocAttr]
  refine ⟨em bg aZ,?_⟩
  intro b3 gj cL
  refine ⟨dX bg aZ ⟨cL,trivial⟩,?_⟩
  refine cy (Tryz.underlying80) mm ml (x:=⟨fp xs z[i].row,z[i].w⟩) (gJ (fz bg) bC) ⟨_,hv,rfl⟩ (fun _ _=>cm) (i8 (z:=⟨fp xs z[i].row,z[i].w⟩) ⟨_,hv,rfl⟩) gj (by simp [Fm];omega) (by decide) ?_
  intro fv' R' bI
  have qT:Fm xs (z.take i)++[⟨fp xs z[i].row,z[i].w⟩]=Fm xs (z.take (i+1)):=by
   unfold Fm;rw [<- List.take_append_getElem aN,List.map_append];rfl
  rw [qT] at bI
  simp +contextual only [go_sem,sevalprocAttr,Dd]
  refine ⟨dX bg aZ ⟨cL,trivial⟩,aR (ak (ak (az ⟨z.length - (i+1),by omega,rfl,i+1,by omega,rfl,?_,?_,T13,M2,R',fv',hT,aV.trans bg,rfl,?_,bI⟩)))⟩
  ·simp only [aG,aI,go_sem,sevalprocAttr]
  ·simp only [go_sem,sevalprocAttr,aB i (by omega)]
  ·simp only [go_sem,sevalprocAttr]
 ·have:i=z.length:=by omega
  subst this
  rw [List.take_length] at bC
  simp +contextual only [go_sem,aE,sevalprocAttr,aI,Dd,aN,e11]
  have XL:(Fm xs z).length<=400:=by simp [Fm];omega
  refine nX Py.bd bC (by omega) (by decide) trivial fun M2 bg aZ cC=> ?_
  refine aD (lR (aL bh.rfl' (fz bg) cC) (by omega) (fun r hr=>by obtain ⟨r0,_,rfl⟩:=List.mem_map.1 hr;simp [fp];omega) _) ?_
  rintro v M3 bM _ hv
  rw [<- hS] at hv
  obtain ⟨s,e,rfl⟩:=dE hv
  simp +contextual only [go_sem,sevalprocAttr]
  exact am cV hv
def rO (left right:List Int)(x:Ex)(a b:List Z):Int:=
 if 8<left.length+right.length then 5 else j4 (nE (left++right) x) (j4 (eS left a) (eS right b))
variable {M:aS}
theorem qe {cl cr:List Int}{clv crv av bv:Value}{x:Ex}{xc:List Value}{a b:List Z}(hl:RS M RI 1 cl clv)(hr:RS M RI 1 cr crv)(hx:gU M x xc)(ha:RS M (RZ M) 2 a av)(hb:RS M (RZ M) 2 b bv)(T:Tm):cw Tryz.prog 207 [clv,crv,.agg ⟨xc⟩,av,bv] T M [] [] (fun r _ _ _=>r=.int .i64 (rO cl cr x a b)) aO:=by
 have pC:=hl
 have tB:=hr
 have zr:=hx
 obtain ⟨fS,la,lc,rfl,_⟩:=aF (by decide) (fun _ _=>bV) hl
 obtain ⟨r6,ra,rc,rfl,_⟩:=aF (by decide) (fun _ _=>bV) hr
 obtain ⟨x5,rfl,ox,_⟩:=dt hx
 obtain ⟨S,hS⟩:∃ S,S=rO cl cr x a b:=⟨_,rfl⟩
 rw [<- hS]
 unfold rO at hS
 refine aC agA rfl rfl ?_
 intro bi _
 simp +contextual only [go_sem,aE,sevalprocAttr]
 intro b7 T7 iN mX tj
 by_cases h8:8<cl.length+cr.length
 ·have oV:(8:Int)<(cl.length:Int)+(cr.length:Int):=by omega
  rw [if_pos h8] at hS
  have hw:IntKind.i64.wrap ((cl.length:Int)+(cr.length:Int))=(cl.length:Int)+(cr.length:Int):=bJ (by omega) (by omega)
  simp +contextual only [go_sem,sevalprocAttr,hw,oV]
  subst hS
  exact ak (am mX rfl)
 have oV:¬ (8:Int)<(cl.length:Int)+(cr.length:Int):=by omega
 rw [if_neg h8] at hS
 have hw:IntKind.i64.wrap ((cl.length:Int)+(cr.length:Int))=(cl.length:Int)+(cr.length:Int):=bJ (by omega) (by omega)
 simp +contextual only [go_sem,sevalprocAttr,hw,oV]
 refine aU ?_
 simp +contextual only [go_sem,sevalprocAttr,aA iN]
 intro b19 VX ON
 refine ⟨dX bh.rfl' ⟨iN,trivial⟩ ⟨ON,trivial⟩,?_⟩
 refine di F86.bd fun M4 dh dI cE=> ?_
 have GK:RS M4 (xC M4) 1 [cl,cr] (.slice (some ⟨b19,0,none⟩) 2 2):=cK (fun _ _=>fI) dI (l:=[cl,cr]) ⟨_,_,rfl,⟨_,rfl,mb dh pC⟩,_,_,rfl,⟨_,rfl,mb dh tB⟩,rfl⟩ rfl (by omega)
 refine aD (nK GK (by simp) (by intro l hl;simp only [mn] at hl;rcases hl with rfl | rfl<;>omega) _) ?_
 rintro v M5 dF bE hv
 have Ad:[cl,cr].flatten=cl++cr:=by simp
 rw [Ad] at hv
 have h5:=dh.trans dF
 simp +contextual only [go_sem,sevalprocAttr]
 refine ⟨em h5 bE,?_⟩
 refine aP (FK hv (cu h5 _ _ zr) _) ?_
 simp +contextual only [go_sem,sevalprocAttr]
 refine ⟨em h5 bE,?_⟩
 refine aP (lA (mb h5 pC) (bX h5 ha) _) ?_
 simp +contextual only [go_sem,sevalprocAttr]
 refine ⟨em h5 bE,?_⟩
 refine aP (lA (mb h5 tB) (bX h5 hb) _) ?_
 simp +contextual only [go_sem,sevalprocAttr]
 refine ⟨em h5 bE,?_⟩
 intro b29 alL Ym
 refine ⟨dX h5 bE ⟨Ym,trivial⟩,?_⟩
 refine dA abi.bd (fun M' he hL _=>QQ (l:=[nE (cl++cr) x,eS cl a,eS cr b]) (cK (fun _ _=>bV) hL.1 ⟨[_],_,rfl,rfl,[_],_,rfl,rfl,[_],[],rfl,rfl,rfl⟩ rfl (by simp)) _) ?_
 simp +contextual only [go_sem,sevalprocAttr]
 have h0:∀ x,j4 x 0=x:=by intro x;unfold j4;split<;>omega
 refine ⟨dX h5 bE ⟨Ym,trivial⟩,ak (ak (am mX ?_))⟩
 rw [hS];simp only [List.foldr,h0]
def wAt (a:List Z)(i:Nat):Int:=((a[i]?).getD ⟨[],0⟩).w
theorem HQ {a:List Z}{i:Nat}(h:i<a.length):wAt a i=a[i].w:=by simp [wAt,gq h]
def lN (a b:List Z)(s:List Z)(i k:Nat)(row:List V):List Z:=s++[⟨row,IntKind.i64.wrap (wAt a i*wAt b k)⟩]
def sR (x:Ex)(a b:List Z):List Z:=jB (lN a b) x b 0 a []
def aba (b7:Nat)(s:List Z)(M:aS)(L:LL)(R:RR):Prop:=∃ va vc xs,L=[(b7,[.slice va s.length vc])]/\R=[(.slice va s.length vc,159,2,xs)]/\RL (RZ M) s xs
variable {M:aS}
theorem Jf {a b s:List Z}{av bv rv:Value}{b4 b5 b7 i k:Nat}{row:List V}{L:LL}{R:RR}(h4:M b4=some [av])(h5:M b5=some [bv])(ha:RS M (RZ M) 2 a av)(hb:RS M (RZ M) 2 b bv)(hI:aba b7 s M L R)(hi:i<a.length)(hk:k<b.length)(hr:RS M RV 3 row rv)(hl:s.length<=1099511627776)(T:Tm):
 cw Tryz.prog 256 [.int .i64 ((i:Nat):Int),.int .i64 ((k:Nat):Int),rv,.pointer (some ⟨b7,0,none⟩),.pointer (some ⟨b4,0,none⟩),.pointer (some ⟨b5,0,none⟩)] T M L R (fun r M' L' R'=>r=.tuple #[]/\aba b7 (lN a b s i k row) M' L' R') aO:=by
 obtain ⟨va,vc,xs,rfl,rfl,eJ⟩:=hI
 have jP:=dO (fun _ _=>cm) eJ
 obtain ⟨fS,aa,ac,rfl,dJ,_,hg⟩:=aF (by decide) (fun _ _=>cm) ha
 obtain ⟨r6,ba,bc,rfl,mz,_,tg⟩:=aF (by decide) (fun _ _=>cm) hb
 obtain ⟨b',o',cs',rfl,cG,ls,GK,rfl⟩:=hg i a[i] (gq hi)
 obtain ⟨b2,o2,cs2,rfl,kf,rs,cC,rfl⟩:=tg k b[k] (gq hk)
 obtain ⟨y0,y1,_⟩:=cG
 obtain ⟨x0,x1,_⟩:=kf
 obtain ⟨ra,rc,rfl⟩:=cT hr
 refine aC acW rfl rfl ?_
 intro bi _
 simp only [aJ,and_true] at bi
 have qL:(i:Int)<(a.length:Int):=by omega
 have Dp:(k:Int)<(b.length:Int):=by omega
 simp +contextual only [go_sem,sevalprocAttr]
 refine aU ?_
 simp +contextual only [go_sem,sevalprocAttr,aX h4,aX h5,aA bi,y1,x1,qL,Dp]
 intro b9 lu eN
 refine ⟨dX bh.rfl' ⟨bi,trivial⟩ ⟨eN,trivial⟩,?_⟩
 have hz:RZ M ⟨row,IntKind.i64.wrap (a[i].w*b[k].w)⟩ [.slice ra row.length rc,.int .i64 (IntKind.i64.wrap (a[i].w*b[k].w))]:=⟨_,hr,rfl⟩
 refine cy (Tryz.underlying80) mm ml (R0:=[]) (x:=⟨row,IntKind.i64.wrap (a[i].w*b[k].w)⟩) (.inr ⟨va,vc,xs,rfl,eJ,rfl⟩) hz (fun _ _=>cm) (i8 hz) lu (by omega) (by decide) ?_
 intro fv' R' bI
 rcases bI with ⟨h,_⟩ | ⟨na,nc,xs',rfl,TE,rfl⟩
 ·simp at h
 simp +contextual only [go_sem,sevalprocAttr,eN.2]
 refine ⟨dX bh.rfl' ⟨bi,trivial⟩ ⟨eN,trivial⟩,ak (aM aH.rfl' rfl rfl ⟨rfl,?_⟩)⟩
 unfold lN
 rw [HQ hi,HQ hk]
 exact ⟨_,_,_,rfl,rfl,TE⟩
theorem Cx {F:Fi}{f:FuncId}{args:List Value}{dd:Option Nat}{s:List Vc.Item}{e:dj}{ds:List Deferred}{N:Tm}{M:aS}{L:LL}{R:RR}(el:TypeId)(sz:Nat)(hb:de Tryz.prog f=true)
 (h:dk Tryz.prog F f args dd s e ds ⟨N,M,L,(.slice none 0 0,el,sz,[])::R⟩ ⟨⟩):dk Tryz.prog F f args dd s e ds ⟨N,M,L,R⟩ ⟨⟩:=
 cQ (k:=fun h'=>h'=⟨N,M,L,(.slice none 0 0,el,sz,[])::R⟩) (dC (az rfl)) (by rintro h' rfl;exact h) hb
theorem Yy {a b:List Z}{av bv:Value}{b4 b5 b7:Nat}(h4:M b4=some [av])(h5:M b5=some [bv])(ha:RS M (RZ M) 2 a av)(hb:RS M (RZ M) 2 b bv)(bw:a.length*b.length<=1099511627776):
 CbOk 256 [.pointer (some ⟨b7,0,none⟩),.pointer (some ⟨b4,0,none⟩),.pointer (some ⟨b5,0,none⟩)] (fun s M' L R=>aba b7 s M' L R/\bh M M') a.length b.length (fun _=>True) List.length (lN a b) where
 len s i k row:=by simp [lN]
 bod:=acW.bd
 ext s M M' L R h he _:=by
  obtain ⟨⟨va,vc,xs,h1,h2,h3⟩,h4⟩:=h
  exact ⟨⟨va,vc,xs,h1,h2,cH (fz he) h3⟩,h4.trans he⟩
 call s M L R i k row rv T h hi hk hl _ hr:=by
  obtain ⟨h1,he⟩:=h
  have hb':s.length<=1099511627776:=by
   have:(i+1)*b.length<=a.length*b.length:=Nat.mul_le_mul_right _ hi
   rw [Nat.succ_mul] at this;omega
  exact cw.mono (Jf (he _ _ h4) (he _ _ h5) (bX he ha) (bX he hb) h1 hi hk hr hb' T) (fun v M' L' R' hM _ _ h=>⟨h.1,h.2,he.trans hM⟩) (fun _ _ _ _ _ _ _ h=>h)
theorem Aj {x:Ex}{bx ox:Nat}{xc:List Value}{a b:List Z}{av bv:Value}(Yp:At M bx ox xc)(hx:gU M x xc)(ha:RS M (RZ M) 2 a av)(hb:RS M (RZ M) 2 b bv)(zL:mA x)(Ud:jX 1000 a)(NY:jX 1000 b)(bw:a.length*b.length<=1099511627776)(T:Tm):
 HV Tryz.prog 208 [.pointer (some ⟨bx,ox,none⟩),av,bv] T M [] [] 1 (fun r M' _ R'=>∃ va vc xs,r=.slice va (sR x a b).length vc/\R'=[(r,159,2,xs)]/\RL (RZ M') (sR x a b) xs) aO:=by
 have NO:=ha
 have Ng:=hb
 obtain ⟨fS,aa,ac,rfl,_⟩:=aF (by decide) (fun _ _=>cm) ha
 obtain ⟨r6,ba,bc,rfl,_⟩:=aF (by decide) (fun _ _=>cm) hb
 refine iP adr rfl rfl ?_
 intro bi _
 simp +contextual only [go_sem,sevalprocAttr]
 intro b4 T4 dI fj gH b5 T5 mp gK nw o9 b7 T7 iN iV mX tj
 refine df [(b7,_)] LM.bd fun M1 aV h5 bG=> ?_
 refine df [(b7,_)] LM.bd fun M2 bg h4 aZ=> ?_
 have eh:=aV.trans bg
 refine Cx 159 2 LM.bd ?_
 refine lL [] [] (EX (Yy h4 (bg _ _ h5) (bX eh NO) (bX eh Ng) bw) (Yp.ext eh) (cu eh _ _ hx) (bX eh NO) (bX eh Ng) zL Ud NY (fun _ _ _ _=>trivial) (s0:=[]) ⟨⟨none,0,[],rfl,rfl,rfl⟩,bh.rfl'⟩ rfl _) ?_ (fun _ _ _ _ _ _ _ h=>h.elim)
 rintro _ M3 L3 R3 bM Oi hR3 bj ⟨rfl,⟨va,vc,xs,rfl,rfl,eJ⟩,_⟩
 simp only [nn,aJ] at bj
 simp +contextual only [go_sem,sevalprocAttr,bj]
 exact ak (aM ((fj.trans nw).trans mX) rfl rfl ⟨_,_,_,rfl,rfl,eJ⟩)
def RBo (b:Bool)(cs:List Value):Prop:=cs=[.bool b]
def sT (b:List Z)(s:List Bool)(i k:Nat)(_:List V):List Bool:=if 0<wAt b k then s.set i true else s
def Cy (x:Ex)(a b:List Z):List Bool:=jB (sT b) x b 0 a (List.replicate a.length false)
def aas (bm n:Nat)(s:List Bool)(L:LL)(R:RR):Prop:=s.length=n/\L=[(bm,s.map Value.bool)]/\R=[]
variable {M:aS}
theorem Xg {b:List Z}{bv rv:Value}{b5 b7 bm n i k:Nat}{s:List Bool}{row:List V}{L:LL}{R:RR}(h5:M b5=some [bv])(h7:M b7=some [.slice (some ⟨bm,0,none⟩) n n])(hb:RS M (RZ M) 2 b bv)(hI:aas bm n s L R)(hi:i<n)(hk:k<b.length)(T:Tm):
 cw Tryz.prog 257 [.int .i64 ((i:Nat):Int),.int .i64 ((k:Nat):Int),rv,.pointer (some ⟨b5,0,none⟩),.pointer (some ⟨b7,0,none⟩)] T M L R (fun r M' L' R'=>r=.tuple #[]/\aas bm n (sT b s i k row) L' R') aO:=by
 obtain ⟨hsn,rfl,rfl⟩:=hI
 obtain ⟨r6,ba,bc,rfl,mz,_,tg⟩:=aF (by decide) (fun _ _=>cm) hb
 obtain ⟨b2,o2,cs2,rfl,kf,rs,cC,rfl⟩:=tg k b[k] (gq hk)
 obtain ⟨x0,x1,_⟩:=kf
 unfold sT
 rw [HQ hk]
 refine aC ab4 rfl rfl ?_
 intro bi _
 simp only [aJ,and_true] at bi
 have qL:(i:Int)<(n:Int):=by omega
 have Dp:(k:Int)<(b.length:Int):=by omega
 by_cases hw:0<b[k].w
 ·rw [if_pos hw]
  simp +contextual only [go_sem,aE,sevalprocAttr,aX h5,aX h7,x1,qL,Dp,hw]
  have hin:i+1<=(s.map Value.bool).length:=by simp;omega
  rw [if_pos hin]
  simp +contextual only [go_sem,sevalprocAttr]
  exact aM aH.rfl' rfl rfl ⟨rfl,by simp [hsn],by simp [List.map_set],rfl⟩
 ·rw [if_neg hw]
  simp +contextual only [go_sem,aE,sevalprocAttr,aX h5,x1,Dp,hw]
  exact aM aH.rfl' rfl rfl ⟨rfl,hsn,rfl,rfl⟩
theorem aeX {a b:List Z}{bv:Value}{b5 b7 bm:Nat}(h5:M b5=some [bv])(h7:M b7=some [.slice (some ⟨bm,0,none⟩) a.length a.length])(hb:RS M (RZ M) 2 b bv):
 CbOk 257 [.pointer (some ⟨b5,0,none⟩),.pointer (some ⟨b7,0,none⟩)] (fun s M' L R=>aas bm a.length s L R/\bh M M') a.length b.length (fun _=>True) (fun _=>0) (sT b) where
 len s i k row:=by simp
 bod:=ab4.bd
 ext s M M' L R h he _:=⟨h.1,h.2.trans he⟩
 call s M L R i k row rv T h hi hk hl _ hr:=by
  obtain ⟨h1,he⟩:=h
  exact cw.mono (Xg (he _ _ h5) (he _ _ h7) (bX he hb) h1 hi hk T) (fun v M' L' R' hM _ _ h=>⟨h.1,h.2,he.trans hM⟩) (fun _ _ _ _ _ _ _ h=>h)
theorem E0:∀ (s:List Bool),RL RBo s (s.map Value.bool)
 | []=>rfl
 | b::s=>⟨[.bool b],_,rfl,rfl,E0 s⟩
theorem Ju {b:Bool}{cs:List Value}(h:RBo b cs):cs.length=1:=by rw [h];rfl
theorem L9:eC Tryz.prog 303=some (4,1,[.bool false]):=by kernel_rfl
theorem NI:kX Tryz.prog 303=true:=by kernel_rfl
theorem Iv {x:Ex}{bx ox:Nat}{xc:List Value}{a b:List Z}{av bv:Value}(Yp:At M bx ox xc)(hx:gU M x xc)(ha:RS M (RZ M) 2 a av)(hb:RS M (RZ M) 2 b bv)(zL:mA x)(Ud:jX 1000 a)(NY:jX 1000 b)(bw:a.length<=4294967296)(T:Tm):
 cw Tryz.prog 210 [.pointer (some ⟨bx,ox,none⟩),av,bv] T M [] [] (fun r M' _ _=>RS M' RBo 1 (Cy x a b) r) aO:=by
 have NO:=ha
 have Ng:=hb
 obtain ⟨fS,aa,ac,rfl,_⟩:=aF (by decide) (fun _ _=>cm) ha
 obtain ⟨r6,ba,bc,rfl,_⟩:=aF (by decide) (fun _ _=>cm) hb
 refine aC Y7 rfl rfl ?_
 intro bi _
 simp +contextual only [go_sem,sevalprocAttr]
 intro b5 T5 mp nw o9
 rw [L9,NI]
 simp +contextual only [go_sem,sevalprocAttr,bw]
 intro bm z8 anc b7 T7 iN iV mX tj
 simp +contextual only [go_sem,sevalprocAttr,aA mp]
 refine df [(b7,_),(bm,_)] LM.bd fun M1 aV h5 bG=> ?_
 refine df [] LM.bd fun M2 bg h7 aZ=> ?_
 have eh:=aV.trans bg
 refine lL [] [] (EX (aeX (bg _ _ h5) h7 (bX eh Ng)) (Yp.ext eh) (cu eh _ _ hx) (bX eh NO) (bX eh Ng) zL Ud NY (fun _ _ _ _=>trivial) (s0:=List.replicate a.length false) ⟨⟨by simp,?_,rfl⟩,bh.rfl'⟩ rfl _) ?_ (fun _ _ _ _ _ _ _ h=>h.elim)
 ·have:∀ n,(List.range n).flatMap (fun _=>[Value.bool false])=List.replicate n (Value.bool false):=by
   intro n
   induction n with
   | zero=>rfl
   | succ n ih=>rw [List.range_succ,List.flatMap_append,ih,List.replicate_succ'];rfl
  simp [this]
 rintro _ M3 L3 R3 bM Oi hR3 bj ⟨rfl,⟨gi,rfl,rfl⟩,_⟩
 simp only [nn,aJ] at bj
 simp +contextual only [go_sem,sevalprocAttr,aX (bM _ _ h7)]
 refine aT fun he h1 h2=>am (nw.trans mX) ?_
 have hl:=(cK (fun _ _=>Ju) h1 (E0 _) gi (by omega))
 exact hl
def gX (want:Bool):List Z ->List Bool ->List Z
 | r::a,b::s=>(if b=want then [r] else [])++gX want a s
 | _,_=>[]
theorem kC {want:Bool}:∀ {a:List Z} {s:List Bool} {r:Z},r∈gX want a s ->r∈a
 | [],[],r,h=>by cases h
 | [],_::_,r,h=>by cases h
 | _::_,[],r,h=>by cases h
 | y::a,b::s,r,h=>by
  rw [gX] at h
  rcases qM h with h | h
  ·split at h
   ·simp only [mn] at h;subst h;simp
   ·cases h
  ·exact p5 (kC h)
theorem kI {want:Bool}:∀ {a:List Z} {s:List Bool},(gX want a s).length<=a.length
 | [],[]=>Nat.le_refl _
 | [],_::_=>Nat.le_refl _
 | _::_,[]=>by simp [gX]
 | y::a,b::s=>by
  have:=kI (want:=want) (a:=a) (s:=s)
  rw [gX,List.length_append]
  split<;>simp only [ln]<;>omega
theorem ux {a:List Z}{s:List Bool}{want:Bool}{av sv:Value}(ha:RS M (RZ M) 2 a av)(hs:RS M RBo 1 s sv)(GK:s.length=a.length)(T:Tm):
 cw Tryz.prog 209 [av,sv,.bool want] T M [] [] (fun r M' _ _=>RS M' (RZ M') 2 (gX want a s) r) aO:=by
 obtain ⟨fS,aa,ac,rfl,dJ,_,hg⟩:=aF (by decide) (fun _ _=>cm) ha
 obtain ⟨r6,sa,sc,rfl,mz,_,tg⟩:=aF (by decide) (fun _ _=>Ju) hs
 refine aC aiK rfl rfl ?_
 intro bi _
 simp +contextual only [go_sem,aE,sevalprocAttr]
 refine br a.length 12 [(1,.slice sa s.length sc),(2,.bool want),(10,.slice aa a.length ac),(11,.int .i64 (a.length:Int))] (fun i e h=>∃ N' R' fv acc,aH T N'/\h=⟨N',M,[],R'⟩/\e 7=fv/\kV 159 2 (RZ M) [] R' fv acc/\acc.length<=i/\gX want a s=acc++gX want (a.drop i) (s.drop i)) 0 (by omega) (by simp only [aG,go_sem,sevalprocAttr]) (by simp only [go_sem,sevalprocAttr]) (az ⟨T,[],_,[],aH.rfl',rfl,by simp only [go_sem,sevalprocAttr],dg,by simp,rfl⟩) ?_
 rintro i e h hi aI ht ⟨T1,R1,fv,acc,cV,rfl,e7,bC,iz,ax⟩
 simp only [aG] at aI
 by_cases aN:i<a.length
 ·have CV:i<s.length:=by omega
  obtain ⟨b',o',cs',rfl,cG,ls,cC,rfl⟩:=hg i a[i] (gq aN)
  obtain ⟨b2,o2,cs2,rfl,kf,rfl⟩:=tg i s[i] (gq CV)
  obtain ⟨y0,y1,_⟩:=cG
  obtain ⟨x0,_⟩:=kf
  rw [Nat.mul_one] at x0
  obtain ⟨la,lc,rfl⟩:=cT cC
  rw [dq aN,dq CV,gX] at ax
  simp +contextual only [go_sem,aE,sevalprocAttr,aI,ht,aN,y0,y1]
  intro b9 T9 lu oY l4
  have hT:=cV.trans oY
  simp +contextual only [go_sem,aE,sevalprocAttr,aI,ht,CV,x0]
  by_cases hw:s[i]=want
  ·rw [if_pos hw,<- List.append_assoc] at ax
   have hz:RZ M a[i] [.slice la a[i].row.length lc,.int .i64 a[i].w]:=⟨_,cC,rfl⟩
   have hbq:(s[i]==want)=true:=by simp [hw]
   simp +contextual only [go_sem,sevalprocAttr,hbq,aA lu,e7]
   intro b3 gj cL
   refine cy (Tryz.underlying80) mm ml (x:=a[i]) bC hz (fun _ _=>cm) (i8 hz) gj (by omega) (by decide) ?_
   intro fv' R' bI
   simp +contextual only [go_sem,sevalprocAttr,ht]
   refine aR (ak (ak (az ⟨a.length - (i+1),by omega,rfl,i+1,by omega,rfl,?_,?_,T9,R',fv',acc++[a[i]],hT,rfl,?_,bI,by rw [List.length_append];simp only [ln];omega,ax⟩)))
   ·simp only [aG,aI,go_sem,sevalprocAttr]
   ·simp only [go_sem,sevalprocAttr,aB i (by omega)]
   ·simp only [go_sem,sevalprocAttr]
  ·rw [if_neg hw,List.nil_append] at ax
   have hbq:(s[i]==want)=false:=by simp [hw]
   simp +contextual only [go_sem,sevalprocAttr,hbq,Bool.false_eq_true]
   refine aR (ak (az ⟨a.length - (i+1),by omega,rfl,i+1,by omega,rfl,?_,?_,T9,R1,fv,acc,hT,rfl,?_,bC,by omega,ax⟩))
   ·simp only [aG,aI,go_sem,sevalprocAttr]
   ·simp only [go_sem,sevalprocAttr,aB i (by omega)]
   ·simp only [go_sem,sevalprocAttr,e7]
 ·have:i=a.length:=by omega
  subst this
  have Tx:∀ s',gX want [] s'=[]:=by intro s';cases s'<;>rfl
  rw [List.drop_length,Tx,List.append_nil] at ax
  simp +contextual only [go_sem,aE,sevalprocAttr,aI,ht,aN,e7]
  subst ax
  exact ct bC (by omega) (by decide) trivial fun M2 bg aZ cC=>am cV (aL bh.rfl' (fz bg) cC)
end Go.Proofs.YtmccpbcbofhmlaaGreatDoor

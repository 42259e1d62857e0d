import Derived.Test.YtmccpbcbofhmlaaGreatDoorE
import Derived.Recover
import Derived.Laws.Pointers
set_option linter.all false
namespace Go.Proofs.YtmccpbcbofhmlaaGreatDoor
open Go Vc
set_option maxRecDepth 10000
theorem zS {M:aS}{p:Pl}{c0 c1 c2 c3 c4 c5 c6 c7 c8 c9 c10:Value}(h:jV M p [c0,c1,c2,c3,c4,c5,c6,c7,c8,c9,c10]):c0.oneCell'=true/\c1.oneCell'=true/\c2.oneCell'=true/\c3.oneCell'=true/\c4.oneCell'=true/\c5.oneCell'=true/\c6.oneCell'=true/\c7.oneCell'=true/\c8.oneCell'=true/\c9.oneCell'=true/\c10.oneCell'=true:=by
 have:=yX h
 simpa using this
abbrev Fu:List Value:=[.int .i64 0,.int .i64 0,.int .i64 0,.int .i64 0,.int .i64 0,st [],.int .i64 0,.slice none 0 0,.slice none 0 0,.slice none 0 0,.slice none 0 0]
def abY (r:Pl×List Bs)(v:Value)(M:aS):Prop:=∃ cs nv,v=.tuple ⟨[.agg ⟨cs⟩,nv]⟩/\jV M r.1 cs/\RS M pX 1 r.2 nv
theorem V3 {M:aS}{bb b o:Nat}{rels:List Rel}{rv:Value}{s:Se}{cs:List Value}(hr:RS M (mD M) 14 rels rv)(hbb:M bb=some [rv])(eI:∀ r∈rels,r.cols.length<=1048576)(cG:At M b o cs)(hs:Cv M s cs)(cq:OkSe s)(T:Tm):
 cw Tryz.prog 29 [.pointer (some ⟨bb,0,none⟩),.pointer (some ⟨b,o,none⟩)] T M [] [] (uY abY (mt rels s)) (qD (mt rels s)):=by
 obtain ⟨ai,aj,af,ag,aw,ah,ap,aq,rfl,hi,hf,hw,hv,vj,ow,ov⟩:=yA hs
 obtain ⟨y0,y1,y2,y3,y4,y5,y6,y7,y8,y9,y10,y11,y12,y13,y14,y15,y16,y17,y18,y19,y20⟩:=IA cG
 refine aC F29 rfl rfl ?_
 intro bi _
 simp +contextual only [go_sem,sevalprocAttr,y3]
 intro b4 T4 dI fj gH
 refine bS (Uq hr hbb eI hf cq.src cq.on T4) ?_ ?_
 rotate_left
 ·rintro ch M1 aV bG ⟨er,he,rfl⟩
  exact me fj (Tc he)
 rintro v M1 aV bG ⟨⟨p,names⟩,hfm,qs,sc,rfl,hp,Og⟩
 simp only at hp Og
 have akN:names.length<=16777216:=by have h1:=A4 eI hfm;have h2:=cq.src;simp only at h1;omega
 obtain ⟨c0,c1,c2,c3,c4,c5,c6,c7,c8,c9,c10,rfl,hc⟩:=cU hp
 simp only [aJ] at bG
 replace y4:=ay aV y4
 simp +contextual only [go_sem,sevalprocAttr,hc,y4]
 intro b6 T6 oZ fq sK BX
 have zq:=bB aV _ _ hw
 have ajx:At M1 b (o+6) [.int .i64 s.wh.k,.int .i64 s.wh.v.k,.int .i64 s.wh.v.n,st s.wh.v.t,st s.wh.tab,st s.wh.name,aw]:=by
  have h1:=cG.ext aV
  exact (gb.1 (gb.1 (show At M1 b o ([_,_,_,_,_,_]++([_,_,_,_,_,_,_]++[_,_,_,_,_,_,_,_])) from h1)).2).1
 refine dQ (fun e ds h=>ds=[]/\aG e [(0,.pointer (some ⟨bb,0,none⟩)),(1,.pointer (some ⟨b,o,none⟩)),(4,.pointer (some ⟨b4,0,none⟩)),(6,.pointer (some ⟨b6,0,none⟩)),(7,.pointer (some ⟨sc,0,none⟩))]/\∃ M2 p2 c0 c1 c2 c3 c4 c5 c6 c7 c8 c9 c10,bh M1 M2/\M2 b6=none/\M2 b4=none/\jV M2 p2 [c0,c1,c2,c3,c4,c5,c6,c7,c8,c9,c10]/\mt rels s=pf s p2 names/\
  h=⟨T6,M2,[(b6,[c0,c1,c2,c3,c4,c5,c6,c7,c8,c9,c10]),(b4,Fu)],[]⟩) (fun S' dU=> ?_) ?_
 ·cases hW:s.hasW with
  | false=>
   simp +contextual only [go_sem,aE,sevalprocAttr]
   refine dU _ _ _ ⟨rfl,?_,M1,p,c0,c1,c2,c3,c4,c5,c6,c7,c8,c9,c10,bh.rfl',oZ,bG.1,hp,?_,rfl⟩
   ·simp only [aG,go_sem,sevalprocAttr]
   ·have:=JK (s:=s) hfm (w:=ei) (by unfold q8;rw [hW];rfl)
    rw [this,hW];rfl
  | true=>
   simp +contextual only [go_sem,aE,sevalprocAttr]
   refine aU ?_
   simp +contextual only [go_sem,sevalprocAttr,oZ]
   obtain ⟨lvs,gF,lZ,_⟩:=Og
   refine bS (exB names _ s.wh (Nat.le_refl _) (cq.wh hW) M1 T6 sc lvs _ _ b (o+6) _ lZ gF ajx zq) ?_ ?_
   ·rintro r M2 bg aZ ⟨x,hx,xs,rfl,vL⟩
    obtain ⟨s6,rfl,X4,_⟩:=dt vL
    simp only [aJ] at aZ
    simp +contextual only [go_sem,sevalprocAttr]
    refine ⟨em bg ⟨aZ.1,aZ.2.1,trivial⟩,?_⟩
    refine aD (Az vL (bY bg _ _ hp) T6) ?_
    rintro r M3 bM bj ⟨fs,rfl,hfe⟩
    obtain ⟨f0,f1,f2,f3,f4,f5,f6,f7,f8,f9,f10,rfl,hff⟩:=cU hfe
    simp only [aJ] at bj
    simp +contextual only [go_sem,sevalprocAttr,hff]
    refine dU _ _ _ ⟨rfl,?_,M3,_,f0,f1,f2,f3,f4,f5,f6,f7,f8,f9,f10,bg.trans bM,bj.1,bj.2.1,hfe,?_,rfl⟩
    ·simp only [aG,go_sem,sevalprocAttr]
    ·have:=JK (s:=s) hfm (w:=x) (by unfold q8;rw [hW];exact hx)
     rw [this,hW];rfl
   ·rintro ch M2 bg aZ ⟨er,he,rfl⟩
    exact me (fj.trans sK) (Mj hfm (by unfold q8;rw [hW];exact he))
 clear hp hc y4
 rintro e ds h ⟨rfl,aI,M2,p2,c0,c1,c2,c3,c4,c5,c6,c7,c8,c9,c10,bg,n6,n4,hp,oQ,rfl⟩
 rw [oQ]
 clear oQ hfm
 simp only [aG] at aI
 have eh:=aV.trans bg
 replace Og:=Og.ext bg
 have z:=IA (cG.ext eh)
 have hc:=zS hp
 have PK:=fj.trans sK
 simp only [nI]
 refine je (fun e ds h=>ds=[]/\aG e [(0,.pointer (some ⟨bb,0,none⟩)),(1,.pointer (some ⟨b,o,none⟩)),(4,.pointer (some ⟨b4,0,none⟩)),(6,.pointer (some ⟨b6,0,none⟩)),(7,.pointer (some ⟨sc,0,none⟩)),(8,.bool (eQ s))]/\∃ M3,bh M2 M3/\M3 b6=none/\M3 b4=none/\
  h=⟨T6,M3,[(b6,[c0,c1,c2,c3,c4,c5,c6,c7,c8,c9,c10]),(b4,Fu)],[]⟩) (fun S' dU=> ?_) ?_
 ·have hg:eQ s=(if 0<s.group.length\/s.hasH=true then true else if s.star=true then false else s.items.any fun i=>qO i.x):=by
   unfold eQ
   by_cases h1:0<s.group.length<;>cases s.hasH<;>cases s.star<;>simp [h1]
  have XR:(0<(s.group.length:Int))=(0<s.group.length):=by simp
  by_cases hA:0<(s.group.length:Int)\/s.hasH=true
  ·rw [if_pos (by rwa [XR] at hA)] at hg
   simp +contextual only [go_sem,sevalprocAttr,aI,z,hA]
   refine dU _ _ _ ⟨rfl,?_,M2,bh.rfl',n6,n4,rfl⟩
   rw [hg]
   simp only [aG,aI,go_sem,sevalprocAttr]
  ·rw [if_neg (by rwa [XR] at hA)] at hg
   cases hS:s.star with
   | true=>
    rw [hS,if_pos rfl] at hg
    simp +contextual only [go_sem,sevalprocAttr,aI,z,hA,hS]
    refine dU _ _ _ ⟨rfl,?_,M2,bh.rfl',n6,n4,rfl⟩
    rw [hg]
    simp only [not_or] at hA
    simp only [aG,aI,hA,go_sem,sevalprocAttr]
   | false=>
    rw [hS,if_neg (by decide)] at hg
    simp +contextual only [go_sem,sevalprocAttr,aI,z,hA,hS]
    refine aD (C0 (aL eh (jA eh) hi) T6) ?_
    rintro r M3 bM bj rfl
    simp only [aJ] at bj
    simp +contextual only [go_sem,sevalprocAttr,hA]
    refine dU _ _ _ ⟨rfl,?_,M3,bM,bj.1,bj.2.1,rfl⟩
    rw [hg]
    simp only [not_or] at hA
    simp only [aG,aI,hA,go_sem,sevalprocAttr]
 rintro e ds h ⟨rfl,aI,M3,bM,n6',n4',rfl⟩
 clear z n6 n4
 simp only [aG] at aI
 have lW:=eh.trans bM
 replace Og:=Og.ext bM
 replace hp:=bY bM _ _ hp
 have z:=IA (cG.ext lW)
 simp +contextual only [go_sem,sevalprocAttr,aI]
 obtain ⟨lvs,gF,lZ,FU⟩:=Og
 refine dQ (fun e ds h=>ds=[]/\aG e [(1,.pointer (some ⟨b,o,none⟩)),(4,.pointer (some ⟨b4,0,none⟩)),(6,.pointer (some ⟨b6,0,none⟩))]/\(s.star=true ->e 7=.pointer (some ⟨sc,0,none⟩))/\∃ N' M' L' R' q,h=⟨N',M',L',R'⟩/\aH T6 N'/\bh M3 M'/\(if eQ s=true then j2 s p2 names else oI s p2 names)=.ok q/\
  bK h (fun h'=>∃ M'' qs,bh M' M''/\h'=⟨N',M'',[(b6,qs),(b4,Fu)],[]⟩/\M'' b6=none/\M'' b4=none/\jV M'' q qs)) (fun S' dU=> ?_) ?_
 ·have Kq:∀ {M':aS},bh M3 M' ->RS M' (xh M') 8 s.items (.slice ai s.items.length aj):=fun he=>aL (lW.trans he) (jA (lW.trans he)) hi
  cases hG:eQ s with
  | false=>
   have JR:pf s p2 names=match oI s p2 names with | .error e=> .error e | .ok q=> .ok (if s.distinct=true then jy 11 q else q,if s.star=true then names.map (·.2) else eT 0 s.items):=by unfold pf;rw [hG];rfl
   cases hS:s.star with
   | true=>
    simp +contextual only [go_sem,aE,sevalprocAttr,aI,z,hS]
    refine dU _ _ _ ⟨rfl,?_,fun _=> ?_,T6,M3,_,_,p2,rfl,aH.rfl',bh.rfl',?_,az ⟨M3,_,bh.rfl',rfl,n6',n4',hp⟩⟩
    ·simp only [aG,aI,go_sem,sevalprocAttr]
    ·simp only [aI,go_sem,sevalprocAttr]
    ·rw [hG,if_neg (by decide)];unfold oI;rw [hS];rfl
   | false=>
    simp +contextual only [go_sem,aE,sevalprocAttr,aI,z,hS,n6']
    intro bk fS IY b14 T14 Rr py Vk aeH
    obtain ⟨XW,PL⟩:=cq.its hS
    have Mt:∀ {e:Int},dn names (s.items.map (·.x))=.error e ->pf s p2 names=.error e:=fun h=>by rw [JR];unfold oI;rw [hS,h];rfl
    obtain ⟨hib,_,hig⟩:s.items.length*8<=4398046511104/\s.items.length<=aj/\∀ (i:Nat) (x:It),s.items[i]?=some x ->∃ b o cs,ai=some ⟨b,o,none⟩/\At M3 b (o+i*8) cs/\xh M3 x cs:=by
     obtain ⟨h1,a',c',h2,h3,_,h4⟩:=aF (by decide) (fun _ _=>jE) (Kq bh.rfl')
     injection h2 with h5 h6 h7
     subst h5 h7
     exact ⟨h1,h3,h4⟩
    refine aY s.items.length 145 [(1,.pointer (some ⟨b,o,none⟩)),(4,.pointer (some ⟨b4,0,none⟩)),(6,.pointer (some ⟨b6,0,none⟩)),(7,.pointer (some ⟨sc,0,none⟩)),(14,.pointer (some ⟨b14,0,none⟩)),(144,.int .i64 (s.items.length:Int))]
     (fun i e h=>∃ M' R fv acc,bh M3 M'/\M' b14=none/\M' bk=none/\M' b6=none/\M' b4=none/\h=⟨T14,M',[(b14,[.int .i64 3,.int .i64 0,.int .i64 0,.int .i64 0,.int .i64 0,st [],.int .i64 0,.slice none 0 0,fv,.slice none 0 0,.slice (some ⟨bk,0,none⟩) 1 1]),(bk,[c0,c1,c2,c3,c4,c5,c6,c7,c8,c9,c10]),(b6,[c0,c1,c2,c3,c4,c5,c6,c7,c8,c9,c10]),(b4,Fu)],R⟩/\acc.length=i/\kV 38 6 (gU M') [] R fv acc/\qK acc (dn names ((s.items.drop i).map (·.x)))=dn names (s.items.map (·.x)))
     0 (by omega) (by simp only [aG,aI,go_sem,sevalprocAttr]) (by simp only [go_sem,sevalprocAttr]) ⟨M3,[],_,[],bh.rfl',Rr,fS,n6',n4',rfl,rfl,dg,pI _⟩ ?_
    rintro i e h qL dH ht ⟨M4,R4,fv,acc,dh,k14,kk,k6,k4,rfl,iz,bC,ax⟩
    simp only [aG] at dH
    obtain ⟨fa,fc,QC⟩:=il bC
    by_cases aN:i<s.items.length
    ·obtain ⟨b',o',cs',rfl,Id,fy⟩:=hig i s.items[i] (gq aN)
     obtain ⟨aw',rfl,Kl,qC⟩:=lK fy
     have Zl:=(gb.1 (show At M3 b' (o'+i*8) ([_,_,_,_,_,_,_]++[_]) from Id)).1
     have bA:s.items.drop i=s.items[i]::s.items.drop (i+1):=dq aN
     rw [bA,List.map_cons] at ax
     have z2:=ay dh z.2.2.1
     subst QC
     simp +contextual only [go_sem,aE,sevalprocAttr,dH,ht,aN]
     refine aU ?_
     simp +contextual only [go_sem,sevalprocAttr,dH,aN,z2,k14]
     refine bS (exB names _ s.items[i].x (Nat.le_refl _) (PL _ (gm aN)) M4 T14 sc lvs _ _ b' _ _ (aL dh (fun _ _ h=>h) lZ) (dh _ _ gF) (Zl.ext dh) (bB dh _ _ Kl)) ?_ ?_
     ·rintro r M5 dF bE ⟨x,hx,xs,rfl,vL⟩
      rw [AW hx,<- ni] at ax
      obtain ⟨s6,rfl,X4,_⟩:=dt vL
      simp only [aJ] at bE
      simp +contextual only [go_sem,sevalprocAttr]
      refine ⟨em dF ⟨bE.1,bE.2.1,bE.2.2.1,bE.2.2.2.1,trivial⟩,?_⟩
      intro b20 QU jF
      refine ⟨dX dF ⟨bE.1,bE.2.1,bE.2.2.1,bE.2.2.2.1,trivial⟩ ⟨jF.1,jF.2.1,jF.2.2.1,jF.2.2.2,trivial⟩,?_⟩
      refine cy (Tryz.underlying36) Eh Gd (gJ (cu dF) bC) vL (fun _ _=>dW) (mV vL) QU (by omega) (by decide) ?_
      intro fv' R' bI
      obtain ⟨fa',fc',rfl⟩:=il bI
      simp +contextual only [go_sem,sevalprocAttr,dH,ht,jF]
      refine ⟨dX dF ⟨bE.1,bE.2.1,bE.2.2.1,bE.2.2.2.1,trivial⟩ ⟨jF.1,jF.2.1,jF.2.2.1,jF.2.2.2,trivial⟩,?_⟩
      refine aR (ak (az ⟨s.items.length - (i+1),by omega,rfl,i+1,by omega,rfl,?_,?_,M5,R',_,acc++[x],dh.trans dF,bE.1,bE.2.1,bE.2.2.1,bE.2.2.2.1,rfl,?_,bI,ax⟩))
      ·simp only [aG,dH,go_sem,sevalprocAttr]
      ·simp only [go_sem,sevalprocAttr,aB i (by omega)]
      ·rw [List.length_append,iz];rfl
     ·rintro ch M5 dF bE ⟨er,he,rfl⟩
      rw [zi he] at ax
      exact me (PK.trans Vk) (Mt ax.symm)
    ·have:i=s.items.length:=by omega
     subst this
     rw [List.drop_length] at ax
     simp only [List.map_nil,dn,qK,List.append_nil] at ax
     subst QC
     simp +contextual only [go_sem,aE,sevalprocAttr,dH,ht,aN,k14,py,IY]
     refine dU _ _ _ ⟨rfl,?_,fun h=>(by rw [hS] at h;cases h),T14,M4,_,_,.mk 3 0 ei acc [] [p2],rfl,Vk,dh,?_,?_⟩
     ·simp only [aG,dH,go_sem,sevalprocAttr]
     ·rw [hG,if_neg (by decide)];unfold oI;rw [hS,<- ax];rfl
     ·refine ct bC (by omega) (by decide) ⟨k14,kk,k6,k4,trivial⟩ fun M5 dF bE cC=>ak (aT fun he hk bN=>az ⟨_,_,dF.trans he,rfl,bN.1,bN.2.1,?_⟩)
      exact jk (fk _) (aL he (cu (dF.trans he)) cC) bu (ko hk (bY ((dh.trans dF).trans he) _ _ hp))
  | true=>
   have JR:pf s p2 names=match j2 s p2 names with | .error e=> .error e | .ok q=> .ok (if s.distinct=true then jy 11 q else q,if s.star=true then names.map (·.2) else eT 0 s.items):=by unfold pf;rw [hG];rfl
   cases hS:s.star with
   | true=>
    simp +contextual only [go_sem,aE,sevalprocAttr,aI,z,hS]
    exact tN PK (by rw [JR];unfold j2;rw [hS];rfl)
   | false=>
    have hgm:j2 s p2 names=match dn names s.group with
     | .error e=> .error e
     | .ok keys=>match dP names s.group (s.items.map (·.x)) [] with
      | .error e=> .error e
      | .ok it=>match tn names s.group s.hasH s.hv it.2 with
       | .error e=> .error e
       | .ok h=> .ok (.mk 3 0 ei it.1 [] [if s.hasH=true then gz h.1 (.mk 12 0 ei keys h.2 [p2]) else .mk 12 0 ei keys h.2 [p2]]):=by unfold j2;rw [hS];rfl
    have li:∀ {e:Int},j2 s p2 names=.error e ->pf s p2 names=.error e:=fun h=>by rw [JR,h]
    obtain ⟨XW,PL⟩:=cq.its hS
    have Vm:=cq.cnt hS
    simp +contextual only [go_sem,aE,sevalprocAttr,aI,z,hS]
    intro b9 T9 lu eN oY l4
    refine bS (Cl (fun x hx=>exB names _ x (Nat.le_refl _) (cq.grp.2 x hx)) (by have:=cq.grp.1;omega) lZ gF (aL lW (bB lW) vj) T9) ?_ ?_
    rotate_left
    ·rintro ch M4 dh cE ⟨er,he,rfl⟩
     exact me (PK.trans oY) (li (by rw [hgm,he]))
    rintro kv M4 dh cE ⟨keysE,hkE,zm⟩
    simp only [aJ] at cE
    replace z:=IA ((cG.ext lW).ext dh)
    simp +contextual only [go_sem,aE,sevalprocAttr,aI,z]
    intro b85 T85 amG alo YG akZ
    have hT':=(PK.trans oY).trans YG
    have h34:=lW.trans dh
    obtain ⟨hib,_,hig⟩:s.items.length*8<=4398046511104/\s.items.length<=aj/\∀ (i:Nat) (x:It),s.items[i]?=some x ->∃ b o cs,ai=some ⟨b,o,none⟩/\At M3 b (o+i*8) cs/\xh M3 x cs:=by
     obtain ⟨h1,a',c',h2,h3,_,h4⟩:=aF (by decide) (fun _ _=>jE) (Kq bh.rfl')
     injection h2 with h5 h6 h7
     subst h5 h7
     exact ⟨h1,h3,h4⟩
    have Jt:s.group.length<=1048576:=by have:=cq.grp.1;omega
    refine br s.items.length 91 [(1,.pointer (some ⟨b,o,none⟩)),(4,.pointer (some ⟨b4,0,none⟩)),(6,.pointer (some ⟨b6,0,none⟩)),(7,.pointer (some ⟨b85,0,none⟩)),(9,.pointer (some ⟨b9,0,none⟩)),(10,kv),(90,.int .i64 (s.items.length:Int))]
     (fun i e h=>∃ M' L' R0 R' fv acc ags,bh M4 M'/\aJ M' ([(b6,[c0,c1,c2,c3,c4,c5,c6,c7,c8,c9,c10]),(b4,Fu)]++L')/\h=⟨T85,M',[(b6,[c0,c1,c2,c3,c4,c5,c6,c7,c8,c9,c10]),(b4,Fu)]++L',R'⟩/\e 11=fv/\acc.length=i/\WQ M' b9 L' R0 ags/\kV 38 6 (gU M') R0 R' fv acc/\
      Gs M' b85 b9 sc names s.group lvs (.slice ap s.group.length aq) (.slice none 0 0) (.slice none 0 0) (.pointer none)/\ags.length+oR ((s.items.drop i).map (·.x))+hvC s<=1048576/\FA acc (dP names s.group ((s.items.drop i).map (·.x)) ags)=dP names s.group (s.items.map (·.x)) [])
     0 (by omega) (by simp only [aG,aI,go_sem,sevalprocAttr]) (by simp only [go_sem,sevalprocAttr]) ?_ ?_
    ·refine aT fun he h85 bE=>dm (L':=[(b6,[c0,c1,c2,c3,c4,c5,c6,c7,c8,c9,c10]),(b4,Fu),(b9,[.slice none 0 0])]) ?_ (dC (az ⟨_,[(b9,[.slice none 0 0])],[(.slice none 0 0,119,7,[])],_,_,[],[],he,⟨bE.2.1,bE.2.2.1,bE.1,trivial⟩,rfl,(by simp only [go_sem,sevalprocAttr]),rfl,⟨none,0,[],rfl,rfl,rfl⟩,dg,⟨h85,he _ _ (dh _ _ gF),aL (dh.trans he) (fun _ _ h=>h) lZ,aL (h34.trans he) (bB (h34.trans he)) vj⟩,?_,Fa _⟩))
     ·exact (List.perm_append_comm (l₁:=[(b9,_)]) (l₂:=[(b6,_),(b4,_)]))
     ·simp only [List.drop_zero,List.length_nil];omega
    rintro i e h qL dH ht ⟨M5,L5,R0,R5,fv,acc,ags,dF,bE,rfl,e11,iz,hA,bC,hGs,Tx,ax⟩
    simp only [aG] at dH
    obtain ⟨hkA,hrA⟩:=su hA
    by_cases aN:i<s.items.length
    ·obtain ⟨b',o',cs',rfl,Id,fy⟩:=hig i s.items[i] (gq aN)
     obtain ⟨aw',rfl,Kl,qC⟩:=lK fy
     have Zl:=(gb.1 (show At M3 b' (o'+i*8) ([_,_,_,_,_,_,_]++[_]) from Id)).1
     have bA:s.items.drop i=s.items[i]::s.items.drop (i+1):=dq aN
     rw [bA,List.map_cons] at ax Tx
     rw [oR] at Tx
     have z2:=ay dF z.2.2.1
     have h35:=dh.trans dF
     simp +contextual only [go_sem,aE,sevalprocAttr,dH,ht,aN,z2]
     refine tK [(b6,_),(b4,_)] (exG names s.group Jt _ s.items[i].x (Nat.le_refl _) (PL _ (gm aN)) M5 T85 b85 b9 sc lvs _ _ _ _ b' _ _ ags L5 R0 hGs (Zl.ext h35) (bB h35 _ _ Kl) hA (by omega)) bC ?_ ?_
     ·rintro v M6 L6 R6 R7 eg XA hr6 bN ⟨y,ag2,hy,⟨cs,rfl,wN⟩,Oe⟩ lI
      rw [A9 hy,<- Bt] at ax
      have uO:=qh _ _ _ _ hy
      have cO:=dW wN
      simp +contextual only [go_sem,sevalprocAttr,e11,cO]
      intro b16 CP Gt
      refine cy (Tryz.underlying36) Eh Gd (gJ (cu eg) lI) wN (fun _ _=>dW) (mV wN) CP (by omega) (by decide) ?_
      intro fv' R' bI
      simp +contextual only [go_sem,sevalprocAttr,ht]
      refine aR (ak (az ⟨s.items.length - (i+1),by omega,rfl,i+1,by omega,rfl,?_,?_,M6,L6,R6,R',fv',acc++[y],ag2,dF.trans eg,bN,rfl,?_,?_,Oe,bI,hGs.ext eg,by omega,ax⟩))
      ·simp only [aG,dH,go_sem,sevalprocAttr]
      ·simp only [go_sem,sevalprocAttr,aB i (by omega)]
      ·simp only [go_sem,sevalprocAttr]
      ·rw [List.length_append,iz];rfl
     ·rintro ch M6 L6 R6 R7 eg XA hr6 ⟨er,he,rfl⟩
      rw [yZ he] at ax
      exact me hT' (li (by rw [hgm,hkE];simp only;rw [show dP names s.group (s.items.map (·.x)) []=.error er from ax.symm]))
    ·have:i=s.items.length:=by omega
     subst this
     rw [List.drop_length] at ax Tx
     simp only [List.map_nil,dP,FA,List.append_nil] at ax
     simp only [List.map_nil,oR,Nat.add_zero] at Tx
     have h35:=dh.trans dF
     replace z:=IA (((cG.ext lW).ext dh).ext dF)
     have n6:M5 b6=none/\M5 b4=none:=⟨bE.1,bE.2.1⟩
     have n9:M5 b9=none:=by
      obtain ⟨a,c,xs,rfl,rfl,_⟩:=hA
      exact bE.2.2.1
     simp +contextual only [go_sem,sevalprocAttr,dH,ht]
     rw [cd,if_neg (by simp)]
     simp +contextual only [go_sem,sevalprocAttr,dH,aN,z]
     intro b13 T13 VC Ec TM abS
     have H2:=hT'.trans TM
     have ad7:¬ b13=b9/\¬ b9=b13:=by
      obtain ⟨a,c,xs,rfl,rfl,_⟩:=hA
      exact Ec.2.2.1
     refine dQ (fun e ds h=>ds=[]/\aG e [(1,.pointer (some ⟨b,o,none⟩)),(4,.pointer (some ⟨b4,0,none⟩)),(6,.pointer (some ⟨b6,0,none⟩)),(9,.pointer (some ⟨b9,0,none⟩)),(10,kv),(11,fv),(13,.pointer (some ⟨b13,0,none⟩))]/\∃ M' aa an axs R' x x0 x1 x2 x3 x4 x5 ags',bh M5 M'/\(M' b13=none/\M' b6=none/\M' b4=none/\M' b9=none)/\gU M' x [x0,x1,x2,x3,x4,x5]/\(x0.oneCell'=true/\x1.oneCell'=true/\x2.oneCell'=true/\x3.oneCell'=true/\x4.oneCell'=true/\x5.oneCell'=true)/\tn names s.group s.hasH s.hv ags=.ok (x,ags')/\RL (F5 M') ags' axs/\ags'.length<=1048576/\
      kV 38 6 (gU M') [(.slice aa ags'.length an,119,7,axs)] R' fv acc/\
      h=⟨T13,M',[(b13,[x0,x1,x2,x3,x4,x5]),(b6,[c0,c1,c2,c3,c4,c5,c6,c7,c8,c9,c10]),(b4,Fu),(b9,[.slice aa ags'.length an])],R'⟩) (fun S'' adY=> ?_) ?_
     ·cases hH:s.hasH with
      | false=>
       obtain ⟨a,c,xs,rfl,rfl,eJ⟩:=hA
       simp +contextual only [go_sem,aE,sevalprocAttr]
       refine adY _ _ _ ⟨rfl,?_,M5,a,c,xs,R5,ei,_,_,_,_,_,_,ags,bh.rfl',⟨VC,n6.1,n6.2,n9⟩,fk _,⟨rfl,rfl,rfl,rfl,rfl,rfl⟩,by unfold tn;rw [hH];rfl,eJ,by omega,bC,rfl⟩
       simp only [aG,dH,e11,go_sem,sevalprocAttr]
      | true=>
       have hvc:=YI hH
       have ago:At M5 b (o+13) [.int .i64 s.hv.k,.int .i64 s.hv.v.k,.int .i64 s.hv.v.n,st s.hv.v.t,st s.hv.tab,st s.hv.name,ah]:=
        (gb.1 (gb.1 (show At M5 b o ([_,_,_,_,_,_,_,_,_,_,_,_,_]++([_,_,_,_,_,_,_]++[_])) from cG.ext (lW.trans h35))).2).1
       simp +contextual only [go_sem,aE,sevalprocAttr,dH]
       refine tK [(b13,_),(b6,_),(b4,_)] (exG names s.group Jt _ s.hv (Nat.le_refl _) (cq.hv hH) M5 T13 b85 b9 sc lvs _ _ _ _ b (o+13) _ ags L5 R0 hGs ago (bB (lW.trans h35) _ _ hv) hA (by omega)) bC ?_ ?_
       ·rintro v M6 L6 R6 R7 eg XA hr6 bN ⟨y,ag2,hy,⟨cs,rfl,wN⟩,Oe⟩ lI
        have uO:=qh _ _ _ _ hy
        obtain ⟨a,c,xs,rfl,rfl,eJ⟩:=Oe
        obtain ⟨s6,rfl,X4,_⟩:=dt wN
        simp only [nn,aJ] at bN
        simp +contextual only [go_sem,sevalprocAttr,X4]
        refine adY _ _ _ ⟨rfl,?_,M6,a,c,xs,R7,y,_,_,_,_,_,_,ag2,eg,⟨bN.1,bN.2.1,bN.2.2.1,bN.2.2.2.1⟩,wN,⟨rfl,rfl,rfl,rfl,rfl,X4⟩,by unfold tn;rw [hH];exact hy,eJ,by omega,gJ (cu eg) lI,rfl⟩
        simp only [aG,dH,e11,go_sem,sevalprocAttr]
       ·rintro ch M6 L6 R6 R7 eg XA hr6 ⟨er,he,rfl⟩
        exact me H2 (li (by rw [hgm,hkE];simp only;rw [<- ax];simp only;unfold tn;rw [hH];simp only [if_true];rw [he]))
     ·rintro e ds h ⟨rfl,oM,M6,aa,an,axs,R6,x,x0,x1,x2,x3,x4,x5,ags',eg,k6,vL,hxo,ef,eJ,anf,FY,rfl⟩
      simp only [aG] at oM
      have TT:=dF.trans eg
      replace z:=IA ((((cG.ext lW).ext dh).ext dF).ext eg)
      obtain ⟨kv1,kv2⟩:=cR zm
      have kv2m:=kv2
      simp only [Value.cells] at kv2m
      obtain ⟨fa,fc,rfl⟩:=il FY
      have aci:=aL TT (cu TT) zm
      have hp6:=bY (dh.trans TT) _ _ hp
      have aeF:∀ {q:Pl},(if s.hasH=true then gz x (.mk 12 0 ei keysE ags' [p2]) else .mk 12 0 ei keysE ags' [p2])=q ->j2 s p2 names=.ok (.mk 3 0 ei acc [] [q]):=by
       rintro q rfl
       rw [hgm,hkE];simp only;rw [<- ax];simp only;rw [ef]
      have tJ:∀ {M7:aS} {a2:Option Addr} {c2:Nat},bh M6 M7 ->Sl M7 (.slice a2 ags'.length c2) 7 axs ->RS M7 (F5 M7) 7 ags' (.slice a2 ags'.length c2):=fun he gi=>⟨by omega,axs,gi,cH (fun x cs h=>lg he x cs h) eJ⟩
      have hpm:∀ {A B C:Nat×List Value},[A,B,C].Perm [C,A,B]:=fun {A B C}=>List.perm_append_comm (l₁:=[A,B]) (l₂:=[C])
      have GI:acc.length*6<=4398046511104:=by omega
      cases hH:s.hasH with
      | false=>
       simp +contextual only [go_sem,aE,sevalprocAttr,oM,z,hH,k6,ad7,Ec,eN,kv1,kv2m]
       intro bk fS IY bl Ue ae2
       refine dU _ _ _ ⟨rfl,?_,fun h=>(by rw [hS] at h;cases h),T13,M6,_,_,.mk 3 0 ei acc [] [.mk 12 0 ei keysE ags' [p2]],rfl,(oY.trans YG).trans TM,dh.trans TT,?_,?_⟩
       rotate_left
       ·rw [hG,if_pos rfl]
        exact aeF (by rw [hH];rfl)
       ·refine ct FY GI (by decide) ⟨Ue,fS,k6.1,k6.2.1,k6.2.2.1,k6.2.2.2,trivial⟩ fun M7 kT iO cC=>bT fun M8 qm nu gi=>dm (List.Perm.swap _ _ _) (aT fun vP h1 _=>aT fun nF h2 nM=>ak (dm hpm (ak (az ⟨_,_,((kT.trans qm).trans vP).trans nF,rfl,nM.2.1,nM.2.2.1,?_⟩))))
        have Jn:=(((kT.trans qm).trans vP).trans nF)
        refine jk (fk _) (aL ((qm.trans vP).trans nF) (cu Jn) cC) bu (ko h2 ?_)
        refine jk (fk _) (aL Jn (cu Jn) aci) (tJ Jn (gi.ext (vP.trans nF))) (ko (nF _ _ h1) (bY Jn _ _ hp6))
       ·simp only [aG,oM,go_sem,sevalprocAttr]
      | true=>
       simp +contextual only [go_sem,aE,sevalprocAttr,oM,z,hH,k6,ad7,Ec,eN,kv1,kv2m]
       intro bk fS IY
       refine cQ (k:=fun h'=>∃ M7 a2,bh M6 M7/\(M7 b13=none/\M7 b6=none/\M7 b4=none/\M7 b9=none)/\RS M7 (gU M7) 6 acc (.slice fa acc.length fc)/\jV M7 (.mk 12 0 ei keysE ags' [p2]) [.int .i64 12,.int .i64 0,.int .i64 0,.int .i64 0,.int .i64 0,st [],.int .i64 0,.slice none 0 0,kv,.slice aa ags'.length an,.slice (some ⟨bk,0,none⟩) 1 1]/\
        h'=⟨T13,M7,[(b13,[x0,x1,x2,x3,x4,x5]),(b6,[.int .i64 12,.int .i64 0,.int .i64 0,.int .i64 0,.int .i64 0,st [],.int .i64 0,.slice none 0 0,kv,.slice aa ags'.length an,.slice (some ⟨bk,0,none⟩) 1 1]),(b4,Fu),(b9,[a2])],[]⟩)
        (ct FY GI (by decide) ⟨fS,k6.1,k6.2.1,k6.2.2.1,k6.2.2.2,trivial⟩ fun M7 kT iO cC=>bT fun M8 qm nu gi=>aT fun vP h1 nM=>az ⟨_,_,(kT.trans qm).trans vP,⟨nM.1,nM.2.1,nM.2.2.1,nM.2.2.2.1⟩,aL (qm.trans vP) (cu ((kT.trans qm).trans vP)) cC,
         jk (fk _) (aL ((kT.trans qm).trans vP) (cu ((kT.trans qm).trans vP)) aci) (tJ ((kT.trans qm).trans vP) (gi.ext vP)) (ko h1 (bY ((kT.trans qm).trans vP) _ _ hp6)),rfl⟩) ?_ F62.bd
       rintro h' ⟨M7,a2,kT,k7,OS,ahk,rfl⟩
       refine aD (Az (cu kT _ _ vL) ahk T13) ?_
       rintro r M8 qm nu ⟨fs,rfl,hfe⟩
       obtain ⟨f0,f1,f2,f3,f4,f5,f6,f7,f8,f9,f10,rfl,hff⟩:=cU hfe
       simp only [aJ] at nu
       simp +contextual only [go_sem,sevalprocAttr,oM,nu,Ec,hff]
       intro bl Ue ae2
       refine dU _ _ _ ⟨rfl,?_,fun h=>(by rw [hS] at h;cases h),T13,M8,_,_,.mk 3 0 ei acc [] [gz x (.mk 12 0 ei keysE ags' [p2])],rfl,(oY.trans YG).trans TM,((dh.trans TT).trans kT).trans qm,?_,?_⟩
       rotate_left
       ·rw [hG,if_pos rfl]
        exact aeF (by rw [hH];rfl)
       ·refine aT fun nF h2 nM=>ak (dm hpm (ak (az ⟨_,_,nF,rfl,nM.2.1,nM.2.2.1,?_⟩)))
        exact jk (fk _) (aL (qm.trans nF) (cu (qm.trans nF)) OS) bu (ko h2 (bY nF _ _ hfe))
       ·simp only [aG,oM,go_sem,sevalprocAttr]
 ·rintro e ds h ⟨rfl,aI,e7,N4,M4,L4,R4,q,rfl,Di,dh,hq,cO⟩
  simp only [aG] at aI
  replace z:=IA ((cG.ext lW).ext dh)
  have Xx:pf s p2 names=.ok (if s.distinct=true then jy 11 q else q,if s.star=true then names.map (·.2) else eT 0 s.items):=by unfold pf;rw [hq]
  obtain ⟨hnb,la,lc,rfl,_,_,hlg⟩:=aF (by decide) (fun _ _=>qz) (aL dh (fun _ _ h=>h) lZ)
  have agv:=dh _ _ gF
  have hMM:=lW.trans dh
  simp +contextual only [go_sem,sevalprocAttr,aI,z]
  refine dQ (fun e ds h=>ds=[]/\aG e [(1,.pointer (some ⟨b,o,none⟩)),(4,.pointer (some ⟨b4,0,none⟩)),(6,.pointer (some ⟨b6,0,none⟩))]/\∃ N' M' R' nv nm qs,e 16=nv/\aH T6 N'/\bh M4 M'/\kV 9 1 pX [] R' nv nm/\nm=(if s.star=true then names.map (·.2) else eT 0 s.items)/\nm.length*1<=4398046511104/\jV M' q qs/\M' b6=none/\M' b4=none/\h=⟨N',M',[(b6,qs),(b4,Fu)],R'⟩) (fun S' dU=> ?_) ?_
  ·cases hS:s.star with
   | true=>
    have e7:=e7 hS
    simp +contextual only [go_sem,aE,sevalprocAttr,e7,aX agv]
    refine br names.length 173 [(1,.pointer (some ⟨b,o,none⟩)),(4,.pointer (some ⟨b4,0,none⟩)),(6,.pointer (some ⟨b6,0,none⟩)),(171,.slice la names.length lc),(172,.int .i64 (names.length:Int))]
     (fun i e h=>∃ N' M' R' nv nm qs,e 16=nv/\aH T6 N'/\bh M4 M'/\kV 9 1 pX [] R' nv nm/\nm=(names.take i).map (·.2)/\jV M' q qs/\M' b6=none/\M' b4=none/\h=⟨N',M',[(b6,qs),(b4,Fu)],R'⟩)
     0 (by omega) (by simp only [aG,aI,go_sem,sevalprocAttr]) (by simp only [go_sem,sevalprocAttr]) ?_ ?_
    ·refine pk cO ?_
     rintro h' ⟨M5,qs,he,rfl,k6,k4,NE⟩
     exact az ⟨N4,M5,[],_,[],qs,(by simp only [go_sem,sevalprocAttr]),Di,he,dg,rfl,NE,k6,k4,rfl⟩
    rintro i e h qL dH ht ⟨N5,M5,R5,nv,nm,qs,e16,CU,dF,bC,Dq,NE,k6,k4,rfl⟩
    simp only [aG] at dH
    by_cases aN:i<names.length
    ·obtain ⟨b',o',cs',rfl,Id,fy⟩:=hlg i names[i] (gq aN)
     unfold GL at fy;subst fy
     obtain ⟨x0,x1⟩:=Wa (Id.ext dF)
     have GW:nm.length=i:=by rw [Dq];simp;omega
     simp +contextual only [go_sem,aE,sevalprocAttr,dH,ht,aN,x0,x1]
     intro b18 T18 Zm aeO YO acU
     simp +contextual only [go_sem,sevalprocAttr,e16]
     intro b19 VX ON
     refine cy (Tryz.underlying93) J7 JI (x:=names[i].2) bC rfl (fun _ _=>ep) (by intro u hu;simp only [List.mem_singleton] at hu;subst hu;rfl) VX (by omega) (by decide) ?_
     intro fv' R' bI
     simp +contextual only [go_sem,sevalprocAttr,ht]
     refine aR (ak (ak (az ⟨names.length - (i+1),by omega,rfl,i+1,by omega,rfl,?_,?_,T18,M5,R',fv',_,qs,?_,CU.trans YO,dF,bI,?_,NE,k6,k4,rfl⟩)))
     ·simp only [aG,dH,go_sem,sevalprocAttr]
     ·simp only [go_sem,sevalprocAttr,aB i (by omega)]
     ·simp only [go_sem,sevalprocAttr]
     ·rw [Dq,List.take_succ_eq_append_getElem aN,List.map_append];rfl
    ·have:i=names.length:=by omega
     subst this
     simp +contextual only [go_sem,aE,sevalprocAttr,dH,ht,aN]
     refine dU _ _ _ ⟨rfl,?_,N5,M5,R5,nv,nm,qs,?_,CU,dF,bC,?_,?_,NE,k6,k4,rfl⟩
     ·simp only [aG,dH,go_sem,sevalprocAttr]
     ·simp only [e16,go_sem,sevalprocAttr]
     ·rw [hS,if_pos rfl,Dq,List.take_length]
     ·rw [Dq,List.take_length,List.length_map];omega
   | false=>
    obtain ⟨XW,_⟩:=cq.its hS
    obtain ⟨hib,_,hig⟩:s.items.length*8<=4398046511104/\s.items.length<=aj/\∀ (i:Nat) (x:It),s.items[i]?=some x ->∃ b o cs,ai=some ⟨b,o,none⟩/\At M4 b (o+i*8) cs/\xh M4 x cs:=by
     obtain ⟨h1,a',c',h2,h3,_,h4⟩:=aF (by decide) (fun _ _=>jE) (aL hMM (jA hMM) hi)
     injection h2 with h5 h6 h7
     subst h5 h7
     exact ⟨h1,h3,h4⟩
    simp +contextual only [go_sem,aE,sevalprocAttr,aI,z]
    refine br s.items.length 188 [(1,.pointer (some ⟨b,o,none⟩)),(4,.pointer (some ⟨b4,0,none⟩)),(6,.pointer (some ⟨b6,0,none⟩)),(186,.slice ai s.items.length aj),(187,.int .i64 (s.items.length:Int))]
     (fun i e h=>∃ N' M' R' nv nm qs,e 16=nv/\aH T6 N'/\bh M4 M'/\kV 9 1 pX [] R' nv nm/\nm.length=i/\nm++eT i (s.items.drop i)=eT 0 s.items/\jV M' q qs/\M' b6=none/\M' b4=none/\h=⟨N',M',[(b6,qs),(b4,Fu)],R'⟩)
     0 (by omega) (by simp only [aG,aI,go_sem,sevalprocAttr]) (by simp only [go_sem,sevalprocAttr]) ?_ ?_
    ·refine pk cO ?_
     rintro h' ⟨M5,qs,he,rfl,k6,k4,NE⟩
     exact az ⟨N4,M5,[],_,[],qs,(by simp only [go_sem,sevalprocAttr]),Di,he,dg,rfl,rfl,NE,k6,k4,rfl⟩
    rintro i e h qL dH ht ⟨N5,M5,R5,nv,nm,qs,e16,CU,dF,bC,GW,Dq,NE,k6,k4,rfl⟩
    simp only [aG] at dH
    by_cases aN:i<s.items.length
    ·obtain ⟨b',o',cs',rfl,Id,fy⟩:=hig i s.items[i] (gq aN)
     obtain ⟨aw',rfl,Kl,qC⟩:=lK fy
     obtain ⟨x0,x1,x2,x3,x4,x5,x6,x7⟩:=At8 (Id.ext dF)
     have bA:s.items.drop i=s.items[i]::s.items.drop (i+1):=dq aN
     rw [bA,eT] at Dq
     simp +contextual only [go_sem,aE,sevalprocAttr,dH,ht,aN,x0,x1,x2,x3,x4,x5,x6,x7,qC]
     intro b20 T20 QU jF ahQ alc
     refine aD (H6 (jA dF _ _ fy) i (by omega) T20) ?_
     rintro r M6 eg bN rfl
     simp only [aJ] at bN
     simp +contextual only [go_sem,sevalprocAttr,e16]
     intro b19 VX ON
     refine cy (Tryz.underlying93) J7 JI (x:=vW s.items[i] i) bC rfl (fun _ _=>ep) (by intro u hu;simp only [List.mem_singleton] at hu;subst hu;rfl) VX (by omega) (by decide) ?_
     intro fv' R' bI
     simp +contextual only [go_sem,sevalprocAttr,ht]
     refine aR (ak (ak (az ⟨s.items.length - (i+1),by omega,rfl,i+1,by omega,rfl,?_,?_,T20,M6,R',fv',_,qs,?_,CU.trans ahQ,dF.trans eg,bI,?_,?_,bY eg _ _ NE,bN.2.1,bN.2.2.1,rfl⟩)))
     ·simp only [aG,dH,go_sem,sevalprocAttr]
     ·simp only [go_sem,sevalprocAttr,aB i (by omega)]
     ·simp only [go_sem,sevalprocAttr]
     ·rw [List.length_append,GW];rfl
     ·rw [List.append_assoc];exact Dq
    ·have:i=s.items.length:=by omega
     subst this
     rw [List.drop_length] at Dq
     simp only [eT,List.append_nil] at Dq
     simp +contextual only [go_sem,aE,sevalprocAttr,dH,ht,aN]
     refine dU _ _ _ ⟨rfl,?_,N5,M5,R5,nv,nm,qs,?_,CU,dF,bC,?_,by omega,NE,k6,k4,rfl⟩
     ·simp only [aG,dH,go_sem,sevalprocAttr]
     ·simp only [e16,go_sem,sevalprocAttr]
     ·rw [hS,if_neg (by decide),Dq]
  ·rintro e ds h ⟨rfl,oM,N5,M5,R5,nv,nm,qs,e16,CU,dF,bC,Dq,GW,NE,k6,k4,rfl⟩
   simp only [aG] at oM
   have z0:=ay dF z.1
   obtain ⟨d0,d1,d2,d3,d4,d5,d6,d7,d8,d9,d10,rfl,hd⟩:=cU NE
   have hTf:=PK.trans CU
   cases hD:s.distinct with
   | false=>
    simp +contextual only [go_sem,aE,sevalprocAttr,oM,z0,hD,hd,k6,k4,fq,e16]
    refine ct bC GW (by decide) ⟨k6,k4,trivial⟩ fun M6 eg bN cC=>am hTf ⟨_,Xx,_,_,rfl,?_,?_⟩
    ·rw [hD];exact bY eg _ _ NE
    ·simp only;rw [<- Dq];exact cC
   | true=>
    simp +contextual only [go_sem,aE,sevalprocAttr,oM,z0,hD,k6,k4,fq,e16]
    intro bl Ue ae2
    refine ct bC GW (by decide) ⟨Ue,k6,k4,trivial⟩ fun M6 eg bN cC=>aT fun he h1 iO=>am hTf ⟨_,Xx,_,_,rfl,?_,?_⟩
    ·rw [hD];exact jk (fk _) bu bu (ko h1 (bY (eg.trans he) _ _ NE))
    ·simp only;rw [<- Dq];exact aL he (fun _ _ h=>h) cC
def zY (res:Except Int Int)(v:Value):Prop:=match res with
 | .ok t=>v=.tuple ⟨[.int .i64 t,.int .i64 0]⟩
 | .error e=>e≠0/\∃ t,v=.tuple ⟨[.int .i64 t,.int .i64 e]⟩
theorem Rq (k:Int){M:aS}(T:Tm):cw Tryz.prog 226 [.int .i64 k] T M [] [] (fun r _ _ _=>r=.int .i64 (fR k)) aO:=by
 refine aC afY rfl rfl ?_
 intro _ _
 simp +contextual only [go_sem,aE,sevalprocAttr]
 (repeat' split)<;>(refine am aH.rfl' ?_;refine cS ?_;simp only [fR];grind)
theorem wg (a b:Int){M:aS}(T:Tm):cw Tryz.prog 272 [.int .i64 a,.int .i64 b] T M [] [] (fun r _ _ _=>r=.tuple ⟨[.int .i64 ((jS a b).getD 0),.bool (jS a b).isSome]⟩) aO:=by
 refine aC ai5 rfl rfl ?_
 intro _ _
 simp +contextual only [go_sem,aE,sevalprocAttr]
 by_cases h1:a=b
 ·have:jS a b=some a:=by unfold jS;rw [if_pos (.inl h1)]
  rw [this]
  simp +contextual only [go_sem,sevalprocAttr,h1]
  exact am aH.rfl' rfl
 ·by_cases h2:b=1
  ·have:jS a b=some a:=by unfold jS;rw [if_pos (.inr h2)]
   rw [this]
   simp +contextual only [go_sem,sevalprocAttr,h2]
   exact am aH.rfl' rfl
  ·by_cases h3:a=1
   ·have:jS a b=some b:=by unfold jS;rw [if_neg (fun h=>h.elim h1 h2),if_pos h3]
    subst h3
    simp +contextual only [go_sem,sevalprocAttr,h1,h2]
    exact am aH.rfl' (by rw [this];rfl)
   ·have:jS a b=none:=by unfold jS;rw [if_neg (fun h=>h.elim h1 h2),if_neg h3]
    rw [this]
    simp +contextual only [go_sem,sevalprocAttr,h1,h2,h3]
    exact am aH.rfl' rfl
theorem vX {M:aS}{l:List Int}{lv:Value}(want:Int)(hs:RS M RI 1 l lv)(T:Tm):cw Tryz.prog 271 [lv,.int .i64 want] T M [] [] (fun r _ _ _=>r=.bool (l.all (sF · want))) aO:=by
 obtain ⟨fS,a,c,rfl,dJ,_,hg⟩:=aF (by decide) (fun _ _=>bV) hs
 refine aC agJ rfl rfl ?_
 intro bi _
 simp +contextual only [go_sem,aE,sevalprocAttr]
 refine aY l.length 11 [(1,.int .i64 want),(9,.slice a l.length c),(10,.int .i64 (l.length:Int))] (fun i e h=>∃ M',bh M M'/\h=⟨T,M',[],[]⟩/\(l.drop i).all (sF · want)=l.all (sF · want)) 0 (by omega) (by simp only [aG,go_sem,sevalprocAttr]) (by simp only [go_sem,sevalprocAttr]) ⟨M,bh.rfl',rfl,rfl⟩ ?_
 rintro i e h hi aI ht ⟨M1,aV,rfl,ax⟩
 simp only [aG] at aI
 by_cases aN:i<l.length
 ·obtain ⟨b',o',cs',rfl,cG,fy⟩:=hg i l[i] (gq aN)
  unfold RI at fy;subst fy
  have x0:=tV (cG.ext aV)
  rw [Nat.mul_one] at x0
  have bA:l.drop i=l[i]::l.drop (i+1):=dq aN
  rw [bA,List.all_cons] at ax
  simp +contextual only [go_sem,aE,sevalprocAttr,aI,ht,aN,x0]
  refine aD (wg l[i] want T) ?_
  rintro r M2 bg _ rfl
  cases hb:sF l[i] want with
  | true=>
   rw [hb,Bool.true_and] at ax
   have hb':(jS l[i] want).isSome=true:=hb
   simp +contextual only [go_sem,aE,sevalprocAttr,ht,hb']
   refine cI aN ?_ ?_ ⟨M2,aV.trans bg,rfl,ax⟩
   ·simp only [aG,aI,go_sem,sevalprocAttr]
   ·simp only [go_sem,sevalprocAttr,aB i (by omega)]
  | false=>
   rw [hb,Bool.false_and] at ax
   have hb':(jS l[i] want).isSome=false:=hb
   simp +contextual only [go_sem,aE,sevalprocAttr,hb']
   exact am aH.rfl' (by rw [<- ax])
 ·have:i=l.length:=by omega
  subst this
  rw [List.drop_length] at ax
  simp +contextual only [go_sem,aE,sevalprocAttr,aI,ht,aN]
  exact am aH.rfl' (by rw [<- ax];rfl)
set_option maxHeartbeats 1000000 in
theorem RY {M:aS}{k:Int}{l:List Int}{lv:Value}(hs:RS M RI 1 l lv)(hl:(l.length:Int)=fR k)(hk:k≠1/\k≠2/\k≠16)(h0:¬ fR k<0)(T:Tm):cw Tryz.prog 227 [.int .i64 k,lv] T M [] [] (fun r _ _ _=>zY (ud k l) r) aO:=by
 obtain ⟨fS,a,c,rfl,dJ,wr,hg⟩:=aF (by decide) (fun _ _=>bV) hs
 have fU:0<l.length ->∃ b o,a=some ⟨b,o,none⟩/\∀ (i:Nat),i<l.length ->aQ M ⟨b,o+i,none⟩=some (.int .i64 (l.getD i 0)):=by
  intro h0
  obtain ⟨b',o',cs',h1,_⟩:=hg 0 l[0] (gq h0)
  refine ⟨b',o',h1,fun i hi=> ?_⟩
  obtain ⟨b2,o2,cs',h2,cG,fy⟩:=hg i l[i] (gq hi)
  rw [h1] at h2
  simp only [Option.some.injEq,Addr.mk.injEq,and_true] at h2
  obtain ⟨rfl,rfl⟩:=h2
  unfold RI at fy;subst fy
  have x0:=tV cG
  rw [Nat.mul_one] at x0
  rw [x0];simp [List.getD,hi]
 refine aC aeQ rfl rfl ?_
 intro bi _
 have e3:k=3\/(4<=k/\k<=5)\/(6<=k/\k<=11)\/(12<=k/\k<=14)\/k=15\/k=17\/k=18:=by
  unfold fR at h0
  repeat' split at h0
  all_goals omega
 unfold ud
 by_cases h5:k<=5
 ·rw [if_pos h5]
  simp +contextual only [go_sem,aE,sevalprocAttr,h5]
  refine aD (vX 2 hs T) ?_
  rintro r M2 bg _ rfl
  cases hb:l.all (sF · 2) with
  | true=>simp +contextual only [go_sem,aE,sevalprocAttr];exact am aH.rfl' rfl
  | false=>simp +contextual only [go_sem,aE,sevalprocAttr];exact am aH.rfl' ⟨by decide,_,rfl⟩
 rw [if_neg h5]
 by_cases Yn:k<=11
 ·rw [if_pos Yn]
  have iJ:fR k=2:=by unfold fR;rw [if_neg (by omega),if_neg (by omega),if_pos (by omega)]
  obtain ⟨b0,o0,rfl,gg⟩:=fU (by omega)
  have g0:=gg 0 (by omega)
  have g1:=gg 1 (by omega)
  have hlI:(0:Int)<(l.length:Int)/\(1:Int)<(l.length:Int):=⟨by omega,by omega⟩
  rw [Nat.add_zero] at g0
  simp +contextual only [go_sem,aE,sevalprocAttr,h5,Yn]
  refine aU ?_
  simp +contextual only [go_sem,sevalprocAttr,g0,g1,hlI]
  refine aD (wg _ _ T) ?_
  rintro r M2 bg _ rfl
  cases hb:(jS (l.getD 0 0) (l.getD 1 0)).isSome with
  | true=>simp +contextual only [go_sem,aE,sevalprocAttr];exact am aH.rfl' rfl
  | false=>simp +contextual only [go_sem,aE,sevalprocAttr];exact am aH.rfl' ⟨by decide,_,rfl⟩
 rw [if_neg Yn]
 by_cases vv:k<=14
 ·rw [if_pos vv]
  simp +contextual only [go_sem,aE,sevalprocAttr,h5,Yn,vv]
  refine aD (vX 3 hs T) ?_
  rintro r M2 bg _ rfl
  cases hb:l.all (sF · 3) with
  | true=>simp +contextual only [go_sem,aE,sevalprocAttr];exact am aH.rfl' rfl
  | false=>simp +contextual only [go_sem,aE,sevalprocAttr];exact am aH.rfl' ⟨by decide,_,rfl⟩
 rw [if_neg vv]
 by_cases wo:k=15
 ·rw [if_pos wo]
  subst wo
  simp +contextual only [go_sem,aE,sevalprocAttr]
  refine aD (vX 4 hs T) ?_
  rintro r M2 bg _ rfl
  cases hb:l.all (sF · 4) with
  | true=>simp +contextual only [go_sem,aE,sevalprocAttr];exact am aH.rfl' rfl
  | false=>simp +contextual only [go_sem,aE,sevalprocAttr];exact am aH.rfl' ⟨by decide,_,rfl⟩
 rw [if_neg wo]
 by_cases Om:k=17
 ·rw [if_pos Om]
  subst Om
  have iJ:fR 17=3:=by decide
  obtain ⟨b0,o0,rfl,gg⟩:=fU (by omega)
  have g0:=gg 0 (by omega)
  have g1:=gg 1 (by omega)
  have g2:=gg 2 (by omega)
  have hlI:(2:Int)<(l.length:Int)/\(1:Int)<(l.length:Int):=⟨by omega,by omega⟩
  rw [Nat.add_zero] at g0
  have hcI:(1:Int)<=(c:Int):=by omega
  simp +contextual only [go_sem,aE,sevalprocAttr]
  refine aU ?_
  simp +contextual only [go_sem,sevalprocAttr,g1,g2,hlI]
  refine aD (wg _ _ T) ?_
  rintro r M2 bg _ rfl
  cases hb:jS (l.getD 1 0) (l.getD 2 0) with
  | none=>
   simp +contextual only [go_sem,aE,sevalprocAttr,hcI]
   rw [if_neg (by decide)]
   exact am aH.rfl' ⟨by decide,_,rfl⟩
  | some o=>
   simp +contextual only [go_sem,aE,sevalprocAttr,hcI]
   have h1:RS M2 RI 1 [l.getD 0 0] (.slice (kB (some ⟨b0,o0,none⟩) c 0 1) 1 c):=by
    refine ⟨by simp,[.int .i64 (l.getD 0 0)],.inr ⟨b0,o0,1,c,?_,by omega,rfl,?_⟩,cA rfl⟩
    ·have:¬ c=0:=by omega
     simp [kB,this,Addr.add_lit]
    ·exact ⟨by simpa using ay bg g0,trivial⟩
   refine aD (vX 2 h1 T) ?_
   rintro r M3 bM _ rfl
   have h2:[l.getD 0 0].all (sF · 2)=sF (l.getD 0 0) 2:=by simp
   rw [h2]
   cases hf:sF (l.getD 0 0) 2 with
   | true=>simp +contextual only [go_sem,aE,sevalprocAttr];exact am aH.rfl' rfl
   | false=>simp +contextual only [go_sem,aE,sevalprocAttr];exact am aH.rfl' ⟨by decide,_,rfl⟩
 rw [if_neg Om]
 have h18:k=18:=by omega
 subst h18
 have iJ:fR 18=2:=by decide
 obtain ⟨b0,o0,rfl,gg⟩:=fU (by omega)
 have g0:=gg 0 (by omega)
 have g1:=gg 1 (by omega)
 have hlI:(0:Int)<(l.length:Int)/\(1:Int)<(l.length:Int):=⟨by omega,by omega⟩
 rw [Nat.add_zero] at g0
 simp +contextual only [go_sem,aE,sevalprocAttr]
 refine aU ?_
 simp +contextual only [go_sem,sevalprocAttr,g0,g1,hlI]
 refine aD (wg _ _ T) ?_
 rintro r M2 bg _ rfl
 cases hb:jS (l.getD 0 0) (l.getD 1 0) with
 | some o=>simp +contextual only [go_sem,aE,sevalprocAttr];exact am aH.rfl' rfl
 | none=>simp +contextual only [go_sem,aE,sevalprocAttr];exact am aH.rfl' ⟨by decide,_,rfl⟩
mutual
theorem J8 (cols:List Int)(bq n:Nat):∀ x,n<=200 ->(oW cols bq n x).2<=201/\(∀ t,(oW cols bq n x).1=.ok t ->(oW cols bq n x).2<=200)
 | .mk k v c kids,hn=>by
  rw [oW]
  split
  ·exact ⟨by simp only;omega,fun t h=>by simp at h⟩
  ·split
   ·exact ⟨by simp only;omega,fun t h=>by simp at h⟩
   ·split
    ·exact ⟨by simp only;omega,fun t h=>by simp at h⟩
    ·have:=Kp cols (bq+1) (n+1) kids (by omega)
     split
     ·rename_i e m hm
      rw [hm] at this
      exact ⟨this.1,fun t h=>by simp at h⟩
     ·rename_i t m hm
      rw [hm] at this
      exact ⟨this.1,fun _ _=>this.2 t rfl⟩
theorem Kp (cols:List Int)(bq n:Nat):∀ l,n<=200 ->(mE cols bq n l).2<=201/\(∀ t,(mE cols bq n l).1=.ok t ->(mE cols bq n l).2<=200)
 | [],hn=>by rw [mE];exact ⟨by simp only;omega,fun _ _=>hn⟩
 | x::l,hn=>by
  rw [mE]
  have hx:=J8 cols bq n x hn
  split
  ·rename_i e m hm
   rw [hm] at hx
   exact ⟨hx.1,fun t h=>by simp at h⟩
  ·rename_i t m hm
   rw [hm] at hx
   have hl:=Kp cols bq m l (hx.2 t rfl)
   split
   ·rename_i e m' CK
    rw [CK] at hl
    exact ⟨hl.1,fun t h=>by simp at h⟩
   ·rename_i ts m' CK
    rw [CK] at hl
    exact ⟨hl.1,fun _ _=>hl.2 ts rfl⟩
end
theorem Z3 {M:aS}{b o:Nat}{x:Ex}{cs:List Value}(h:gU M x cs)(ha:At M b o cs):∃ a c,RS M (gU M) 6 x.kids (.slice a x.kids.length c)/\aQ M ⟨b,o,none⟩=some (.int .i64 x.k)/\aQ M ⟨b,o+1,none⟩=some (.int .i64 x.v.k)/\aQ M ⟨b,o+2,none⟩=some (.int .i64 x.v.n)/\aQ M ⟨b,o+3,none⟩=some (st x.v.t)/\
 aQ M ⟨b,o+4,none⟩=some (.int .i64 x.c)/\aQ M ⟨b,o+5,none⟩=some (.slice a x.kids.length c):=by
 obtain ⟨s,rfl,_,hs⟩:=dt h
 obtain ⟨_,a,c,rfl,_⟩:=aF (by decide) (fun _ _=>dW) hs
 exact ⟨a,c,hs,ha.1,ha.2.1,ha.2.2.1,ha.2.2.2.1,ha.2.2.2.2.1,ha.2.2.2.2.2.1⟩
def HP (acc:List Int):Except Int (List Int)×Nat ->Except Int (List Int)×Nat
 | (.ok l,m)=>(.ok (acc++l),m)
 | (.error e,m)=>(.error e,m)
theorem Qv (r):HP [] r=r:=by obtain ⟨r,m⟩:=r;cases r<;>rfl
theorem Wj {cols:List Int}{bq n m:Nat}{x:Ex}{l:List Ex}{t:Int}{acc:List Int}(h:oW cols bq n x=(.ok t,m)):HP acc (mE cols bq n (x::l))=HP (acc++[t]) (mE cols bq m l):=by
 rw [mE,h]
 simp only
 rcases hl:mE cols bq m l with ⟨r,m'⟩
 cases r<;>simp [HP]
theorem OH {cols:List Int}{bq n m:Nat}{x:Ex}{l:List Ex}{e:Int}{acc:List Int}(h:oW cols bq n x=(.error e,m)):HP acc (mE cols bq n (x::l))=(.error e,m):=by
 rw [mE,h];rfl
theorem gY {t:Int}{cs}(h:RI t cs):∀ u∈cs,u.oneCell'=true:=by
 rw [h];intro u hu;simp only [List.mem_singleton] at hu;subst hu;rfl
def TyX (x:Ex):Prop:=∀ (M:aS) (T:Tm) (b o hb bq n:Nat) (cs:List Value) (cols:List Int) (cv:Value),At M b o cs ->gU M x cs ->RS M RI 1 cols cv ->n<=200 ->bq<=21 ->
 cw Tryz.prog 174 [.pointer (some ⟨hb,0,none⟩),.pointer (some ⟨b,o,none⟩),.int .i64 (bq:Int)] T M [(hb,[cv,.int .i64 (n:Int)])] [] (fun r M' L' R'=>zY (oW cols bq n x).1 r/\L'=[(hb,[cv,.int .i64 ((oW cols bq n x).2:Int)])]/\R'=[]) aO
theorem tyX:∀ (sz:Nat) (x:Ex),SizeOf.sizeOf x<=sz ->TyX x:=by
 intro sz
 induction sz with
 | zero=>intro x hx;cases x;simp at hx
 | succ sz ih=>
  intro x ej M T b o hb bq n cs cols cv cG hx kM hn Q0
  obtain ⟨a,c,hs,m0,m1,m2,m3,m4,m5⟩:=Z3 hx cG
  obtain ⟨fS,a',c',gi,dJ,wr,hg⟩:=aF (by decide) (fun _ _=>dW) hs
  injection gi with h1 h2 h3
  subst h1 h3
  cases x with | mk k v c0 kids=>
  simp only [Ex.k,Ex.v,Ex.c,Ex.kids] at m0 m1 m2 m3 m4 m5 hs dJ hg fS
  obtain ⟨S,hS⟩:∃ S,S=oW cols bq n (.mk k v c0 kids):=⟨_,rfl⟩
  rw [<- hS]
  rw [oW] at hS
  have ZA:=aB n (by omega)
  have Z1:=aB bq (by omega)
  refine aC ahg rfl rfl ?_
  intro bi _
  simp only [aJ,and_true] at bi
  simp +contextual only [go_sem,aE,sevalprocAttr,bi,ZA,m0]
  by_cases pr:200<n+1\/20<bq
  ·rw [if_pos pr] at hS
   rw [if_pos (by omega)]
   exact aM aH.rfl' rfl rfl ⟨by rw [hS];exact ⟨by decide,_,rfl⟩,by rw [hS],rfl⟩
  rw [if_neg pr] at hS
  rw [if_neg (by omega)]
  refine aD (Rq k T) ?_
  rintro r M1 aV bG rfl
  simp only [aJ,and_true] at bG
  replace m0:=ay aV m0
  replace m1:=ay aV m1
  replace m2:=ay aV m2
  replace m3:=ay aV m3
  replace m4:=ay aV m4
  replace m5:=ay aV m5
  by_cases kd:fR k<0
  ·rw [if_pos kd] at hS
   simp +contextual only [go_sem,aE,sevalprocAttr,kd]
   exact aM aH.rfl' rfl rfl ⟨by rw [hS];exact ⟨by decide,_,rfl⟩,by rw [hS],rfl⟩
  rw [if_neg kd] at hS
  by_cases oJ:(kids.length:Int)=fR k
  ·rw [if_neg (fun h=>h oJ)] at hS
   have Oi:kids.length<=3:=by
    have:fR k<=3:=by unfold fR;repeat' split<;>omega
    omega
   simp +contextual only [go_sem,aE,sevalprocAttr,kd,oJ,m5]
   refine aY kids.length 50 [(0,.pointer (some ⟨hb,0,none⟩)),(1,.pointer (some ⟨b,o,none⟩)),(2,.int .i64 (bq:Int)),(49,.int .i64 (kids.length:Int))]
    (fun i e h=>∃ (M':aS) (n':Nat) (R:RR) (fv:Value) (acc:List Int),bh M1 M'/\M' hb=none/\n'<=200/\h=⟨T,M',[(hb,[cv,.int .i64 (n':Int)])],R⟩/\e 9=fv/\acc.length=i/\kV 3 1 RI [] R fv acc/\HP acc (mE cols (bq+1) n' (kids.drop i))=mE cols (bq+1) (n+1) kids)
    0 (by omega) (by simp only [aG,oJ,go_sem,sevalprocAttr]) (by simp only [go_sem,sevalprocAttr]) ⟨M1,n+1,[],_,[],bh.rfl',bG,by omega,rfl,by simp only [go_sem,sevalprocAttr],rfl,dg,Qv _⟩ ?_
   rintro i e h hi aI ht ⟨M2,n',R2,fv,acc,bg,n2,NJ,rfl,e9,iz,bC,ax⟩
   simp only [aG] at aI
   have x5:=ay bg m5
   by_cases aN:i<kids.length
   ·obtain ⟨b',o',cs',rfl,tY,fy⟩:=hg i kids[i] (gq aN)
    have eh:=aV.trans bg
    have bA:kids.drop i=kids[i]::kids.drop (i+1):=dq aN
    rw [bA] at ax
    have De:SizeOf.sizeOf kids[i]<=sz:=by
     have h1:=List.sizeOf_lt_of_mem (gm aN)
     simp only [Ex.mk.sizeOf_spec] at ej
     omega
    have mz:=J8 cols (bq+1) n' kids[i] NJ
    simp +contextual only [go_sem,aE,sevalprocAttr,aI,ht,aN,x5,Z1]
    refine dz [] (ih kids[i] De M2 T b' _ hb (bq+1) n' cs' cols cv (tY.ext eh) (cu eh _ _ fy) (aL eh (fun _ _ h=>h) kM) NJ (by omega)) ?_ (fun _ _ _ _ _ _ h=>h.elim)
    rintro r M3 L' bM wB bj ⟨hr,rfl, -⟩
    simp only [List.nil_append,aJ,and_true] at bj
    rcases kN:oW cols (bq+1) n' kids[i] with ⟨r1,m⟩
    rw [kN] at hr mz
    cases r1 with
    | error er=>
     obtain ⟨cD,t,rfl⟩:=hr
     rw [OH kN] at ax
     rw [<- ax] at hS
     simp +contextual only [go_sem,aE,sevalprocAttr,cD]
     refine cz (aM aH.rfl' rfl rfl ⟨?_,?_,rfl⟩)
     ·rw [hS];exact ⟨cD,_,rfl⟩
     ·rw [hS]
    | ok t=>
     simp only [zY] at hr
     subst hr
     rw [Wj kN] at ax
     simp +contextual only [go_sem,aE,sevalprocAttr,e9]
     intro b7 iN iV
     refine cy (Tryz.underlying24) jL jD (x:=t) bC rfl (fun _ _=>bV) (gY rfl) iN (by omega) (by decide) ?_
     intro fv' R' bI
     simp +contextual only [go_sem,sevalprocAttr,ht]
     refine aR (ak (az ⟨kids.length - (i+1),by omega,rfl,i+1,by omega,rfl,?_,?_,M3,m,R',fv',acc++[t],bg.trans bM,bj,mz.2 t rfl,rfl,?_,?_,bI,ax⟩))
     ·simp only [aG,aI,go_sem,sevalprocAttr]
     ·simp only [go_sem,sevalprocAttr,aB i (by omega)]
     ·simp only [go_sem,sevalprocAttr]
     ·rw [List.length_append,iz];rfl
   ·have:i=kids.length:=by omega
    subst this
    rw [List.drop_length,mE] at ax
    simp only [HP,List.append_nil] at ax
    rw [<- ax] at hS
    simp only at hS
    have eh:=aV.trans bg
    replace m0:=ay bg m0
    replace m1:=ay bg m1
    replace m2:=ay bg m2
    replace m3:=ay bg m3
    replace m4:=ay bg m4
    by_cases h1:k=1
    ·subst h1
     rw [if_pos rfl] at hS
     simp +contextual only [go_sem,aE,sevalprocAttr,aI,ht,aN,m0]
     refine aU ?_
     simp +contextual only [go_sem,sevalprocAttr,aI,m1,m2,m3]
     refine aD (iU v M2 T) ?_
     rintro r M3 bM bj rfl
     simp +contextual only [go_sem,sevalprocAttr]
     simp only [aJ,and_true] at bj
     refine ⟨em bM ⟨bj,trivial⟩,cz (aM aH.rfl' rfl rfl ⟨?_,by rw [hS],rfl⟩)⟩
     rw [hS]
     by_cases hw:gC v=0
     ·rw [if_pos hw,hw];rfl
     ·rw [if_neg hw];exact ⟨hw,_,rfl⟩
    rw [if_neg h1] at hS
    by_cases h2:k=2
    ·subst h2
     rw [if_pos rfl] at hS
     obtain ⟨_,ca,cc,rfl,_,_,TQ⟩:=aF (by decide) (fun _ _=>bV) (aL eh (fun _ _ h=>h) kM)
     simp +contextual only [go_sem,aE,sevalprocAttr,aI,ht,aN,m0]
     refine aU ?_
     by_cases zw:c0<0
     ·simp +contextual only [go_sem,aE,sevalprocAttr,aI,m4,zw]
      refine cz (aM aH.rfl' rfl rfl ⟨?_,by rw [hS],rfl⟩)
      rw [hS];simp only;rw [if_neg (by omega)];exact ⟨by decide,_,rfl⟩
     ·by_cases EB:(cols.length:Int)<=c0
      ·simp +contextual only [go_sem,aE,sevalprocAttr,aI,m4,n2,zw,EB]
       refine cz (aM aH.rfl' rfl rfl ⟨?_,by rw [hS],rfl⟩)
       rw [hS];simp only;rw [if_neg (by omega)];exact ⟨by decide,_,rfl⟩
      ·obtain ⟨j,hj⟩:∃ j:Nat,c0=(j:Int):=⟨c0.toNat,by omega⟩
       subst hj
       have I5:j<cols.length:=by omega
       obtain ⟨b',o',cs',rfl,tY,fy⟩:=TQ j cols[j] (gq I5)
       unfold RI at fy;subst fy
       have x0:=tV tY
       rw [Nat.mul_one] at x0
       have ahT:¬ ((j:Int)<0):=zw
       simp +contextual only [go_sem,aE,sevalprocAttr,aI,m4,n2,ahT,EB]
       refine aU ?_
       simp +contextual only [go_sem,sevalprocAttr,aI,m4,n2,I5,x0]
       refine cz (aM aH.rfl' rfl rfl ⟨?_,by rw [hS],rfl⟩)
       rw [hS];simp only;rw [if_pos (by omega)]
       have:cols.getD (j:Int).toNat 0=cols[j]:=by simp [List.getD,I5]
       rw [this];rfl
    rw [if_neg h2] at hS
    by_cases zk:k=16
    ·subst zk
     rw [if_pos rfl] at hS
     simp +contextual only [go_sem,aE,sevalprocAttr,aI,ht,aN,m0]
     exact cz (aM aH.rfl' rfl rfl ⟨by rw [hS];rfl,by rw [hS],rfl⟩)
    rw [if_neg zk] at hS
    simp +contextual only [go_sem,aE,sevalprocAttr,aI,ht,aN,m0,h1,h2,zk,e9]
    refine cQ (k:=fun h'=>∃ M3,bh M2 M3/\M3 hb=none/\RS M3 RI 1 acc fv/\h'=⟨T,M3,[(hb,[cv,.int .i64 (n':Int)])],[]⟩) (ct bC (by omega) (by decide) ⟨n2,trivial⟩ fun M3 bM bj cC=>az ⟨M3,bM,bj.1,cC,rfl⟩) ?_ aeQ.bd
    rintro h' ⟨M3,bM,n3,cC,rfl⟩
    refine aD (RY cC (by rw [iz];exact oJ) ⟨h1,h2,zk⟩ kd T) ?_
    rintro r M4 dh cE hr
    have hS1:S.1=ud k acc:=by rw [hS]
    have hS2:S.2=n':=by rw [hS]
    rw [<- hS1] at hr
    cases hk:S.1 with
    | ok t=>
     rw [hk] at hr
     simp only [zY] at hr
     subst hr
     simp +contextual only [go_sem,sevalprocAttr]
     exact aM aH.rfl' rfl rfl ⟨rfl,by rw [hS2],rfl⟩
    | error er=>
     rw [hk] at hr
     obtain ⟨cD,t,rfl⟩:=hr
     simp +contextual only [go_sem,sevalprocAttr]
     exact aM aH.rfl' rfl rfl ⟨⟨cD,_,rfl⟩,by rw [hS2],rfl⟩
  ·rw [if_pos oJ] at hS
   simp +contextual only [go_sem,aE,sevalprocAttr,kd,oJ,m5]
   exact aM aH.rfl' rfl rfl ⟨by rw [hS];exact ⟨by decide,_,rfl⟩,by rw [hS],rfl⟩
theorem wv {M:aS}{cols:List Int}{cv:Value}{x:Ex}{cs:List Value}(kM:RS M RI 1 cols cv)(hx:gU M x cs)(T:Tm):
 cw Tryz.prog 122 [cv,.agg ⟨cs⟩] T M [] [] (fun r _ _ _=>zY (jr cols x) r) aO:=by
 obtain ⟨fS,a,c,rfl,dJ,_,hg⟩:=aF (by decide) (fun _ _=>bV) kM
 obtain ⟨s0,rfl,tF,kd⟩:=dt hx
 unfold jr
 refine aC af9 rfl rfl ?_
 intro bi _
 by_cases zk:16<cols.length
 ·have Jj:(16:Int)<(cols.length:Int):=by omega
  rw [if_pos zk]
  simp +contextual only [go_sem,aE,sevalprocAttr,Jj]
  intro b3 T3 gj fB hZ
  exact am fB ⟨by decide,_,rfl⟩
 have Jj:¬ (16:Int)<(cols.length:Int):=by omega
 rw [if_neg zk]
 simp +contextual only [go_sem,aE,sevalprocAttr,Jj]
 intro b3 T3 gj fB hZ
 refine br cols.length 15 [(0,.slice a cols.length c),(3,.pointer (some ⟨b3,0,none⟩)),(13,.slice a cols.length c),(14,.int .i64 (cols.length:Int))] (fun i e h=>∃ M',bh M M'/\M' b3=some [.int .i64 x.k,.int .i64 x.v.k,.int .i64 x.v.n,st x.v.t,.int .i64 x.c,s0]/\h=⟨T3,M',[],[]⟩/\(cols.drop i).all (fun t=>decide (1<=t/\t<=4))=cols.all (fun t=>decide (1<=t/\t<=4))) 0 (by omega) (by simp only [aG,go_sem,sevalprocAttr]) (by simp only [go_sem,sevalprocAttr]) (aT fun he h3 _=>az ⟨_,he,h3,rfl,rfl⟩) ?_
 rintro i e h hi aI ht ⟨M1,aV,h3,rfl,ax⟩
 simp only [aG] at aI
 by_cases aN:i<cols.length
 ·obtain ⟨b',o',cs',rfl,cG,fy⟩:=hg i cols[i] (gq aN)
  unfold RI at fy;subst fy
  have x0:=tV (cG.ext aV)
  rw [Nat.mul_one] at x0
  have bA:cols.drop i=cols[i]::cols.drop (i+1):=dq aN
  rw [bA,List.all_cons] at ax
  by_cases hb:1<=cols[i]/\cols[i]<=4
  ·rw [decide_eq_true hb,Bool.true_and] at ax
   have fD:¬ cols[i]<1:=by omega
   have ey:¬ 4<cols[i]:=by omega
   simp +contextual only [go_sem,aE,sevalprocAttr,aI,ht,aN,x0,fD,ey]
   refine cI aN ?_ ?_ ⟨M1,aV,h3,rfl,ax⟩
   ·simp only [aG,aI,go_sem,sevalprocAttr]
   ·simp only [go_sem,sevalprocAttr,aB i (by omega)]
  ·rw [decide_eq_false hb,Bool.false_and] at ax
   rw [<- ax,if_neg (by decide)]
   by_cases fD:cols[i]<1
   ·simp +contextual only [go_sem,aE,sevalprocAttr,aI,ht,aN,x0,fD]
    exact am fB ⟨by decide,_,rfl⟩
   ·have ey:4<cols[i]:=by omega
    simp +contextual only [go_sem,aE,sevalprocAttr,aI,ht,aN,x0,fD,ey]
    exact am fB ⟨by decide,_,rfl⟩
 ·have:i=cols.length:=by omega
  subst this
  rw [List.drop_length] at ax
  rw [<- ax,List.all_nil,if_pos rfl]
  simp +contextual only [go_sem,aE,sevalprocAttr,aI,ht,aN]
  intro b9 T9 lu oY l4
  refine dz [] (tyX _ x (Nat.le_refl _) M1 T9 b3 0 b9 1 0 _ cols _ (sY h3) (cu aV _ _ hx) (aL aV (fun _ _ h=>h) kM) (by omega) (by omega)) ?_ (fun _ _ _ _ _ _ h=>h.elim)
  rintro r M3 L' bM wB bj ⟨hr,rfl, -⟩
  have H2:=fB.trans oY
  cases kN:(oW cols 1 0 x).1 with
  | ok t=>
   rw [kN] at hr
   simp only [zY] at hr
   subst hr
   simp +contextual only [go_sem,aE,sevalprocAttr]
   exact am H2 rfl
  | error er=>
   rw [kN] at hr
   obtain ⟨cD,t,rfl⟩:=hr
   simp +contextual only [go_sem,aE,sevalprocAttr,cD]
   exact am H2 ⟨cD,_,rfl⟩
def nE (cols:List Int)(x:Ex):Int:=match oG cols x with | .ok _=>0 | .error e=>e
theorem wd {M:aS}{cols:List Int}{cv:Value}{x:Ex}{cs:List Value}(kM:RS M RI 1 cols cv)(hx:gU M x cs)(T:Tm):
 cw Tryz.prog 82 [cv,.agg ⟨cs⟩] T M [] [] (fun r _ _ _=>r=.int .i64 (nE cols x)/\∀ e,oG cols x=.error e ->e≠0) aO:=by
 obtain ⟨s0,Av,tF,kd⟩:=dt hx
 refine aC F82 rfl rfl ?_
 intro bi _
 have hl:=dW hx
 subst Av
 simp +contextual only [go_sem,sevalprocAttr]
 intro b3 T3 gj fB hZ
 refine aD (wv kM hx T3) ?_
 rintro r M1 aV bG hr
 unfold nE oG
 cases kN:jr cols x with
 | error er=>
  rw [kN] at hr
  obtain ⟨cD,t,rfl⟩:=hr
  simp +contextual only [go_sem,aE,sevalprocAttr,cD]
  exact am fB ⟨rfl,fun e h=>by injection h with h;rw [<- h];exact cD⟩
 | ok t=>
  rw [kN] at hr
  simp only [zY] at hr
  subst hr
  by_cases h2:t=2
  ·subst h2
   simp +contextual only [go_sem,aE,sevalprocAttr]
   exact am fB ⟨rfl,fun e h=>by cases h⟩
  ·by_cases h1:t=1
   ·subst h1
    simp +contextual only [go_sem,aE,sevalprocAttr]
    exact am fB ⟨rfl,fun e h=>by cases h⟩
   ·simp +contextual only [go_sem,aE,sevalprocAttr,h1,h2]
    exact am fB ⟨rfl,fun e h=>by injection h with h;rw [<- h];decide⟩
def E8 (res:Except Int (List Int))(v:Value)(M:aS):Prop:=match res with
 | .ok l=>∃ sv,v=.tuple ⟨[sv,.int .i64 0]⟩/\RS M RI 1 l sv
 | .error e=>e≠0/\∃ sv,v=.tuple ⟨[sv,.int .i64 e]⟩
def Sf (res:Except Int (List Int))(v:Value)(M:aS):Prop:=match res with
 | .ok l=>∃ sv,v=.tuple ⟨[sv,.int .i64 0]⟩/\RS M RI 1 l sv
 | .error e=>e≠0/\v=.tuple ⟨[.slice none 0 0,.int .i64 e]⟩
theorem IT {res:Except Int (List Int)}{v:Value}{M:aS}(h:Sf res v M):E8 res v M:=by
 cases res with
 | ok l=>exact h
 | error e=>exact ⟨h.1,_,h.2⟩
theorem uw {cols:List Int}{x:Ex}{l:List Ex}{t:Int}(h:jr cols x=.ok t):ge cols (x::l)=BL t (ge cols l):=by
 rw [ge,h];cases ge cols l<;>rfl
theorem rK {cols:List Int}{x:Ex}{l:List Ex}{e:Int}(h:jr cols x=.error e):ge cols (x::l)=.error e:=by rw [ge,h]
theorem yy {cols:List Int}{x:Ag}{l:List Ag}{t:Int}(h:oK cols x=.ok t):fx cols (x::l)=BL t (fx cols l):=by
 rw [fx,h];cases fx cols l<;>rfl
theorem uk {cols:List Int}{x:Ag}{l:List Ag}{e:Int}(h:oK cols x=.error e):fx cols (x::l)=.error e:=by rw [fx,h]
theorem At6 {M:aS}{b o:Nat}{v0 v1 v2 v3 v4 v5:Value}(h:At M b o [v0,v1,v2,v3,v4,v5]):aQ M ⟨b,o,none⟩=some v0/\aQ M ⟨b,o+1,none⟩=some v1/\aQ M ⟨b,o+2,none⟩=some v2/\aQ M ⟨b,o+3,none⟩=some v3/\aQ M ⟨b,o+4,none⟩=some v4/\aQ M ⟨b,o+5,none⟩=some v5:=
 ⟨h.1,h.2.1,h.2.2.1,h.2.2.2.1,h.2.2.2.2.1,h.2.2.2.2.2.1⟩
theorem nl {M:aS}{cols:List Int}{cv sv:Value}{xs:List Ex}(kM:RS M RI 1 cols cv)(hs:RS M (gU M) 6 xs sv)(T:Tm):
 cw Tryz.prog 83 [cv,sv] T M [] [] (fun r M' _ _=>Sf (dZ cols xs) r M') aO:=by
 obtain ⟨fS,a,c,rfl,dJ,_,hg⟩:=aF (by decide) (fun _ _=>dW) hs
 unfold dZ
 refine aC F83 rfl rfl ?_
 intro bi _
 by_cases h8:8<xs.length
 ·have oV:(8:Int)<(xs.length:Int):=by omega
  rw [if_pos h8]
  simp +contextual only [go_sem,aE,sevalprocAttr,oV]
  exact am aH.rfl' ⟨by decide,rfl⟩
 have oV:¬ (8:Int)<(xs.length:Int):=by omega
 rw [if_neg h8]
 simp +contextual only [go_sem,aE,sevalprocAttr,oV]
 refine aY xs.length 16 [(0,cv),(14,.slice a xs.length c),(15,.int .i64 (xs.length:Int))] (fun i e h=>∃ N' M' R fv acc,aH T N'/\bh M M'/\h=⟨N',M',[],R⟩/\e 6=fv/\acc.length=i/\kV 3 1 RI [] R fv acc/\qK acc (ge cols (xs.drop i))=ge cols xs) 0 (by omega) (by simp only [aG,go_sem,sevalprocAttr]) (by simp only [go_sem,sevalprocAttr]) ⟨T,M,[],_,[],aH.rfl',bh.rfl',rfl,by simp only [go_sem,sevalprocAttr],rfl,dg,pI _⟩ ?_
 rintro i e h hi aI ht ⟨N1,M1,R1,fv,acc,tH,aV,rfl,e6,iz,bC,ax⟩
 simp only [aG] at aI
 by_cases aN:i<xs.length
 ·obtain ⟨b',o',cs',rfl,cG,fy⟩:=hg i xs[i] (gq aN)
  have Vb:=cu aV _ _ fy
  obtain ⟨s0,rfl,tF,kd⟩:=dt Vb
  obtain ⟨x0,x1,x2,x3,x4,x5⟩:=At6 (cG.ext aV)
  have bA:xs.drop i=xs[i]::xs.drop (i+1):=dq aN
  rw [bA] at ax
  simp +contextual only [go_sem,aE,sevalprocAttr,aI,ht,aN,x0,x1,x2,x3,x4,x5,tF]
  intro b8 T8 mG qI vH
  refine aD (wv (aL aV (fun _ _ h=>h) kM) Vb T8) ?_
  rintro r M2 bg aZ hr
  have hT:=tH.trans qI
  cases kN:jr cols xs[i] with
  | error er=>
   rw [kN] at hr
   obtain ⟨cD,t,rfl⟩:=hr
   rw [rK kN] at ax
   rw [<- ax]
   simp +contextual only [go_sem,aE,sevalprocAttr,cD]
   exact am hT ⟨cD,rfl⟩
  | ok t=>
   rw [kN] at hr
   simp only [zY] at hr
   subst hr
   rw [uw kN,<- ni] at ax
   simp +contextual only [go_sem,aE,sevalprocAttr,e6]
   intro b7 iN iV
   refine cy (Tryz.underlying24) jL jD (x:=t) bC rfl (fun _ _=>bV) (gY rfl) iN (by omega) (by decide) ?_
   intro fv' R' bI
   simp +contextual only [go_sem,sevalprocAttr,ht]
   refine aR (ak (ak (az ⟨xs.length - (i+1),by omega,rfl,i+1,by omega,rfl,?_,?_,T8,M2,R',fv',acc++[t],hT,aV.trans bg,rfl,?_,?_,bI,ax⟩)))
   ·simp only [aG,aI,go_sem,sevalprocAttr]
   ·simp only [go_sem,sevalprocAttr,aB i (by omega)]
   ·simp only [go_sem,sevalprocAttr]
   ·rw [List.length_append,iz];rfl
 ·have:i=xs.length:=by omega
  subst this
  rw [List.drop_length] at ax
  simp only [ge,qK,List.append_nil] at ax
  rw [<- ax]
  simp +contextual only [go_sem,aE,sevalprocAttr,aI,ht,aN,e6]
  exact ct bC (by omega) (by decide) bi fun M2 bg aZ cC=>am tH ⟨_,rfl,cC⟩
theorem RJ {M:aS}{a:Ag}{cs:List Value}(h:F5 M a cs):∃ s,cs=[.int .i64 a.k,.int .i64 a.x.k,.int .i64 a.x.v.k,.int .i64 a.x.v.n,st a.x.v.t,.int .i64 a.x.c,s]/\s.oneCell'=true/\gU M a.x [.int .i64 a.x.k,.int .i64 a.x.v.k,.int .i64 a.x.v.n,st a.x.v.t,.int .i64 a.x.c,s]:=by
 obtain ⟨c,h1,rfl⟩:=h
 obtain ⟨s,rfl,h2,_⟩:=dt h1
 exact ⟨s,rfl,h2,h1⟩
theorem vm {M:aS}{cols:List Int}{cv sv:Value}{l:List Ag}(kM:RS M RI 1 cols cv)(hs:RS M (F5 M) 7 l sv)(bw:l.length<=1048576)(T:Tm):
 cw Tryz.prog 123 [cv,sv] T M [] [] (fun r M' _ _=>Sf (fx cols l) r M') aO:=by
 obtain ⟨fS,a,c,rfl,dJ,_,hg⟩:=aF (by decide) (fun _ _=>oB) hs
 refine aC ajs rfl rfl ?_
 intro bi _
 simp +contextual only [go_sem,aE,sevalprocAttr]
 refine aY l.length 14 [(0,cv),(12,.slice a l.length c),(13,.int .i64 (l.length:Int))] (fun i e h=>∃ N' M' R fv acc,aH T N'/\bh M M'/\h=⟨N',M',[],R⟩/\e 6=fv/\acc.length=i/\kV 3 1 RI [] R fv acc/\qK acc (fx cols (l.drop i))=fx cols l) 0 (by omega) (by simp only [aG,go_sem,sevalprocAttr]) (by simp only [go_sem,sevalprocAttr]) ⟨T,M,[],_,[],aH.rfl',bh.rfl',rfl,by simp only [go_sem,sevalprocAttr],rfl,dg,pI _⟩ ?_
 rintro i e h hi aI ht ⟨N1,M1,R1,fv,acc,tH,aV,rfl,e6,iz,bC,ax⟩
 simp only [aG] at aI
 by_cases aN:i<l.length
 ·obtain ⟨b',o',cs',rfl,cG,fy⟩:=hg i l[i] (gq aN)
  obtain ⟨s0,rfl,tF,vL⟩:=RJ (lg aV _ _ fy)
  obtain ⟨x0,x1,x2,x3,x4,x5,x6⟩:=At7 (cG.ext aV)
  have bA:l.drop i=l[i]::l.drop (i+1):=dq aN
  rw [bA] at ax
  have DI:∀ (t:Int),oK cols l[i]=.ok t ->qK (acc++[t]) (fx cols (l.drop (i+1)))=fx cols l:=fun t h=>by rw [yy h,<- ni] at ax;exact ax
  have Pi:∀ (er:Int),oK cols l[i]=.error er ->fx cols l=.error er:=fun er h=>by rw [uk h] at ax;exact ax.symm
  simp +contextual only [go_sem,aE,sevalprocAttr,aI,ht,aN,e6,x0,x1,x2,x3,x4,x5,x6,tF]
  intro b8 T8 mG qI vH
  have hT:=tH.trans qI
  by_cases hk:l[i].k<1\/5<l[i].k
  ·rw [if_pos hk]
   have:=Pi 1 (by unfold oK;rw [if_pos hk])
   rw [this]
   exact am hT ⟨by decide,rfl⟩
  rw [if_neg hk]
  by_cases kY:l[i].k=1
  ·rw [if_pos kY]
   have kE:=DI 3 (by unfold oK;rw [if_neg hk,if_pos kY])
   intro b7 iN iV
   refine cy (Tryz.underlying24) jL jD (x:=(3:Int)) (cs:=[.int .i64 3]) bC rfl (fun _ _=>bV) (gY rfl) iN (by omega) (by decide) ?_
   intro fv' R' bI
   simp +contextual only [go_sem,sevalprocAttr,ht]
   refine aR (ak (ak (az ⟨l.length - (i+1),by omega,rfl,i+1,by omega,rfl,?_,?_,T8,M1,R',fv',acc++[3],hT,aV,rfl,?_,?_,bI,kE⟩)))
   ·simp only [aG,aI,go_sem,sevalprocAttr]
   ·simp only [go_sem,sevalprocAttr,aB i (by omega)]
   ·simp only [go_sem,sevalprocAttr]
   ·rw [List.length_append,iz];rfl
  rw [if_neg kY]
  have Vb:gU M1 l[i].x [.int .i64 l[i].x.k,.int .i64 l[i].x.v.k,.int .i64 l[i].x.v.n,st l[i].x.v.t,.int .i64 l[i].x.c,s0]:=vL
  refine aD (wv (aL aV (fun _ _ h=>h) kM) Vb T8) ?_
  rintro r M2 bg aZ hr
  cases kN:jr cols l[i].x with
  | error er=>
   rw [kN] at hr
   obtain ⟨cD,t,rfl⟩:=hr
   rw [Pi er (by unfold oK;rw [if_neg hk,if_neg kY,kN])]
   simp +contextual only [go_sem,aE,sevalprocAttr,cD]
   exact am hT ⟨cD,rfl⟩
  | ok t=>
   rw [kN] at hr
   simp only [zY] at hr
   subst hr
   simp only [aJ] at aZ
   have hm0:aQ M2 ⟨b8,0,none⟩=none:=by first | exact aZ | simp [aQ,aZ]
   by_cases g1:l[i].k=3
   ·by_cases g2:t=3
    ·have kE:=DI 3 (by unfold oK;rw [if_neg hk,if_neg kY,kN];simp [g1,g2])
     simp +contextual only [go_sem,aE,sevalprocAttr,e6,hm0,g1,g2]
     intro b7 iN iV
     refine cy (Tryz.underlying24) jL jD (x:=(3:Int)) (cs:=[.int .i64 3]) bC rfl (fun _ _=>bV) (gY rfl) iN (by omega) (by decide) ?_
     intro fv' R' bI
     simp +contextual only [go_sem,sevalprocAttr,ht]
     refine aR (ak (ak (az ⟨l.length - (i+1),by omega,rfl,i+1,by omega,rfl,?_,?_,T8,M2,R',fv',acc++[3],hT,aV.trans bg,rfl,?_,?_,bI,kE⟩)))
     ·simp only [aG,aI,go_sem,sevalprocAttr]
     ·simp only [go_sem,sevalprocAttr,aB i (by omega)]
     ·simp only [go_sem,sevalprocAttr]
     ·rw [List.length_append,iz];rfl
    ·by_cases g3:t=1
     ·have kE:=DI 3 (by unfold oK;rw [if_neg hk,if_neg kY,kN];simp [g1,g3])
      simp +contextual only [go_sem,aE,sevalprocAttr,e6,hm0,g1,g3]
      intro b7 iN iV
      refine cy (Tryz.underlying24) jL jD (x:=(3:Int)) (cs:=[.int .i64 3]) bC rfl (fun _ _=>bV) (gY rfl) iN (by omega) (by decide) ?_
      intro fv' R' bI
      simp +contextual only [go_sem,sevalprocAttr,ht]
      refine aR (ak (ak (az ⟨l.length - (i+1),by omega,rfl,i+1,by omega,rfl,?_,?_,T8,M2,R',fv',acc++[3],hT,aV.trans bg,rfl,?_,?_,bI,kE⟩)))
      ·simp only [aG,aI,go_sem,sevalprocAttr]
      ·simp only [go_sem,sevalprocAttr,aB i (by omega)]
      ·simp only [go_sem,sevalprocAttr]
      ·rw [List.length_append,iz];rfl
     ·rw [Pi 9 (by unfold oK;rw [if_neg hk,if_neg kY,kN];simp [g1,g2,g3])]
      simp +contextual only [go_sem,aE,sevalprocAttr,hm0,g1,g2,g3]
      exact am hT ⟨by decide,rfl⟩
   ·by_cases g4:4<=l[i].k
    ·have kE:=DI t (by unfold oK;rw [if_neg hk,if_neg kY,kN];simp [g1,g4])
     simp +contextual only [go_sem,aE,sevalprocAttr,e6,hm0,g1,g4]
     intro b7 iN iV
     refine cy (Tryz.underlying24) jL jD (x:=(t:Int)) (cs:=[.int .i64 t]) bC rfl (fun _ _=>bV) (gY rfl) iN (by omega) (by decide) ?_
     intro fv' R' bI
     simp +contextual only [go_sem,sevalprocAttr,ht]
     refine aR (ak (ak (az ⟨l.length - (i+1),by omega,rfl,i+1,by omega,rfl,?_,?_,T8,M2,R',fv',acc++[t],hT,aV.trans bg,rfl,?_,?_,bI,kE⟩)))
     ·simp only [aG,aI,go_sem,sevalprocAttr]
     ·simp only [go_sem,sevalprocAttr,aB i (by omega)]
     ·simp only [go_sem,sevalprocAttr]
     ·rw [List.length_append,iz];rfl
    ·have kE:=DI 3 (by unfold oK;rw [if_neg hk,if_neg kY,kN];simp [g1,g4])
     simp +contextual only [go_sem,aE,sevalprocAttr,e6,hm0,g1,g4]
     intro b7 iN iV
     refine cy (Tryz.underlying24) jL jD (x:=(3:Int)) (cs:=[.int .i64 3]) bC rfl (fun _ _=>bV) (gY rfl) iN (by omega) (by decide) ?_
     intro fv' R' bI
     simp +contextual only [go_sem,sevalprocAttr,ht]
     refine aR (ak (ak (az ⟨l.length - (i+1),by omega,rfl,i+1,by omega,rfl,?_,?_,T8,M2,R',fv',acc++[3],hT,aV.trans bg,rfl,?_,?_,bI,kE⟩)))
     ·simp only [aG,aI,go_sem,sevalprocAttr]
     ·simp only [go_sem,sevalprocAttr,aB i (by omega)]
     ·simp only [go_sem,sevalprocAttr]
     ·rw [List.length_append,iz];rfl
 ·have:i=l.length:=by omega
  subst this
  rw [List.drop_length] at ax
  simp only [fx,qK,List.append_nil] at ax
  rw [<- ax]
  simp +contextual only [go_sem,aE,sevalprocAttr,aI,ht,aN,e6]
  exact ct bC (by omega) (by decide) bi fun M2 bg aZ cC=>am tH ⟨_,rfl,cC⟩
theorem Rv (k:Int){M:aS}(T:Tm):cw Tryz.prog 81 [.int .i64 k] T M [] [] (fun r _ _ _=>r=.int .i64 (gd k)) aO:=by
 refine aC F81 rfl rfl ?_
 intro _ _
 simp +contextual only [go_sem,aE,sevalprocAttr]
 (repeat' split)<;>(refine am aH.rfl' ?_;refine cS ?_;simp only [gd];grind)
theorem V2 {M:aS}{l:List Int}{a:Option Addr}{c:Nat}(hs:RS M RI 1 l (.slice a l.length c)):0<l.length ->∃ b o,a=some ⟨b,o,none⟩/\∀ (i:Nat),i<l.length ->aQ M ⟨b,o+i,none⟩=some (.int .i64 (l.getD i 0)):=by
 obtain ⟨_,a',c',h',_,_,hg⟩:=aF (by decide) (fun _ _=>bV) hs
 cases h'
 intro h0
 obtain ⟨b,o,cs,rfl,_⟩:=hg 0 l[0] (gq h0)
 refine ⟨b,o,rfl,fun i hi=> ?_⟩
 obtain ⟨b2,o2,cs2,h2,cG,hr⟩:=hg i l[i] (gq hi)
 cases h2
 unfold RI at hr;subst hr
 have:=tV cG
 rw [Nat.mul_one] at this
 rw [this,List.getD_eq_getElem?_getD,gq hi];rfl
theorem G3 {a b:List Int}{i:Nat}(hi:i<a.length)(hj:i<b.length):j1 (a.drop i) (b.drop i)=match jS a[i] b[i] with
 | none=> .error 9
 | some o=>BL o (j1 (a.drop (i+1)) (b.drop (i+1))):=by
 rw [dq hi,dq hj,j1]
 cases jS a[i] b[i] with
 | none=>rfl
 | some o=>simp only;cases j1 (a.drop (i+1)) (b.drop (i+1))<;>rfl
theorem uU {M:aS}{l m:List Int}{lv mv:Value}(hl:RS M RI 1 l lv)(hm:RS M RI 1 m mv)(bw:l.length<=1048576)(T:Tm):cw Tryz.prog 84 [lv,mv] T M [] [] (fun r M' _ _=>Sf (lz l m) r M') aO:=by
 obtain ⟨fS,a,c,rfl,dJ,_,hg⟩:=aF (by decide) (fun _ _=>bV) hl
 obtain ⟨_,a2,c2,rfl,mz,_,tg⟩:=aF (by decide) (fun _ _=>bV) hm
 have fU:=V2 hm
 refine aC F84 rfl rfl ?_
 intro bi _
 unfold lz
 by_cases cD:l.length≠m.length
 ·rw [if_pos cD]
  have jR:¬ (l.length:Int)=(m.length:Int):=by omega
  simp +contextual only [go_sem,aE,sevalprocAttr,jR]
  exact am aH.rfl' ⟨by decide,rfl⟩
 rw [if_neg cD]
 have hlm:l.length=m.length:=by omega
 simp +contextual only [go_sem,aE,sevalprocAttr,hlm]
 refine aY l.length 16 [(1,.slice a2 m.length c2),(14,.slice a l.length c),(15,.int .i64 (l.length:Int))] (fun i e h=>∃ R fv acc,h=⟨T,M,[],R⟩/\e 6=fv/\acc.length=i/\kV 3 1 RI [] R fv acc/\qK acc (j1 (l.drop i) (m.drop i))=j1 l m) 0 (by omega) (by simp only [aG,go_sem,sevalprocAttr,hlm]) (by simp only [go_sem,sevalprocAttr]) ⟨[],_,[],rfl,by simp only [go_sem,sevalprocAttr],rfl,dg,pI _⟩ ?_
 rintro i e h hi aI ht ⟨R1,fv,acc,rfl,e6,iz,bC,ax⟩
 simp only [aG] at aI
 by_cases aN:i<l.length
 ·obtain ⟨b',o',cs',rfl,cG,fy⟩:=hg i l[i] (gq aN)
  unfold RI at fy;subst fy
  have x0:=tV cG
  rw [Nat.mul_one] at x0
  have Jl:i<m.length:=by omega
  obtain ⟨b2,o2,rfl,YQ⟩:=fU (by omega)
  have y0:=YQ i Jl
  rw [List.getD_eq_getElem?_getD,gq Jl,Option.getD_some] at y0
  rw [G3 aN Jl] at ax
  have tJ:∀ (o:Int),jS l[i] m[i]=some o ->qK (acc++[o]) (j1 (l.drop (i+1)) (m.drop (i+1)))=j1 l m:=fun o h=>by rw [h] at ax;rw [ni];exact ax
  by_cases h1:l[i]=m[i]
  ·have kE:=tJ m[i] (by unfold jS;rw [if_pos (.inl h1),h1])
   simp +contextual only [go_sem,aE,sevalprocAttr,aI,ht,aN,Jl,e6,x0,y0,h1]
   intro b7 iN
   refine cy (Tryz.underlying24) jL jD (x:=m[i]) (cs:=[.int .i64 m[i]]) bC rfl (fun _ _=>bV) (gY rfl) iN (by omega) (by decide) ?_
   intro fv' R' bI
   simp +contextual only [go_sem,sevalprocAttr,ht]
   refine aR (ak (az ⟨l.length - (i+1),by omega,rfl,i+1,by omega,rfl,?_,?_,R',fv',acc++[m[i]],rfl,?_,?_,bI,kE⟩))
   ·simp only [aG,aI,go_sem,sevalprocAttr]
   ·simp only [go_sem,sevalprocAttr,aB i (by omega)]
   ·simp only [go_sem,sevalprocAttr]
   ·rw [List.length_append,iz];rfl
  ·by_cases h2:m[i]=1
   ·have kE:=tJ l[i] (by unfold jS;rw [if_pos (.inr h2)])
    simp +contextual only [go_sem,aE,sevalprocAttr,aI,ht,aN,Jl,e6,x0,y0,h2]
    intro b7 iN
    refine cy (Tryz.underlying24) jL jD (x:=l[i]) (cs:=[.int .i64 l[i]]) bC rfl (fun _ _=>bV) (gY rfl) iN (by omega) (by decide) ?_
    intro fv' R' bI
    simp +contextual only [go_sem,sevalprocAttr,ht]
    refine aR (ak (az ⟨l.length - (i+1),by omega,rfl,i+1,by omega,rfl,?_,?_,R',fv',acc++[l[i]],rfl,?_,?_,bI,kE⟩))
    ·simp only [aG,aI,go_sem,sevalprocAttr]
    ·simp only [go_sem,sevalprocAttr,aB i (by omega)]
    ·simp only [go_sem,sevalprocAttr]
    ·rw [List.length_append,iz];rfl
   ·by_cases h3:l[i]=1
    ·have kE:=tJ m[i] (by unfold jS;rw [if_neg (fun h=>h.elim h1 h2),if_pos h3])
     have h4:¬ 1=m[i]:=fun h=>h2 h.symm
     simp +contextual only [go_sem,aE,sevalprocAttr,aI,ht,aN,Jl,e6,x0,y0,h2,h3,h4]
     intro b7 iN
     refine cy (Tryz.underlying24) jL jD (x:=m[i]) (cs:=[.int .i64 m[i]]) bC rfl (fun _ _=>bV) (gY rfl) iN (by omega) (by decide) ?_
     intro fv' R' bI
     simp +contextual only [go_sem,sevalprocAttr,ht]
     refine aR (ak (az ⟨l.length - (i+1),by omega,rfl,i+1,by omega,rfl,?_,?_,R',fv',acc++[m[i]],rfl,?_,?_,bI,kE⟩))
     ·simp only [aG,aI,go_sem,sevalprocAttr]
     ·simp only [go_sem,sevalprocAttr,aB i (by omega)]
     ·simp only [go_sem,sevalprocAttr]
     ·rw [List.length_append,iz];rfl
    ·have:jS l[i] m[i]=none:=by unfold jS;rw [if_neg (fun h=>h.elim h1 h2),if_neg h3]
     rw [this] at ax
     rw [<- ax]
     simp +contextual only [go_sem,aE,sevalprocAttr,aI,ht,aN,Jl,x0,y0,h1,h2,h3]
     exact am aH.rfl' ⟨by decide,rfl⟩
 ·have:i=l.length:=by omega
  subst this
  have tf:j1 ([]:List Int) []=.ok []:=by simp [j1]
  rw [List.drop_length,List.drop_eq_nil_of_le (by omega),tf] at ax
  simp only [qK,List.append_nil] at ax
  rw [<- ax]
  simp +contextual only [go_sem,aE,sevalprocAttr,aI,ht,aN,e6]
  exact ct bC (by omega) (by decide) bi fun M2 bg aZ cC=>am aH.rfl' ⟨_,rfl,cC⟩
def xC (M:aS)(t:List Int)(cs:List Value):Prop:=∃ v,cs=[v]/\RS M RI 1 t v
theorem fI {M:aS}{t:List Int}{cs}(h:xC M t cs):cs.length=1:=by obtain ⟨v,rfl,_⟩:=h;rfl
theorem fV {M M':aS}(hM:bh M M')(t:List Int)(cs)(h:xC M t cs):xC M' t cs:=by
 obtain ⟨v,rfl,h⟩:=h
 exact ⟨v,rfl,aL hM (fun _ _ h=>h) h⟩
theorem xk {M:aS}{t:List Int}{cs}(h:xC M t cs):∀ u∈cs,u.oneCell'=true:=by
 obtain ⟨v,rfl,h⟩:=h
 obtain ⟨_,a,c,rfl,_⟩:=aF (by decide) (fun _ _=>bV) h
 intro u hu
 simp only [List.mem_singleton] at hu
 subst hu;rfl
theorem r4 {rels:List Rel}{i:Nat}(hi:i<rels.length):bQ (rels.take (i+1))=bQ (rels.take i)++(if rels[i].view=true then [] else [rels[i].cols.map (·.ty)]):=by
 rw [<- List.take_append_getElem hi]
 unfold bQ
 rw [List.filter_append,List.map_append]
 congr 1
 cases h:rels[i].view<;>simp [h]
theorem uu {M:aS}{rels:List Rel}{rv:Value}(hr:RS M (mD M) 14 rels rv)(bw:rels.length<=1048576)(eI:∀ r∈rels,r.cols.length<=1048576)(T:Tm):
 cw Tryz.prog 18 [rv] T M [] [] (fun r M' _ _=>RS M' (xC M') 1 (bQ rels) r) aO:=by
 obtain ⟨fS,a,c,rfl,dJ,_,hg⟩:=aF (by decide) (fun _ _=>ew) hr
 refine aC F18 rfl rfl ?_
 intro bi _
 simp +contextual only [go_sem,aE,sevalprocAttr]
 refine aY rels.length 11 [(9,.slice a rels.length c),(10,.int .i64 (rels.length:Int))] (fun i e h=>∃ N' M' R fv,aH T N'/\bh M M'/\h=⟨N',M',[],R⟩/\e 3=fv/\kV 24 1 (xC M') [] R fv (bQ (rels.take i))/\(bQ (rels.take i)).length<=i) 0 (by omega) (by simp only [aG,go_sem,sevalprocAttr]) (by simp only [go_sem,sevalprocAttr]) ⟨T,M,[],_,aH.rfl',bh.rfl',rfl,by simp only [go_sem,sevalprocAttr],dg,by simp [bQ]⟩ ?_
 rintro i e h hi aI ht ⟨N1,M1,R1,fv,tH,aV,rfl,e3,bC,GI⟩
 simp only [aG] at aI
 by_cases aN:i<rels.length
 ·obtain ⟨b',o',cs',rfl,cG,fy⟩:=hg i rels[i] (gq aN)
  obtain ⟨ca,cn,s1,a1,n1,a2,n2,a3,n3,rfl,gF,iE,oF⟩:=jx (eu aV _ _ fy)
  obtain ⟨x0,x1,x2,x3,x4,x5,x6,x7,x8,x9,x10,x11,x12,x13⟩:=I4 (cG.ext aV)
  have eG:=r4 aN
  simp +contextual only [go_sem,aE,sevalprocAttr,aI,ht,aN,x0,x1,x2,x3,x4,x5,x6,x7,x8,x9,x10,x11,x12,x13,gF]
  intro b5 T5 mp nw o9
  have cV:=tH.trans nw
  by_cases r7:rels[i].view=true
  ·rw [if_pos r7]
   rw [if_pos r7,List.append_nil] at eG
   refine aR (ak (az ⟨rels.length - (i+1),by omega,rfl,i+1,by omega,rfl,?_,?_,T5,M1,R1,fv,cV,aV,rfl,?_,?_,?_⟩))
   ·simp only [aG,aI,go_sem,sevalprocAttr]
   ·simp only [go_sem,sevalprocAttr,aB i (by omega)]
   ·simp only [e3,go_sem,sevalprocAttr]
   ·rw [eG];exact bC
   ·rw [eG];omega
  rw [if_neg r7]
  rw [if_neg r7] at eG
  obtain ⟨Ve,_,_,hcx,acg,_,TQ⟩:=aF (by decide) (fun _ _=>eU) iE
  cases hcx
  have XQ:=eI rels[i] (gm aN)
  refine br rels[i].cols.length 20 [(3,fv),(9,.slice (some ⟨b',o',none⟩) rels.length c),(10,.int .i64 (rels.length:Int)),(11,.int .i64 (i:Nat)),(18,.slice ca rels[i].cols.length cn),(19,.int .i64 (rels[i].cols.length:Int))]
   (fun j e h=>∃ N' M' R' tv,aH T N'/\bh M1 M'/\h=⟨N',M',[],R'⟩/\e 6=tv/\(j<rels[i].cols.length ->kV 3 1 RI R1 R' tv ((rels[i].cols.take j).map (·.ty)))/\(j=rels[i].cols.length ->R'=R1/\RS M' RI 1 (rels[i].cols.map (·.ty)) tv))
   0 (by omega) (by simp only [aG,aI,e3,ht,go_sem,sevalprocAttr]) (by simp only [go_sem,sevalprocAttr]) ?_ ?_
  ·exact ak (az ⟨T5,M1,R1,.slice none 0 0,cV,bh.rfl',rfl,by simp only [go_sem,sevalprocAttr],fun _=>dg,fun h0=>⟨rfl,by rw [List.eq_nil_of_length_eq_zero h0.symm];exact bu⟩⟩)
  ·rintro j e h hj dH GG ⟨N2,M2,R2,tv,zC,bg,rfl,e6,aa0,Si⟩
   simp only [aG] at dH
   by_cases nB:j<rels[i].cols.length
   ·obtain ⟨bc,oc,cc',rfl,RG,XX⟩:=TQ j rels[i].cols[j] (gq nB)
    unfold sA at XX
    subst XX
    obtain ⟨z0,z1⟩:=Wa (RG.ext bg)
    have wr:=aa0 nB
    simp +contextual only [go_sem,aE,sevalprocAttr,dH,GG,nB,z0,z1,e6]
    intro b8 T8 mG qI vH b7 iN iV
    have tu:(rels[i].cols.take (j+1)).map (·.ty)=(rels[i].cols.take j).map (·.ty)++[rels[i].cols[j].ty]:=by
     rw [<- List.take_append_getElem nB,List.map_append];rfl
    have I5:((rels[i].cols.take j).map (·.ty)).length=j:=by rw [List.length_map,List.length_take];omega
    refine cy (Tryz.underlying24) jL jD (x:=rels[i].cols[j].ty) (cs:=[.int .i64 rels[i].cols[j].ty]) wr rfl (fun _ _=>bV) (gY rfl) iN (by omega) (by decide) ?_
    intro tv' R' Ci
    rw [<- tu] at Ci
    simp +contextual only [go_sem,sevalprocAttr,GG]
    refine aR (ak (ak ?_))
    by_cases hje:j+1=rels[i].cols.length
    ·have Ro:(rels[i].cols.take (j+1)).map (·.ty)=rels[i].cols.map (·.ty):=by rw [hje,List.take_length]
     rw [Ro] at Ci
     refine ct Ci (by rw [List.length_map];omega) (by decide) trivial fun M3 bM _ cC=>az ⟨rels[i].cols.length - (j+1),by omega,rfl,j+1,by omega,rfl,?_,?_,T8,M3,R1,tv',zC.trans qI,bg.trans bM,rfl,?_,fun h=>absurd h (by omega),fun _=>⟨rfl,cC⟩⟩
     ·simp only [aG,dH,go_sem,sevalprocAttr]
     ·simp only [go_sem,sevalprocAttr,aB j (by omega)]
     ·simp only [go_sem,sevalprocAttr]
    ·refine az ⟨rels[i].cols.length - (j+1),by omega,rfl,j+1,by omega,rfl,?_,?_,T8,M2,R',tv',zC.trans qI,bg,rfl,?_,fun _=>Ci,fun h=>absurd h hje⟩
     ·simp only [aG,dH,go_sem,sevalprocAttr]
     ·simp only [go_sem,sevalprocAttr,aB j (by omega)]
     ·simp only [go_sem,sevalprocAttr]
   ·have:j=rels[i].cols.length:=by omega
    subst this
    obtain ⟨rfl,cC⟩:=Si rfl
    obtain ⟨_,ta,tc,rfl,_⟩:=aF (by decide) (fun _ _=>bV) cC
    simp +contextual only [go_sem,aE,sevalprocAttr,dH,GG,nB,e6]
    intro b7 iN
    refine cy (Tryz.underlying58) F3 FP (gJ (fV bg) bC) ⟨_,rfl,cC⟩ (fun _ _=>fI) (xk (M:=M2) ⟨_,rfl,cC⟩) iN (by omega) (by decide) ?_
    intro fv' R' bI
    simp +contextual only [go_sem,sevalprocAttr,dH]
    refine aR (ak (az ⟨rels.length - (i+1),by omega,rfl,i+1,by omega,rfl,?_,?_,N2,M2,R',fv',zC,aV.trans bg,rfl,?_,?_,?_⟩))
    ·simp only [aG,dH,go_sem,sevalprocAttr]
    ·simp only [go_sem,sevalprocAttr,aB i (by omega)]
    ·simp only [go_sem,sevalprocAttr]
    ·rw [eG];exact bI
    ·rw [eG,List.length_append];simp only [ln];omega
 ·have:i=rels.length:=by omega
  subst this
  rw [List.take_length] at bC GI
  simp +contextual only [go_sem,aE,sevalprocAttr,aI,ht,aN,e3]
  exact ct bC (by omega) (by decide) bi fun M2 bg aZ cC=>am tH (aL bh.rfl' (fV bg) cC)
theorem UA {M:aS}(n:Nat)(hn:n<=1073741824)(T:Tm):
 HV Tryz.prog 124 [.slice none 0 0,.int .i64 (n:Nat)] T M [] [] 1 (fun v _ _ R'=>∃ a c,v=.slice a 0 c/\R'=[(v,3,1,[])]) aO:=by
 refine iP agc rfl rfl ?_
 intro bi _
 have h0:¬ ((n:Int)<0):=by omega
 by_cases hz:n=0
 ·subst hz
  simp +contextual only [go_sem,aE,sevalprocAttr, -Int.reduceAdd, -Int.reduceSub, -Int.reduceMul]
  exact dC (aM aH.rfl' rfl rfl ⟨none,0,rfl,rfl⟩)
 ·have hp:0<n:=by omega
  have Fw:(0:Int)<(n:Int):=by omega
  have hw:IntKind.i64.wrap (n:Int)=(n:Int):=bJ (by omega) (by omega)
  have MG:IntKind.i64.wrap (0 - 0)=0:=by decide
  have zq:IntKind.i64.wrap ((n:Int) - IntKind.i64.wrap (0 - 0))=(n:Int):=by rw [MG,Int.sub_zero];exact hw
  have vB:kB none 0 0 1=none:=rfl
  simp +contextual only [go_sem,aE,sevalprocAttr, -Int.reduceAdd, -Int.reduceSub, -Int.reduceMul,h0]
  rw [zq,if_pos Fw,vB]
  refine yT (ik:=.i64) jL jD Tryz.underlying3 hp (by omega) ?_
  intro a c zs uz dJ
  simp +contextual only [go_sem,sevalprocAttr, -Int.reduceAdd, -Int.reduceSub, -Int.reduceMul]
  have Ya:kB a c 0 1=a:=by
   unfold kB
   cases a<;>simp [Addr.add]
  rw [Ya]
  exact nJ (by decide) (aM aH.rfl' rfl rfl ⟨a,c,rfl,rfl⟩)
theorem Mc {M:aS}{l:List Int}{lv:Value}(hl:RS M RI 1 l lv)(bw:l.length<=16777216)(T:Tm):
 cw Tryz.prog 41 [lv] T M [] [] (fun v M' _ _=>RS M' RI 1 l v) aO:=by
 obtain ⟨fS,a,c,rfl,dJ,wr,fU⟩:=aF (by decide) (fun _ _=>bV) hl
 refine aC F41 rfl rfl ?_
 intro bi _
 by_cases h0:l=[]
 ·subst h0
  cases a with
  | none=>
   cases wr rfl
   simp +contextual only [go_sem,aE,sevalprocAttr, -Int.reduceAdd, -Int.reduceSub, -Int.reduceMul]
   exact am aH.rfl' bu
  | some p=>
   simp +contextual only [go_sem,aE,sevalprocAttr, -Int.reduceAdd, -Int.reduceSub, -Int.reduceMul]
   intro b hb
   refine pt jL jD (.slice p 0 c [] _ Tryz.underlying24 rfl (by simp)) (by omega) ?_
   simp +contextual only [go_sem,sevalprocAttr, -Int.reduceAdd, -Int.reduceSub, -Int.reduceMul]
   exact aT fun he ey aZ=>am aH.rfl' (cK (fun _ _=>bV) ey (l:=[]) rfl rfl (by omega))
 ·obtain ⟨p,hp⟩:∃ p,a=some p:=by
   cases l with
   | nil=>exact (h0 rfl).elim
   | cons x l=>obtain ⟨b,o,cs,h,_⟩:=fU 0 x rfl;exact ⟨_,h⟩
  subst hp
  obtain ⟨ys,Mn,zu,vn⟩:=kx (P:=Tryz.prog) Tryz.underlying24 (fun _ _=>bV) (fun _ _ h=>gY h) hl
  have dG:0<l.length:=List.length_pos_iff.2 h0
  simp +contextual only [go_sem,aE,sevalprocAttr, -Int.reduceAdd, -Int.reduceSub, -Int.reduceMul]
  intro b hb
  refine jO (n:=0) (xs:=[]) jL jD (vn _ _ _) rfl (by omega) (by simp only [List.length_nil];omega) ?_
  intro ra rm rc iL
  have iH:rm=l.length:=by simp only [List.length_nil] at iL;omega
  subst iH
  simp +contextual only [go_sem,sevalprocAttr, -Int.reduceAdd, -Int.reduceSub, -Int.reduceMul]
  refine ak (bT (fun M2 bg aZ gi=>am aH.rfl' ⟨fS,_,gi,zu⟩) (by decide))
theorem nK {M:aS}{ls:List (List Int)}{sv:Value}(hs:RS M (xC M) 1 ls sv)(bw:ls.length<=64)(hl:∀ l∈ls,l.length<=16777216)(T:Tm):
 cw Tryz.prog 86 [sv] T M [] [] (fun v M' _ _=>RS M' RI 1 ls.flatten v) aO:=by
 obtain ⟨fS,a,c,rfl,dJ,_,hg⟩:=aF (by decide) (fun _ _=>fI) hs
 obtain ⟨B,hB⟩:∃ B:Nat,B=16777216:=⟨_,rfl⟩
 rw [<- hB] at hl
 have Ed:∀ i,(ls.take i).flatten.length<=i*B:=by
  intro i
  induction i with
  | zero=>simp
  | succ i ih=>
   rw [Nat.succ_mul]
   by_cases hi:i<ls.length
   ·rw [<- List.take_append_getElem hi,List.flatten_append,List.length_append]
    have:=hl ls[i] (gm hi)
    simp only [List.flatten_cons,List.flatten_nil,List.append_nil]
    omega
   ·rw [List.take_of_length_le (by omega)]
    rw [List.take_of_length_le (by omega)] at ih
    omega
 have rZ:∀ i,i<=ls.length ->(ls.take i).flatten.length<=1073741824:=by
  intro i hi
  refine Nat.le_trans (Ed i) ?_
  rw [hB]
  exact Nat.le_trans (Nat.mul_le_mul_right _ (show i<=64 by omega)) (by decide)
 refine aC F86 rfl rfl ?_
 intro bi _
 simp +contextual only [go_sem,aE,sevalprocAttr, -Int.reduceAdd, -Int.reduceSub, -Int.reduceMul]
 refine aY ls.length 11 [(0,.slice a ls.length c),(9,.slice a ls.length c),(10,.int .i64 (ls.length:Int))] (fun i e h=>h=⟨T,M,[],[]⟩/\e 3=.int .i64 ((ls.take i).flatten.length:Int)) 0 (by omega) (by simp only [aG,go_sem,sevalprocAttr, -Int.reduceAdd, -Int.reduceSub, -Int.reduceMul]) (by simp only [go_sem,sevalprocAttr, -Int.reduceAdd, -Int.reduceSub, -Int.reduceMul]) ⟨rfl,by simp only [go_sem,sevalprocAttr, -Int.reduceAdd, -Int.reduceSub, -Int.reduceMul];simp⟩ ?_
 rintro i e h hi aI ht ⟨rfl,e3⟩
 simp only [aG] at aI
 have TP:=rZ i hi
 by_cases aN:i<ls.length
 ·obtain ⟨b',o',cs',rfl,cG,v,rfl,rj⟩:=hg i ls[i] (gq aN)
  obtain ⟨_,va,vc,rfl,_⟩:=aF (by decide) (fun _ _=>bV) rj
  have x0:=tV cG
  rw [Nat.mul_one] at x0
  have eG:(ls.take (i+1)).flatten.length=(ls.take i).flatten.length+ls[i].length:=by
   rw [<- List.take_append_getElem aN,List.flatten_append,List.length_append];simp
  have FQ:=rZ (i+1) aN
  have hw:IntKind.i64.wrap (((ls.take i).flatten.length:Int)+(ls[i].length:Int))=((ls.take (i+1)).flatten.length:Int):=by
   have h1:((ls.take i).flatten.length:Int)+(ls[i].length:Int)=((ls.take (i+1)).flatten.length:Int):=by omega
   rw [h1,bJ (by omega) (by omega)]
  have Xs:¬ (((ls.take (i+1)).flatten.length:Int)<0):=by omega
  simp +contextual only [go_sem,aE,sevalprocAttr, -Int.reduceAdd, -Int.reduceSub, -Int.reduceMul,aI,ht,aN,x0,e3,hw,Xs]
  refine aR (az ⟨ls.length - (i+1),by omega,rfl,i+1,by omega,rfl,?_,?_,rfl,?_⟩)
  ·simp only [aG,aI,go_sem,sevalprocAttr, -Int.reduceAdd, -Int.reduceSub, -Int.reduceMul]
  ·simp only [go_sem,sevalprocAttr, -Int.reduceAdd, -Int.reduceSub, -Int.reduceMul,aB i (by omega)]
  ·simp only [go_sem,sevalprocAttr, -Int.reduceAdd, -Int.reduceSub, -Int.reduceMul]
 ·have:i=ls.length:=by omega
  subst this
  rw [List.take_length] at e3 TP
  simp +contextual only [go_sem,aE,sevalprocAttr, -Int.reduceAdd, -Int.reduceSub, -Int.reduceMul,aI,ht,aN,e3]
  refine eK (UA ls.flatten.length TP T) ?_ (fun _ _ _ _ h=>h.elim)
  rintro v M2 row bg aZ ⟨ga,gc,rfl,bP⟩
  simp only [List.cons.injEq,and_true] at bP
  subst bP
  simp +contextual only [go_sem,aE,sevalprocAttr, -Int.reduceAdd, -Int.reduceSub, -Int.reduceMul,aI]
  refine aY ls.length 27 [(0,.slice a ls.length c),(25,.slice a ls.length c),(26,.int .i64 (ls.length:Int))] (fun i e h=>∃ R fv,h=⟨T,M2,[],R⟩/\e 6=fv/\kV 3 1 RI [] R fv (ls.take i).flatten) 0 (by omega) (by simp only [aG,aI,go_sem,sevalprocAttr, -Int.reduceAdd, -Int.reduceSub, -Int.reduceMul]) (by simp only [go_sem,sevalprocAttr, -Int.reduceAdd, -Int.reduceSub, -Int.reduceMul]) ⟨[(.slice ga 0 gc,3,1,[])],.slice ga 0 gc,rfl,by simp only [go_sem,sevalprocAttr, -Int.reduceAdd, -Int.reduceSub, -Int.reduceMul],by rw [List.take_zero];exact .inr ⟨ga,gc,[],rfl,rfl,rfl⟩⟩ ?_
  clear aI ht e3 aN hi e
  rintro i e h hi aI ht ⟨R1,fv,rfl,e6,bC⟩
  simp only [aG] at aI
  have QP:=rZ i hi
  by_cases aN:i<ls.length
  ·obtain ⟨b',o',cs',rfl,cG,v,rfl,rj⟩:=hg i ls[i] (gq aN)
   obtain ⟨_,va,vc,rfl,_⟩:=aF (by decide) (fun _ _=>bV) rj
   have x0:=tV (cG.ext bg)
   rw [Nat.mul_one] at x0
   have eG:(ls.take (i+1)).flatten=(ls.take i).flatten++ls[i]:=by
    rw [<- List.take_append_getElem aN,List.flatten_append];simp
   have FQ:=rZ (i+1) aN
   obtain ⟨ys,Mn,zu,vn⟩:=kx (P:=Tryz.prog) Tryz.underlying24 (fun _ _=>bV) (fun _ _ h=>gY h) (aL bg (fun _ _ h=>h) rj)
   simp +contextual only [go_sem,aE,sevalprocAttr, -Int.reduceAdd, -Int.reduceSub, -Int.reduceMul,aI,ht,aN,x0,e6]
   refine sB jL jD bC zu (fun _=>vn _ _ _) (fun _ _=>bV) (by rw [eG,List.length_append] at FQ;omega) (by decide) ?_
   intro fv' R' bI
   rw [<- eG] at bI
   simp +contextual only [go_sem,sevalprocAttr, -Int.reduceAdd, -Int.reduceSub, -Int.reduceMul,ht]
   refine aR (az ⟨ls.length - (i+1),by omega,rfl,i+1,by omega,rfl,?_,?_,R',fv',rfl,?_,bI⟩)
   ·simp only [aG,aI,go_sem,sevalprocAttr, -Int.reduceAdd, -Int.reduceSub, -Int.reduceMul]
   ·simp only [go_sem,sevalprocAttr, -Int.reduceAdd, -Int.reduceSub, -Int.reduceMul,aB i (by omega)]
   ·simp only [go_sem,sevalprocAttr, -Int.reduceAdd, -Int.reduceSub, -Int.reduceMul]
  ·have:i=ls.length:=by omega
   subst this
   rw [List.take_length] at bC QP
   simp +contextual only [go_sem,aE,sevalprocAttr, -Int.reduceAdd, -Int.reduceSub, -Int.reduceMul,aI,ht,aN,e6]
   exact ct bC (by omega) (by decide) aZ fun M3 bM bj cC=>am aH.rfl' cC
def yW (k n:Int)(a:List Int)(xs:List Ex)(ags:List Ag):Except Int (List Int):=
 if k=12 then (if 8<xs.length+ags.length then .error 5 else match dZ a xs with
  | .error e=> .error e
  | .ok ks=>match fx a ags with | .ok g=> .ok (ks++g) | .error e=> .error e)
 else match dZ a xs with
  | .error e=> .error e
  | .ok _=>if n<0\/50<n then .error 3 else .ok a
theorem yx {cols:List Int}:∀ {xs:List Ex} {l:List Int},ge cols xs=.ok l ->l.length=xs.length
 | [],l,h=>by rw [ge] at h;cases h;rfl
 | x::xs,l,h=>by
  rw [ge] at h
  split at h
  ·cases h
  ·split at h
   ·rename_i ts h2
    cases h
    rw [List.length_cons,List.length_cons,yx h2]
   ·cases h
theorem rQ {cols:List Int}{xs:List Ex}{l:List Int}(h:dZ cols xs=.ok l):l.length=xs.length/\xs.length<=8:=by
 unfold dZ at h
 split at h
 ·cases h
 ·exact ⟨yx h,by omega⟩
theorem uB {cols:List Int}:∀ {xs:List Ag} {l:List Int},fx cols xs=.ok l ->l.length=xs.length
 | [],l,h=>by rw [fx] at h;cases h;rfl
 | x::xs,l,h=>by
  rw [fx] at h
  split at h
  ·cases h
  ·split at h
   ·rename_i ts h2
    cases h
    rw [List.length_cons,List.length_cons,uB h2]
   ·cases h
theorem Zq {M:aS}{b o:Nat}{v0 v1 v2 v3 v4 v5 v6 v7 v8 v9 v10:Value}(h:At M b o [v0,v1,v2,v3,v4,v5,v6,v7,v8,v9,v10]):aQ M ⟨b,o,none⟩=some v0/\aQ M ⟨b,o+1,none⟩=some v1/\aQ M ⟨b,o+8,none⟩=some v8/\aQ M ⟨b,o+9,none⟩=some v9/\aQ M ⟨b,o+10,none⟩=some v10:=by
 obtain ⟨h0,h1,h2,h3,h4,h5,h6,h7,h8,h9,Jp,_⟩:=h
 exact ⟨h0,h1,h8,h9,Jp⟩
theorem Iz {M:aS}{cols:List Int}{cv:Value}{p:Pl}{b o:Nat}{cs:List Value}(cG:At M b o cs)(hp:jV M p cs)(kM:RS M RI 1 cols cv)(hk:p.k=12\/p.k=13)(T:Tm):
 cw Tryz.prog 85 [.pointer (some ⟨b,o,none⟩),cv] T M [] [] (fun r M' _ _=>E8 (yW p.k p.n cols p.xs p.ags) r M') aO:=by
 obtain ⟨s1,a1,n1,a2,n2,a3,n3,rfl,gF,hkx,eJ,CR,sI⟩:=fJ hp
 obtain ⟨x0,x1,x8,x9,x10⟩:=Zq cG
 have hlx:=(aF (by decide) (fun _ _=>dW) eJ).1
 have zj:=(aF (by decide) (fun _ _=>oB) CR).1
 obtain ⟨_,ca,cc,rfl,_⟩:=aF (by decide) (fun _ _=>bV) kM
 refine aC F85 rfl rfl ?_
 intro bi _
 simp +contextual only [go_sem,sevalprocAttr]
 refine aU ?_
 have hw:IntKind.i64.wrap ((p.xs.length:Int)+(p.ags.length:Int))=((p.xs.length+p.ags.length:Nat):Int):=by
  rw [bJ (by omega) (by omega)];omega
 rcases hk with hk | hk
 ·unfold yW
  rw [if_pos hk]
  by_cases h8:8<p.xs.length+p.ags.length
  ·have oV:(8:Int)<((p.xs.length+p.ags.length:Nat):Int):=by omega
   rw [if_pos h8]
   simp +contextual only [go_sem,aE,sevalprocAttr,x0,x8,x9,hk,hw,oV]
   exact am aH.rfl' ⟨by decide,_,rfl⟩
  ·have oV:¬ (8:Int)<((p.xs.length+p.ags.length:Nat):Int):=by omega
   rw [if_neg h8]
   simp +contextual only [go_sem,aE,sevalprocAttr,x0,x8,x9,hk,hw,oV]
   refine aD (nl kM eJ T) ?_
   rintro r M2 bg aZ hr
   cases kN:dZ cols p.xs with
   | error er=>
    rw [kN] at hr
    obtain ⟨cD,rfl⟩:=hr
    simp +contextual only [go_sem,aE,sevalprocAttr,cD]
    exact am aH.rfl' ⟨cD,_,rfl⟩
   | ok ks=>
    rw [kN] at hr
    obtain ⟨kv,rfl,zm⟩:=hr
    have y0:=ay bg x0
    have y9:=ay bg x9
    obtain ⟨oJ,_⟩:=rQ kN
    obtain ⟨_,ka,kc,rfl,_⟩:=aF (by decide) (fun _ _=>bV) zm
    simp +contextual only [go_sem,aE,sevalprocAttr,y0,y9,hk]
    refine aD (vm (aL bg (fun _ _ h=>h) kM) (aL bg (lg bg) CR) (by omega) T) ?_
    rintro r M3 bM bj hr
    have ae6:=aL bM (fun _ _ h=>h) zm
    cases Zn:fx cols p.ags with
    | error er=>
     rw [Zn] at hr
     obtain ⟨cD,rfl⟩:=hr
     simp +contextual only [go_sem,sevalprocAttr]
     intro b1 fD
     refine di F86.bd fun M4 dh dI cE=> ?_
     have GK:RS M4 (xC M4) 1 [ks,[]] (.slice (some ⟨b1,0,none⟩) 2 2):=cK (fun _ _=>fI) dI (l:=[ks,[]]) ⟨_,_,rfl,⟨_,rfl,aL dh (fun _ _ h=>h) ae6⟩,_,_,rfl,⟨_,rfl,bu⟩,rfl⟩ rfl (by omega)
     refine aD (nK GK (by simp) (by intro l hl;simp only [mn] at hl;rcases hl with rfl | rfl<;>(try simp only [List.length_nil])<;>omega) T) ?_
     rintro v M5 dF bE hv
     simp +contextual only [go_sem,sevalprocAttr]
     exact am aH.rfl' ⟨cD,_,rfl⟩
    | ok g=>
     rw [Zn] at hr
     obtain ⟨gv,rfl,hgv⟩:=hr
     have Jt:=uB Zn
     obtain ⟨_,ga,gc,rfl,_⟩:=aF (by decide) (fun _ _=>bV) hgv
     simp +contextual only [go_sem,sevalprocAttr]
     intro b1 fD
     refine di F86.bd fun M4 dh dI cE=> ?_
     have GK:RS M4 (xC M4) 1 [ks,g] (.slice (some ⟨b1,0,none⟩) 2 2):=cK (fun _ _=>fI) dI (l:=[ks,g]) ⟨_,_,rfl,⟨_,rfl,aL dh (fun _ _ h=>h) ae6⟩,_,_,rfl,⟨_,rfl,aL dh (fun _ _ h=>h) hgv⟩,rfl⟩ rfl (by omega)
     refine aD (nK GK (by simp) (by intro l hl;simp only [mn] at hl;rcases hl with rfl | rfl<;>(try simp only [List.length_nil])<;>omega) T) ?_
     rintro v M5 dF bE hv
     simp +contextual only [go_sem,sevalprocAttr]
     refine am aH.rfl' ⟨_,rfl,?_⟩
     simpa using hv
 ·unfold yW
  rw [if_neg (by omega)]
  simp +contextual only [go_sem,aE,sevalprocAttr,x0,x8,hk]
  refine aD (nl kM eJ T) ?_
  rintro r M2 bg aZ hr
  cases kN:dZ cols p.xs with
  | error er=>
   rw [kN] at hr
   obtain ⟨cD,rfl⟩:=hr
   simp +contextual only [go_sem,aE,sevalprocAttr,cD]
   exact am aH.rfl' ⟨cD,_,rfl⟩
  | ok ks=>
   rw [kN] at hr
   obtain ⟨kv,rfl,zm⟩:=hr
   have y0:=ay bg x0
   have y1:=ay bg x1
   simp +contextual only [go_sem,aE,sevalprocAttr,y0,y1,hk]
   split
   ·exact am aH.rfl' ⟨by decide,_,rfl⟩
   ·exact am aH.rfl' ⟨_,rfl,aL bg (fun _ _ h=>h) kM⟩
mutual
theorem BC (bf:List (List Int))(bq n:Nat):∀ p,n<=60 ->(ek bf bq n p).2<=61/\(∀ t,(ek bf bq n p).1=.ok t ->(ek bf bq n p).2<=60)
 | .mk k c x xs ags kids,hn=>by
  rw [ek]
  split
  ·exact ⟨by simp only;omega,fun t h=>by simp at h⟩
  ·split
   ·exact ⟨by simp only;omega,fun t h=>by simp at h⟩
   ·split
    ·exact ⟨by simp only;omega,fun t h=>by simp at h⟩
    ·have:=Gk bf (bq+1) (n+1) kids (by omega)
     split
     ·rename_i e m hm
      rw [hm] at this
      exact ⟨this.1,fun t h=>by simp at h⟩
     ·rename_i t m hm
      rw [hm] at this
      have h2:=this.2 t rfl
      simp only at h2
      exact ⟨by simp only;omega,fun _ _=>h2⟩
theorem Gk (bf:List (List Int))(bq n:Nat):∀ l,n<=60 ->(fM bf bq n l).2<=61/\(∀ t,(fM bf bq n l).1=.ok t ->(fM bf bq n l).2<=60)
 | [],hn=>by rw [fM];exact ⟨by simp only;omega,fun _ _=>hn⟩
 | x::l,hn=>by
  rw [fM]
  have hx:=BC bf bq n x hn
  split
  ·rename_i e m hm
   rw [hm] at hx
   exact ⟨hx.1,fun t h=>by simp at h⟩
  ·rename_i t m hm
   rw [hm] at hx
   have hl:=Gk bf bq m l (hx.2 t rfl)
   split
   ·rename_i e m' CK
    rw [CK] at hl
    exact ⟨hl.1,fun t h=>by simp at h⟩
   ·rename_i ts m' CK
    rw [CK] at hl
    exact ⟨hl.1,fun _ _=>hl.2 ts rfl⟩
end
def ym (acc:List (List Int)):Except Int (List (List Int))×Nat ->Except Int (List (List Int))×Nat
 | (.ok l,m)=>(.ok (acc++l),m)
 | (.error e,m)=>(.error e,m)
theorem MS (r):ym [] r=r:=by obtain ⟨r,m⟩:=r;cases r<;>rfl
theorem P5 {bf:List (List Int)}{bq n m:Nat}{x:Pl}{l:List Pl}{t:List Int}{acc:List (List Int)}(h:ek bf bq n x=(.ok t,m)):ym acc (fM bf bq n (x::l))=ym (acc++[t]) (fM bf bq m l):=by
 rw [fM,h]
 simp only
 rcases hl:fM bf bq m l with ⟨r,m'⟩
 cases r<;>simp [ym]
theorem Me {bf:List (List Int)}{bq n m:Nat}{x:Pl}{l:List Pl}{e:Int}{acc:List (List Int)}(h:ek bf bq n x=(.error e,m)):ym acc (fM bf bq n (x::l))=(.error e,m):=by
 rw [fM,h];rfl
theorem Fv {bf:List (List Int)}{k n:Int}{x:Ex}{xs:List Ex}{ags:List Ag}{c:List (List Int)}(hk:k=12\/k=13):jK bf k n x xs ags c=yW k n (c.getD 0 []) xs ags:=by
 unfold jK yW
 generalize hA:dZ (c.getD 0 []) xs=A
 generalize hB:fx (c.getD 0 []) ags=B
 rcases hk with rfl | rfl<;>cases A<;>cases B<;>simp_all
theorem BE:∀ {a b l:List Int},j1 a b=.ok l ->l.length<=a.length
 | [],b,l,h=>by simp [j1] at h;subst h;exact Nat.le_refl _
 | t::a,[],l,h=>by simp [j1] at h;subst h;simp
 | t::a,u::b,l,h=>by
  rw [j1] at h
  split at h
  ·cases h
  ·split at h
   ·rename_i m hm
    cases h
    have:=BE hm
    simp only [List.length_cons];omega
   ·cases h
theorem xu {c:List (List Int)}(h:∀ t∈c,t.length<=8)(i:Nat):(c.getD i []).length<=8:=by
 rw [List.getD_eq_getElem?_getD]
 by_cases hi:i<c.length
 ·rw [gq hi];exact h _ (gm hi)
 ·rw [List.getElem?_eq_none (by omega)];simp
theorem Nq {bf:List (List Int)}{k n:Int}{x:Ex}{xs:List Ex}{ags:List Ag}{c:List (List Int)}{l:List Int}(ht:∀ t∈bf,t.length<=8)(hc:∀ t∈c,t.length<=8)(h:jK bf k n x xs ags c=.ok l):l.length<=8:=by
 have h0:=xu hc 0
 have h1:=xu hc 1
 unfold jK at h
 simp only at h
 split at h
 ·split at h
  ·injection h with h;rw [<- h];exact xu ht _
  ·cases h
 split at h
 ·split at h
  ·injection h with h;rw [<- h];exact h0
  ·cases h
 split at h
 ·have:=rQ h;omega
 split at h
 ·unfold lz at h
  split at h
  ·cases h
  ·have:=BE h;omega
 split at h
 ·injection h with h;rw [<- h];exact h0
 split at h
 ·split at h
  ·cases h
  ·split at h
   ·cases h
   ·rename_i ks hks
    split at h
    ·rename_i g hg
     injection h with h
     have e1:=rQ hks
     have e2:=uB hg
     rw [<- h,List.length_append]
     omega
    ·cases h
 split at h
 ·split at h
  ·cases h
  ·split at h
   ·cases h
   ·injection h with h;rw [<- h];exact h0
 split at h
 ·cases h
 ·split at h
  ·cases h
  ·injection h with h
   rw [<- h]
   split<;>omega
mutual
theorem oe {bf:List (List Int)}(ht:∀ t∈bf,t.length<=8)(bq n:Nat):∀ p {l},(ek bf bq n p).1=.ok l ->l.length<=8
 | .mk k c x xs ags kids,l,h=>by
  rw [ek] at h
  split at h
  ·cases h
  ·split at h
   ·cases h
   ·split at h
    ·cases h
    ·split at h
     ·cases h
     ·rename_i c m hm
      have h2:=AH ht (bq+1) (n+1) kids (l:=c) (by rw [hm])
      exact Nq ht h2 h
theorem AH {bf:List (List Int)}(ht:∀ t∈bf,t.length<=8)(bq n:Nat):∀ ps {l},(fM bf bq n ps).1=.ok l ->∀ t∈l,t.length<=8
 | [],l,h=>by rw [fM] at h;cases h;intro t ht;cases ht
 | p::ps,l,h=>by
  rw [fM] at h
  split at h
  ·cases h
  ·rename_i t m hm
   split at h
   ·cases h
   ·rename_i ts m' CK
    injection h with h
    intro u hu
    rw [<- h,List.mem_cons] at hu
    rcases hu with rfl | hu
    ·exact oe ht bq n p (by rw [hm])
    ·exact AH ht bq m ps (by rw [CK]) u hu
end
def Ak (l cols:List Int)(x:Ex):Except Int (List Int):=match oG cols x with | .ok _=> .ok l | .error e=> .error e
theorem Hx {bf:List (List Int)}{n:Int}{x:Ex}{xs:List Ex}{ags:List Ag}{c:List (List Int)}:jK bf 2 n x xs ags c=Ak (c.getD 0 []) (c.getD 0 []) x:=by
 unfold jK Ak
 rw [if_neg (by decide),if_pos rfl]
 cases oG (c.getD 0 []) x<;>rfl
theorem Ix {bf:List (List Int)}{k n:Int}{x:Ex}{xs:List Ex}{ags:List Ag}{c:List (List Int)}(hk:4<=k/\k<=7):jK bf k n x xs ags c=
 if 8<(c.getD 0 []++c.getD 1 []).length then .error 5 else Ak (if k=5\/k=6 then c.getD 0 [] else c.getD 0 []++c.getD 1 []) (c.getD 0 []++c.getD 1 []) x:=by
 unfold jK Ak
 simp only
 rw [if_neg (by omega),if_neg (by omega),if_neg (by omega),if_neg (by omega),if_neg (by omega),if_neg (by omega),if_neg (by omega)]
 split
 ·rfl
 ·cases oG (c.getD 0 []++c.getD 1 []) x<;>rfl
theorem qy {l cols:List Int}{x:Ex}{sv:Value}{M:aS}(hs:RS M RI 1 l sv)(he:∀ e,oG cols x=.error e ->e≠0):E8 (Ak l cols x) (.tuple ⟨[sv,.int .i64 (nE cols x)]⟩) M:=by
 unfold Ak nE
 cases h:oG cols x with
 | ok u=>exact ⟨sv,rfl,hs⟩
 | error e=>exact ⟨he e h,sv,rfl⟩
theorem Yk {M:aS}{b o:Nat}{v0 v1 v2 v3 v4 v5 v6 v7 v8 v9 v10:Value}(h:At M b o [v0,v1,v2,v3,v4,v5,v6,v7,v8,v9,v10]):aQ M ⟨b,o+2,none⟩=some v2/\aQ M ⟨b,o+3,none⟩=some v3/\aQ M ⟨b,o+4,none⟩=some v4/\aQ M ⟨b,o+5,none⟩=some v5/\aQ M ⟨b,o+6,none⟩=some v6/\aQ M ⟨b,o+7,none⟩=some v7:=by
 obtain ⟨h0,h1,h2,h3,h4,h5,h6,h7,h8,h9,Jp,_⟩:=h
 exact ⟨h2,h3,h4,h5,h6,h7⟩
theorem Hn {k:Int}(h:0<=gd k)(h1:k≠1):gd k=1\/gd k=2:=by
 unfold gd at h ⊢
 grind
theorem kj {res:Except Int (List Int)}{v:Value}{M:aS}(h:E8 res v M):∃ sv er,v=.tuple ⟨[sv,.int .i64 er]⟩:=by
 cases res with
 | ok l=>obtain ⟨sv,rfl,_⟩:=h;exact ⟨_,_,rfl⟩
 | error e=>obtain ⟨_,sv,rfl⟩:=h;exact ⟨_,_,rfl⟩
def ClX (p:Pl):Prop:=∀ (M:aS) (T:Tm) (b o hb bq n:Nat) (cs:List Value) (bf:List (List Int)) (tv:Value),At M b o cs ->jV M p cs ->RS M (xC M) 1 bf tv ->(∀ t∈bf,t.length<=8) ->n<=60 ->bq<=16 ->
 cw Tryz.prog 40 [.pointer (some ⟨hb,0,none⟩),.pointer (some ⟨b,o,none⟩),.int .i64 (bq:Int)] T M [(hb,[tv,.int .i64 (n:Int)])] [] (fun r M' L' R'=>E8 (ek bf bq n p).1 r M'/\L'=[(hb,[tv,.int .i64 ((ek bf bq n p).2:Int)])]/\R'=[]) aO
theorem clX:∀ (sz:Nat) (p:Pl),SizeOf.sizeOf p<=sz ->ClX p:=by
 intro sz
 induction sz with
 | zero=>intro p hp;cases p;simp at hp
 | succ sz ih=>
  intro p ej M T b o hb bq n cs bf tv cG hp zl IK hn Q0
  obtain ⟨s1,a1,n1,a2,n2,a3,n3,rfl,gF,hkx,eJ,CR,sI⟩:=fJ hp
  obtain ⟨m0,m1,m8,m9,m10⟩:=Zq cG
  obtain ⟨fS,a',c',gi,dJ,wr,hg⟩:=aF (by decide) (fun _ _=>lh) sI
  injection gi with h1 h2 h3
  subst h1 h3
  cases p with | mk k pn x xs ags kids=>
  simp only [Pl.k,Pl.n,Pl.x,Pl.xs,Pl.ags,Pl.kids] at m0 m1 m8 m9 m10 eJ CR sI dJ hg fS hkx
  obtain ⟨S,hS⟩:∃ S,S=ek bf bq n (.mk k pn x xs ags kids):=⟨_,rfl⟩
  rw [<- hS]
  rw [ek] at hS
  have ZA:=aB n (by omega)
  have Z1:=aB bq (by omega)
  refine aC F40 rfl rfl ?_
  intro bi _
  simp only [aJ,and_true] at bi
  simp +contextual only [go_sem,aE,sevalprocAttr,bi,ZA,m0]
  by_cases pr:60<n+1\/15<bq
  ·rw [if_pos pr] at hS
   rw [if_pos (by omega)]
   exact aM aH.rfl' rfl rfl ⟨by rw [hS];exact ⟨by decide,_,rfl⟩,by rw [hS],rfl⟩
  rw [if_neg pr] at hS
  rw [if_neg (by omega)]
  refine aD (Rv k T) ?_
  rintro r M1 aV bG rfl
  simp only [aJ,and_true] at bG
  replace m0:=ay aV m0
  replace m1:=ay aV m1
  replace m8:=ay aV m8
  replace m9:=ay aV m9
  replace m10:=ay aV m10
  by_cases kd:gd k<0
  ·rw [if_pos kd] at hS
   simp +contextual only [go_sem,aE,sevalprocAttr,kd]
   exact aM aH.rfl' rfl rfl ⟨by rw [hS];exact ⟨by decide,_,rfl⟩,by rw [hS],rfl⟩
  rw [if_neg kd] at hS
  by_cases oJ:(kids.length:Int)=gd k
  ·rw [if_neg (fun h=>h oJ)] at hS
   have Oi:kids.length<=2:=by
    have:gd k<=2:=by unfold gd;repeat' split<;>omega
    omega
   simp +contextual only [go_sem,aE,sevalprocAttr,kd,oJ,m10]
   refine br kids.length 51 [(0,.pointer (some ⟨hb,0,none⟩)),(1,.pointer (some ⟨b,o,none⟩)),(2,.int .i64 (bq:Int)),(50,.int .i64 (kids.length:Int))]
    (fun i e h=>∃ (M':aS) (n':Nat) (R:RR) (fv:Value) (acc:List (List Int)),bh M1 M'/\M' hb=none/\n'<=60/\h=⟨T,M',[(hb,[tv,.int .i64 (n':Int)])],R⟩/\e 9=fv/\acc.length=i/\(i<kids.length ->kV 24 1 (xC M') [] R fv acc)/\(i=kids.length ->R=[]/\RS M' (xC M') 1 acc fv)/\ym acc (fM bf (bq+1) n' (kids.drop i))=fM bf (bq+1) (n+1) kids/\∀ t∈acc,t.length<=8)
    0 (by omega) (by simp only [aG,oJ,go_sem,sevalprocAttr]) (by simp only [go_sem,sevalprocAttr]) (az ⟨M1,n+1,[],.slice none 0 0,[],bh.rfl',bG,by omega,rfl,by simp only [go_sem,sevalprocAttr],rfl,fun _=>dg,fun _=>⟨rfl,bu⟩,MS _,by intro t ht;cases ht⟩) ?_
   rintro i e h hi aI ht ⟨M2,n',R2,fv,acc,bg,n2,NJ,rfl,e9,iz,bC,p4,ax,WL⟩
   simp only [aG] at aI
   have x10:=ay bg m10
   by_cases aN:i<kids.length
   ·obtain ⟨b',o',cs',rfl,tY,fy⟩:=hg i kids[i] (gq aN)
    have eh:=aV.trans bg
    have bA:kids.drop i=kids[i]::kids.drop (i+1):=dq aN
    rw [bA] at ax
    have De:SizeOf.sizeOf kids[i]<=sz:=by
     have h1:=List.sizeOf_lt_of_mem (gm aN)
     simp only [Pl.mk.sizeOf_spec] at ej
     omega
    have mz:=BC bf (bq+1) n' kids[i] NJ
    have wr:=bC aN
    simp +contextual only [go_sem,aE,sevalprocAttr,aI,ht,aN,x10,Z1]
    refine dz [] (ih kids[i] De M2 T b' _ hb (bq+1) n' cs' bf tv (tY.ext eh) (bY eh _ _ fy) (aL eh (fV eh) zl) IK NJ (by omega)) ?_ (fun _ _ _ _ _ _ h=>h.elim)
    rintro r M3 L' bM wB bj ⟨hr,rfl, -⟩
    simp only [List.nil_append,aJ,and_true] at bj
    rcases kN:ek bf (bq+1) n' kids[i] with ⟨r1,m⟩
    rw [kN] at hr mz
    cases r1 with
    | error er=>
     obtain ⟨cD,t,rfl⟩:=hr
     rw [Me kN] at ax
     rw [<- ax] at hS
     simp +contextual only [go_sem,aE,sevalprocAttr,cD]
     refine cz (aM aH.rfl' rfl rfl ⟨?_,?_,rfl⟩)
     ·rw [hS];exact ⟨cD,_,rfl⟩
     ·rw [hS]
    | ok t=>
     simp only [E8] at hr
     obtain ⟨kv,rfl,zm⟩:=hr
     obtain ⟨_,ka,kc,rfl,_⟩:=aF (by decide) (fun _ _=>bV) zm
     rw [P5 kN] at ax
     have X7:∀ u∈acc++[t],u.length<=8:=by
      intro u hu
      rw [List.mem_append,List.mem_singleton] at hu
      rcases hu with hu | rfl
      ·exact WL u hu
      ·exact oe IK (bq+1) n' kids[i] (by rw [kN])
     simp +contextual only [go_sem,aE,sevalprocAttr,e9]
     intro b7 iN iV
     have hT:=bg.trans bM
     refine cy (Tryz.underlying58) F3 FP (gJ (fV bM) wr) ⟨_,rfl,zm⟩ (fun _ _=>fI) (xk (M:=M3) ⟨_,rfl,zm⟩) iN (by omega) (by decide) ?_
     intro fv' R' bI
     simp +contextual only [go_sem,sevalprocAttr,ht]
     refine aR (ak ?_)
     by_cases CF:i+1=kids.length
     ·refine ct bI (by rw [List.length_append];simp only [ln];omega) (by decide) ⟨bj,trivial⟩ fun M4 dh cE cC=>az ⟨kids.length - (i+1),by omega,rfl,i+1,by omega,rfl,?_,?_,M4,m,[],fv',acc++[t],hT.trans dh,cE.1,mz.2 t rfl,rfl,?_,?_,fun h=>absurd h (by omega),fun _=>⟨rfl,aL bh.rfl' (fV dh) cC⟩,ax,X7⟩
      ·simp only [aG,aI,go_sem,sevalprocAttr]
      ·simp only [go_sem,sevalprocAttr,aB i (by omega)]
      ·simp only [go_sem,sevalprocAttr]
      ·rw [List.length_append,iz];rfl
     ·refine az ⟨kids.length - (i+1),by omega,rfl,i+1,by omega,rfl,?_,?_,M3,m,R',fv',acc++[t],hT,bj,mz.2 t rfl,rfl,?_,?_,fun _=>bI,fun h=>absurd h CF,ax,X7⟩
      ·simp only [aG,aI,go_sem,sevalprocAttr]
      ·simp only [go_sem,sevalprocAttr,aB i (by omega)]
      ·simp only [go_sem,sevalprocAttr]
      ·rw [List.length_append,iz];rfl
   ·have:i=kids.length:=by omega
    subst this
    obtain ⟨rfl,QC⟩:=p4 rfl
    rw [List.drop_length,fM] at ax
    simp only [ym,List.append_nil] at ax
    rw [<- ax] at hS
    simp only at hS
    have eh:=aV.trans bg
    replace m0:=ay bg m0
    replace m1:=ay bg m1
    by_cases k1:k=1
    ·subst k1
     unfold jK at hS
     rw [if_pos rfl] at hS
     obtain ⟨_,ta,tc,rfl,htc,_,htg⟩:=aF (by decide) (fun _ _=>fI) zl
     simp +contextual only [go_sem,aE,sevalprocAttr,aI,ht,aN,m0]
     refine aU ?_
     by_cases zw:pn<0
     ·rw [if_neg (by omega)] at hS
      simp +contextual only [go_sem,aE,sevalprocAttr,aI,m1,zw]
      refine cz (aM aH.rfl' rfl rfl ⟨?_,by rw [hS],rfl⟩)
      rw [hS];exact ⟨by decide,_,rfl⟩
     ·by_cases EB:(bf.length:Int)<=pn
      ·rw [if_neg (by omega)] at hS
       simp +contextual only [go_sem,aE,sevalprocAttr,aI,m1,n2,zw,EB]
       refine cz (aM aH.rfl' rfl rfl ⟨?_,by rw [hS],rfl⟩)
       rw [hS];exact ⟨by decide,_,rfl⟩
      ·rw [if_pos (by omega)] at hS
       obtain ⟨j,rfl⟩:=Int.eq_ofNat_of_zero_le (show 0<=pn by omega)
       have I5:j<bf.length:=by omega
       obtain ⟨b',o',cs',rfl,tY,v,rfl,rj⟩:=htg j bf[j] (gq I5)
       have z0:=tV (tY.ext eh)
       rw [Nat.mul_one] at z0
       simp +contextual only [go_sem,aE,sevalprocAttr,aI,m1,n2,zw,EB]
       refine aU ?_
       simp +contextual only [go_sem,sevalprocAttr,aI,m1,n2,I5,z0]
       refine aM aH.rfl' rfl rfl ⟨?_,by rw [hS],rfl⟩
       have Rm:bf.getD (j:Int).toNat []=bf[j]:=by simp [List.getD,I5]
       rw [hS,Rm]
       exact ⟨_,rfl,aL eh (fun _ _ h=>h) rj⟩
    have FN:1<=kids.length:=by
     have:=Hn (by omega:0<=gd k) k1
     omega
    obtain ⟨_,fa,fc,rfl,hfc,_,hfg⟩:=aF (by decide) (fun _ _=>fI) QC
    obtain ⟨b0,o0,cs0,rfl,PI,v0,rfl,wA⟩:=hfg 0 acc[0] (gq (by omega))
    obtain ⟨_,c0a,c0c,rfl,_⟩:=aF (by decide) (fun _ _=>bV) wA
    have z0:=tV PI
    rw [Nat.zero_mul,Nat.add_zero] at z0
    have GI:0<acc.length:=by omega
    have xt:(0:Int)<(acc.length:Int):=by omega
    have Oc:acc.getD 0 []=acc[0]:=by simp [List.getD,GI]
    by_cases k10:k=10\/k=11
    ·have qV:jK bf k pn x xs ags acc=.ok (acc.getD 0 []):=by unfold jK;rcases k10 with rfl | rfl<;>simp
     rw [qV] at hS
     rcases k10 with rfl | rfl
     ·simp +contextual only [go_sem,aE,sevalprocAttr,aI,ht,aN,m0,e9,xt,z0]
      refine aM aH.rfl' rfl rfl ⟨?_,by rw [hS],rfl⟩
      rw [hS,Oc]
      exact ⟨_,rfl,wA⟩
     ·simp +contextual only [go_sem,aE,sevalprocAttr,aI,ht,aN,m0,e9,xt,z0]
      refine aM aH.rfl' rfl rfl ⟨?_,by rw [hS],rfl⟩
      rw [hS,Oc]
      exact ⟨_,rfl,wA⟩
    ·by_cases k12:k=12\/k=13
     ·rw [Fv k12,Oc] at hS
      have oF:=bY eh _ _ hp
      have ajE:=cG.ext eh
      have vj:=Iz (cols:=acc[0]) ajE oF wA k12 T
      simp only [Pl.k,Pl.n,Pl.xs,Pl.ags] at vj
      rcases k12 with rfl | rfl
      ·simp +contextual only [go_sem,aE,sevalprocAttr,aI,ht,aN,m0,e9,xt,z0]
       refine aD vj ?_
       rintro r M3 bM bj hr
       obtain ⟨sv,er,rfl⟩:=kj hr
       simp +contextual only [go_sem,sevalprocAttr]
       exact aM aH.rfl' rfl rfl ⟨by rw [hS];exact hr,by rw [hS],rfl⟩
      ·simp +contextual only [go_sem,aE,sevalprocAttr,aI,ht,aN,m0,e9,xt,z0]
       refine aD vj ?_
       rintro r M3 bM bj hr
       obtain ⟨sv,er,rfl⟩:=kj hr
       simp +contextual only [go_sem,sevalprocAttr]
       exact aM aH.rfl' rfl rfl ⟨by rw [hS];exact hr,by rw [hS],rfl⟩
     ·by_cases k3:k=3
      ·have qV:jK bf k pn x xs ags acc=dZ (acc.getD 0 []) xs:=by unfold jK;subst k3;simp
       rw [qV,Oc] at hS
       subst k3
       replace m8:=ay bg m8
       simp +contextual only [go_sem,aE,sevalprocAttr,aI,ht,aN,m0]
       refine aU ?_
       simp +contextual only [go_sem,sevalprocAttr,aI,m8,e9,xt,z0]
       refine aD (nl wA (aL eh (cu eh) eJ) T) ?_
       rintro r M3 bM bj hr
       replace hr:=IT hr
       obtain ⟨sv,er,rfl⟩:=kj hr
       simp +contextual only [go_sem,sevalprocAttr]
       exact aM aH.rfl' rfl rfl ⟨by rw [hS];exact hr,by rw [hS],rfl⟩
      ·by_cases k2:k=2
       ·subst k2
        rw [Hx,Oc] at hS
        obtain ⟨x2,x3,x4,x5,x6,x7⟩:=Yk (cG.ext eh)
        have Kl:gU M2 x [.int .i64 x.k,.int .i64 x.v.k,.int .i64 x.v.n,st x.v.t,.int .i64 x.c,s1]:=jc.2 ⟨s1,rfl,aL eh (cu eh) hkx⟩
        simp +contextual only [go_sem,aE,sevalprocAttr,aI,ht,aN,m0]
        refine aU ?_
        simp +contextual only [go_sem,sevalprocAttr,aI,e9,xt,z0,x2,x3,x4,x5,x6,x7]
        refine aD (wd wA Kl T) ?_
        rintro r M3 bM bj ⟨rfl,Zo⟩
        simp +contextual only [go_sem,sevalprocAttr]
        simp only [aJ,and_true] at bj
        exact ⟨em bM ⟨bj,trivial⟩,aM aH.rfl' rfl rfl ⟨by rw [hS];exact qy (aL bM (fun _ _ h=>h) wA) Zo,by rw [hS],rfl⟩⟩
       have aiN:4<=k/\k<=9:=by
        unfold gd at kd
        grind
       have alT:gd k=2:=by unfold gd;rw [if_neg k1,if_pos aiN]
       have YX:1<acc.length:=by omega
       have S8:(1:Int)<(acc.length:Int):=by omega
       have ly:acc.getD 1 []=acc[1]:=by simp [List.getD,YX]
       obtain ⟨b1,o1,cs1,hbo,Ch,v1,rfl,kL⟩:=hfg 1 acc[1] (gq YX)
       cases hbo
       obtain ⟨_,c1a,c1c,rfl,_⟩:=aF (by decide) (fun _ _=>bV) kL
       have z1:=tV Ch
       rw [Nat.one_mul] at z1
       by_cases k8:k=8\/k=9
       ·have qV:jK bf k pn x xs ags acc=lz (acc.getD 0 []) (acc.getD 1 []):=by unfold jK;rcases k8 with rfl | rfl<;>simp
        rw [qV,Oc,ly] at hS
        have pC:acc[0].length<=1048576:=Nat.le_trans (WL _ (gm GI)) (by decide)
        rcases k8 with rfl | rfl
        ·simp +contextual only [go_sem,aE,sevalprocAttr,aI,ht,aN,m0]
         refine aU ?_
         simp +contextual only [go_sem,sevalprocAttr,e9,xt,S8,z0,z1]
         refine aD (uU wA kL (by omega) T) ?_
         rintro r M3 bM bj hr
         replace hr:=IT hr
         obtain ⟨sv,er,rfl⟩:=kj hr
         simp +contextual only [go_sem,sevalprocAttr]
         exact aM aH.rfl' rfl rfl ⟨by rw [hS];exact hr,by rw [hS],rfl⟩
        ·simp +contextual only [go_sem,aE,sevalprocAttr,aI,ht,aN,m0]
         refine aU ?_
         simp +contextual only [go_sem,sevalprocAttr,e9,xt,S8,z0,z1]
         refine aD (uU wA kL (by omega) T) ?_
         rintro r M3 bM bj hr
         replace hr:=IT hr
         obtain ⟨sv,er,rfl⟩:=kj hr
         simp +contextual only [go_sem,sevalprocAttr]
         exact aM aH.rfl' rfl rfl ⟨by rw [hS];exact hr,by rw [hS],rfl⟩
       ·have ajb:4<=k/\k<=7:=by omega
        rw [Ix ajb,Oc,ly] at hS
        obtain ⟨x2,x3,x4,x5,x6,x7⟩:=Yk (cG.ext eh)
        have Kl:gU M2 x [.int .i64 x.k,.int .i64 x.v.k,.int .i64 x.v.n,st x.v.t,.int .i64 x.c,s1]:=jc.2 ⟨s1,rfl,aL eh (cu eh) hkx⟩
        have k8a:¬ k=8:=fun h=>k8 (.inl h)
        have k9a:¬ k=9:=fun h=>k8 (.inr h)
        have k10a:¬ k=10:=fun h=>k10 (.inl h)
        have k11a:¬ k=11:=fun h=>k10 (.inr h)
        have k12a:¬ k=12:=fun h=>k12 (.inl h)
        have k13a:¬ k=13:=fun h=>k12 (.inr h)
        simp +contextual only [go_sem,aE,sevalprocAttr,aI,ht,aN,m0,k1,k2,k3,k8a,k9a,k10a,k11a,k12a,k13a]
        refine aU ?_
        simp +contextual only [go_sem,sevalprocAttr,e9,xt,S8,z0,z1]
        intro b1 fD IS
        refine ⟨dX bh.rfl' ⟨n2,trivial⟩ ⟨IS,trivial⟩,?_⟩
        refine di F86.bd fun M4 dh dI cE=> ?_
        simp only [aJ,and_true] at cE
        have GK:RS M4 (xC M4) 1 [acc[0],acc[1]] (.slice (some ⟨b1,0,none⟩) 2 2):=cK (fun _ _=>fI) dI (l:=[acc[0],acc[1]]) ⟨_,_,rfl,⟨_,rfl,aL dh (fun _ _ h=>h) wA⟩,_,_,rfl,⟨_,rfl,aL dh (fun _ _ h=>h) kL⟩,rfl⟩ rfl (by omega)
        have pC:=WL _ (gm GI)
        have gI:=WL _ (gm YX)
        refine aD (nK GK (by simp) (by intro l hl;simp only [mn] at hl;rcases hl with rfl | rfl<;>omega) T) ?_
        rintro v M5 dF bE hv
        simp only [aJ,and_true] at bE
        rw [List.flatten_cons,List.flatten_cons,List.flatten_nil,List.append_nil] at hv
        obtain ⟨_,va,vc,rfl,_⟩:=aF (by decide) (fun _ _=>bV) hv
        have vU:=dh.trans dF
        replace m0:=ay vU m0
        simp +contextual only [go_sem,aE,sevalprocAttr]
        refine ⟨em vU ⟨bE,trivial⟩,?_⟩
        by_cases h8:8<(acc[0]++acc[1]).length
        ·have oV:(8:Int)<((acc[0]++acc[1]).length:Int):=by omega
         rw [if_pos h8] at hS
         simp +contextual only [go_sem,sevalprocAttr,oV]
         exact aM aH.rfl' rfl rfl ⟨by rw [hS];exact ⟨by decide,_,rfl⟩,by rw [hS],rfl⟩
        have oV:¬ (8:Int)<((acc[0]++acc[1]).length:Int):=by omega
        rw [if_neg h8] at hS
        replace Kl:=cu vU _ _ Kl
        replace x2:=ay vU x2
        replace x3:=ay vU x3
        replace x4:=ay vU x4
        replace x5:=ay vU x5
        replace x6:=ay vU x6
        replace x7:=ay vU x7
        replace z0:=ay vU z0
        by_cases Z4:k=5\/k=6
        ·rw [if_pos Z4] at hS
         rcases Z4 with rfl | rfl
         ·simp +contextual only [go_sem,aE,sevalprocAttr,aI,oV,m0]
          refine aU ?_
          simp +contextual only [go_sem,sevalprocAttr,aI,e9,xt,z0,x2,x3,x4,x5,x6,x7]
          refine aD (wd hv Kl T) ?_
          rintro r M6 eg bN ⟨rfl,Zo⟩
          simp only [aJ,and_true] at bN
          simp +contextual only [go_sem,sevalprocAttr]
          exact ⟨em eg ⟨bN,trivial⟩,aM aH.rfl' rfl rfl ⟨by rw [hS];exact qy (aL (vU.trans eg) (fun _ _ h=>h) wA) Zo,by rw [hS],rfl⟩⟩
         ·simp +contextual only [go_sem,aE,sevalprocAttr,aI,oV,m0]
          refine aU ?_
          simp +contextual only [go_sem,sevalprocAttr,aI,e9,xt,z0,x2,x3,x4,x5,x6,x7]
          refine aD (wd hv Kl T) ?_
          rintro r M6 eg bN ⟨rfl,Zo⟩
          simp only [aJ,and_true] at bN
          simp +contextual only [go_sem,sevalprocAttr]
          exact ⟨em eg ⟨bN,trivial⟩,aM aH.rfl' rfl rfl ⟨by rw [hS];exact qy (aL (vU.trans eg) (fun _ _ h=>h) wA) Zo,by rw [hS],rfl⟩⟩
        ·rw [if_neg Z4] at hS
         have k5a:¬ k=5:=fun h=>Z4 (.inl h)
         have k6a:¬ k=6:=fun h=>Z4 (.inr h)
         simp +contextual only [go_sem,aE,sevalprocAttr,aI,oV,m0,k5a,k6a]
         simp +contextual only [go_sem,sevalprocAttr,aI,x2,x3,x4,x5,x6,x7]
         refine aD (wd hv Kl T) ?_
         rintro r M6 eg bN ⟨rfl,Zo⟩
         simp only [aJ,and_true] at bN
         simp +contextual only [go_sem,sevalprocAttr]
         exact aM aH.rfl' rfl rfl ⟨by rw [hS];exact qy (aL eg (fun _ _ h=>h) hv) Zo,by rw [hS],rfl⟩
  ·rw [if_pos oJ] at hS
   simp +contextual only [go_sem,aE,sevalprocAttr,kd,oJ,m10]
   exact aM aH.rfl' rfl rfl ⟨by rw [hS];exact ⟨by decide,_,rfl⟩,by rw [hS],rfl⟩
theorem yb:∀ {bf:List (List Int)},vG bf=0 ->∀ t∈bf,t.length<=8
 | [],_,t,ht=>by cases ht
 | u::l,h,t,ht=>by
  rw [vG] at h
  split at h
  ·cases h
  ·split at h
   ·rcases rP ht with rfl | ht
    ·omega
    ·exact yb h t ht
   ·cases h
theorem vT {M:aS}{bf:List (List Int)}{tv:Value}{p:Pl}{cs:List Value}(zl:RS M (xC M) 1 bf tv)(hp:jV M p cs)(T:Tm):
 cw Tryz.prog 17 [tv,.agg ⟨cs⟩] T M [] [] (fun r M' _ _=>E8 (gh bf p) r M') aO:=by
 obtain ⟨fS,a,c,rfl,dJ,_,hg⟩:=aF (by decide) (fun _ _=>fI) zl
 have cO:=lh hp
 have dL:=yX hp
 obtain ⟨s1,a1,n1,a2,n2,a3,n3,iE,gF,_⟩:=fJ hp
 unfold XZ at iE
 unfold gh
 refine aC F17 rfl rfl ?_
 intro bi _
 by_cases h8:8<bf.length
 ·have oV:(8:Int)<(bf.length:Int):=by omega
  rw [if_pos h8]
  subst iE
  simp +contextual only [go_sem,aE,sevalprocAttr,oV]
  intro b3 T3 gj fB hZ
  exact am fB ⟨by decide,_,rfl⟩
 have oV:¬ (8:Int)<(bf.length:Int):=by omega
 rw [if_neg h8]
 rw [iE]
 simp +contextual only [go_sem,aE,sevalprocAttr,oV]
 intro b3 T3 gj fB hZ
 refine br bf.length 17 [(0,.slice a bf.length c),(3,.pointer (some ⟨b3,0,none⟩)),(15,.slice a bf.length c),(16,.int .i64 (bf.length:Int))] (fun i e h=>∃ M',bh M M'/\M' b3=some cs/\h=⟨T3,M',[],[]⟩/\vG (bf.drop i)=vG bf) 0 (by omega) (by simp only [aG,go_sem,sevalprocAttr]) (by simp only [go_sem,sevalprocAttr]) (aT fun he h3 _=>az ⟨_,he,by rw [iE];exact h3,rfl,rfl⟩) ?_
 rintro i e h hi aI ht ⟨M1,aV,h3,rfl,ax⟩
 simp only [aG] at aI
 by_cases aN:i<bf.length
 ·obtain ⟨b',o',cs',rfl,cG,v,rfl,rj⟩:=hg i bf[i] (gq aN)
  obtain ⟨_,va,vc,rfl,_,_,hvg⟩:=aF (by decide) (fun _ _=>bV) rj
  have x0:=tV (cG.ext aV)
  rw [Nat.mul_one] at x0
  have bA:bf.drop i=bf[i]::bf.drop (i+1):=dq aN
  rw [bA,vG] at ax
  by_cases rJ:8<bf[i].length
  ·have aa4:(8:Int)<(bf[i].length:Int):=by omega
   rw [if_pos rJ] at ax
   rw [<- ax,if_pos (by decide)]
   simp +contextual only [go_sem,aE,sevalprocAttr,aI,ht,aN,x0,aa4]
   exact am fB ⟨by decide,_,rfl⟩
  have aa4:¬ (8:Int)<(bf[i].length:Int):=by omega
  rw [if_neg rJ] at ax
  simp +contextual only [go_sem,aE,sevalprocAttr,aI,ht,aN,x0,aa4]
  refine aY bf[i].length 26 [(0,.slice (some ⟨b',o',none⟩) bf.length c),(3,.pointer (some ⟨b3,0,none⟩)),(15,.slice (some ⟨b',o',none⟩) bf.length c),(16,.int .i64 (bf.length:Int)),(17,.int .i64 (i:Int)),(24,.slice va bf[i].length vc),(25,.int .i64 (bf[i].length:Int))] (fun j e h=>h=⟨T3,M1,[],[]⟩/\(bf[i].drop j).all (fun t=>decide (1<=t/\t<=4))=bf[i].all (fun t=>decide (1<=t/\t<=4))) 0 (by omega) (by simp only [aG,aI,ht,go_sem,sevalprocAttr]) (by simp only [go_sem,sevalprocAttr]) ⟨rfl,rfl⟩ ?_
  clear aI ht e
  rintro j e h hj aI ht ⟨rfl,jM⟩
  simp only [aG] at aI
  by_cases qJ:j<bf[i].length
  ·obtain ⟨b2,o2,cs2,ey,kf,fy⟩:=hvg j bf[i][j] (gq qJ)
   unfold RI at fy;subst fy ey
   have y0:=tV (kf.ext aV)
   rw [Nat.mul_one] at y0
   have HX:bf[i].drop j=bf[i][j]::bf[i].drop (j+1):=dq qJ
   rw [HX,List.all_cons] at jM
   by_cases hb:1<=bf[i][j]/\bf[i][j]<=4
   ·rw [decide_eq_true hb,Bool.true_and] at jM
    have fD:¬ bf[i][j]<1:=by omega
    have ey:¬ 4<bf[i][j]:=by omega
    simp +contextual only [go_sem,aE,sevalprocAttr,aI,ht,qJ,y0,fD,ey]
    refine cI qJ ?_ ?_ ⟨rfl,jM⟩
    ·simp only [aG,aI,go_sem,sevalprocAttr]
    ·simp only [go_sem,sevalprocAttr,aB j (by omega)]
   ·rw [decide_eq_false hb,Bool.false_and] at jM
    rw [<- jM,if_neg (by decide)] at ax
    rw [<- ax,if_pos (by decide)]
    by_cases fD:bf[i][j]<1
    ·simp +contextual only [go_sem,aE,sevalprocAttr,aI,ht,qJ,y0,fD]
     exact am fB ⟨by decide,_,rfl⟩
    ·have ey:4<bf[i][j]:=by omega
     simp +contextual only [go_sem,aE,sevalprocAttr,aI,ht,qJ,y0,fD,ey]
     exact am fB ⟨by decide,_,rfl⟩
  ·have:j=bf[i].length:=by omega
   subst this
   rw [List.drop_length] at jM
   rw [<- jM,List.all_nil,if_pos rfl] at ax
   simp +contextual only [go_sem,aE,sevalprocAttr,aI,ht,qJ]
   refine cI aN ?_ ?_ ⟨M1,aV,h3,rfl,ax⟩
   ·simp only [aG,aI,go_sem,sevalprocAttr]
   ·simp only [go_sem,sevalprocAttr,aB i (by omega)]
 ·have:i=bf.length:=by omega
  subst this
  rw [List.drop_length,vG] at ax
  rw [<- ax,if_neg (by simp)]
  have IK:=yb ax.symm
  simp +contextual only [go_sem,aE,sevalprocAttr,aI,ht,aN]
  intro b9 T9 lu oY l4
  refine dz [] (clX _ p (Nat.le_refl _) M1 T9 b3 0 b9 1 0 _ bf _ (sY h3) (bY aV _ _ hp) (aL aV (fV aV) zl) IK (by omega) (by omega)) ?_ (fun _ _ _ _ _ _ h=>h.elim)
  rintro r M3 L' bM wB bj ⟨hr,rfl, -⟩
  have H2:=fB.trans oY
  cases kN:(ek bf 1 0 p).1 with
  | ok t=>
   rw [kN] at hr
   obtain ⟨kv,rfl,zm⟩:=hr
   have IK:=oe IK 1 0 p kN
   simp +contextual only [go_sem,aE,sevalprocAttr]
   refine aD (Mc zm (by omega) _) ?_
   rintro r M4 dh cE hr
   simp +contextual only [go_sem,sevalprocAttr]
   exact am H2 ⟨_,rfl,hr⟩
  | error er=>
   rw [kN] at hr
   obtain ⟨cD,t,rfl⟩:=hr
   simp +contextual only [go_sem,aE,sevalprocAttr,cD]
   exact am H2 ⟨cD,_,rfl⟩
open Go Vc Go.RowKit
theorem DC {F:Fi}{c:Code}{e:dj}{ds:List Deferred}{h:Sh}(hr:cj Tryz.prog F [.code c] e ds h ⟨⟩):TY Tryz.prog F.dr c F.k e ds h:=hr
def Ru (e:Int)(r:Bool):PanicEntry:={v:=.iface 89 (.agg #[.int .i64 e]),recovered:=r}
theorem zN (p q r:Addr)(w:World):
 CallsD Tryz.prog 28 #[.pointer (some p),.pointer (some q),.pointer (some r)] .returning w fun e u' w'=>e=.returned (.tuple #[])/\u'=.returning/\w'=w:=by
 have mixed:=mx
 refine callsD_of_wpS Tryz.func28 rfl fun c₀ cs hu=> ?_
 apply wpS_seq
 apply wpS_region
 simp [wpOpsS,go_sem,recoverD,hu,Exit.thenS]
 refine wpS_of_wp ?_
 go_wp2
 cases c₀
 simp_all [bodyPostS,results]
set_option maxHeartbeats 4000000 in
theorem C8 {w:World}{U:List Nat}{T:Tm}{M:aS}{bs:List (Option Nat)}{b4 b5 b6:Nat}{er:Int}{v0 v1 v10 v2 v3 v4 v5 v6 v7 v8 v9 vc ve:Value}(hi:Hp ⟨w,M,U⟩ ⟨T,M,[(b4,[v0,v1,v2,v3,v4,v5,v6,v7,v8,v9,v10]),(b5,[vc]),(b6,[ve])],[]⟩ w bs):
 CallsD Tryz.prog 28 #[.pointer (some ⟨b4,0,none⟩),.pointer (some ⟨b5,0,none⟩),.pointer (some ⟨b6,0,none⟩)] (.panicking [Ru er false]) w fun e u' w'=>e=.returned (.tuple #[])/\u'=.panicking [Ru er true]/\
  zB w U T M [b4,b5,b6] 0 M [(b4,[.int .i64 0,.int .i64 0,.int .i64 0,.int .i64 0,.int .i64 0,st [],.int .i64 0,.slice none 0 0,.slice none 0 0,.slice none 0 0,.slice none 0 0]),(b5,[.slice none 0 0]),(b6,[.int .i64 er])] [] w':=by
 have mixed:=mx
 have hTA:∀ (v:Array Value) (w:World),(Instr.typeAssert (.iface 89 (.agg v)) 20 89 true).run Tryz.prog w=.ok (.tuple #[.agg v,.bool true]) w:=fun _ _=>by kernel_rfl
 refine callsD_of_wpS Tryz.func28 rfl fun c₀ cs hu=> ?_
 unfold Ru at hu
 apply wpS_seq
 apply wpS_region
 simp [wpOpsS,go_sem,recoverD,hu,Exit.thenS]
 refine wpS_of_wp ?_
 go_wp2
 have h2:=hi.alloc (t:=89) [.int .i64 er]
 have fX:=h2.apart
 have lH:=h2.nodup
 have hns:M w.heap.size=none:=(fX _ (by simp)).1
 have hn0:M b4=none:=(fX _ (by simp)).1
 have zn:M b5=none:=(fX _ (by simp)).1
 have rW:M b6=none:=(fX _ (by simp)).1
 have hp:(¬ w.heap.size=b4/\¬ w.heap.size=b5/\¬ w.heap.size=b6/\¬ b4=b5/\¬ b4=b6/\¬ b5=b6)/\(¬ b4=w.heap.size/\¬ b5=w.heap.size/\¬ b6=w.heap.size/\¬ b5=b4/\¬ b6=b4/\¬ b6=b5):=by
  simp at lH
  grind
 refine wp_mono (j6 (c₀:=⟨w,M,U⟩) (n:=15) (dr:=[(7,.take 0<| .take 1<| .take 2<| .eff 3 false (.eff 4 false (.eff 5 true (.done)<| .no)<| .no)<| .no)]) mx _ (Fi.k ⟨[(7,.take 0<| .take 1<| .take 2<| .eff 3 false (.eff 4 false (.eff 5 true (.done)<| .no)<| .no)<| .no)],fun _ ds h=>ds=[]/\bK h (ur T [b4,b5,b6] 0 (fun _ M' L' R'=>M'=M/\L'=[(b4,[.int .i64 0,.int .i64 0,.int .i64 0,.int .i64 0,.int .i64 0,st [],.int .i64 0,.slice none 0 0,.slice none 0 0,.slice none 0 0,.slice none 0 0]),(b5,[.slice none 0 0]),(b6,[.int .i64 er])]/\R'=[]) undef),fun _ _ _ _=>False⟩)
  (fun t=>Array.getD _ t undef) [] _ _ _ (by kernel_rfl) ⟨?_,rfl,fun _=>rfl⟩ ⟨_,h2⟩ ?_) ?_
 ·simp
 ·refine DC (F:=⟨[(7,.take 0<| .take 1<| .take 2<| .eff 3 false (.eff 4 false (.eff 5 true (.done)<| .no)<| .no)<| .no)],_,_⟩) ?_
  generalize hE:(fun t=>Array.getD _ t undef)=env
  have e0:env 0=.pointer (some ⟨b4,0,none⟩):=by rw [<- hE];simp
  have e1:env 1=.pointer (some ⟨b5,0,none⟩):=by rw [<- hE];simp
  have e2:env 2=.pointer (some ⟨b6,0,none⟩):=by rw [<- hE];simp
  have e4:env 4=.pointer (some ⟨w.heap.size,0,none⟩):=by rw [<- hE];simp
  clear hE
  have hT:aH T (T.add w.heap.size 89):=hi.extT
  generalize w.heap.size=bx at*
  simp +contextual only [go_sem,sevalprocAttr]
  refine ⟨fun _ _ _ _ _ _ _ _ _ h=>h,?_⟩
  refine eL ⟨T,fun _=>none,[(bx,_)],[]⟩ (gA hns) ?_
  simp +contextual only [go_sem,sevalprocAttr,e0,e1,e2,e4,hp]
  repeat refine ⟨gA hns,?_⟩
  exact ak (aM hT rfl rfl ⟨rfl,rfl,rfl⟩)
 ·rintro ex act w' hq
  cases ex with
  | normal=>
   obtain ⟨e,ds,h,ha,hw,rfl,cO⟩:=hq
   obtain ⟨h',gP,hT,hk,hR,hM,hL,MI⟩:=cO _ _ hw
   have iW:=j9 hT gP hk hR
   rw [hM,hL,MI] at iW
   have Dr:=ha.2.1
   simp only [Exit.inBlock]
   cases c₀
   exact ⟨Dr,_,rfl,.tuple #[],results_none rfl _ _ _,rfl,rfl,iW⟩
  | ret=>
   obtain ⟨e,ds,h,ha,hw,rfl,cO⟩:=hq
   obtain ⟨h',gP,hT,hk,hR,hM,hL,MI⟩:=cO _ _ hw
   have iW:=j9 hT gP hk hR
   rw [hM,hL,MI] at iW
   have Dr:=ha.2.1
   simp only [Exit.inBlock]
   cases c₀
   exact ⟨Dr,_,rfl,.tuple #[],results_none rfl _ _ _,rfl,rfl,iW⟩
  | panic ch=>obtain ⟨_,_,_,_,_,h⟩:=hq;exact h.elim
  | exit id=>obtain ⟨_,_,_,_,_,h⟩:=hq;exact h.elim
  | goto l=>exact hq.elim
  | outgrown=>exact hq.elim
def qqD (b4 b5 b6:Nat)(ag:Array Value):Deferred:={target:=.fn (.func 28) ⟨[.pointer (some ⟨b4,0,none⟩),.pointer (some ⟨b5,0,none⟩),.pointer (some ⟨b6,0,none⟩)]⟩,args:=ag}
def Tf (T:Tm)(ts:List ResultVar)(post:ez)(e:dj)(ds:List Deferred)(h:Sh):Prop:=
 ∃ b4 b5 b6 ag,ds=[qqD b4 b5 b6 ag]/\ag.toList=[]/\ed (nS Tryz.prog e h ts) fun vs=>bK h (ur T [] 0 post (vy vs))
def Fb (T:Tm)(post:ez)(ch:List PanicEntry)(e:dj)(ds:List Deferred)(h:Sh):Prop:=
 ∃ b4 b5 b6 ag er,ds=[qqD b4 b5 b6 ag]/\ag.toList=[]/\e 4=.pointer (some ⟨b4,0,none⟩)/\e 5=.pointer (some ⟨b5,0,none⟩)/\e 6=.pointer (some ⟨b6,0,none⟩)/\ch=Ea er/\
  bK h fun h'=>aH T h'.N/\h'.R=[]/\(∃ v0 v1 v2 v3 v4 v5 v6 v7 v8 v9 v10 vc ve,h'.L=[(b4,[v0,v1,v2,v3,v4,v5,v6,v7,v8,v9,v10]),(b5,[vc]),(b6,[ve])])/\post (.tuple ⟨[.agg ⟨[.int .i64 0,.int .i64 0,.int .i64 0,.int .i64 0,.int .i64 0,st [],.int .i64 0,.slice none 0 0,.slice none 0 0,.slice none 0 0,.slice none 0 0]⟩,.slice none 0 0,.int .i64 er]⟩) h'.M [] []
def Ii (T:Tm)(dr:List (Nat×Sched))(ts:List ResultVar)(post:ez):Fi:=⟨dr,Tf T ts post,Fb T post⟩
theorem W3 {b4 b5 b6:Nat}{ag:Array Value}(h:ag.toList=[]):ag++(⟨[.pointer (some ⟨b4,0,none⟩),.pointer (some ⟨b5,0,none⟩),.pointer (some ⟨b6,0,none⟩)]⟩:Array Value)= #[.pointer (some ⟨b4,0,none⟩),.pointer (some ⟨b5,0,none⟩),.pointer (some ⟨b6,0,none⟩)]:=by
 apply Array.toList_inj.1
 simp [h]
theorem AU {a:Array Value}{R:Ending ->World ->Prop}{w:World}{b4 b5 b6:Nat}{ag:Array Value}{u:FrameMode}{fn:Func}(h:ag.toList=[])(hu:u≠ .run)
 (hc:CallsD Tryz.prog 28 #[.pointer (some ⟨b4,0,none⟩),.pointer (some ⟨b5,0,none⟩),.pointer (some ⟨b6,0,none⟩)] u w fun
  | .returned _,u',w'=>Leaves Tryz.prog fn a R [] (settle u') w'
  | .panicked chain,u',w'=>Leaves Tryz.prog fn a R [] (raised u' chain) w'
  | .outgrown,_,w'=>R .outgrown w'):Leaves Tryz.prog fn a R [qqD b4 b5 b6 ag] u w:=by
 refine leaves_cons (f:=28) (args:= #[.pointer (some ⟨b4,0,none⟩),.pointer (some ⟨b5,0,none⟩),.pointer (some ⟨b6,0,none⟩)]) hu ?_ hc
 show (invoke (.fn (.func 28) _) ag).run Tryz.prog w=_
 have Ta:=Tryz.func28
 simp only [invoke,callFunc,Sem.run_bind,Result.andThen_ok,run_program,Ta]
 rw [W3 h]
 rfl
theorem Xb {fn:Func}{T:Tm}{dr U M post}(hr:fn.results.toList=[.cell 4 42,.cell 5 43,.cell 6 32]){w0:World}{ex:Exit}{a:Act}{w:World}{n:Nat}
 (hq:KontL.toQ ⟨w0,M,U⟩ n (Ii T dr fn.results.toList post).k ex a w):bodyPostD Tryz.prog fn (Ot U T M [] 0 post aO w0) ex a w:=by
 have FT:∀ {e ds h},Fr n a e ds ->Is ⟨w0,M,U⟩ h w ->Tf T fn.results.toList post e ds h ->Leaves Tryz.prog fn a.tmps (Ot U T M [] 0 post aO w0) a.defers .returning w:=by
  rintro e ds h ha hw ⟨b4,b5,b6,ag,rfl,On,hd⟩
  rw [ha.2.1]
  refine AU On (by simp) ?_
  refine (zN _ _ _ w).mono ?_
  rintro en u' w' ⟨rfl,rfl,rfl⟩
  obtain ⟨vs,Of,cO⟩:=cJ hd
  obtain ⟨h',gP,hT,hk,hR,hp⟩:=cO _ _ hw
  exact ⟨_,lM hw Of ha.2.2,h'.M,h'.L,h'.R,j9 hT gP hk hR,hp⟩
 cases ex with
 | normal=>obtain ⟨e,ds,h,ha,hw,hd⟩:=hq;exact FT ha hw hd
 | ret=>obtain ⟨e,ds,h,ha,hw,hd⟩:=hq;exact FT ha hw hd
 | panic ch=>
  obtain ⟨e,ds,h,ha,hw,b4,b5,b6,ag,er,rfl,On,e4,e5,e6,rfl,cO⟩:=hq
  show Leaves Tryz.prog fn a.tmps _ a.defers (.panicking _) w
  rw [ha.2.1]
  obtain ⟨⟨N,M',L',R'⟩,⟨bs,hi⟩,hT,hR,⟨v0,v1,v2,v3,v4,v5,v6,v7,v8,v9,v10,vc,ve,hL⟩,hp⟩:=cO _ _ hw
  simp only at hT hR hL hp
  subst hR hL
  have XP:bs=[]:=by simpa using hi.rows.1.symm
  subst XP
  have jQ:Hp ⟨w0,M,U⟩ ⟨N,M',[]++[(b4,[v0,v1,v2,v3,v4,v5,v6,v7,v8,v9,v10]),(b5,[vc]),(b6,[ve])]++[],[]++[]++[]⟩ w ([]++[]++[]):=by simpa using hi
  have xj:=jQ.enter rfl rfl
  refine AU On (by simp) ?_
  refine (C8 (er:=er) xj).mono ?_
  rintro en u' w' ⟨rfl,rfl,⟨⟨bp',C9⟩,hk,hRl⟩⟩
  have Xv:bp'=[]:=by simpa using C9.rows.1.symm
  subst Xv
  have p4:=jQ.frame (b1:=[]) (bp:=[]) (b2:=[]) rfl rfl rfl C9 hk hRl
  have uC:Hp ⟨w0,M,U⟩ ⟨N,M',[(b4,[.int .i64 0,.int .i64 0,.int .i64 0,.int .i64 0,.int .i64 0,st [],.int .i64 0,.slice none 0 0,.slice none 0 0,.slice none 0 0,.slice none 0 0]),(b5,[.slice none 0 0]),(b6,[.int .i64 er])],[]⟩ w' []:=by simpa using p4
  have hIs:Is ⟨w0,M,U⟩ ⟨N,M',[(b4,[.int .i64 0,.int .i64 0,.int .i64 0,.int .i64 0,.int .i64 0,st [],.int .i64 0,.slice none 0 0,.slice none 0 0,.slice none 0 0,.slice none 0 0]),(b5,[.slice none 0 0]),(b6,[.int .i64 er])],[]⟩ w':=⟨[],uC⟩
  have hn0:M' b4=none:=(uC.apart _ (by simp)).1
  have zn:M' b5=none:=(uC.apart _ (by simp)).1
  have rW:M' b6=none:=(uC.apart _ (by simp)).1
  have cD:(¬ b4=b5/\¬ b4=b6/\¬ b5=b6)/\(¬ b5=b4/\¬ b6=b4/\¬ b6=b5):=by
   have:=uC.nodup
   simp at this
   grind
  have ax:nS Tryz.prog e ⟨N,M',[(b4,[.int .i64 0,.int .i64 0,.int .i64 0,.int .i64 0,.int .i64 0,st [],.int .i64 0,.slice none 0 0,.slice none 0 0,.slice none 0 0,.slice none 0 0]),(b5,[.slice none 0 0]),(b6,[.int .i64 er])],[]⟩ fn.results.toList=some [.agg ⟨[.int .i64 0,.int .i64 0,.int .i64 0,.int .i64 0,.int .i64 0,st [],.int .i64 0,.slice none 0 0,.slice none 0 0,.slice none 0 0,.slice none 0 0]⟩,.slice none 0 0,.int .i64 er]:=by
   rw [hr]
   simp +contextual only [go_sem,sevalprocAttr,e4,e5,e6,hn0,zn,rW,cD]
  have QB:settle (.panicking [Ru er true])=.returning:=rfl
  show Leaves Tryz.prog fn a.tmps _ [] (settle (.panicking [Ru er true])) w'
  rw [QB]
  obtain ⟨h',gP,hT',Dp,MI,Fw⟩:=(am (T:=T) (R:=[]) (L:=[(b4,[.int .i64 0,.int .i64 0,.int .i64 0,.int .i64 0,.int .i64 0,st [],.int .i64 0,.slice none 0 0,.slice none 0 0,.slice none 0 0,.slice none 0 0]),(b5,[.slice none 0 0]),(b6,[.int .i64 er])]) (post:=post) (v:=.tuple ⟨[.agg ⟨[.int .i64 0,.int .i64 0,.int .i64 0,.int .i64 0,.int .i64 0,st [],.int .i64 0,.slice none 0 0,.slice none 0 0,.slice none 0 0,.slice none 0 0]⟩,.slice none 0 0,.int .i64 er]⟩) hT hp) _ _ hIs
  exact ⟨_,lM hIs ax ha.2.2,h'.M,h'.L,h'.R,j9 hT' gP Dp MI,Fw⟩
 | exit id=>obtain ⟨_,_,_,_,_,h⟩:=hq;exact h.elim
 | goto l=>exact hq.elim
 | outgrown=>exact hq.elim
theorem TC {f:FuncId}{fn:Func}{c:Code}{args:List Value}{dr}{T:Tm}{M post}(A7:de Tryz.prog f=true)
 (hf:Tryz.prog.funcs[f]?=some fn) (hb:fn.body=some c) (hn:args.length<=fn.ntmps) (hc:eo Tryz.prog fn.ntmps dr c=true) (hr:fn.results.toList=[.cell 4 42,.cell 5 43,.cell 6 32])
 (h:cj Tryz.prog (Ii T dr fn.results.toList post) [.code c] (mQ args) [] ⟨T,M,[],[]⟩ ⟨⟩):cw Tryz.prog f args T M [] [] post aO:=by
 refine ⟨A7,fun w U hw=>calls_of_wp_defers hf hb ?_⟩
 obtain ⟨h1,h2,h3⟩:=hw.facts
 have:=j6 (c₀:=⟨w,M,U⟩) mx c (Ii T dr fn.results.toList post).k (mQ args) [] ⟨T,M,[],[]⟩ w _ hc (fr0 args.toArray fn.ntmps (by simpa using hn)) h3 h
 exact wp_mono this fun ex a w' hq=>Xb hr hq
theorem FX {T dr ts post}:(Ii T dr ts post).ret=Tf T ts post:=(rfl)
theorem jI {T dr ts post}:(Ii T dr ts post).pan=Fb T post:=(rfl)
theorem qB {T dr ts post}:(Ii T dr ts post).dr=dr:=(rfl)
theorem mU {T post}(ops:List Oper)(h:(ops.all fun o=>match o.dst with | some d=>d !=4 && d !=5 && d !=6 | none=>true)=true):yf (Fb T post) ops:=by
 intro o ho d hd ch e v ds h' hp
 have:=List.all_eq_true.1 h o ho
 rw [hd] at this
 simp at this
 obtain ⟨b4,b5,b6,ag,er,h1,h2,h4,h5,h6,k5,k6⟩:=hp
 unfold upd at h4 h5 h6
 rw [if_neg (fun h=>(by grind))] at h4
 rw [if_neg (fun h=>(by grind))] at h5
 rw [if_neg (fun h=>(by grind))] at h6
 exact ⟨b4,b5,b6,ag,er,h1,h2,h4,h5,h6,k5,k6⟩
def mr (rels:List Rel)(q:Q):ez:=fun r M' _ _=>match gT rels q with
 | .ok w=>∃ cs cv,r=.tuple ⟨[.agg ⟨cs⟩,cv,.int .i64 0]⟩/\jV M' w.1 cs/\RS M' sA 2 w.2 cv
 | .error e=>e≠0/\∃ cs,r=.tuple ⟨[.agg ⟨cs⟩,.slice none 0 0,.int .i64 e]⟩/\jV M' jw cs
theorem sL {M:aS}:jV M jw Fu:=by
 refine lw.2 ⟨[.int .i64 0,.int .i64 0,.int .i64 0,st [],.int .i64 0,.slice none 0 0],.slice none 0 0,.slice none 0 0,.slice none 0 0,rfl,?_,bu,bu,bu⟩
 exact jc.2 ⟨_,rfl,bu⟩
theorem Fx {T N:Tm}{M:aS}{rels:List Rel}{q:Q}{A B:LL}{R:RR}{b4 b5 b6:Nat}{v0 v1 v2 v3 v4 v5 v6 v7 v8 v9 v10 vc ve:Value}{er:Int}{ag:Array Value}{e:dj}(hr:gT rels q=.error er)(h0:er≠0)(hT:aH T N)(CR:ag.toList=[])
 (e4:e 4=.pointer (some ⟨b4,0,none⟩)) (e5:e 5=.pointer (some ⟨b5,0,none⟩)) (e6:e 6=.pointer (some ⟨b6,0,none⟩)):
 Fb T (mr rels q) (Ea er) e [qqD b4 b5 b6 ag] ⟨N,M,A++(b6,[ve])::(b5,[vc])::(b4,[v0,v1,v2,v3,v4,v5,v6,v7,v8,v9,v10])::B,R⟩:=by
 refine ⟨b4,b5,b6,ag,er,rfl,CR,e4,e5,e6,rfl,gp A (cz (dm (L':=B++[(b4,[v0,v1,v2,v3,v4,v5,v6,v7,v8,v9,v10]),(b5,[vc]),(b6,[ve])]) ?_ (gp B (az ⟨hT,rfl,⟨_,_,_,_,_,_,_,_,_,_,_,_,_,rfl⟩,?_⟩))))⟩
 ·refine List.Perm.trans (l₂:=[(b4,[v0,v1,v2,v3,v4,v5,v6,v7,v8,v9,v10]),(b5,[vc]),(b6,[ve])]++B) ?_ List.perm_append_comm
  have h3:([(b6,[ve]),(b5,[vc]),(b4,[v0,v1,v2,v3,v4,v5,v6,v7,v8,v9,v10])]:LL).Perm [(b4,[v0,v1,v2,v3,v4,v5,v6,v7,v8,v9,v10]),(b5,[vc]),(b6,[ve])]:=by
   have:=List.reverse_perm ([(b4,[v0,v1,v2,v3,v4,v5,v6,v7,v8,v9,v10]),(b5,[vc]),(b6,[ve])]:LL)
   simpa using this
  exact h3.append_right B
 ·unfold mr
  rw [hr]
  exact ⟨h0,_,rfl,sL⟩
theorem Xf {T N:Tm}{M:aS}{rels:List Rel}{q:Q}{A B:LL}{R:RR}{b4 b5 b6:Nat}{v0 v1 v2 v3 v4 v5 v6 v7 v8 v9 v10 vc ve:Value}{er:Int}{ag:Array Value}{e:dj}{dr ts}(hr:gT rels q=.error er)(h0:er≠0)(hT:aH T N)(CR:ag.toList=[])
 (e4:e 4=.pointer (some ⟨b4,0,none⟩)) (e5:e 5=.pointer (some ⟨b5,0,none⟩)) (e6:e 6=.pointer (some ⟨b6,0,none⟩)):
 (Ii T dr ts (mr rels q)).pan (Ea er) e [qqD b4 b5 b6 ag] ⟨N,M,A++(b6,[ve])::(b5,[vc])::(b4,[v0,v1,v2,v3,v4,v5,v6,v7,v8,v9,v10])::B,R⟩:=by
 rw [jI]
 exact Fx hr h0 hT CR e4 e5 e6
theorem Mp {rels:List Rel}(hc:∀ r∈rels,r.cols.length<=1048576){s:Se}(cq:OkSe s){r:Pl×List Bs}(h:mt rels s=.ok r):r.2.length<=16777216:=by
 unfold mt at h
 split at h
 ·cases h
 ·rename_i f hf
  have h1:=A4 hc hf
  have h2:=cq.src
  split at h
  ·cases h
  ·simp only at h
   split at h
   ·cases h
   ·injection h with h
    rw [<- h]
    simp only
    split
    ·rw [List.length_map];omega
    ·rename_i hs
     have h3:=(cq.its (by simpa using hs)).1
     have h4:∀ (l:List It) (i:Nat),(eT i l).length=l.length:=by
      intro l
      induction l with
      | nil=>intro i;rfl
      | cons x l ih=>intro i;rw [eT,List.length_cons,List.length_cons,ih]
     rw [h4];omega
theorem Cr {rels:List Rel}{ops:List Int}{p:Pl}{names:List Bs}{s:Se}{l:List Se}{r:Pl×List Bs}(h:mt rels s=.ok r):fA rels ops 0 p names (s::l)=fA rels ops 1 r.1 r.2 l:=by
 rw [fA,h];rfl
theorem B2 {rels:List Rel}{ops:List Int}{i:Nat}{p:Pl}{names:List Bs}{s:Se}{l:List Se}{r:Pl×List Bs}(h:mt rels s=.ok r)(h0:i≠0):fA rels ops i p names (s::l)=fA rels ops (i+1) (Er (ops.getD (i - 1) 0) p r.1) names l:=by
 rw [fA,h];simp only;rw [if_neg h0]
theorem Ht {rels:List Rel}{ops:List Int}{i:Nat}{p:Pl}{names:List Bs}{s:Se}{l:List Se}{e:Int}(h:mt rels s=.error e):fA rels ops i p names (s::l)=.error e:=by
 rw [fA,h]
theorem AQ {N:Tm}{L:LL}{R:RR}{k:Sh ->Prop}:∀ {A:LL} {M:aS},aJ M (A++L) ->(∀ M',bh M M' ->pE M' A ->aJ M' L ->bK ⟨N,M',L,R⟩ k) ->bK ⟨N,M,A++L,R⟩ k
 | [],M,hn,h=>h M bh.rfl' trivial hn
 | (b,cs)::A,M,hn,h=>aT fun he hb bi=>AQ bi fun M' mW hA hL=>h M' (he.trans mW) ⟨mW _ _ hb,hA⟩ hL
theorem Iw {q:Q}{r:Pl×List Bs}(h:¬ 0<=q.limit):s8 q r=.ok r.1:=by unfold s8;rw [if_neg h]
theorem Qw {q:Q}{r:Pl×List Bs}{e:Int}(h:0<=q.limit)(he:dn (r.2.map fun n=>([],n)) q.order=.error e):s8 q r=.error e:=by unfold s8;rw [if_pos h,he]
theorem KA {q:Q}{r:Pl×List Bs}{xs:List Ex}(h:0<=q.limit)(he:dn (r.2.map fun n=>([],n)) q.order=.ok xs):s8 q r=.ok (.mk 13 q.limit ei xs [] [r.1]):=by unfold s8;rw [if_pos h,he]
def QbQ (rels:List Rel)(q:Q)(T:Tm)(M:aS)(b3 b4 b5 b6:Nat)(r0 nv:Value)(names:List Bs)(e:dj)(ds:List Deferred)(h:Sh):Prop:=
 ds=[qqD b4 b5 b6 #[]]/\aG e [(0,r0),(3,.pointer (some ⟨b3,0,none⟩)),(4,.pointer (some ⟨b4,0,none⟩)),(5,.pointer (some ⟨b5,0,none⟩)),(6,.pointer (some ⟨b6,0,none⟩)),(8,nv)]/\
 ∃ N' M' p' A c0 c1 c2 c3 c4 c5 c6 c7 c8 c9 c10,aH T N'/\bh M M'/\aJ M' (A++[(b6,[.int .i64 0]),(b5,[.slice none 0 0]),(b4,[c0,c1,c2,c3,c4,c5,c6,c7,c8,c9,c10])])/\ce b4 A/\
  (∀ M'',bh M' M'' ->pE M'' A ->jV M'' p' [c0,c1,c2,c3,c4,c5,c6,c7,c8,c9,c10])/\gR rels q=.ok (p',names)/\h=⟨N',M',A++[(b6,[.int .i64 0]),(b5,[.slice none 0 0]),(b4,[c0,c1,c2,c3,c4,c5,c6,c7,c8,c9,c10])],[]⟩
theorem Tz {c:Co}{cs:List Value}(h:sA c cs):∀ u∈cs,u.oneCell'=true:=by
 rw [h];intro u hu;simp only [mn] at hu;rcases hu with rfl | rfl<;>rfl
theorem Gb:∀ {l:List Bs} {m:List Int} {i:Nat} (h:i<m.length) (hl:m.length<=l.length),(ns l m)[i]?=some ⟨l[i],m[i]⟩
 | a::l,t::m,0,_,_=>rfl
 | a::l,t::m,i+1,h,hl=>by
  rw [ns,List.getElem?_cons_succ,Gb (by simpa using h) (by simpa using hl)];rfl
 | [],t::m,_,_,hl=>by simp at hl
theorem Bl:∀ {l:List Bs} {m:List Int},m.length<=l.length ->(ns l m).length=m.length
 | [],[],_=>rfl
 | a::l,[],_=>rfl
 | a::l,t::m,h=>by rw [ns,List.length_cons,List.length_cons,Bl (by simpa using h)]
 | [],t::m,hl=>by simp at hl
theorem tO {M:aS}{rels:List Rel}{rv:Value}{q:Q}{cs:List Value}(hr:RS M (mD M) 14 rels rv)(hq:RQ M q cs)(bw:rels.length<=1048576)(eI:∀ r∈rels,r.cols.length<=1048576)(cq:∀ s∈q.parts,OkSe s)
 (anJ:q.parts.length<=q.ops.length+1) (oF:q.parts.length<=1048576) (ab1:0<=q.limit ->q.order.length<=1048576/\∀ x∈q.order,zx x) (cD:∀ e,gR rels q=.error e ->e≠0) (ag7:∀ r t,gR rels q=.ok r ->gh (bQ rels) r.1=.ok t ->t.length<=r.2.length) (T:Tm):
 cw Tryz.prog 10 [rv,.agg ⟨cs⟩] T M [] [] (mr rels q) aO:=by
 obtain ⟨_,ra,rc,rfl,_⟩:=aF (by decide) (fun _ _=>ew) hr
 obtain ⟨pv,ov,dv,hps,hos,Dr,iE⟩:=hq
 obtain ⟨hpb,pa,pc,rfl,amq,_,hpg⟩:=aF (by decide) (fun _ _=>jd) hps
 obtain ⟨_,oa,oc,rfl,_,_,hog⟩:=aF (by decide) (fun _ _=>bV) hos
 obtain ⟨_,da,dc,rfl,_⟩:=aF (by decide) (fun _ _=>dl) Dr
 subst iE
 refine TC Ug.bd Tryz.func10 rfl (by rw [Ug.nt];exact Nat.le_of_ble_eq_true rfl) (dr:=[(10,.take 0<| .take 2<| .take 3<| .take 1<| .take 4<| .take 5<| .take 6<| .take 7<| .eff 8 false (.eff 9 true (.done)<| .no)<| .no),(19,.take 0<| .take 2<| .take 3<| .take 1<| .take 4<| .take 6<| .eff 5 false (.eff 7 false (.take 8<| .eff 9 true (.done)<| .no)<| .no)<| .eff 7 false (.eff 5 false (.take 8<| .eff 9 true (.done)<| .no)<| .no)<| .no),(20,.take 0<| .take 2<| .eff 1 false (.eff 3 true (.take 4<| .take 5<| .take 6<| .take 7<| .eff 8 true (.done)<| .no)<| .no)<| .no),(22,.take 0<| .take 1<| .eff 2 false (.eff 3 false (.eff 4 true (.done)<| .no)<| .no)<| .no),(26,.take 1<| .take 2<| .take 3<| .take 5<| .take 0<| .take 4<| .take 6<| .eff 7 false (.eff 8 false (.eff 9 true (.done)<| .no)<| .no)<| .no),(28,.take 0<| .take 1<| .eff 2 false (.eff 3 true (.eff 4 true (.done)<| .no)<| .no)<| .no)]) (by kernel_rfl) Ug.rs ?_
 rw [Ug.rs]
 simp +contextual only [go_sem,aE,sevalprocAttr]
 intro b3 T3 gj fB hZ b4 T4 dI dY fj gH b5 T5 mp gK nw o9 b6 T6 oZ fq sK BX b7 T7 iN iV mX tj
 have hT:=(((fB.trans fj).trans nw).trans sK).trans mX
 have fX:(¬ b6=b5/\¬ b5=b6)/\(¬ b6=b4/\¬ b4=b6)/\(¬ b5=b4/\¬ b4=b5):=⟨fq.1,fq.2.1,gK.1⟩
 refine br q.parts.length 25 [(0,.slice ra rels.length rc),(3,.pointer (some ⟨b3,0,none⟩)),(4,.pointer (some ⟨b4,0,none⟩)),(5,.pointer (some ⟨b5,0,none⟩)),(6,.pointer (some ⟨b6,0,none⟩)),(7,.pointer (some ⟨b7,0,none⟩)),(24,.int .i64 (q.parts.length:Int))]
  (fun i e h=>∃ N' M' p names nv c0 c1 c2 c3 c4 c5 c6 c7 c8 c9 c10,aH T N'/\bh M M'/\M' b7=some [.slice ra rels.length rc]/\M' b3=some [.slice pa q.parts.length pc,.slice oa q.ops.length oc,.slice da q.order.length dc,.int .i64 q.limit]/\M' b6=none/\M' b5=none/\M' b4=none/\
   jV M' p [c0,c1,c2,c3,c4,c5,c6,c7,c8,c9,c10]/\e 8=nv/\RS M' pX 1 names nv/\names.length<=16777216/\fA rels q.ops i p names (q.parts.drop i)=fA rels q.ops 0 jw [] q.parts/\h=⟨N',M',[(b6,[.int .i64 0]),(b5,[.slice none 0 0]),(b4,[c0,c1,c2,c3,c4,c5,c6,c7,c8,c9,c10])],[]⟩)
  0 (by omega) (by simp only [aG,go_sem,sevalprocAttr]) (by simp only [go_sem,sevalprocAttr])
  (dm (L':=[(b7,[.slice ra rels.length rc]),(b3,[.slice pa q.parts.length pc,.slice oa q.ops.length oc,.slice da q.order.length dc,.int .i64 q.limit]),(b6,[.int .i64 0]),(b5,[.slice none 0 0]),(b4,Fu)]) ((List.perm_append_comm (l₁:=[(b6,_),(b5,_),(b4,_)]) (l₂:=[(b3,_)])).cons _) (aT fun vP h7 bG=>aT fun nF h3 aZ=>az ⟨T7,_,jw,[],.slice none 0 0,_,_,_,_,_,_,_,_,_,_,_,hT,vP.trans nF,nF _ _ h7,h3,aZ.1,aZ.2.1,aZ.2.2.1,sL,by simp only [go_sem,sevalprocAttr],bu,by simp,rfl,rfl⟩)) ?_
 rintro i e h hi aI ht ⟨T8,M1,p,names,nv,c0,c1,c2,c3,c4,c5,c6,c7,c8,c9,c10,qI,aV,h7,h3,n6,n5,n4,hp,e8,hnv,GW,ax,rfl⟩
 simp only [aG] at aI
 have al6:=eI
 by_cases aN:i<q.parts.length
 ·obtain ⟨b',o',cs',rfl,cG,fy⟩:=hpg i q.parts[i] (gq aN)
  have bA:q.parts.drop i=q.parts[i]::q.parts.drop (i+1):=dq aN
  rw [bA] at ax
  have acn:=cq q.parts[i] (gm aN)
  simp +contextual only [go_sem,aE,sevalprocAttr,aI,ht,aN,aX h3]
  refine bS (V3 (aL aV (eu aV) hr) h7 eI (cG.ext aV) (jb aV _ _ fy) acn T8) ?_ ?_
  rotate_left
  ·rintro ch M2 bg aZ ⟨er,he,rfl⟩
   rw [Ht he] at ax
   have hqe:gR rels q=.error er:=by unfold gR;rw [<- ax]
   refine Xf (A:=[]) (B:=[]) (by unfold gT;rw [hqe]) (cD er hqe) qI rfl ?_ ?_ ?_
   ·simp only [aI,go_sem,sevalprocAttr]
   ·simp only [aI,go_sem,sevalprocAttr]
   ·simp only [aI,go_sem,sevalprocAttr]
  rintro v M2 bg aZ ⟨⟨r,rn⟩,oQ,qs,rnv,rfl,hrp,VH⟩
  simp only at hrp VH
  simp only [aJ] at aZ
  obtain ⟨_,rna,rnc,rfl,_⟩:=aF (by decide) (fun _ _=>ep) VH
  obtain ⟨d0,d1,d2,d3,d4,d5,d6,d7,d8,d9,d10,rfl,hd⟩:=cU hrp
  have OE:=aV.trans bg
  replace h3:=bg _ _ h3
  replace h7:=bg _ _ h7
  rcases Nat.eq_zero_or_pos i with rU | rU
  ·subst rU
   rw [Cr oQ] at ax
   simp +contextual only [go_sem,aE,sevalprocAttr,aI,ht,hd,fX]
   intro b10 T10 aaT JH YF Yg
   refine aR (ak (az ⟨q.parts.length - 1,by omega,rfl,1,by omega,rfl,?_,?_,T10,M2,r,rn,_,d0,d1,d2,d3,d4,d5,d6,d7,d8,d9,d10,qI.trans YF,OE,h7,h3,aZ.1,aZ.2.1,aZ.2.2.1,hrp,?_,VH,Mp eI acn oQ,ax,rfl⟩))
   ·simp only [aG,aI,go_sem,sevalprocAttr]
   ·simp only [go_sem,sevalprocAttr];rfl
   ·simp only [go_sem,sevalprocAttr]
  ·have Oo:i≠0:=by omega
   have jQ:¬ ((i:Int)=0):=by omega
   rw [B2 oQ Oo] at ax
   have hoi:i - 1<q.ops.length:=by omega
   obtain ⟨b2,o2,cs2,rfl,kf,wG⟩:=hog (i - 1) q.ops[i - 1] (gq hoi)
   unfold RI at wG;subst wG
   have z0:=tV (kf.ext OE)
   rw [Nat.mul_one] at z0
   have Rm:q.ops.getD (i - 1) 0=q.ops[i - 1]:=by simp [List.getD,hoi]
   have VU:IntKind.i64.wrap ((i:Int) - 1)=((i - 1:Nat):Int):=by rw [bJ (by omega) (by omega)];omega
   rw [Rm] at ax
   simp +contextual only [go_sem,aE,sevalprocAttr,qB,hd,jQ]
   intro b10 T10 aaT JH YF Yg
   rw [jI]
   refine ⟨mU _ rfl,aU ?_⟩
   have hz:=JH
   simp +contextual only [go_sem,sevalprocAttr,aI,fX,aZ,aX h3,VU,hoi,z0,JH,aaT]
   have hpM:=bY bg _ _ hp
   refine aD (Wo (op:=q.ops[i - 1]) hpM hrp T10) ?_
   rintro v M3 bM bj ⟨gs,rfl,hgp⟩
   obtain ⟨g0,g1,g2,g3,g4,g5,g6,g7,g8,g9,g10,rfl,hg⟩:=cU hgp
   simp only [aJ] at bj
   simp +contextual only [go_sem,sevalprocAttr,aI,ht,fX,JH,hg]
   repeat refine ⟨em bM ⟨bj.1,bj.2.1,bj.2.2.1,bj.2.2.2.1,trivial⟩,?_⟩
   refine aR (ak (az ⟨q.parts.length - (i+1),by omega,rfl,i+1,by omega,rfl,?_,?_,T10,M3,_,names,_,g0,g1,g2,g3,g4,g5,g6,g7,g8,g9,g10,qI.trans YF,OE.trans bM,bM _ _ h7,bM _ _ h3,bj.2.1,bj.2.2.1,bj.2.2.2.1,hgp,?_,aL (bg.trans bM) (fun _ _ h=>h) hnv,GW,ax,rfl⟩))
   ·simp only [aG,aI,go_sem,sevalprocAttr]
   ·simp only [go_sem,sevalprocAttr,aB i (by omega)]
   ·simp only [e8,go_sem,sevalprocAttr]
 ·have:i=q.parts.length:=by omega
  subst this
  rw [List.drop_length,fA] at ax
  obtain ⟨_,na,nc,rfl,_,_,Xs⟩:=aF (by decide) (fun _ _=>ep) hnv
  have Ut:gR rels q=(match s8 q (p,names) with | .error e=> .error e | .ok p=> .ok (p,names)):=by unfold gR;rw [<- ax];simp only;cases s8 q (p,names)<;>rfl
  simp +contextual only [go_sem,sevalprocAttr,aI,ht,aN]
  rw [cd]
  simp +contextual only [go_sem,sevalprocAttr,aI,aX h3]
  refine dQ (QbQ rels q T M1 b3 b4 b5 b6 (.slice ra rels.length rc) (.slice na names.length nc) names) (fun S' dU=> ?_) ?_
  ·rw [cd]
   by_cases pC:0<=q.limit
   ·simp +contextual only [go_sem,aE,sevalprocAttr,pC,e8]
    intro b12 T12 lr iY zy Ox
    refine aY names.length 58 [(0,.slice ra rels.length rc),(3,.pointer (some ⟨b3,0,none⟩)),(4,.pointer (some ⟨b4,0,none⟩)),(5,.pointer (some ⟨b5,0,none⟩)),(6,.pointer (some ⟨b6,0,none⟩)),(8,.slice na names.length nc),(12,.pointer (some ⟨b12,0,none⟩)),(56,.slice na names.length nc),(57,.int .i64 (names.length:Int))]
     (fun j e h=>∃ N' R cv,aH T12 N'/\kV 104 2 GL [] R cv ((names.take j).map fun n=>([],n))/\h=⟨N',M1,[(b12,[cv,.slice none 0 0,.pointer none,.pointer none]),(b6,[.int .i64 0]),(b5,[.slice none 0 0]),(b4,[c0,c1,c2,c3,c4,c5,c6,c7,c8,c9,c10])],R⟩)
     0 (by omega) (by simp only [aG,aI,e8,go_sem,sevalprocAttr]) (by simp only [go_sem,sevalprocAttr]) ⟨T12,[],_,aH.rfl',dg,rfl⟩ ?_
    clear aI ht e8 aN hi e
    rintro j e h hj aI ht ⟨N9,R9,cv,Cq,bC,rfl⟩
    simp only [aG] at aI
    by_cases aN:j<names.length
    ·obtain ⟨bn,on,cn,rfl,Ze,VH⟩:=Xs j names[j] (gq aN)
     unfold pX at VH;subst VH
     have z0:=tV Ze
     rw [Nat.mul_one] at z0
     obtain ⟨va,vc,rfl⟩:=il bC
     have gI:((names.take j).map fun n=>(([]:Bs),n)).length=j:=by rw [List.length_map,List.length_take];omega
     simp +contextual only [go_sem,aE,sevalprocAttr,aI,ht,aN,z0,lr]
     intro b14 Rr py
     refine cy (x:=(([]:Bs),names[j])) Tryz.underlying99 Kz K0 bC rfl (fun _ _=>qz) (wH (c:=(([]:Bs),names[j])) rfl) Rr (by rw [gI];omega) (by decide) ?_
     intro fv' R' bI
     obtain ⟨wa,wc,QC⟩:=il bI
     have eG:((names.take (j+1)).map fun n=>(([]:Bs),n))=((names.take j).map fun n=>(([]:Bs),n))++[([],names[j])]:=by
      rw [List.take_succ_eq_append_getElem aN,List.map_append];rfl
     rw [<- eG] at bI
     subst QC
     simp +contextual only [go_sem,sevalprocAttr,ht,py]
     refine aR (ak (az ⟨names.length - (j+1),by omega,rfl,j+1,by omega,rfl,?_,?_,N9,R',_,Cq,bI,rfl⟩))
     ·simp only [aG,aI,go_sem,sevalprocAttr]
     ·simp only [go_sem,sevalprocAttr,aB j (by omega)]
    ·have:j=names.length:=by omega
     subst this
     rw [List.take_length] at bC
     obtain ⟨va,vc,rfl⟩:=il bC
     simp +contextual only [go_sem,aE,sevalprocAttr,qB,jI,aI,ht,aN]
     have rV:(b4≠b12/\b12≠b4)/\(b4≠b6/\b6≠b4)/\(b4≠b5/\b5≠b4):=by
      refine ⟨⟨iY.2.2.2,iY.2.2.1⟩,⟨fX.2.1.2,fX.2.1.1⟩,⟨fX.2.2.2,fX.2.2.1⟩⟩
     refine ⟨mU _ rfl,eL ⟨T,M1,[(b4,[c0,c1,c2,c3,c4,c5,c6,c7,c8,c9,c10])],[]⟩ (du [(b12,_),(b6,_),(b5,_)] bh.rfl' n4 ⟨rV.1,rV.2.1,rV.2.2,trivial⟩) ?_⟩
     simp +contextual only [go_sem,sevalprocAttr,aI,aX h3,n4]
     have XL:(names.map fun n=>(([]:Bs),n)).length<=16777216:=by rw [List.length_map];exact GW
     have E4:∀ {M5:aS},bh M1 M5 ->RS M5 GL 2 (names.map fun n=>(([]:Bs),n)) (.slice va (names.map fun n=>(([]:Bs),n)).length vc) ->M5 b12=some [.slice va (names.map fun n=>(([]:Bs),n)).length vc,.slice none 0 0,.pointer none,.pointer none] ->
      cw Tryz.prog 31 [.pointer (some ⟨b12,0,none⟩),.slice da q.order.length dc] N9 M5 [] [] (uY (fun l v M=>RS M (gU M) 6 l v) (dn (names.map fun n=>([],n)) q.order)) (qD (dn (names.map fun n=>([],n)) q.order)):=by
      intro M5 h5 cC hb
      exact Cl (fun x hx=>exB _ _ x (Nat.le_refl _) ((ab1 pC).2 x hx)) (ab1 pC).1 cC hb (aL (aV.trans h5) (bB (aV.trans h5)) Dr) N9
     have Wv:∀ {er:Int} {N:Tm} {M5:aS} {A:LL} {e:dj},dn (names.map fun n=>([],n)) q.order=.error er ->aH T N ->e 4=.pointer (some ⟨b4,0,none⟩) ->e 5=.pointer (some ⟨b5,0,none⟩) ->e 6=.pointer (some ⟨b6,0,none⟩) ->
      Fb T (mr rels q) (Ea er) e [qqD b4 b5 b6 #[]] ⟨N,M5,A++(b6,[.int .i64 0])::(b5,[.slice none 0 0])::(b4,[c0,c1,c2,c3,c4,c5,c6,c7,c8,c9,c10])::[],[]⟩:=by
      intro er N M5 A e he hN e4 e5 e6
      have hqe:gR rels q=.error er:=by rw [Ut,Qw pC he]
      exact Fx (by unfold gT;rw [hqe]) (cD er hqe) hN rfl e4 e5 e6
     have hTN:=(qI.trans zy).trans Cq
     have tJ:∀ {xs:List Ex} {M6 M'':aS} {xv:Value} {b81:Nat},RS M6 (gU M6) 6 xs xv ->bh M1 M6 ->bh M6 M'' ->pE M'' [(b81,[c0,c1,c2,c3,c4,c5,c6,c7,c8,c9,c10])] ->
      jV M'' (.mk 13 q.limit ei xs [] [p]) [.int .i64 13,.int .i64 q.limit,.int .i64 0,.int .i64 0,.int .i64 0,st [],.int .i64 0,.slice none 0 0,xv,.slice none 0 0,.slice (some ⟨b81,0,none⟩) 1 1]:=by
      intro xs M6 M'' xv b81 eJ zk h6 hh
      refine lw.2 ⟨[.int .i64 0,.int .i64 0,.int .i64 0,st [],.int .i64 0,.slice none 0 0],xv,.slice none 0 0,.slice (some ⟨b81,0,none⟩) 1 1,rfl,jc.2 ⟨_,rfl,bu⟩,aL h6 (cu h6) eJ,bu,?_⟩
      exact cK (fun _ _=>lh) hh.1 (l:=[p]) (cA (bY (zk.trans h6) _ _ hp)) rfl (by omega)
     refine ⟨?_,?_⟩
     ·refine cQ (k:=fun h'=>∃ M5,bh M1 M5/\RS M5 GL 2 (names.map fun n=>(([]:Bs),n)) (.slice va (names.map fun n=>(([]:Bs),n)).length vc)/\M5 b12=some [.slice va (names.map fun n=>(([]:Bs),n)).length vc,.slice none 0 0,.pointer none,.pointer none]/\h'=⟨N9,M5,[(b6,[.int .i64 0]),(b5,[.slice none 0 0]),(b4,[c0,c1,c2,c3,c4,c5,c6,c7,c8,c9,c10])],[]⟩)
       (ct bC (by omega) (by decide) ⟨lr,n6,n5,n4,trivial⟩ fun M5 dF bE cC=>aT fun he hb bi=>az ⟨_,dF.trans he,aL he (fun _ _ h=>h) cC,hb,rfl⟩) ?_ F31.bd
      rintro h' ⟨M5,wo,ZK,YS,rfl⟩
      refine bS (E4 wo ZK YS) ?_ ?_
      ·rintro r M6 eg bN ⟨xs,vL,eJ⟩
       obtain ⟨_,xa,xc,rfl,_⟩:=aF (by decide) (fun _ _=>dW) eJ
       simp only [aJ] at bN
       simp +contextual only [go_sem,sevalprocAttr,aI,fX]
       refine ⟨du [(b6,_),(b5,_)] (wo.trans eg) bN.2.2.1 ⟨rV.2.1,rV.2.2,trivial⟩,?_⟩
       intro b81 Z0 xI
       refine ⟨du [(b81,_),(b6,_),(b5,_)] (wo.trans eg) bN.2.2.1 ⟨⟨xI.2.2.2,xI.2.2.1⟩,rV.2.1,rV.2.2,trivial⟩,?_⟩
       refine dU _ _ _ ⟨rfl,?_,N9,M6,.mk 13 q.limit ei xs [] [p],[(b81,_)],_,_,_,_,_,_,_,_,_,_,_,hTN,wo.trans eg,⟨Z0,bN.1,bN.2.1,bN.2.2.1,trivial⟩,⟨⟨xI.2.2.2,xI.2.2.1⟩,trivial⟩,fun M'' h6 hh=>tJ eJ (wo.trans eg) h6 hh,by rw [Ut,KA pC vL],rfl⟩
       simp only [aG,aI,go_sem,sevalprocAttr]
      ·rintro ch M6 eg bN ⟨er,he,rfl⟩
       rw [jI]
       refine Wv (A:=[]) he hTN ?_ ?_ ?_<;>simp only [aI,go_sem,sevalprocAttr]
     ·intro b81 Z0 xI
      have Uu:b4≠b81/\b81≠b4:=⟨xI.2.2.2.2,xI.2.2.2.1⟩
      refine ⟨du [(b81,_),(b12,_),(b6,_),(b5,_)] bh.rfl' n4 ⟨Uu,rV.1,rV.2.1,rV.2.2,trivial⟩,?_⟩
      refine cQ (k:=fun h'=>∃ M5,bh M1 M5/\RS M5 GL 2 (names.map fun n=>(([]:Bs),n)) (.slice va (names.map fun n=>(([]:Bs),n)).length vc)/\M5 b12=some [.slice va (names.map fun n=>(([]:Bs),n)).length vc,.slice none 0 0,.pointer none,.pointer none]/\h'=⟨N9,M5,[(b81,[c0,c1,c2,c3,c4,c5,c6,c7,c8,c9,c10]),(b6,[.int .i64 0]),(b5,[.slice none 0 0]),(b4,[c0,c1,c2,c3,c4,c5,c6,c7,c8,c9,c10])],[]⟩)
       (ct bC (by omega) (by decide) ⟨Z0,lr,n6,n5,n4,trivial⟩ fun M5 dF bE cC=>dm (List.Perm.swap _ _ _) (aT fun he hb bi=>az ⟨_,dF.trans he,aL he (fun _ _ h=>h) cC,hb,rfl⟩)) ?_ F31.bd
      rintro h' ⟨M5,wo,ZK,YS,rfl⟩
      refine bS (E4 wo ZK YS) ?_ ?_
      ·rintro r M6 eg Ys ⟨xs,vL,eJ⟩
       obtain ⟨_,xa,xc,rfl,_⟩:=aF (by decide) (fun _ _=>dW) eJ
       simp only [aJ] at Ys
       obtain ⟨aeT,bN⟩:=Ys
       simp +contextual only [go_sem,sevalprocAttr,aI,fX,Uu]
       refine ⟨du [(b81,_),(b6,_),(b5,_)] (wo.trans eg) bN.2.2.1 ⟨Uu,rV.2.1,rV.2.2,trivial⟩,?_⟩
       refine dU _ _ _ ⟨rfl,?_,N9,M6,.mk 13 q.limit ei xs [] [p],[(b81,_)],_,_,_,_,_,_,_,_,_,_,_,hTN,wo.trans eg,⟨aeT,bN.1,bN.2.1,bN.2.2.1,trivial⟩,⟨Uu,trivial⟩,fun M'' h6 hh=>tJ eJ (wo.trans eg) h6 hh,by rw [Ut,KA pC vL],rfl⟩
       simp only [aG,aI,go_sem,sevalprocAttr]
      ·rintro ch M6 eg bN ⟨er,he,rfl⟩
       rw [jI]
       refine Wv (A:=[(b81,_)]) he hTN ?_ ?_ ?_<;>simp only [aI,go_sem,sevalprocAttr]
   ·simp +contextual only [go_sem,sevalprocAttr,pC]
    refine dU _ _ _ ⟨rfl,?_,T8,M1,p,[],c0,c1,c2,c3,c4,c5,c6,c7,c8,c9,c10,qI,bh.rfl',⟨n6,n5,n4,trivial⟩,trivial,fun M'' ajQ _=>bY ajQ _ _ hp,?_,rfl⟩
    ·simp only [aG,aI,e8,go_sem,sevalprocAttr]
    ·rw [Ut,Iw pC]
  ·clear aI ht e8 aN hi e ax Ut hp n6 n5 n4
   rintro e ds h ⟨rfl,aI,N,M2,p',A,c0,c1,c2,c3,c4,c5,c6,c7,c8,c9,c10,hN,bg,Zh,aiT,ajC,Ut,rfl⟩
   simp only [aG] at aI
   have rV:(b4≠b6/\b6≠b4)/\(b4≠b5/\b5≠b4):=⟨⟨fX.2.1.2,fX.2.1.1⟩,⟨fX.2.2.2,fX.2.2.1⟩⟩
   have jT:∀ {N:Tm} {M:aS} {A:LL},M b4=none ->ce b4 A ->Vc.fZ ⟨T,fun _=>none,[(b4,[c0,c1,c2,c3,c4,c5,c6,c7,c8,c9,c10])],[]⟩ ⟨N,M,A++[(b6,[.int .i64 0]),(b5,[.slice none 0 0]),(b4,[c0,c1,c2,c3,c4,c5,c6,c7,c8,c9,c10])],[]⟩:=by
    intro N M A h4 hA
    have Oe:∀ {A:LL},ce b4 A ->ce b4 (A++[(b6,[.int .i64 0]),(b5,[.slice none 0 0])]):=by
     intro A
     induction A with
     | nil=>intro _;exact ⟨rV.1,rV.2,trivial⟩
     | cons x A ih=>intro h;exact ⟨h.1,ih h.2⟩
    have:=dw (T0:=T) (T:=N) (M:=M) (A++[(b6,[.int .i64 0]),(b5,[.slice none 0 0])]) (L2:=[]) (R:=[]) (cs:=[c0,c1,c2,c3,c4,c5,c6,c7,c8,c9,c10]) h4 (Oe hA)
    simpa using this
   have cE:∀ {A:LL},aJ M2 (A++[(b6,[.int .i64 0]),(b5,[.slice none 0 0]),(b4,[c0,c1,c2,c3,c4,c5,c6,c7,c8,c9,c10])]) ->M2 b4=none:=by
    intro A h
    exact BB h b4 (by simp [keys])
   simp +contextual only [go_sem,sevalprocAttr,qB,jI]
   refine ⟨mU _ rfl,eL ⟨T,fun _=>none,[(b4,[c0,c1,c2,c3,c4,c5,c6,c7,c8,c9,c10])],[]⟩ (jT (cE Zh) aiT) ?_⟩
   simp +contextual only [go_sem,sevalprocAttr,aI]
   refine cQ (k:=fun h'=>∃ M3,bh M2 M3/\M3 b6=none/\M3 b5=none/\M3 b4=none/\jV M3 p' [c0,c1,c2,c3,c4,c5,c6,c7,c8,c9,c10]/\h'=⟨N,M3,[(b6,[.int .i64 0]),(b5,[.slice none 0 0]),(b4,[c0,c1,c2,c3,c4,c5,c6,c7,c8,c9,c10])],[]⟩)
    (AQ Zh fun M3 bM hA bi=>az ⟨M3,bM,bi.1,bi.2.1,bi.2.2.1,ajC M3 bM hA,rfl⟩) ?_ F18.bd
   rintro h' ⟨M3,bM,n6,n5,n4,hp,rfl⟩
   have h03:=(aV.trans bg).trans bM
   refine aD (uu (aL h03 (eu h03) hr) bw eI N) ?_
   rintro tv M4 dh cE zl
   obtain ⟨_,ta,tc,rfl,_⟩:=aF (by decide) (fun _ _=>fI) zl
   simp only [aJ] at cE
   simp +contextual only [go_sem,sevalprocAttr]
   refine ⟨du (M:=fun _=>none) [(b6,_),(b5,_)] (fun _ _ h=>by cases h) cE.2.2.1 ⟨rV.1,rV.2,trivial⟩,?_⟩
   refine aD (vT zl (bY dh _ _ hp) N) ?_
   rintro r M5 dF bE Ge
   obtain ⟨sv,er,rfl⟩:=kj Ge
   simp only [aJ] at bE
   have alJ:=fX
   cases Dl:gh (bQ rels) p' with
   | error er2=>
    rw [Dl] at Ge
    obtain ⟨Lf,sv2,wj⟩:=Ge
    injection wj with wj
    simp only [Array.mk.injEq,List.cons.injEq,and_true,Value.int.injEq,true_and] at wj
    obtain ⟨rfl,rfl⟩:=wj
    have z8:gT rels q=.error er:=by unfold gT;rw [Ut];simp only;rw [Dl]
    simp +contextual only [go_sem,aE,sevalprocAttr,qB,jI,aI,bE,Lf]
    refine ⟨mU _ rfl,eL ⟨T,fun _=>none,[(b6,[.int .i64 er])],[]⟩ (gA bE.1) ?_⟩
    simp +contextual only [go_sem,sevalprocAttr,FX,aI,fX]
    refine ⟨gA bE.1,gA bE.1,b4,b5,b6,_,rfl,rfl,?_⟩
    simp +contextual only [go_sem,sevalprocAttr,aI,bE,fX]
    refine am hN ?_
    unfold mr
    rw [z8]
    exact ⟨Lf,_,rfl,sL⟩
   | ok t=>
    rw [Dl] at Ge
    obtain ⟨sv2,wj,CW⟩:=Ge
    injection wj with wj
    simp only [Array.mk.injEq,List.cons.injEq,and_true,Value.int.injEq,true_and] at wj
    obtain ⟨rfl,rfl⟩:=wj
    have z8:gT rels q=.ok (p',ns names t):=by unfold gT;rw [Ut];simp only;rw [Dl]
    have IK:t.length<=names.length:=ag7 _ _ Ut Dl
    have uz:=Bl IK
    obtain ⟨_,sa,sc,rfl,_,_,hsg⟩:=aF (by decide) (fun _ _=>bV) CW
    have hp5:=bY (dh.trans dF) _ _ hp
    have wo:=(bg.trans bM).trans (dh.trans dF)
    simp +contextual only [go_sem,aE,sevalprocAttr,aI,bE]
    refine aY t.length 96 [(4,.pointer (some ⟨b4,0,none⟩)),(5,.pointer (some ⟨b5,0,none⟩)),(6,.pointer (some ⟨b6,0,none⟩)),(8,.slice na names.length nc),(94,.slice sa t.length sc),(95,.int .i64 (t.length:Int))]
     (fun i e h=>∃ R cv,kV 48 2 sA [] R cv ((ns names t).take i)/\h=⟨N,M5,[(b6,[.int .i64 0]),(b5,[cv]),(b4,[c0,c1,c2,c3,c4,c5,c6,c7,c8,c9,c10])],R⟩) 0 (by omega) (by simp only [aG,aI,go_sem,sevalprocAttr]) (by simp only [go_sem,sevalprocAttr]) ⟨[],_,dg,rfl⟩ ?_
    clear aI e
    rintro i e h hi aI ht ⟨R,cv,bC,rfl⟩
    simp only [aG] at aI
    obtain ⟨wa,wc,rfl⟩:=il bC
    have hzi:((ns names t).take i).length=i:=by rw [List.length_take];omega
    by_cases aN:i<t.length
    ·obtain ⟨bn,on,cn,rfl,Ze,VH⟩:=Xs i names[i] (gq (by omega))
     unfold pX at VH;subst VH
     have z0:=tV (Ze.ext wo)
     rw [Nat.mul_one] at z0
     obtain ⟨bt,ot,ct',rfl,Z2,HD⟩:=hsg i t[i] (gq aN)
     unfold RI at HD;subst HD
     have z1:=tV Z2
     rw [Nat.mul_one] at z1
     have hin:i<names.length:=by omega
     simp +contextual only [go_sem,aE,sevalprocAttr,qB,jI,aI,ht,aN,z1]
     refine ⟨mU _ rfl,eL ⟨T,M5,[(b5,[.slice wa ((ns names t).take i).length wc])],[]⟩ (du [(b6,_)] bh.rfl' bE.2.1 ⟨⟨fX.1.2,fX.1.1⟩,trivial⟩) ?_⟩
     simp +contextual only [go_sem,sevalprocAttr,aI,z0,bE,hin]
     intro b8 mG eA
     refine ⟨du [(b8,_),(b6,_)] bh.rfl' bE.2.1 ⟨⟨eA.2.1.2,eA.2.1.1⟩,⟨fX.1.2,fX.1.1⟩,trivial⟩,?_⟩
     refine cy (x:=(⟨names[i],t[i]⟩:Co)) Tryz.underlying43 Gv E7 bC rfl (fun _ _=>eU) (Tz (c:=⟨names[i],t[i]⟩) rfl) mG (by rw [hzi];omega) (by decide) ?_
     intro fv' R' bI
     obtain ⟨va,vc,QC⟩:=il bI
     have eG:(ns names t).take (i+1)=(ns names t).take i++[⟨names[i],t[i]⟩]:=by
      rw [List.take_succ,Gb aN IK];rfl
     rw [<- eG] at bI
     subst QC
     simp +contextual only [go_sem,sevalprocAttr,aI,ht,fX,eA]
     refine ⟨du [(b8,_),(b6,_)] bh.rfl' bE.2.1 ⟨⟨eA.2.1.2,eA.2.1.1⟩,⟨fX.1.2,fX.1.1⟩,trivial⟩,?_⟩
     refine aR (ak (az ⟨t.length - (i+1),by omega,rfl,i+1,by omega,rfl,?_,?_,R',_,bI,rfl⟩))
     ·simp only [aG,aI,go_sem,sevalprocAttr]
     ·simp only [go_sem,sevalprocAttr,aB i (by omega)]
    ·have:i=t.length:=by omega
     subst this
     simp +contextual only [go_sem,aE,sevalprocAttr,qB,jI,aI,ht,aN]
     refine ⟨mU _ rfl,aU ?_⟩
     simp +contextual only [go_sem,sevalprocAttr,FX,aI,bE,fX]
     obtain ⟨_,_,_,_,_,_,_,_,_,_,_,hcx,hc⟩:=cU hp5
     cases hcx
     refine ⟨hc,fZ.refl _,b4,b5,b6,_,rfl,rfl,?_⟩
     simp +contextual only [go_sem,sevalprocAttr,aI,bE,fX]
     refine ct bC (by omega) (by decide) ⟨bE.1,bE.2.1,bE.2.2.1,trivial⟩ fun M6 eg bN cC=>am hN ?_
     have TV:(ns names t).take t.length=ns names t:=List.take_of_length_le (by omega)
     rw [TV] at cC
     unfold mr
     rw [z8]
     refine ⟨_,_,rfl,bY eg _ _ hp5,?_⟩
     rw [TV];exact cC
end Go.Proofs.YtmccpbcbofhmlaaGreatDoor

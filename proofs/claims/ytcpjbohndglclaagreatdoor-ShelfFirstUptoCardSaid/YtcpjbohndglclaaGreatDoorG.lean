import Derived.Test.YtcpjbohndglclaaGreatDoorF
import Derived.Test.YtcpjbohndglclaaGreatDoorC
import Derived.Shelf.Strings.Builder1
import Derived.Shelf.Small.Bits
import Derived.Shelf.Small.Strs
import Derived.Shelf.Strconv.Itoa0
import Derived.Shelf.Strconv.Itoa1
import Derived.Shelf.LaysM
import Derived.Shelf.Strconv.Itoa2
import Derived.Shelf.Strconv.Itoa3
import Derived.Shelf.Strconv.ParseIntEmpty
import Derived.Shelf.Strconv.Clone
import Derived.Shelf.Strconv.SyntaxError
import Derived.Shelf.LaysC
import Derived.Shelf.Strconv.ToError
import Derived.Shelf.Strconv.Lower
import Derived.Shelf.Strconv.ParseUint10
import Derived.Shelf.Strconv.ParseUint10Empty
import Derived.Shelf.Strconv.ParseUint10Any
import Derived.Shelf.Strconv.ParseInt10
import Derived.Shelf.Strconv.RangeError
import Derived.Shelf.Strconv.ToErrorRange
import Derived.Shelf.Strconv.ParseUintEmpty
import Derived.Shelf.Strconv.ParseUint10b64
import Derived.Shelf.Strconv.ParseUint10b32
import Derived.Shelf.Strconv.ParseUint10b16
import Derived.Shelf.Strconv.ParseUint10b8
import Derived.Shelf.Strconv.ParseUint10At
import Derived.Shelf.Strconv.ParseInt10At64
import Derived.Shelf.Strconv.ParseInt10At32
import Derived.Shelf.Strconv.ParseInt10At16
import Derived.Shelf.Strconv.ParseInt10At8
import Derived.Shelf.Strconv.ParseInt10All
import Derived.Shelf.Strconv.ParseIntPublic10
import Derived.Shelf.Strings.Search1
import Derived.Shelf.Strings.Prefix
import Derived.Shelf.Strings.Fields
import Derived.Shelf.Strings.SplitShaped
import Derived.Shelf.Unicode.Latin
import Derived.Shelf.Unicode.Is16White
import Derived.Shelf.Unicode.IsSpaceAny
import Derived.Shelf.Unicode.Is16Any
import Derived.Shelf.Unicode.Is32Any
import Derived.Shelf.Unicode.ExclAny
import Derived.Ground.Names2Prog
import Derived.Shelf.Slices.Clone
import Derived.Shelf.Slices.SearchI
import Derived.Ground.SlgnProg
import Derived.Shelf.SlicesE.Clone
import Derived.Test.YtcpjbohndglclaaGreatDoorProg
set_option linter.all false
namespace Go.Proofs.YtcpjbohndglclaaGreatDoor
open Go Vc
set_option maxRecDepth 10000
def AW {M:aR}{p:Pl}{c0 c1 c2 c3 c4 c5 c6 c7 c8 c9 c10:Value}(h:gP M p [c0,c1,c2,c3,c4,c5,c6,c7,c8,c9,c10]):c0.oneCell'=true/\c1.oneCell'=true/\c2.oneCell'=true/\c3.oneCell'=true/\c4.oneCell'=true/\c5.oneCell'=true/\c6.oneCell'=true/\c7.oneCell'=true/\c8.oneCell'=true/\c9.oneCell'=true/\c10.oneCell'=true:=by
 have:=yk h
 simpa using this
abbrev Ew:List Value:=[.int .i64 0,.int .i64 0,.int .i64 0,.int .i64 0,.int .i64 0,st [],.int .i64 0,.slice none 0 0,.slice none 0 0,.slice none 0 0,.slice none 0 0]
def aeJ (r:Pl×List Bs)(v:Value)(M:aR):Prop:=∃ cs nv,v=.tuple ⟨[.agg ⟨cs⟩,nv]⟩/\gP M r.1 cs/\RS M rC 1 r.2 nv
def WP {M:aR}{bb b o:Nat}{rels:List Rel}{rv:Value}{s:Se}{cs:List Value}(hr:RS M (ig M) 14 rels rv)(XD:M bb=some [rv])(eD:∀ r∈rels,r.cols.length<=1048576)(bP:At M b o cs)(hs:HS M s cs)(ce:OkSe s)(T:Tm):
 bU Tryz.prog 91 [.pointer (some ⟨bb,0,none⟩),.pointer (some ⟨b,o,none⟩)] T M [] [] (wU aeJ (th rels s)) (rK (th rels s)):=by
 obtain ⟨ai,aj,af,ag,aw,ah,ap,aq,rfl,hi,hf,hw,hv,ul,ow,ov⟩:=Ql hs
 obtain ⟨y0,y1,y2,y3,y4,y5,y6,y7,y8,y9,y10,y11,y12,y13,y14,y15,y16,y17,y18,y19,y20⟩:=H6 bP
 refine az F91 rfl rfl ?_
 intro bj _
 simp +contextual only [go_sem,sevalprocAttr,y3]
 intro b4 T4 eH fE iJ
 refine bX (WW hr XD eD hf ce.src ce.on T4) ?_ ?_
 rotate_left
 ·rintro ch M1 aW bD ⟨er,he,rfl⟩
  exact mW fE (Uy he)
 rintro v M1 aW bD ⟨⟨p,names⟩,hfm,qs,sc,rfl,hp,OF⟩
 simp only at hp OF
 have anl:names.length<=16777216:=by have h1:=B0 eD hfm;have h2:=ce.src;simp only at h1;omega
 obtain ⟨c0,c1,c2,c3,c4,c5,c6,c7,c8,c9,c10,rfl,hc⟩:=cT hp
 simp only [aJ] at bD
 replace y4:=ay aW y4
 simp +contextual only [go_sem,sevalprocAttr,hc,y4]
 intro b6 T6 pA gR ug DL
 have EF:=bL aW _ _ hw
 have akh:At M1 b (o+6) [.int .i64 s.wh.k,.int .i64 s.wh.v.k,.int .i64 s.wh.v.n,st s.wh.v.t,st s.wh.tab,st s.wh.name,aw]:=by
  have h1:=bP.ext aW
  exact (fF.1 (fF.1 (show At M1 b o ([_,_,_,_,_,_]++([_,_,_,_,_,_,_]++[_,_,_,_,_,_,_,_])) from h1)).2).1
 refine fg (fun e ds h=>ds=[]/\aE e [(0,.pointer (some ⟨bb,0,none⟩)),(1,.pointer (some ⟨b,o,none⟩)),(4,.pointer (some ⟨b4,0,none⟩)),(6,.pointer (some ⟨b6,0,none⟩)),(7,.pointer (some ⟨sc,0,none⟩))]/\∃ M2 p2 c0 c1 c2 c3 c4 c5 c6 c7 c8 c9 c10,bm M1 M2/\M2 b6=none/\M2 b4=none/\gP M2 p2 [c0,c1,c2,c3,c4,c5,c6,c7,c8,c9,c10]/\th rels s=qx s p2 names/\
  h=⟨T6,M2,[(b6,[c0,c1,c2,c3,c4,c5,c6,c7,c8,c9,c10]),(b4,Ew)],[]⟩) (fun S' fh=> ?_) ?_
 ·cases hW:s.hasW with
  | false=>
   simp +contextual only [go_sem,aD,sevalprocAttr]
   refine fh _ _ _ ⟨rfl,?_,M1,p,c0,c1,c2,c3,c4,c5,c6,c7,c8,c9,c10,bm.rfl',pA,bD.1,hp,?_,rfl⟩
   ·simp only [aE,go_sem,sevalprocAttr]
   ·have:=Mr (s:=s) hfm (w:=dR) (by unfold Cn;rw [hW];rfl)
    rw [this,hW];rfl
  | true=>
   simp +contextual only [go_sem,aD,sevalprocAttr]
   refine aT ?_
   simp +contextual only [go_sem,sevalprocAttr,pA]
   obtain ⟨lvs,iQ,nW,_⟩:=OF
   refine bX (exB names _ s.wh (Nat.le_refl _) (ce.wh hW) M1 T6 sc lvs _ _ b (o+6) _ nW iQ akh EF) ?_ ?_
   ·rintro r M2 bh aZ ⟨x,hx,xs,rfl,xm⟩
    obtain ⟨s6,rfl,ZK,_⟩:=dG xm
    simp only [aJ] at aZ
    simp +contextual only [go_sem,sevalprocAttr]
    refine ⟨dL bh ⟨aZ.1,aZ.2.1,trivial⟩,?_⟩
    refine aF (BE xm (bA bh _ _ hp) T6) ?_
    rintro r M3 bG bC ⟨fs,rfl,hfe⟩
    obtain ⟨f0,f1,f2,f3,f4,f5,f6,f7,f8,f9,f10,rfl,hff⟩:=cT hfe
    simp only [aJ] at bC
    simp +contextual only [go_sem,sevalprocAttr,hff]
    refine fh _ _ _ ⟨rfl,?_,M3,_,f0,f1,f2,f3,f4,f5,f6,f7,f8,f9,f10,bh.trans bG,bC.1,bC.2.1,hfe,?_,rfl⟩
    ·simp only [aE,go_sem,sevalprocAttr]
    ·have:=Mr (s:=s) hfm (w:=x) (by unfold Cn;rw [hW];exact hx)
     rw [this,hW];rfl
   ·rintro ch M2 bh aZ ⟨er,he,rfl⟩
    exact mW (fE.trans ug) (Pj hfm (by unfold Cn;rw [hW];exact he))
 clear hp hc y4
 rintro e ds h ⟨rfl,aI,M2,p2,c0,c1,c2,c3,c4,c5,c6,c7,c8,c9,c10,bh,n6,n4,hp,xk,rfl⟩
 rw [xk]
 clear xk hfm
 simp only [aE] at aI
 have eb:=aW.trans bh
 replace OF:=OF.ext bh
 have z:=H6 (bP.ext eb)
 have hc:=AW hp
 have Sq:=fE.trans ug
 simp only [KL]
 refine lS (fun e ds h=>ds=[]/\aE e [(0,.pointer (some ⟨bb,0,none⟩)),(1,.pointer (some ⟨b,o,none⟩)),(4,.pointer (some ⟨b4,0,none⟩)),(6,.pointer (some ⟨b6,0,none⟩)),(7,.pointer (some ⟨sc,0,none⟩)),(8,.bool (mf s))]/\∃ M3,bm M2 M3/\M3 b6=none/\M3 b4=none/\
  h=⟨T6,M3,[(b6,[c0,c1,c2,c3,c4,c5,c6,c7,c8,c9,c10]),(b4,Ew)],[]⟩) (fun S' fh=> ?_) ?_
 ·have hg:mf s=(if 0<s.group.length\/s.hasH=true then true else if s.star=true then false else s.items.any fun i=>rE i.x):=by
   unfold mf
   by_cases h1:0<s.group.length<;>cases s.hasH<;>cases s.star<;>simp [h1]
  have ZD:(0<(s.group.length:Int))=(0<s.group.length):=by simp
  by_cases hA:0<(s.group.length:Int)\/s.hasH=true
  ·rw [if_pos (by rwa [ZD] at hA)] at hg
   simp +contextual only [go_sem,sevalprocAttr,aI,z,hA]
   refine fh _ _ _ ⟨rfl,?_,M2,bm.rfl',n6,n4,rfl⟩
   rw [hg]
   simp only [aE,aI,go_sem,sevalprocAttr]
  ·rw [if_neg (by rwa [ZD] at hA)] at hg
   cases hS:s.star with
   | true=>
    rw [hS,if_pos rfl] at hg
    simp +contextual only [go_sem,sevalprocAttr,aI,z,hA,hS]
    refine fh _ _ _ ⟨rfl,?_,M2,bm.rfl',n6,n4,rfl⟩
    rw [hg]
    simp only [not_or] at hA
    simp only [aE,aI,hA,go_sem,sevalprocAttr]
   | false=>
    rw [hS,if_neg (by decide)] at hg
    simp +contextual only [go_sem,sevalprocAttr,aI,z,hA,hS]
    refine aF (Du (aH eb (jU eb) hi) T6) ?_
    rintro r M3 bG bC rfl
    simp only [aJ] at bC
    simp +contextual only [go_sem,sevalprocAttr,hA]
    refine fh _ _ _ ⟨rfl,?_,M3,bG,bC.1,bC.2.1,rfl⟩
    rw [hg]
    simp only [not_or] at hA
    simp only [aE,aI,hA,go_sem,sevalprocAttr]
 rintro e ds h ⟨rfl,aI,M3,bG,n6',n4',rfl⟩
 clear z n6 n4
 simp only [aE] at aI
 have tw:=eb.trans bG
 replace OF:=OF.ext bG
 replace hp:=bA bG _ _ hp
 have z:=H6 (bP.ext tw)
 simp +contextual only [go_sem,sevalprocAttr,aI]
 obtain ⟨lvs,iQ,nW,F2⟩:=OF
 refine fg (fun e ds h=>ds=[]/\aE e [(1,.pointer (some ⟨b,o,none⟩)),(4,.pointer (some ⟨b4,0,none⟩)),(6,.pointer (some ⟨b6,0,none⟩))]/\(s.star=true ->e 7=.pointer (some ⟨sc,0,none⟩))/\∃ N' M' L' R' q,h=⟨N',M',L',R'⟩/\aG T6 N'/\bm M3 M'/\(if mf s=true then oT s p2 names else zR s p2 names)=.ok q/\
  cq h (fun h'=>∃ M'' qs,bm M' M''/\h'=⟨N',M'',[(b6,qs),(b4,Ew)],[]⟩/\M'' b6=none/\M'' b4=none/\gP M'' q qs)) (fun S' fh=> ?_) ?_
 ·have PY:∀ {M':aR},bm M3 M' ->RS M' (AP M') 8 s.items (.slice ai s.items.length aj):=fun he=>aH (tw.trans he) (jU (tw.trans he)) hi
  cases hG:mf s with
  | false=>
   have LF:qx s p2 names=match zR s p2 names with | .error e=> .error e | .ok q=> .ok (if s.distinct=true then qn 11 q else q,if s.star=true then names.map (·.2) else jc 0 s.items):=by unfold qx;rw [hG];rfl
   cases hS:s.star with
   | true=>
    simp +contextual only [go_sem,aD,sevalprocAttr,aI,z,hS]
    refine fh _ _ _ ⟨rfl,?_,fun _=> ?_,T6,M3,_,_,p2,rfl,aG.rfl',bm.rfl',?_,aC ⟨M3,_,bm.rfl',rfl,n6',n4',hp⟩⟩
    ·simp only [aE,aI,go_sem,sevalprocAttr]
    ·simp only [aI,go_sem,sevalprocAttr]
    ·rw [hG,if_neg (by decide)];unfold zR;rw [hS];rfl
   | false=>
    simp +contextual only [go_sem,aD,sevalprocAttr,aI,z,hS,n6']
    intro bk fp nS b14 T14 Sx pZ Xo ae6
    obtain ⟨ZA,SL⟩:=ce.its hS
    have ald:∀ {e:Int},eN names (s.items.map (·.x))=.error e ->qx s p2 names=.error e:=fun h=>by rw [LF];unfold zR;rw [hS,h];rfl
    obtain ⟨hib,_,hig⟩:s.items.length*8<=4398046511104/\s.items.length<=aj/\∀ (i:Nat) (x:It),s.items[i]?=some x ->∃ b o cs,ai=some ⟨b,o,none⟩/\At M3 b (o+i*8) cs/\AP M3 x cs:=by
     obtain ⟨h1,a',c',h2,h3,_,h4⟩:=ax (by decide) (fun _ _=>kU) (PY bm.rfl')
     injection h2 with h5 h6 h7
     subst h5 h7
     exact ⟨h1,h3,h4⟩
    refine aO s.items.length 145 [(1,.pointer (some ⟨b,o,none⟩)),(4,.pointer (some ⟨b4,0,none⟩)),(6,.pointer (some ⟨b6,0,none⟩)),(7,.pointer (some ⟨sc,0,none⟩)),(14,.pointer (some ⟨b14,0,none⟩)),(144,.int .i64 (s.items.length:Int))]
     (fun i e h=>∃ M' R fv acc,bm M3 M'/\M' b14=none/\M' bk=none/\M' b6=none/\M' b4=none/\h=⟨T14,M',[(b14,[.int .i64 3,.int .i64 0,.int .i64 0,.int .i64 0,.int .i64 0,st [],.int .i64 0,.slice none 0 0,fv,.slice none 0 0,.slice (some ⟨bk,0,none⟩) 1 1]),(bk,[c0,c1,c2,c3,c4,c5,c6,c7,c8,c9,c10]),(b6,[c0,c1,c2,c3,c4,c5,c6,c7,c8,c9,c10]),(b4,Ew)],R⟩/\acc.length=i/\kY 116 6 (hY M') [] R fv acc/\rL acc (eN names ((s.items.drop i).map (·.x)))=eN names (s.items.map (·.x)))
     0 (by omega) (by simp only [aE,aI,go_sem,sevalprocAttr]) (by simp only [go_sem,sevalprocAttr]) ⟨M3,[],_,[],bm.rfl',Sx,fp,n6',n4',rfl,rfl,cV,qt _⟩ ?_
    rintro i e h DO dI ht ⟨M4,R4,fv,acc,dz,k14,kk,k6,k4,rfl,js,bq,am⟩
    simp only [aE] at dI
    obtain ⟨fa,fc,Zw⟩:=eI bq
    by_cases aL:i<s.items.length
    ·obtain ⟨b',o',cs',rfl,Jb,eh⟩:=hig i s.items[i] (gq aL)
     obtain ⟨aw',rfl,H3,qW⟩:=nL eh
     have abu:=(fF.1 (show At M3 b' (o'+i*8) ([_,_,_,_,_,_,_]++[_]) from Jb)).1
     have bK:s.items.drop i=s.items[i]::s.items.drop (i+1):=dq aL
     rw [bK,List.map_cons] at am
     have z2:=ay dz z.2.2.1
     subst Zw
     simp +contextual only [go_sem,aD,sevalprocAttr,dI,ht,aL]
     refine aT ?_
     simp +contextual only [go_sem,sevalprocAttr,dI,aL,z2,k14]
     refine bX (exB names _ s.items[i].x (Nat.le_refl _) (SL _ (gm aL)) M4 T14 sc lvs _ _ b' _ _ (aH dz (fun _ _ h=>h) nW) (dz _ _ iQ) (abu.ext dz) (bL dz _ _ H3)) ?_ ?_
     ·rintro r M5 dN bS ⟨x,hx,xs,rfl,xm⟩
      rw [BT hx,<- oe] at am
      obtain ⟨s6,rfl,ZK,_⟩:=dG xm
      simp only [aJ] at bS
      simp +contextual only [go_sem,sevalprocAttr]
      refine ⟨dL dN ⟨bS.1,bS.2.1,bS.2.2.1,bS.2.2.2.1,trivial⟩,?_⟩
      intro b20 sR il
      refine ⟨dJ dN ⟨bS.1,bS.2.1,bS.2.2.1,bS.2.2.2.1,trivial⟩ ⟨il.1,il.2.1,il.2.2.1,il.2.2.2,trivial⟩,?_⟩
      refine cB (Tryz.underlying114) Am zW (fY (cN dN) bq) xm (fun _ _=>dS) (nK xm) sR (by omega) (by decide) ?_
      intro fv' R' bw
      obtain ⟨fa',fc',rfl⟩:=eI bw
      simp +contextual only [go_sem,sevalprocAttr,dI,ht,il]
      refine ⟨dJ dN ⟨bS.1,bS.2.1,bS.2.2.1,bS.2.2.2.1,trivial⟩ ⟨il.1,il.2.1,il.2.2.1,il.2.2.2,trivial⟩,?_⟩
      refine aS (al (aC ⟨s.items.length - (i+1),by omega,rfl,i+1,by omega,rfl,?_,?_,M5,R',_,acc++[x],dz.trans dN,bS.1,bS.2.1,bS.2.2.1,bS.2.2.2.1,rfl,?_,bw,am⟩))
      ·simp only [aE,dI,go_sem,sevalprocAttr]
      ·simp only [go_sem,sevalprocAttr,aA i (by omega)]
      ·rw [List.length_append,js];rfl
     ·rintro ch M5 dN bS ⟨er,he,rfl⟩
      rw [yT he] at am
      exact mW (Sq.trans Xo) (ald am.symm)
    ·have:i=s.items.length:=by omega
     subst this
     rw [List.drop_length] at am
     simp only [List.map_nil,eN,rL,List.append_nil] at am
     subst Zw
     simp +contextual only [go_sem,aD,sevalprocAttr,dI,ht,aL,k14,pZ,nS]
     refine fh _ _ _ ⟨rfl,?_,fun h=>(by rw [hS] at h;cases h),T14,M4,_,_,.mk 3 0 dR acc [] [p2],rfl,Xo,dz,?_,?_⟩
     ·simp only [aE,dI,go_sem,sevalprocAttr]
     ·rw [hG,if_neg (by decide)];unfold zR;rw [hS,<- am];rfl
     ·refine ct bq (by omega) (by decide) ⟨k14,kk,k6,k4,trivial⟩ fun M5 dN bS cH=>al (aU fun he hk bW=>aC ⟨_,_,dN.trans he,rfl,bW.1,bW.2.1,?_⟩)
      exact jB (fN _) (aH he (cN (dN.trans he)) cH) bz (kW hk (bA ((dz.trans dN).trans he) _ _ hp))
  | true=>
   have LF:qx s p2 names=match oT s p2 names with | .error e=> .error e | .ok q=> .ok (if s.distinct=true then qn 11 q else q,if s.star=true then names.map (·.2) else jc 0 s.items):=by unfold qx;rw [hG];rfl
   cases hS:s.star with
   | true=>
    simp +contextual only [go_sem,aD,sevalprocAttr,aI,z,hS]
    exact vu Sq (by rw [LF];unfold oT;rw [hS];rfl)
   | false=>
    have hgm:oT s p2 names=match eN names s.group with
     | .error e=> .error e
     | .ok aV=>match fS names s.group (s.items.map (·.x)) [] with
      | .error e=> .error e
      | .ok it=>match Cp names s.group s.hasH s.hv it.2 with
       | .error e=> .error e
       | .ok h=> .ok (.mk 3 0 dR it.1 [] [if s.hasH=true then oS h.1 (.mk 12 0 dR aV h.2 [p2]) else .mk 12 0 dR aV h.2 [p2]]):=by unfold oT;rw [hS];rfl
    have lL:∀ {e:Int},oT s p2 names=.error e ->qx s p2 names=.error e:=fun h=>by rw [LF,h]
    obtain ⟨ZA,SL⟩:=ce.its hS
    have Jh:=ce.cnt hS
    simp +contextual only [go_sem,aD,sevalprocAttr,aI,z,hS]
    intro b9 T9 qY gY uR pY
    refine bX (Dz (fun x hx=>exB names _ x (Nat.le_refl _) (ce.grp.2 x hx)) (by have:=ce.grp.1;omega) nW iQ (aH tw (bL tw) ul) T9) ?_ ?_
    rotate_left
    ·rintro ch M4 dz de ⟨er,he,rfl⟩
     exact mW (Sq.trans uR) (lL (by rw [hgm,he]))
    rintro kv M4 dz de ⟨keysE,hkE,P1⟩
    simp only [aJ] at de
    replace z:=H6 ((bP.ext tw).ext dz)
    simp +contextual only [go_sem,aD,sevalprocAttr,aI,z]
    intro b85 T85 afm afc abm amJ
    have hT':=(Sq.trans uR).trans abm
    have h34:=tw.trans dz
    obtain ⟨hib,_,hig⟩:s.items.length*8<=4398046511104/\s.items.length<=aj/\∀ (i:Nat) (x:It),s.items[i]?=some x ->∃ b o cs,ai=some ⟨b,o,none⟩/\At M3 b (o+i*8) cs/\AP M3 x cs:=by
     obtain ⟨h1,a',c',h2,h3,_,h4⟩:=ax (by decide) (fun _ _=>kU) (PY bm.rfl')
     injection h2 with h5 h6 h7
     subst h5 h7
     exact ⟨h1,h3,h4⟩
    have VQ:s.group.length<=1048576:=by have:=ce.grp.1;omega
    refine bR s.items.length 91 [(1,.pointer (some ⟨b,o,none⟩)),(4,.pointer (some ⟨b4,0,none⟩)),(6,.pointer (some ⟨b6,0,none⟩)),(7,.pointer (some ⟨b85,0,none⟩)),(9,.pointer (some ⟨b9,0,none⟩)),(10,kv),(90,.int .i64 (s.items.length:Int))]
     (fun i e h=>∃ M' L' R0 R' fv acc ags,bm M4 M'/\aJ M' ([(b6,[c0,c1,c2,c3,c4,c5,c6,c7,c8,c9,c10]),(b4,Ew)]++L')/\h=⟨T85,M',[(b6,[c0,c1,c2,c3,c4,c5,c6,c7,c8,c9,c10]),(b4,Ew)]++L',R'⟩/\e 11=fv/\acc.length=i/\VY M' b9 L' R0 ags/\kY 116 6 (hY M') R0 R' fv acc/\
      Gs M' b85 b9 sc names s.group lvs (.slice ap s.group.length aq) (.slice none 0 0) (.slice none 0 0) (.pointer none)/\ags.length+yC ((s.items.drop i).map (·.x))+hvC s<=1048576/\GP acc (fS names s.group ((s.items.drop i).map (·.x)) ags)=fS names s.group (s.items.map (·.x)) [])
     0 (by omega) (by simp only [aE,aI,go_sem,sevalprocAttr]) (by simp only [go_sem,sevalprocAttr]) ?_ ?_
    ·refine aU fun he h85 bS=>dk (L':=[(b6,[c0,c1,c2,c3,c4,c5,c6,c7,c8,c9,c10]),(b4,Ew),(b9,[.slice none 0 0])]) ?_ (eF (aC ⟨_,[(b9,[.slice none 0 0])],[(.slice none 0 0,281,7,[])],_,_,[],[],he,⟨bS.2.1,bS.2.2.1,bS.1,trivial⟩,rfl,(by simp only [go_sem,sevalprocAttr]),rfl,⟨none,0,[],rfl,rfl,rfl⟩,cV,⟨h85,he _ _ (dz _ _ iQ),aH (dz.trans he) (fun _ _ h=>h) nW,aH (h34.trans he) (bL (h34.trans he)) ul⟩,?_,GQ _⟩))
     ·exact (List.perm_append_comm (l₁:=[(b9,_)]) (l₂:=[(b6,_),(b4,_)]))
     ·simp only [List.drop_zero,List.length_nil];omega
    rintro i e h DO dI ht ⟨M5,L5,R0,R5,fv,acc,ags,dN,bS,rfl,e11,js,hA,bq,hGs,Zp,am⟩
    simp only [aE] at dI
    obtain ⟨hkA,hrA⟩:=tD hA
    by_cases aL:i<s.items.length
    ·obtain ⟨b',o',cs',rfl,Jb,eh⟩:=hig i s.items[i] (gq aL)
     obtain ⟨aw',rfl,H3,qW⟩:=nL eh
     have abu:=(fF.1 (show At M3 b' (o'+i*8) ([_,_,_,_,_,_,_]++[_]) from Jb)).1
     have bK:s.items.drop i=s.items[i]::s.items.drop (i+1):=dq aL
     rw [bK,List.map_cons] at am Zp
     rw [yC] at Zp
     have z2:=ay dN z.2.2.1
     have h35:=dz.trans dN
     simp +contextual only [go_sem,aD,sevalprocAttr,dI,ht,aL,z2]
     refine vP [(b6,_),(b4,_)] (exG names s.group VQ _ s.items[i].x (Nat.le_refl _) (SL _ (gm aL)) M5 T85 b85 b9 sc lvs _ _ _ _ b' _ _ ags L5 R0 hGs (abu.ext h35) (bL h35 _ _ H3) hA (by omega)) bq ?_ ?_
     ·rintro v M6 L6 R6 R7 eO hk6 hr6 bW ⟨y,ag2,hy,⟨cs,rfl,zC⟩,PR⟩ fB
      rw [BU hy,<- Cu] at am
      have uo:=qT _ _ _ _ hy
      have cK:=dS zC
      simp +contextual only [go_sem,sevalprocAttr,e11,cK]
      intro b16 Oq Ln
      refine cB (Tryz.underlying114) Am zW (fY (cN eO) fB) zC (fun _ _=>dS) (nK zC) Oq (by omega) (by decide) ?_
      intro fv' R' bw
      simp +contextual only [go_sem,sevalprocAttr,ht]
      refine aS (al (aC ⟨s.items.length - (i+1),by omega,rfl,i+1,by omega,rfl,?_,?_,M6,L6,R6,R',fv',acc++[y],ag2,dN.trans eO,bW,rfl,?_,?_,PR,bw,hGs.ext eO,by omega,am⟩))
      ·simp only [aE,dI,go_sem,sevalprocAttr]
      ·simp only [go_sem,sevalprocAttr,aA i (by omega)]
      ·simp only [go_sem,sevalprocAttr]
      ·rw [List.length_append,js];rfl
     ·rintro ch M6 L6 R6 R7 eO hk6 hr6 ⟨er,he,rfl⟩
      rw [yU he] at am
      exact mW hT' (lL (by rw [hgm,hkE];simp only;rw [show fS names s.group (s.items.map (·.x)) []=.error er from am.symm]))
    ·have:i=s.items.length:=by omega
     subst this
     rw [List.drop_length] at am Zp
     simp only [List.map_nil,fS,GP,List.append_nil] at am
     simp only [List.map_nil,yC,Nat.add_zero] at Zp
     have h35:=dz.trans dN
     replace z:=H6 (((bP.ext tw).ext dz).ext dN)
     have n6:M5 b6=none/\M5 b4=none:=⟨bS.1,bS.2.1⟩
     have n9:M5 b9=none:=by
      obtain ⟨a,c,xs,rfl,rfl,_⟩:=hA
      exact bS.2.2.1
     simp +contextual only [go_sem,sevalprocAttr,dI,ht]
     rw [dM,if_neg (by simp)]
     simp +contextual only [go_sem,sevalprocAttr,dI,aL,z]
     intro b13 T13 Jc FP DK Sr
     have hTT:=hT'.trans DK
     have aeP:¬ b13=b9/\¬ b9=b13:=by
      obtain ⟨a,c,xs,rfl,rfl,_⟩:=hA
      exact FP.2.2.1
     refine fg (fun e ds h=>ds=[]/\aE e [(1,.pointer (some ⟨b,o,none⟩)),(4,.pointer (some ⟨b4,0,none⟩)),(6,.pointer (some ⟨b6,0,none⟩)),(9,.pointer (some ⟨b9,0,none⟩)),(10,kv),(11,fv),(13,.pointer (some ⟨b13,0,none⟩))]/\∃ M' aa an axs R' x x0 x1 x2 x3 x4 x5 ags',bm M5 M'/\(M' b13=none/\M' b6=none/\M' b4=none/\M' b9=none)/\hY M' x [x0,x1,x2,x3,x4,x5]/\(x0.oneCell'=true/\x1.oneCell'=true/\x2.oneCell'=true/\x3.oneCell'=true/\x4.oneCell'=true/\x5.oneCell'=true)/\Cp names s.group s.hasH s.hv ags=.ok (x,ags')/\RL (AV M') ags' axs/\ags'.length<=1048576/\
      kY 116 6 (hY M') [(.slice aa ags'.length an,281,7,axs)] R' fv acc/\
      h=⟨T13,M',[(b13,[x0,x1,x2,x3,x4,x5]),(b6,[c0,c1,c2,c3,c4,c5,c6,c7,c8,c9,c10]),(b4,Ew),(b9,[.slice aa ags'.length an])],R'⟩) (fun S'' ae4=> ?_) ?_
     ·cases hH:s.hasH with
      | false=>
       obtain ⟨a,c,xs,rfl,rfl,fq⟩:=hA
       simp +contextual only [go_sem,aD,sevalprocAttr]
       refine ae4 _ _ _ ⟨rfl,?_,M5,a,c,xs,R5,dR,_,_,_,_,_,_,ags,bm.rfl',⟨Jc,n6.1,n6.2,n9⟩,fN _,⟨rfl,rfl,rfl,rfl,rfl,rfl⟩,by unfold Cp;rw [hH];rfl,fq,by omega,bq,rfl⟩
       simp only [aE,dI,e11,go_sem,sevalprocAttr]
      | true=>
       have hvc:=acr hH
       have akd:At M5 b (o+13) [.int .i64 s.hv.k,.int .i64 s.hv.v.k,.int .i64 s.hv.v.n,st s.hv.v.t,st s.hv.tab,st s.hv.name,ah]:=
        (fF.1 (fF.1 (show At M5 b o ([_,_,_,_,_,_,_,_,_,_,_,_,_]++([_,_,_,_,_,_,_]++[_])) from bP.ext (tw.trans h35))).2).1
       simp +contextual only [go_sem,aD,sevalprocAttr,dI]
       refine vP [(b13,_),(b6,_),(b4,_)] (exG names s.group VQ _ s.hv (Nat.le_refl _) (ce.hv hH) M5 T13 b85 b9 sc lvs _ _ _ _ b (o+13) _ ags L5 R0 hGs akd (bL (tw.trans h35) _ _ hv) hA (by omega)) bq ?_ ?_
       ·rintro v M6 L6 R6 R7 eO hk6 hr6 bW ⟨y,ag2,hy,⟨cs,rfl,zC⟩,PR⟩ fB
        have uo:=qT _ _ _ _ hy
        obtain ⟨a,c,xs,rfl,rfl,fq⟩:=PR
        obtain ⟨s6,rfl,ZK,_⟩:=dG zC
        simp only [nn,aJ] at bW
        simp +contextual only [go_sem,sevalprocAttr,ZK]
        refine ae4 _ _ _ ⟨rfl,?_,M6,a,c,xs,R7,y,_,_,_,_,_,_,ag2,eO,⟨bW.1,bW.2.1,bW.2.2.1,bW.2.2.2.1⟩,zC,⟨rfl,rfl,rfl,rfl,rfl,ZK⟩,by unfold Cp;rw [hH];exact hy,fq,by omega,fY (cN eO) fB,rfl⟩
        simp only [aE,dI,e11,go_sem,sevalprocAttr]
       ·rintro ch M6 L6 R6 R7 eO hk6 hr6 ⟨er,he,rfl⟩
        exact mW hTT (lL (by rw [hgm,hkE];simp only;rw [<- am];simp only;unfold Cp;rw [hH];simp only [if_true];rw [he]))
     ·rintro e ds h ⟨rfl,up,M6,aa,an,axs,R6,x,x0,x1,x2,x3,x4,x5,ags',eO,k6,xm,hxo,ec,fq,api,Su,rfl⟩
      simp only [aE] at up
      have VM:=dN.trans eO
      replace z:=H6 ((((bP.ext tw).ext dz).ext dN).ext eO)
      obtain ⟨kv1,kv2⟩:=dy P1
      have kv2m:=kv2
      simp only [Value.cells] at kv2m
      obtain ⟨fa,fc,rfl⟩:=eI Su
      have afP:=aH VM (cN VM) P1
      have hp6:=bA (dz.trans VM) _ _ hp
      have agc:∀ {q:Pl},(if s.hasH=true then oS x (.mk 12 0 dR keysE ags' [p2]) else .mk 12 0 dR keysE ags' [p2])=q ->oT s p2 names=.ok (.mk 3 0 dR acc [] [q]):=by
       rintro q rfl
       rw [hgm,hkE];simp only;rw [<- am];simp only;rw [ec]
      have vC:∀ {M7:aR} {a2:Option Addr} {c2:Nat},bm M6 M7 ->Sl M7 (.slice a2 ags'.length c2) 7 axs ->RS M7 (AV M7) 7 ags' (.slice a2 ags'.length c2):=fun he iR=>⟨by omega,axs,iR,dl (fun x cs h=>qI he x cs h) fq⟩
      have hpm:∀ {A B C:Nat×List Value},[A,B,C].Perm [C,A,B]:=fun {A B C}=>List.perm_append_comm (l₁:=[A,B]) (l₂:=[C])
      have Lj:acc.length*6<=4398046511104:=by omega
      cases hH:s.hasH with
      | false=>
       simp +contextual only [go_sem,aD,sevalprocAttr,up,z,hH,k6,aeP,FP,gY,kv1,kv2m]
       intro bk fp nS bl Lq afe
       refine fh _ _ _ ⟨rfl,?_,fun h=>(by rw [hS] at h;cases h),T13,M6,_,_,.mk 3 0 dR acc [] [.mk 12 0 dR keysE ags' [p2]],rfl,(uR.trans abm).trans DK,dz.trans VM,?_,?_⟩
       rotate_left
       ·rw [hG,if_pos rfl]
        exact agc (by rw [hH];rfl)
       ·refine ct Su Lj (by decide) ⟨Lq,fp,k6.1,k6.2.1,k6.2.2.1,k6.2.2.2,trivial⟩ fun M7 qX mI cH=>cP fun M8 vx oW iR=>dk (List.Perm.swap _ _ _) (aU fun zk h1 _=>aU fun pC h2 rG=>al (dk hpm (al (aC ⟨_,_,((qX.trans vx).trans zk).trans pC,rfl,rG.2.1,rG.2.2.1,?_⟩))))
        have Ol:=(((qX.trans vx).trans zk).trans pC)
        refine jB (fN _) (aH ((vx.trans zk).trans pC) (cN Ol) cH) bz (kW h2 ?_)
        refine jB (fN _) (aH Ol (cN Ol) afP) (vC Ol (iR.ext (zk.trans pC))) (kW (pC _ _ h1) (bA Ol _ _ hp6))
       ·simp only [aE,up,go_sem,sevalprocAttr]
      | true=>
       simp +contextual only [go_sem,aD,sevalprocAttr,up,z,hH,k6,aeP,FP,gY,kv1,kv2m]
       intro bk fp nS
       refine cD (k:=fun h'=>∃ M7 a2,bm M6 M7/\(M7 b13=none/\M7 b6=none/\M7 b4=none/\M7 b9=none)/\RS M7 (hY M7) 6 acc (.slice fa acc.length fc)/\gP M7 (.mk 12 0 dR keysE ags' [p2]) [.int .i64 12,.int .i64 0,.int .i64 0,.int .i64 0,.int .i64 0,st [],.int .i64 0,.slice none 0 0,kv,.slice aa ags'.length an,.slice (some ⟨bk,0,none⟩) 1 1]/\
        h'=⟨T13,M7,[(b13,[x0,x1,x2,x3,x4,x5]),(b6,[.int .i64 12,.int .i64 0,.int .i64 0,.int .i64 0,.int .i64 0,st [],.int .i64 0,.slice none 0 0,kv,.slice aa ags'.length an,.slice (some ⟨bk,0,none⟩) 1 1]),(b4,Ew),(b9,[a2])],[]⟩)
        (ct Su Lj (by decide) ⟨fp,k6.1,k6.2.1,k6.2.2.1,k6.2.2.2,trivial⟩ fun M7 qX mI cH=>cP fun M8 vx oW iR=>aU fun zk h1 rG=>aC ⟨_,_,(qX.trans vx).trans zk,⟨rG.1,rG.2.1,rG.2.2.1,rG.2.2.2.1⟩,aH (vx.trans zk) (cN ((qX.trans vx).trans zk)) cH,
         jB (fN _) (aH ((qX.trans vx).trans zk) (cN ((qX.trans vx).trans zk)) afP) (vC ((qX.trans vx).trans zk) (iR.ext zk)) (kW h1 (bA ((qX.trans vx).trans zk) _ _ hp6)),rfl⟩) ?_ ad3.bd
       rintro h' ⟨M7,a2,qX,k7,alH,alw,rfl⟩
       refine aF (BE (cN qX _ _ xm) alw T13) ?_
       rintro r M8 vx oW ⟨fs,rfl,hfe⟩
       obtain ⟨f0,f1,f2,f3,f4,f5,f6,f7,f8,f9,f10,rfl,hff⟩:=cT hfe
       simp only [aJ] at oW
       simp +contextual only [go_sem,sevalprocAttr,up,oW,FP,hff]
       intro bl Lq afe
       refine fh _ _ _ ⟨rfl,?_,fun h=>(by rw [hS] at h;cases h),T13,M8,_,_,.mk 3 0 dR acc [] [oS x (.mk 12 0 dR keysE ags' [p2])],rfl,(uR.trans abm).trans DK,((dz.trans VM).trans qX).trans vx,?_,?_⟩
       rotate_left
       ·rw [hG,if_pos rfl]
        exact agc (by rw [hH];rfl)
       ·refine aU fun pC h2 rG=>al (dk hpm (al (aC ⟨_,_,pC,rfl,rG.2.1,rG.2.2.1,?_⟩)))
        exact jB (fN _) (aH (vx.trans pC) (cN (vx.trans pC)) alH) bz (kW h2 (bA pC _ _ hfe))
       ·simp only [aE,up,go_sem,sevalprocAttr]
 ·rintro e ds h ⟨rfl,aI,e7,N4,M4,L4,R4,q,rfl,B4,dz,hq,cK⟩
  simp only [aE] at aI
  replace z:=H6 ((bP.ext tw).ext dz)
  have ZL:qx s p2 names=.ok (if s.distinct=true then qn 11 q else q,if s.star=true then names.map (·.2) else jc 0 s.items):=by unfold qx;rw [hq]
  obtain ⟨hnb,la,lc,rfl,_,_,hlg⟩:=ax (by decide) (fun _ _=>qJ) (aH dz (fun _ _ h=>h) nW)
  have ack:=dz _ _ iQ
  have hMM:=tw.trans dz
  simp +contextual only [go_sem,sevalprocAttr,aI,z]
  refine fg (fun e ds h=>ds=[]/\aE e [(1,.pointer (some ⟨b,o,none⟩)),(4,.pointer (some ⟨b4,0,none⟩)),(6,.pointer (some ⟨b6,0,none⟩))]/\∃ N' M' R' nv nm qs,e 16=nv/\aG T6 N'/\bm M4 M'/\kY 9 1 rC [] R' nv nm/\nm=(if s.star=true then names.map (·.2) else jc 0 s.items)/\nm.length*1<=4398046511104/\gP M' q qs/\M' b6=none/\M' b4=none/\h=⟨N',M',[(b6,qs),(b4,Ew)],R'⟩) (fun S' fh=> ?_) ?_
  ·cases hS:s.star with
   | true=>
    have e7:=e7 hS
    simp +contextual only [go_sem,aD,sevalprocAttr,e7,bg ack]
    refine bR names.length 173 [(1,.pointer (some ⟨b,o,none⟩)),(4,.pointer (some ⟨b4,0,none⟩)),(6,.pointer (some ⟨b6,0,none⟩)),(171,.slice la names.length lc),(172,.int .i64 (names.length:Int))]
     (fun i e h=>∃ N' M' R' nv nm qs,e 16=nv/\aG T6 N'/\bm M4 M'/\kY 9 1 rC [] R' nv nm/\nm=(names.take i).map (·.2)/\gP M' q qs/\M' b6=none/\M' b4=none/\h=⟨N',M',[(b6,qs),(b4,Ew)],R'⟩)
     0 (by omega) (by simp only [aE,aI,go_sem,sevalprocAttr]) (by simp only [go_sem,sevalprocAttr]) ?_ ?_
    ·refine pE cK ?_
     rintro h' ⟨M5,qs,he,rfl,k6,k4,OE⟩
     exact aC ⟨N4,M5,[],_,[],qs,(by simp only [go_sem,sevalprocAttr]),B4,he,cV,rfl,OE,k6,k4,rfl⟩
    rintro i e h DO dI ht ⟨N5,M5,R5,nv,nm,qs,e16,sO,dN,bq,FZ,OE,k6,k4,rfl⟩
    simp only [aE] at dI
    by_cases aL:i<names.length
    ·obtain ⟨b',o',cs',rfl,Jb,eh⟩:=hlg i names[i] (gq aL)
     unfold HR at eh;subst eh
     obtain ⟨x0,x1⟩:=At2 (Jb.ext dN)
     have zu:nm.length=i:=by rw [FZ];simp;omega
     simp +contextual only [go_sem,aD,sevalprocAttr,dI,ht,aL,x0,x1]
     intro b18 T18 afh amM abl ae7
     simp +contextual only [go_sem,sevalprocAttr,e16]
     intro b19 abA ae9
     refine cB (Tryz.underlying62) G8 GE (x:=names[i].2) bq rfl (fun _ _=>fu) (by intro u hu;simp only [List.mem_singleton] at hu;subst hu;rfl) abA (by omega) (by decide) ?_
     intro fv' R' bw
     simp +contextual only [go_sem,sevalprocAttr,ht]
     refine aS (al (al (aC ⟨names.length - (i+1),by omega,rfl,i+1,by omega,rfl,?_,?_,T18,M5,R',fv',_,qs,?_,sO.trans abl,dN,bw,?_,OE,k6,k4,rfl⟩)))
     ·simp only [aE,dI,go_sem,sevalprocAttr]
     ·simp only [go_sem,sevalprocAttr,aA i (by omega)]
     ·simp only [go_sem,sevalprocAttr]
     ·rw [FZ,List.take_succ_eq_append_getElem aL,List.map_append];rfl
    ·have:i=names.length:=by omega
     subst this
     simp +contextual only [go_sem,aD,sevalprocAttr,dI,ht,aL]
     refine fh _ _ _ ⟨rfl,?_,N5,M5,R5,nv,nm,qs,?_,sO,dN,bq,?_,?_,OE,k6,k4,rfl⟩
     ·simp only [aE,dI,go_sem,sevalprocAttr]
     ·simp only [e16,go_sem,sevalprocAttr]
     ·rw [hS,if_pos rfl,FZ,List.take_length]
     ·rw [FZ,List.take_length,List.length_map];omega
   | false=>
    obtain ⟨ZA,_⟩:=ce.its hS
    obtain ⟨hib,_,hig⟩:s.items.length*8<=4398046511104/\s.items.length<=aj/\∀ (i:Nat) (x:It),s.items[i]?=some x ->∃ b o cs,ai=some ⟨b,o,none⟩/\At M4 b (o+i*8) cs/\AP M4 x cs:=by
     obtain ⟨h1,a',c',h2,h3,_,h4⟩:=ax (by decide) (fun _ _=>kU) (aH hMM (jU hMM) hi)
     injection h2 with h5 h6 h7
     subst h5 h7
     exact ⟨h1,h3,h4⟩
    simp +contextual only [go_sem,aD,sevalprocAttr,aI,z]
    refine bR s.items.length 188 [(1,.pointer (some ⟨b,o,none⟩)),(4,.pointer (some ⟨b4,0,none⟩)),(6,.pointer (some ⟨b6,0,none⟩)),(186,.slice ai s.items.length aj),(187,.int .i64 (s.items.length:Int))]
     (fun i e h=>∃ N' M' R' nv nm qs,e 16=nv/\aG T6 N'/\bm M4 M'/\kY 9 1 rC [] R' nv nm/\nm.length=i/\nm++jc i (s.items.drop i)=jc 0 s.items/\gP M' q qs/\M' b6=none/\M' b4=none/\h=⟨N',M',[(b6,qs),(b4,Ew)],R'⟩)
     0 (by omega) (by simp only [aE,aI,go_sem,sevalprocAttr]) (by simp only [go_sem,sevalprocAttr]) ?_ ?_
    ·refine pE cK ?_
     rintro h' ⟨M5,qs,he,rfl,k6,k4,OE⟩
     exact aC ⟨N4,M5,[],_,[],qs,(by simp only [go_sem,sevalprocAttr]),B4,he,cV,rfl,rfl,OE,k6,k4,rfl⟩
    rintro i e h DO dI ht ⟨N5,M5,R5,nv,nm,qs,e16,sO,dN,bq,zu,FZ,OE,k6,k4,rfl⟩
    simp only [aE] at dI
    by_cases aL:i<s.items.length
    ·obtain ⟨b',o',cs',rfl,Jb,eh⟩:=hig i s.items[i] (gq aL)
     obtain ⟨aw',rfl,H3,qW⟩:=nL eh
     obtain ⟨x0,x1,x2,x3,x4,x5,x6,x7⟩:=At8 (Jb.ext dN)
     have bK:s.items.drop i=s.items[i]::s.items.drop (i+1):=dq aL
     rw [bK,jc] at FZ
     simp +contextual only [go_sem,aD,sevalprocAttr,dI,ht,aL,x0,x1,x2,x3,x4,x5,x6,x7,qW]
     intro b20 T20 sR il aj5 amH
     refine aF (IE (jU dN _ _ eh) i (by omega) T20) ?_
     rintro r M6 eO bW rfl
     simp only [aJ] at bW
     simp +contextual only [go_sem,sevalprocAttr,e16]
     intro b19 abA ae9
     refine cB (Tryz.underlying62) G8 GE (x:=xH s.items[i] i) bq rfl (fun _ _=>fu) (by intro u hu;simp only [List.mem_singleton] at hu;subst hu;rfl) abA (by omega) (by decide) ?_
     intro fv' R' bw
     simp +contextual only [go_sem,sevalprocAttr,ht]
     refine aS (al (al (aC ⟨s.items.length - (i+1),by omega,rfl,i+1,by omega,rfl,?_,?_,T20,M6,R',fv',_,qs,?_,sO.trans aj5,dN.trans eO,bw,?_,?_,bA eO _ _ OE,bW.2.1,bW.2.2.1,rfl⟩)))
     ·simp only [aE,dI,go_sem,sevalprocAttr]
     ·simp only [go_sem,sevalprocAttr,aA i (by omega)]
     ·simp only [go_sem,sevalprocAttr]
     ·rw [List.length_append,zu];rfl
     ·rw [List.append_assoc];exact FZ
    ·have:i=s.items.length:=by omega
     subst this
     rw [List.drop_length] at FZ
     simp only [jc,List.append_nil] at FZ
     simp +contextual only [go_sem,aD,sevalprocAttr,dI,ht,aL]
     refine fh _ _ _ ⟨rfl,?_,N5,M5,R5,nv,nm,qs,?_,sO,dN,bq,?_,by omega,OE,k6,k4,rfl⟩
     ·simp only [aE,dI,go_sem,sevalprocAttr]
     ·simp only [e16,go_sem,sevalprocAttr]
     ·rw [hS,if_neg (by decide),FZ]
  ·rintro e ds h ⟨rfl,up,N5,M5,R5,nv,nm,qs,e16,sO,dN,bq,FZ,zu,OE,k6,k4,rfl⟩
   simp only [aE] at up
   have z0:=ay dN z.1
   obtain ⟨d0,d1,d2,d3,d4,d5,d6,d7,d8,d9,d10,rfl,hd⟩:=cT OE
   have hTf:=Sq.trans sO
   cases hD:s.distinct with
   | false=>
    simp +contextual only [go_sem,aD,sevalprocAttr,up,z0,hD,hd,k6,k4,gR,e16]
    refine ct bq zu (by decide) ⟨k6,k4,trivial⟩ fun M6 eO bW cH=>ak hTf ⟨_,ZL,_,_,rfl,?_,?_⟩
    ·rw [hD];exact bA eO _ _ OE
    ·simp only;rw [<- FZ];exact cH
   | true=>
    simp +contextual only [go_sem,aD,sevalprocAttr,up,z0,hD,k6,k4,gR,e16]
    intro bl Lq afe
    refine ct bq zu (by decide) ⟨Lq,k6,k4,trivial⟩ fun M6 eO bW cH=>aU fun he h1 mI=>ak hTf ⟨_,ZL,_,_,rfl,?_,?_⟩
    ·rw [hD];exact jB (fN _) bz bz (kW h1 (bA (eO.trans he) _ _ OE))
    ·simp only;rw [<- FZ];exact aH he (fun _ _ h=>h) cH
def Er (res:Except Int Int)(v:Value):Prop:=match res with
 | .ok t=>v=.tuple ⟨[.int .i64 t,.int .i64 0]⟩
 | .error e=>e≠0/\∃ t,v=.tuple ⟨[.int .i64 t,.int .i64 e]⟩
def Rj (k:Int){M:aR}(T:Tm):bU Tryz.prog 248 [.int .i64 k] T M [] [] (fun r _ _ _=>r=.int .i64 (gA k)) aM:=by
 refine az ajj rfl rfl ?_
 intro _ _
 simp +contextual only [go_sem,aD,sevalprocAttr]
 (repeat' split)<;>(refine ak aG.rfl' ?_;refine cR ?_;simp only [gA];grind)
theorem xL (a b:Int){M:aR}(T:Tm):bU Tryz.prog 284 [.int .i64 a,.int .i64 b] T M [] [] (fun r _ _ _=>r=.tuple ⟨[.int .i64 ((kf a b).getD 0),.bool (kf a b).isSome]⟩) aM:=by
 refine az ajt rfl rfl ?_
 intro _ _
 simp +contextual only [go_sem,aD,sevalprocAttr]
 by_cases h1:a=b
 ·have:kf a b=some a:=by unfold kf;rw [if_pos (.inl h1)]
  rw [this]
  simp +contextual only [go_sem,sevalprocAttr,h1]
  exact ak aG.rfl' rfl
 ·by_cases h2:b=1
  ·have:kf a b=some a:=by unfold kf;rw [if_pos (.inr h2)]
   rw [this]
   simp +contextual only [go_sem,sevalprocAttr,h2]
   exact ak aG.rfl' rfl
  ·by_cases h3:a=1
   ·have:kf a b=some b:=by unfold kf;rw [if_neg (fun h=>h.elim h1 h2),if_pos h3]
    subst h3
    simp +contextual only [go_sem,sevalprocAttr,h1,h2]
    exact ak aG.rfl' (by rw [this];rfl)
   ·have:kf a b=none:=by unfold kf;rw [if_neg (fun h=>h.elim h1 h2),if_neg h3]
    rw [this]
    simp +contextual only [go_sem,sevalprocAttr,h1,h2,h3]
    exact ak aG.rfl' rfl
theorem xJ {M:aR}{l:List Int}{lv:Value}(eB:Int)(hs:RS M RI 1 l lv)(T:Tm):bU Tryz.prog 283 [lv,.int .i64 eB] T M [] [] (fun r _ _ _=>r=.bool (l.all (tY · eB))) aM:=by
 obtain ⟨fp,a,c,rfl,cX,_,hg⟩:=ax (by decide) (fun _ _=>cE) hs
 refine az ajs rfl rfl ?_
 intro bj _
 simp +contextual only [go_sem,aD,sevalprocAttr]
 refine aO l.length 11 [(1,.int .i64 eB),(9,.slice a l.length c),(10,.int .i64 (l.length:Int))] (fun i e h=>∃ M',bm M M'/\h=⟨T,M',[],[]⟩/\(l.drop i).all (tY · eB)=l.all (tY · eB)) 0 (by omega) (by simp only [aE,go_sem,sevalprocAttr]) (by simp only [go_sem,sevalprocAttr]) ⟨M,bm.rfl',rfl,rfl⟩ ?_
 rintro i e h hi aI ht ⟨M1,aW,rfl,am⟩
 simp only [aE] at aI
 by_cases aL:i<l.length
 ·obtain ⟨b',o',cs',rfl,bP,eh⟩:=hg i l[i] (gq aL)
  unfold RI at eh;subst eh
  have x0:=xC (bP.ext aW)
  rw [Nat.mul_one] at x0
  have bK:l.drop i=l[i]::l.drop (i+1):=dq aL
  rw [bK,List.all_cons] at am
  simp +contextual only [go_sem,aD,sevalprocAttr,aI,ht,aL,x0]
  refine aF (xL l[i] eB T) ?_
  rintro r M2 bh _ rfl
  cases hb:tY l[i] eB with
  | true=>
   rw [hb,Bool.true_and] at am
   have A1:(kf l[i] eB).isSome=true:=hb
   simp +contextual only [go_sem,aD,sevalprocAttr,ht,A1]
   refine bT aL ?_ ?_ ⟨M2,aW.trans bh,rfl,am⟩
   ·simp only [aE,aI,go_sem,sevalprocAttr]
   ·simp only [go_sem,sevalprocAttr,aA i (by omega)]
  | false=>
   rw [hb,Bool.false_and] at am
   have A1:(kf l[i] eB).isSome=false:=hb
   simp +contextual only [go_sem,aD,sevalprocAttr,A1]
   exact ak aG.rfl' (by rw [<- am])
 ·have:i=l.length:=by omega
  subst this
  rw [List.drop_length] at am
  simp +contextual only [go_sem,aD,sevalprocAttr,aI,ht,aL]
  exact ak aG.rfl' (by rw [<- am];rfl)
set_option maxHeartbeats 1000000 in
theorem Rm {M:aR}{k:Int}{l:List Int}{lv:Value}(hs:RS M RI 1 l lv)(hl:(l.length:Int)=gA k)(hk:k≠1/\k≠2/\k≠16)(h0:¬ gA k<0)(T:Tm):bU Tryz.prog 249 [.int .i64 k,lv] T M [] [] (fun r _ _ _=>Er (vK k l) r) aM:=by
 obtain ⟨fp,a,c,rfl,cX,wH,hg⟩:=ax (by decide) (fun _ _=>cE) hs
 have gl:0<l.length ->∃ b o,a=some ⟨b,o,none⟩/\∀ (i:Nat),i<l.length ->aN M ⟨b,o+i,none⟩=some (.int .i64 (l.getD i 0)):=by
  intro h0
  obtain ⟨b',o',cs',h1,_⟩:=hg 0 l[0] (gq h0)
  refine ⟨b',o',h1,fun i hi=> ?_⟩
  obtain ⟨b2,o2,cs',h2,bP,eh⟩:=hg i l[i] (gq hi)
  rw [h1] at h2
  simp only [Option.some.injEq,Addr.mk.injEq,and_true] at h2
  obtain ⟨rfl,rfl⟩:=h2
  unfold RI at eh;subst eh
  have x0:=xC bP
  rw [Nat.mul_one] at x0
  rw [x0];simp [List.getD,hi]
 refine az aek rfl rfl ?_
 intro bj _
 have e3:k=3\/(4<=k/\k<=5)\/(6<=k/\k<=11)\/(12<=k/\k<=14)\/k=15\/k=17\/k=18:=by
  unfold gA at h0
  repeat' split at h0
  all_goals omega
 unfold vK
 by_cases h5:k<=5
 ·rw [if_pos h5]
  simp +contextual only [go_sem,aD,sevalprocAttr,h5]
  refine aF (xJ 2 hs T) ?_
  rintro r M2 bh _ rfl
  cases hb:l.all (tY · 2) with
  | true=>simp +contextual only [go_sem,aD,sevalprocAttr];exact ak aG.rfl' rfl
  | false=>simp +contextual only [go_sem,aD,sevalprocAttr];exact ak aG.rfl' ⟨by decide,_,rfl⟩
 rw [if_neg h5]
 by_cases Zf:k<=11
 ·rw [if_pos Zf]
  have lr:gA k=2:=by unfold gA;rw [if_neg (by omega),if_neg (by omega),if_pos (by omega)]
  obtain ⟨b0,o0,rfl,gg⟩:=gl (by omega)
  have g0:=gg 0 (by omega)
  have g1:=gg 1 (by omega)
  have hlI:(0:Int)<(l.length:Int)/\(1:Int)<(l.length:Int):=⟨by omega,by omega⟩
  rw [Nat.add_zero] at g0
  simp +contextual only [go_sem,aD,sevalprocAttr,h5,Zf]
  refine aT ?_
  simp +contextual only [go_sem,sevalprocAttr,g0,g1,hlI]
  refine aF (xL _ _ T) ?_
  rintro r M2 bh _ rfl
  cases hb:(kf (l.getD 0 0) (l.getD 1 0)).isSome with
  | true=>simp +contextual only [go_sem,aD,sevalprocAttr];exact ak aG.rfl' rfl
  | false=>simp +contextual only [go_sem,aD,sevalprocAttr];exact ak aG.rfl' ⟨by decide,_,rfl⟩
 rw [if_neg Zf]
 by_cases Lg:k<=14
 ·rw [if_pos Lg]
  simp +contextual only [go_sem,aD,sevalprocAttr,h5,Zf,Lg]
  refine aF (xJ 3 hs T) ?_
  rintro r M2 bh _ rfl
  cases hb:l.all (tY · 3) with
  | true=>simp +contextual only [go_sem,aD,sevalprocAttr];exact ak aG.rfl' rfl
  | false=>simp +contextual only [go_sem,aD,sevalprocAttr];exact ak aG.rfl' ⟨by decide,_,rfl⟩
 rw [if_neg Lg]
 by_cases xd:k=15
 ·rw [if_pos xd]
  subst xd
  simp +contextual only [go_sem,aD,sevalprocAttr]
  refine aF (xJ 4 hs T) ?_
  rintro r M2 bh _ rfl
  cases hb:l.all (tY · 4) with
  | true=>simp +contextual only [go_sem,aD,sevalprocAttr];exact ak aG.rfl' rfl
  | false=>simp +contextual only [go_sem,aD,sevalprocAttr];exact ak aG.rfl' ⟨by decide,_,rfl⟩
 rw [if_neg xd]
 by_cases h17:k=17
 ·rw [if_pos h17]
  subst h17
  have lr:gA 17=3:=by decide
  obtain ⟨b0,o0,rfl,gg⟩:=gl (by omega)
  have g0:=gg 0 (by omega)
  have g1:=gg 1 (by omega)
  have g2:=gg 2 (by omega)
  have hlI:(2:Int)<(l.length:Int)/\(1:Int)<(l.length:Int):=⟨by omega,by omega⟩
  rw [Nat.add_zero] at g0
  have hcI:(1:Int)<=(c:Int):=by omega
  simp +contextual only [go_sem,aD,sevalprocAttr]
  refine aT ?_
  simp +contextual only [go_sem,sevalprocAttr,g1,g2,hlI]
  refine aF (xL _ _ T) ?_
  rintro r M2 bh _ rfl
  cases hb:kf (l.getD 1 0) (l.getD 2 0) with
  | none=>
   simp +contextual only [go_sem,aD,sevalprocAttr,hcI]
   rw [if_neg (by decide)]
   exact ak aG.rfl' ⟨by decide,_,rfl⟩
  | some o=>
   simp +contextual only [go_sem,aD,sevalprocAttr,hcI]
   have h1:RS M2 RI 1 [l.getD 0 0] (.slice (kG (some ⟨b0,o0,none⟩) c 0 1) 1 c):=by
    refine ⟨by simp,[.int .i64 (l.getD 0 0)],.inr ⟨b0,o0,1,c,?_,by omega,rfl,?_⟩,dm rfl⟩
    ·have:¬ c=0:=by omega
     simp [kG,this,Addr.add_lit]
    ·exact ⟨by simpa using ay bh g0,trivial⟩
   refine aF (xJ 2 h1 T) ?_
   rintro r M3 bG _ rfl
   have h2:[l.getD 0 0].all (tY · 2)=tY (l.getD 0 0) 2:=by simp
   rw [h2]
   cases hf:tY (l.getD 0 0) 2 with
   | true=>simp +contextual only [go_sem,aD,sevalprocAttr];exact ak aG.rfl' rfl
   | false=>simp +contextual only [go_sem,aD,sevalprocAttr];exact ak aG.rfl' ⟨by decide,_,rfl⟩
 rw [if_neg h17]
 have h18:k=18:=by omega
 subst h18
 have lr:gA 18=2:=by decide
 obtain ⟨b0,o0,rfl,gg⟩:=gl (by omega)
 have g0:=gg 0 (by omega)
 have g1:=gg 1 (by omega)
 have hlI:(0:Int)<(l.length:Int)/\(1:Int)<(l.length:Int):=⟨by omega,by omega⟩
 rw [Nat.add_zero] at g0
 simp +contextual only [go_sem,aD,sevalprocAttr]
 refine aT ?_
 simp +contextual only [go_sem,sevalprocAttr,g0,g1,hlI]
 refine aF (xL _ _ T) ?_
 rintro r M2 bh _ rfl
 cases hb:kf (l.getD 0 0) (l.getD 1 0) with
 | some o=>simp +contextual only [go_sem,aD,sevalprocAttr];exact ak aG.rfl' rfl
 | none=>simp +contextual only [go_sem,aD,sevalprocAttr];exact ak aG.rfl' ⟨by decide,_,rfl⟩
mutual
theorem Mz (cols:List Int)(bI n:Nat):∀ x,n<=200 ->(py cols bI n x).2<=201/\(∀ t,(py cols bI n x).1=.ok t ->(py cols bI n x).2<=200)
 | .mk k v c kids,hn=>by
  rw [py]
  split
  ·exact ⟨by simp only;omega,fun t h=>by simp at h⟩
  ·split
   ·exact ⟨by simp only;omega,fun t h=>by simp at h⟩
   ·split
    ·exact ⟨by simp only;omega,fun t h=>by simp at h⟩
    ·have:=MB cols (bI+1) (n+1) kids (by omega)
     split
     ·rename_i e m hm
      rw [hm] at this
      exact ⟨this.1,fun t h=>by simp at h⟩
     ·rename_i t m hm
      rw [hm] at this
      exact ⟨this.1,fun _ _=>this.2 t rfl⟩
theorem MB (cols:List Int)(bI n:Nat):∀ l,n<=200 ->(nD cols bI n l).2<=201/\(∀ t,(nD cols bI n l).1=.ok t ->(nD cols bI n l).2<=200)
 | [],hn=>by rw [nD];exact ⟨by simp only;omega,fun _ _=>hn⟩
 | x::l,hn=>by
  rw [nD]
  have hx:=Mz cols bI n x hn
  split
  ·rename_i e m hm
   rw [hm] at hx
   exact ⟨hx.1,fun t h=>by simp at h⟩
  ·rename_i t m hm
   rw [hm] at hx
   have hl:=MB cols bI m l (hx.2 t rfl)
   split
   ·rename_i e m' DR
    rw [DR] at hl
    exact ⟨hl.1,fun t h=>by simp at h⟩
   ·rename_i ts m' DR
    rw [DR] at hl
    exact ⟨hl.1,fun _ _=>hl.2 ts rfl⟩
end
def aat {M:aR}{b o:Nat}{x:Ex}{cs:List Value}(h:hY M x cs)(ha:At M b o cs):∃ a c,RS M (hY M) 6 x.kids (.slice a x.kids.length c)/\aN M ⟨b,o,none⟩=some (.int .i64 x.k)/\aN M ⟨b,o+1,none⟩=some (.int .i64 x.v.k)/\aN M ⟨b,o+2,none⟩=some (.int .i64 x.v.n)/\aN M ⟨b,o+3,none⟩=some (st x.v.t)/\
 aN M ⟨b,o+4,none⟩=some (.int .i64 x.c)/\aN M ⟨b,o+5,none⟩=some (.slice a x.kids.length c):=by
 obtain ⟨s,rfl,_,hs⟩:=dG h
 obtain ⟨_,a,c,rfl,_⟩:=ax (by decide) (fun _ _=>dS) hs
 exact ⟨a,c,hs,ha.1,ha.2.1,ha.2.2.1,ha.2.2.2.1,ha.2.2.2.2.1,ha.2.2.2.2.2.1⟩
def JZ (acc:List Int):Except Int (List Int)×Nat ->Except Int (List Int)×Nat
 | (.ok l,m)=>(.ok (acc++l),m)
 | (.error e,m)=>(.error e,m)
theorem TV (r):JZ [] r=r:=by obtain ⟨r,m⟩:=r;cases r<;>rfl
def YK {cols:List Int}{bI n m:Nat}{x:Ex}{l:List Ex}{t:Int}{acc:List Int}(h:py cols bI n x=(.ok t,m)):JZ acc (nD cols bI n (x::l))=JZ (acc++[t]) (nD cols bI m l):=by
 rw [nD,h]
 simp only
 rcases hl:nD cols bI m l with ⟨r,m'⟩
 cases r<;>simp [JZ]
theorem U4 {cols:List Int}{bI n m:Nat}{x:Ex}{l:List Ex}{e:Int}{acc:List Int}(h:py cols bI n x=(.error e,m)):JZ acc (nD cols bI n (x::l))=(.error e,m):=by
 rw [nD,h];rfl
theorem ja {t:Int}{cs}(h:RI t cs):∀ u∈cs,u.oneCell'=true:=by
 rw [h];intro u hu;simp only [List.mem_singleton] at hu;subst hu;rfl
def TyX (x:Ex):Prop:=∀ (M:aR) (T:Tm) (b o hb bI n:Nat) (cs:List Value) (cols:List Int) (cv:Value),At M b o cs ->hY M x cs ->RS M RI 1 cols cv ->n<=200 ->bI<=21 ->
 bU Tryz.prog 215 [.pointer (some ⟨hb,0,none⟩),.pointer (some ⟨b,o,none⟩),.int .i64 (bI:Int)] T M [(hb,[cv,.int .i64 (n:Int)])] [] (fun r M' L' R'=>Er (py cols bI n x).1 r/\L'=[(hb,[cv,.int .i64 ((py cols bI n x).2:Int)])]/\R'=[]) aM
theorem tyX:∀ (sz:Nat) (x:Ex),SizeOf.sizeOf x<=sz ->TyX x:=by
 intro sz
 induction sz with
 | zero=>intro x hx;cases x;simp at hx
 | succ sz ih=>
  intro x ed M T b o hb bI n cs cols cv bP hx lz hn Zs
  obtain ⟨a,c,hs,m0,m1,m2,m3,m4,m5⟩:=aat hx bP
  obtain ⟨fp,a',c',iR,cX,wH,hg⟩:=ax (by decide) (fun _ _=>dS) hs
  injection iR with h1 h2 h3
  subst h1 h3
  cases x with | mk k v c0 kids=>
  simp only [Ex.k,Ex.v,Ex.c,Ex.kids] at m0 m1 m2 m3 m4 m5 hs cX hg fp
  obtain ⟨S,hS⟩:∃ S,S=py cols bI n (.mk k v c0 kids):=⟨_,rfl⟩
  rw [<- hS]
  rw [py] at hS
  have hwn:=aA n (by omega)
  have ZO:=aA bI (by omega)
  refine az ai6 rfl rfl ?_
  intro bj _
  simp only [aJ,and_true] at bj
  simp +contextual only [go_sem,aD,sevalprocAttr,bj,hwn,m0]
  by_cases wK:200<n+1\/20<bI
  ·rw [if_pos wK] at hS
   rw [if_pos (by omega)]
   exact aQ aG.rfl' rfl rfl ⟨by rw [hS];exact ⟨by decide,_,rfl⟩,by rw [hS],rfl⟩
  rw [if_neg wK] at hS
  rw [if_neg (by omega)]
  refine aF (Rj k T) ?_
  rintro r M1 aW bD rfl
  simp only [aJ,and_true] at bD
  replace m0:=ay aW m0
  replace m1:=ay aW m1
  replace m2:=ay aW m2
  replace m3:=ay aW m3
  replace m4:=ay aW m4
  replace m5:=ay aW m5
  by_cases nU:gA k<0
  ·rw [if_pos nU] at hS
   simp +contextual only [go_sem,aD,sevalprocAttr,nU]
   exact aQ aG.rfl' rfl rfl ⟨by rw [hS];exact ⟨by decide,_,rfl⟩,by rw [hS],rfl⟩
  rw [if_neg nU] at hS
  by_cases rV:(kids.length:Int)=gA k
  ·rw [if_neg (fun h=>h rV)] at hS
   have FV:kids.length<=3:=by
    have:gA k<=3:=by unfold gA;repeat' split<;>omega
    omega
   simp +contextual only [go_sem,aD,sevalprocAttr,nU,rV,m5]
   refine aO kids.length 50 [(0,.pointer (some ⟨hb,0,none⟩)),(1,.pointer (some ⟨b,o,none⟩)),(2,.int .i64 (bI:Int)),(49,.int .i64 (kids.length:Int))]
    (fun i e h=>∃ (M':aR) (n':Nat) (R:RR) (fv:Value) (acc:List Int),bm M1 M'/\M' hb=none/\n'<=200/\h=⟨T,M',[(hb,[cv,.int .i64 (n':Int)])],R⟩/\e 9=fv/\acc.length=i/\kY 3 1 RI [] R fv acc/\JZ acc (nD cols (bI+1) n' (kids.drop i))=nD cols (bI+1) (n+1) kids)
    0 (by omega) (by simp only [aE,rV,go_sem,sevalprocAttr]) (by simp only [go_sem,sevalprocAttr]) ⟨M1,n+1,[],_,[],bm.rfl',bD,by omega,rfl,by simp only [go_sem,sevalprocAttr],rfl,cV,TV _⟩ ?_
   rintro i e h hi aI ht ⟨M2,n',R2,fv,acc,bh,n2,VT,rfl,e9,js,bq,am⟩
   simp only [aE] at aI
   have x5:=ay bh m5
   by_cases aL:i<kids.length
   ·obtain ⟨b',o',cs',rfl,vz,eh⟩:=hg i kids[i] (gq aL)
    have eb:=aW.trans bh
    have bK:kids.drop i=kids[i]::kids.drop (i+1):=dq aL
    rw [bK] at am
    have Jt:SizeOf.sizeOf kids[i]<=sz:=by
     have h1:=List.sizeOf_lt_of_mem (gm aL)
     simp only [Ex.mk.sizeOf_spec] at ed
     omega
    have pq:=Mz cols (bI+1) n' kids[i] VT
    simp +contextual only [go_sem,aD,sevalprocAttr,aI,ht,aL,x5,ZO]
    refine dF [] (ih kids[i] Jt M2 T b' _ hb (bI+1) n' cs' cols cv (vz.ext eb) (cN eb _ _ eh) (aH eb (fun _ _ h=>h) lz) VT (by omega)) ?_ (fun _ _ _ _ _ _ h=>h.elim)
    rintro r M3 L' bG zq bC ⟨hr,rfl, -⟩
    simp only [List.nil_append,aJ,and_true] at bC
    rcases nH:py cols (bI+1) n' kids[i] with ⟨r1,m⟩
    rw [nH] at hr pq
    cases r1 with
    | error er=>
     obtain ⟨cm,t,rfl⟩:=hr
     rw [U4 nH] at am
     rw [<- am] at hS
     simp +contextual only [go_sem,aD,sevalprocAttr,cm]
     refine bY (aQ aG.rfl' rfl rfl ⟨?_,?_,rfl⟩)
     ·rw [hS];exact ⟨cm,_,rfl⟩
     ·rw [hS]
    | ok t=>
     simp only [Er] at hr
     subst hr
     rw [YK nH] at am
     simp +contextual only [go_sem,aD,sevalprocAttr,e9]
     intro b7 mU jD
     refine cB (Tryz.underlying53) kB kA (x:=t) bq rfl (fun _ _=>cE) (ja rfl) mU (by omega) (by decide) ?_
     intro fv' R' bw
     simp +contextual only [go_sem,sevalprocAttr,ht]
     refine aS (al (aC ⟨kids.length - (i+1),by omega,rfl,i+1,by omega,rfl,?_,?_,M3,m,R',fv',acc++[t],bh.trans bG,bC,pq.2 t rfl,rfl,?_,?_,bw,am⟩))
     ·simp only [aE,aI,go_sem,sevalprocAttr]
     ·simp only [go_sem,sevalprocAttr,aA i (by omega)]
     ·simp only [go_sem,sevalprocAttr]
     ·rw [List.length_append,js];rfl
   ·have:i=kids.length:=by omega
    subst this
    rw [List.drop_length,nD] at am
    simp only [JZ,List.append_nil] at am
    rw [<- am] at hS
    simp only at hS
    have eb:=aW.trans bh
    replace m0:=ay bh m0
    replace m1:=ay bh m1
    replace m2:=ay bh m2
    replace m3:=ay bh m3
    replace m4:=ay bh m4
    by_cases h1:k=1
    ·subst h1
     rw [if_pos rfl] at hS
     simp +contextual only [go_sem,aD,sevalprocAttr,aI,ht,aL,m0]
     refine aT ?_
     simp +contextual only [go_sem,sevalprocAttr,aI,m1,m2,m3]
     refine aF (jq v M2 T) ?_
     rintro r M3 bG bC rfl
     simp +contextual only [go_sem,sevalprocAttr]
     simp only [aJ,and_true] at bC
     refine ⟨dL bG ⟨bC,trivial⟩,bY (aQ aG.rfl' rfl rfl ⟨?_,by rw [hS],rfl⟩)⟩
     rw [hS]
     by_cases hw:eR v=0
     ·rw [if_pos hw,hw];rfl
     ·rw [if_neg hw];exact ⟨hw,_,rfl⟩
    rw [if_neg h1] at hS
    by_cases h2:k=2
    ·subst h2
     rw [if_pos rfl] at hS
     obtain ⟨_,ca,cc,rfl,_,_,hcg⟩:=ax (by decide) (fun _ _=>cE) (aH eb (fun _ _ h=>h) lz)
     simp +contextual only [go_sem,aD,sevalprocAttr,aI,ht,aL,m0]
     refine aT ?_
     by_cases HY:c0<0
     ·simp +contextual only [go_sem,aD,sevalprocAttr,aI,m4,HY]
      refine bY (aQ aG.rfl' rfl rfl ⟨?_,by rw [hS],rfl⟩)
      rw [hS];simp only;rw [if_neg (by omega)];exact ⟨by decide,_,rfl⟩
     ·by_cases hhi:(cols.length:Int)<=c0
      ·simp +contextual only [go_sem,aD,sevalprocAttr,aI,m4,n2,HY,hhi]
       refine bY (aQ aG.rfl' rfl rfl ⟨?_,by rw [hS],rfl⟩)
       rw [hS];simp only;rw [if_neg (by omega)];exact ⟨by decide,_,rfl⟩
      ·obtain ⟨j,hj⟩:∃ j:Nat,c0=(j:Int):=⟨c0.toNat,by omega⟩
       subst hj
       have AS:j<cols.length:=by omega
       obtain ⟨b',o',cs',rfl,vz,eh⟩:=hcg j cols[j] (gq AS)
       unfold RI at eh;subst eh
       have x0:=xC vz
       rw [Nat.mul_one] at x0
       have ak8:¬ ((j:Int)<0):=HY
       simp +contextual only [go_sem,aD,sevalprocAttr,aI,m4,n2,ak8,hhi]
       refine aT ?_
       simp +contextual only [go_sem,sevalprocAttr,aI,m4,n2,AS,x0]
       refine bY (aQ aG.rfl' rfl rfl ⟨?_,by rw [hS],rfl⟩)
       rw [hS];simp only;rw [if_pos (by omega)]
       have:cols.getD (j:Int).toNat 0=cols[j]:=by simp [List.getD,AS]
       rw [this];rfl
    rw [if_neg h2] at hS
    by_cases xQ:k=16
    ·subst xQ
     rw [if_pos rfl] at hS
     simp +contextual only [go_sem,aD,sevalprocAttr,aI,ht,aL,m0]
     exact bY (aQ aG.rfl' rfl rfl ⟨by rw [hS];rfl,by rw [hS],rfl⟩)
    rw [if_neg xQ] at hS
    simp +contextual only [go_sem,aD,sevalprocAttr,aI,ht,aL,m0,h1,h2,xQ,e9]
    refine cD (k:=fun h'=>∃ M3,bm M2 M3/\M3 hb=none/\RS M3 RI 1 acc fv/\h'=⟨T,M3,[(hb,[cv,.int .i64 (n':Int)])],[]⟩) (ct bq (by omega) (by decide) ⟨n2,trivial⟩ fun M3 bG bC cH=>aC ⟨M3,bG,bC.1,cH,rfl⟩) ?_ aek.bd
    rintro h' ⟨M3,bG,n3,cH,rfl⟩
    refine aF (Rm cH (by rw [js];exact rV) ⟨h1,h2,xQ⟩ nU T) ?_
    rintro r M4 dz de hr
    have hS1:S.1=vK k acc:=by rw [hS]
    have hS2:S.2=n':=by rw [hS]
    rw [<- hS1] at hr
    cases hk:S.1 with
    | ok t=>
     rw [hk] at hr
     simp only [Er] at hr
     subst hr
     simp +contextual only [go_sem,sevalprocAttr]
     exact aQ aG.rfl' rfl rfl ⟨rfl,by rw [hS2],rfl⟩
    | error er=>
     rw [hk] at hr
     obtain ⟨cm,t,rfl⟩:=hr
     simp +contextual only [go_sem,sevalprocAttr]
     exact aQ aG.rfl' rfl rfl ⟨⟨cm,_,rfl⟩,by rw [hS2],rfl⟩
  ·rw [if_pos rV] at hS
   simp +contextual only [go_sem,aD,sevalprocAttr,nU,rV,m5]
   exact aQ aG.rfl' rfl rfl ⟨by rw [hS];exact ⟨by decide,_,rfl⟩,by rw [hS],rfl⟩
theorem Dy {M:aR}{cols:List Int}{cv:Value}{x:Ex}{cs:List Value}(lz:RS M RI 1 cols cv)(hx:hY M x cs)(T:Tm):
 bU Tryz.prog 159 [cv,.agg ⟨cs⟩] T M [] [] (fun r _ _ _=>Er (lm cols x) r) aM:=by
 obtain ⟨fp,a,c,rfl,cX,_,hg⟩:=ax (by decide) (fun _ _=>cE) lz
 obtain ⟨s0,rfl,tB,nU⟩:=dG hx
 unfold lm
 refine az ais rfl rfl ?_
 intro bj _
 by_cases xQ:16<cols.length
 ·have I5:(16:Int)<(cols.length:Int):=by omega
  rw [if_pos xQ]
  simp +contextual only [go_sem,aD,sevalprocAttr,I5]
  intro b3 T3 gK fU gB
  exact ak fU ⟨by decide,_,rfl⟩
 have I5:¬ (16:Int)<(cols.length:Int):=by omega
 rw [if_neg xQ]
 simp +contextual only [go_sem,aD,sevalprocAttr,I5]
 intro b3 T3 gK fU gB
 refine bR cols.length 15 [(0,.slice a cols.length c),(3,.pointer (some ⟨b3,0,none⟩)),(13,.slice a cols.length c),(14,.int .i64 (cols.length:Int))] (fun i e h=>∃ M',bm M M'/\M' b3=some [.int .i64 x.k,.int .i64 x.v.k,.int .i64 x.v.n,st x.v.t,.int .i64 x.c,s0]/\h=⟨T3,M',[],[]⟩/\(cols.drop i).all (fun t=>decide (1<=t/\t<=4))=cols.all (fun t=>decide (1<=t/\t<=4))) 0 (by omega) (by simp only [aE,go_sem,sevalprocAttr]) (by simp only [go_sem,sevalprocAttr]) (aU fun he h3 _=>aC ⟨_,he,h3,rfl,rfl⟩) ?_
 rintro i e h hi aI ht ⟨M1,aW,h3,rfl,am⟩
 simp only [aE] at aI
 by_cases aL:i<cols.length
 ·obtain ⟨b',o',cs',rfl,bP,eh⟩:=hg i cols[i] (gq aL)
  unfold RI at eh;subst eh
  have x0:=xC (bP.ext aW)
  rw [Nat.mul_one] at x0
  have bK:cols.drop i=cols[i]::cols.drop (i+1):=dq aL
  rw [bK,List.all_cons] at am
  by_cases hb:1<=cols[i]/\cols[i]<=4
  ·rw [decide_eq_true hb,Bool.true_and] at am
   have fO:¬ cols[i]<1:=by omega
   have dO:¬ 4<cols[i]:=by omega
   simp +contextual only [go_sem,aD,sevalprocAttr,aI,ht,aL,x0,fO,dO]
   refine bT aL ?_ ?_ ⟨M1,aW,h3,rfl,am⟩
   ·simp only [aE,aI,go_sem,sevalprocAttr]
   ·simp only [go_sem,sevalprocAttr,aA i (by omega)]
  ·rw [decide_eq_false hb,Bool.false_and] at am
   rw [<- am,if_neg (by decide)]
   by_cases fO:cols[i]<1
   ·simp +contextual only [go_sem,aD,sevalprocAttr,aI,ht,aL,x0,fO]
    exact ak fU ⟨by decide,_,rfl⟩
   ·have dO:4<cols[i]:=by omega
    simp +contextual only [go_sem,aD,sevalprocAttr,aI,ht,aL,x0,fO,dO]
    exact ak fU ⟨by decide,_,rfl⟩
 ·have:i=cols.length:=by omega
  subst this
  rw [List.drop_length] at am
  rw [<- am,List.all_nil,if_pos rfl]
  simp +contextual only [go_sem,aD,sevalprocAttr,aI,ht,aL]
  intro b9 T9 qY uR pY
  refine dF [] (tyX _ x (Nat.le_refl _) M1 T9 b3 0 b9 1 0 _ cols _ (C8 h3) (cN aW _ _ hx) (aH aW (fun _ _ h=>h) lz) (by omega) (by omega)) ?_ (fun _ _ _ _ _ _ h=>h.elim)
  rintro r M3 L' bG zq bC ⟨hr,rfl, -⟩
  have hTT:=fU.trans uR
  cases nH:(py cols 1 0 x).1 with
  | ok t=>
   rw [nH] at hr
   simp only [Er] at hr
   subst hr
   simp +contextual only [go_sem,aD,sevalprocAttr]
   exact ak hTT rfl
  | error er=>
   rw [nH] at hr
   obtain ⟨cm,t,rfl⟩:=hr
   simp +contextual only [go_sem,aD,sevalprocAttr,cm]
   exact ak hTT ⟨cm,_,rfl⟩
def KR (cols:List Int)(x:Ex):Int:=match rO cols x with | .ok _=>0 | .error e=>e
def xK {M:aR}{cols:List Int}{cv:Value}{x:Ex}{cs:List Value}(lz:RS M RI 1 cols cv)(hx:hY M x cs)(T:Tm):
 bU Tryz.prog 200 [cv,.agg ⟨cs⟩] T M [] [] (fun r _ _ _=>r=.int .i64 (KR cols x)/\∀ e,rO cols x=.error e ->e≠0) aM:=by
 obtain ⟨s0,EA,tB,nU⟩:=dG hx
 refine az aiW rfl rfl ?_
 intro bj _
 have hl:=dS hx
 subst EA
 simp +contextual only [go_sem,sevalprocAttr]
 intro b3 T3 gK fU gB
 refine aF (Dy lz hx T3) ?_
 rintro r M1 aW bD hr
 unfold KR rO
 cases nH:lm cols x with
 | error er=>
  rw [nH] at hr
  obtain ⟨cm,t,rfl⟩:=hr
  simp +contextual only [go_sem,aD,sevalprocAttr,cm]
  exact ak fU ⟨rfl,fun e h=>by injection h with h;rw [<- h];exact cm⟩
 | ok t=>
  rw [nH] at hr
  simp only [Er] at hr
  subst hr
  by_cases h2:t=2
  ·subst h2
   simp +contextual only [go_sem,aD,sevalprocAttr]
   exact ak fU ⟨rfl,fun e h=>by cases h⟩
  ·by_cases h1:t=1
   ·subst h1
    simp +contextual only [go_sem,aD,sevalprocAttr]
    exact ak fU ⟨rfl,fun e h=>by cases h⟩
   ·simp +contextual only [go_sem,aD,sevalprocAttr,h1,h2]
    exact ak fU ⟨rfl,fun e h=>by injection h with h;rw [<- h];decide⟩
def Hu (res:Except Int (List Int))(v:Value)(M:aR):Prop:=match res with
 | .ok l=>∃ sv,v=.tuple ⟨[sv,.int .i64 0]⟩/\RS M RI 1 l sv
 | .error e=>e≠0/\∃ sv,v=.tuple ⟨[sv,.int .i64 e]⟩
def UY (res:Except Int (List Int))(v:Value)(M:aR):Prop:=match res with
 | .ok l=>∃ sv,v=.tuple ⟨[sv,.int .i64 0]⟩/\RS M RI 1 l sv
 | .error e=>e≠0/\v=.tuple ⟨[.slice none 0 0,.int .i64 e]⟩
def Km {res:Except Int (List Int)}{v:Value}{M:aR}(h:UY res v M):Hu res v M:=by
 cases res with
 | ok l=>exact h
 | error e=>exact ⟨h.1,_,h.2⟩
theorem vX {cols:List Int}{x:Ex}{l:List Ex}{t:Int}(h:lm cols x=.ok t):iG cols (x::l)=BC t (iG cols l):=by
 rw [iG,h];cases iG cols l<;>rfl
def tn {cols:List Int}{x:Ex}{l:List Ex}{e:Int}(h:lm cols x=.error e):iG cols (x::l)=.error e:=by rw [iG,h]
theorem QG {cols:List Int}{x:Ag}{l:List Ag}{t:Int}(h:vd cols x=.ok t):jp cols (x::l)=BC t (jp cols l):=by
 rw [jp,h];cases jp cols l<;>rfl
def Nn {cols:List Int}{x:Ag}{l:List Ag}{e:Int}(h:vd cols x=.error e):jp cols (x::l)=.error e:=by rw [jp,h]
def At6 {M:aR}{b o:Nat}{v0 v1 v2 v3 v4 v5:Value}(h:At M b o [v0,v1,v2,v3,v4,v5]):aN M ⟨b,o,none⟩=some v0/\aN M ⟨b,o+1,none⟩=some v1/\aN M ⟨b,o+2,none⟩=some v2/\aN M ⟨b,o+3,none⟩=some v3/\aN M ⟨b,o+4,none⟩=some v4/\aN M ⟨b,o+5,none⟩=some v5:=
 ⟨h.1,h.2.1,h.2.2.1,h.2.2.2.1,h.2.2.2.2.1,h.2.2.2.2.2.1⟩
def pT {M:aR}{cols:List Int}{cv sv:Value}{xs:List Ex}(lz:RS M RI 1 cols cv)(hs:RS M (hY M) 6 xs sv)(T:Tm):
 bU Tryz.prog 201 [cv,sv] T M [] [] (fun r M' _ _=>UY (eX cols xs) r M') aM:=by
 obtain ⟨fp,a,c,rfl,cX,_,hg⟩:=ax (by decide) (fun _ _=>dS) hs
 unfold eX
 refine az aiX rfl rfl ?_
 intro bj _
 by_cases h8:8<xs.length
 ·have uf:(8:Int)<(xs.length:Int):=by omega
  rw [if_pos h8]
  simp +contextual only [go_sem,aD,sevalprocAttr,uf]
  exact ak aG.rfl' ⟨by decide,rfl⟩
 have uf:¬ (8:Int)<(xs.length:Int):=by omega
 rw [if_neg h8]
 simp +contextual only [go_sem,aD,sevalprocAttr,uf]
 refine aO xs.length 16 [(0,cv),(14,.slice a xs.length c),(15,.int .i64 (xs.length:Int))] (fun i e h=>∃ N' M' R fv acc,aG T N'/\bm M M'/\h=⟨N',M',[],R⟩/\e 6=fv/\acc.length=i/\kY 3 1 RI [] R fv acc/\rL acc (iG cols (xs.drop i))=iG cols xs) 0 (by omega) (by simp only [aE,go_sem,sevalprocAttr]) (by simp only [go_sem,sevalprocAttr]) ⟨T,M,[],_,[],aG.rfl',bm.rfl',rfl,by simp only [go_sem,sevalprocAttr],rfl,cV,qt _⟩ ?_
 rintro i e h hi aI ht ⟨N1,M1,R1,fv,acc,pz,aW,rfl,e6,js,bq,am⟩
 simp only [aE] at aI
 by_cases aL:i<xs.length
 ·obtain ⟨b',o',cs',rfl,bP,eh⟩:=hg i xs[i] (gq aL)
  have XW:=cN aW _ _ eh
  obtain ⟨s0,rfl,tB,nU⟩:=dG XW
  obtain ⟨x0,x1,x2,x3,x4,x5⟩:=At6 (bP.ext aW)
  have bK:xs.drop i=xs[i]::xs.drop (i+1):=dq aL
  rw [bK] at am
  simp +contextual only [go_sem,aD,sevalprocAttr,aI,ht,aL,x0,x1,x2,x3,x4,x5,tB]
  intro b8 T8 pp nE sP
  refine aF (Dy (aH aW (fun _ _ h=>h) lz) XW T8) ?_
  rintro r M2 bh aZ hr
  have hT:=pz.trans nE
  cases nH:lm cols xs[i] with
  | error er=>
   rw [nH] at hr
   obtain ⟨cm,t,rfl⟩:=hr
   rw [tn nH] at am
   rw [<- am]
   simp +contextual only [go_sem,aD,sevalprocAttr,cm]
   exact ak hT ⟨cm,rfl⟩
  | ok t=>
   rw [nH] at hr
   simp only [Er] at hr
   subst hr
   rw [vX nH,<- oe] at am
   simp +contextual only [go_sem,aD,sevalprocAttr,e6]
   intro b7 mU jD
   refine cB (Tryz.underlying53) kB kA (x:=t) bq rfl (fun _ _=>cE) (ja rfl) mU (by omega) (by decide) ?_
   intro fv' R' bw
   simp +contextual only [go_sem,sevalprocAttr,ht]
   refine aS (al (al (aC ⟨xs.length - (i+1),by omega,rfl,i+1,by omega,rfl,?_,?_,T8,M2,R',fv',acc++[t],hT,aW.trans bh,rfl,?_,?_,bw,am⟩)))
   ·simp only [aE,aI,go_sem,sevalprocAttr]
   ·simp only [go_sem,sevalprocAttr,aA i (by omega)]
   ·simp only [go_sem,sevalprocAttr]
   ·rw [List.length_append,js];rfl
 ·have:i=xs.length:=by omega
  subst this
  rw [List.drop_length] at am
  simp only [iG,rL,List.append_nil] at am
  rw [<- am]
  simp +contextual only [go_sem,aD,sevalprocAttr,aI,ht,aL,e6]
  exact ct bq (by omega) (by decide) bj fun M2 bh aZ cH=>ak pz ⟨_,rfl,cH⟩
def pG {M:aR}{a:Ag}{cs:List Value}(h:AV M a cs):∃ s,cs=[.int .i64 a.k,.int .i64 a.x.k,.int .i64 a.x.v.k,.int .i64 a.x.v.n,st a.x.v.t,.int .i64 a.x.c,s]/\s.oneCell'=true/\hY M a.x [.int .i64 a.x.k,.int .i64 a.x.v.k,.int .i64 a.x.v.n,st a.x.v.t,.int .i64 a.x.c,s]:=by
 obtain ⟨c,h1,rfl⟩:=h
 obtain ⟨s,rfl,h2,_⟩:=dG h1
 exact ⟨s,rfl,h2,h1⟩
def Fc {M:aR}{cols:List Int}{cv sv:Value}{l:List Ag}(lz:RS M RI 1 cols cv)(hs:RS M (AV M) 7 l sv)(bu:l.length<=1048576)(T:Tm):
 bU Tryz.prog 231 [cv,sv] T M [] [] (fun r M' _ _=>UY (jp cols l) r M') aM:=by
 obtain ⟨fp,a,c,rfl,cX,_,hg⟩:=ax (by decide) (fun _ _=>mM) hs
 refine az ajd rfl rfl ?_
 intro bj _
 simp +contextual only [go_sem,aD,sevalprocAttr]
 refine aO l.length 14 [(0,cv),(12,.slice a l.length c),(13,.int .i64 (l.length:Int))] (fun i e h=>∃ N' M' R fv acc,aG T N'/\bm M M'/\h=⟨N',M',[],R⟩/\e 6=fv/\acc.length=i/\kY 3 1 RI [] R fv acc/\rL acc (jp cols (l.drop i))=jp cols l) 0 (by omega) (by simp only [aE,go_sem,sevalprocAttr]) (by simp only [go_sem,sevalprocAttr]) ⟨T,M,[],_,[],aG.rfl',bm.rfl',rfl,by simp only [go_sem,sevalprocAttr],rfl,cV,qt _⟩ ?_
 rintro i e h hi aI ht ⟨N1,M1,R1,fv,acc,pz,aW,rfl,e6,js,bq,am⟩
 simp only [aE] at aI
 by_cases aL:i<l.length
 ·obtain ⟨b',o',cs',rfl,bP,eh⟩:=hg i l[i] (gq aL)
  obtain ⟨s0,rfl,tB,xm⟩:=pG (qI aW _ _ eh)
  obtain ⟨x0,x1,x2,x3,x4,x5,x6⟩:=At7 (bP.ext aW)
  have bK:l.drop i=l[i]::l.drop (i+1):=dq aL
  rw [bK] at am
  have Gc:∀ (t:Int),vd cols l[i]=.ok t ->rL (acc++[t]) (jp cols (l.drop (i+1)))=jp cols l:=fun t h=>by rw [QG h,<- oe] at am;exact am
  have S3:∀ (er:Int),vd cols l[i]=.error er ->jp cols l=.error er:=fun er h=>by rw [Nn h] at am;exact am.symm
  simp +contextual only [go_sem,aD,sevalprocAttr,aI,ht,aL,e6,x0,x1,x2,x3,x4,x5,x6,tB]
  intro b8 T8 pp nE sP
  have hT:=pz.trans nE
  by_cases hk:l[i].k<1\/5<l[i].k
  ·rw [if_pos hk]
   have:=S3 1 (by unfold vd;rw [if_pos hk])
   rw [this]
   exact ak hT ⟨by decide,rfl⟩
  rw [if_neg hk]
  by_cases EB:l[i].k=1
  ·rw [if_pos EB]
   have qZ:=Gc 3 (by unfold vd;rw [if_neg hk,if_pos EB])
   intro b7 mU jD
   refine cB (Tryz.underlying53) kB kA (x:=(3:Int)) (cs:=[.int .i64 3]) bq rfl (fun _ _=>cE) (ja rfl) mU (by omega) (by decide) ?_
   intro fv' R' bw
   simp +contextual only [go_sem,sevalprocAttr,ht]
   refine aS (al (al (aC ⟨l.length - (i+1),by omega,rfl,i+1,by omega,rfl,?_,?_,T8,M1,R',fv',acc++[3],hT,aW,rfl,?_,?_,bw,qZ⟩)))
   ·simp only [aE,aI,go_sem,sevalprocAttr]
   ·simp only [go_sem,sevalprocAttr,aA i (by omega)]
   ·simp only [go_sem,sevalprocAttr]
   ·rw [List.length_append,js];rfl
  rw [if_neg EB]
  have XW:hY M1 l[i].x [.int .i64 l[i].x.k,.int .i64 l[i].x.v.k,.int .i64 l[i].x.v.n,st l[i].x.v.t,.int .i64 l[i].x.c,s0]:=xm
  refine aF (Dy (aH aW (fun _ _ h=>h) lz) XW T8) ?_
  rintro r M2 bh aZ hr
  cases nH:lm cols l[i].x with
  | error er=>
   rw [nH] at hr
   obtain ⟨cm,t,rfl⟩:=hr
   rw [S3 er (by unfold vd;rw [if_neg hk,if_neg EB,nH])]
   simp +contextual only [go_sem,aD,sevalprocAttr,cm]
   exact ak hT ⟨cm,rfl⟩
  | ok t=>
   rw [nH] at hr
   simp only [Er] at hr
   subst hr
   simp only [aJ] at aZ
   have VS:aN M2 ⟨b8,0,none⟩=none:=by first | exact aZ | simp [aN,aZ]
   by_cases g1:l[i].k=3
   ·by_cases g2:t=3
    ·have qZ:=Gc 3 (by unfold vd;rw [if_neg hk,if_neg EB,nH];simp [g1,g2])
     simp +contextual only [go_sem,aD,sevalprocAttr,e6,VS,g1,g2]
     intro b7 mU jD
     refine cB (Tryz.underlying53) kB kA (x:=(3:Int)) (cs:=[.int .i64 3]) bq rfl (fun _ _=>cE) (ja rfl) mU (by omega) (by decide) ?_
     intro fv' R' bw
     simp +contextual only [go_sem,sevalprocAttr,ht]
     refine aS (al (al (aC ⟨l.length - (i+1),by omega,rfl,i+1,by omega,rfl,?_,?_,T8,M2,R',fv',acc++[3],hT,aW.trans bh,rfl,?_,?_,bw,qZ⟩)))
     ·simp only [aE,aI,go_sem,sevalprocAttr]
     ·simp only [go_sem,sevalprocAttr,aA i (by omega)]
     ·simp only [go_sem,sevalprocAttr]
     ·rw [List.length_append,js];rfl
    ·by_cases g3:t=1
     ·have qZ:=Gc 3 (by unfold vd;rw [if_neg hk,if_neg EB,nH];simp [g1,g3])
      simp +contextual only [go_sem,aD,sevalprocAttr,e6,VS,g1,g3]
      intro b7 mU jD
      refine cB (Tryz.underlying53) kB kA (x:=(3:Int)) (cs:=[.int .i64 3]) bq rfl (fun _ _=>cE) (ja rfl) mU (by omega) (by decide) ?_
      intro fv' R' bw
      simp +contextual only [go_sem,sevalprocAttr,ht]
      refine aS (al (al (aC ⟨l.length - (i+1),by omega,rfl,i+1,by omega,rfl,?_,?_,T8,M2,R',fv',acc++[3],hT,aW.trans bh,rfl,?_,?_,bw,qZ⟩)))
      ·simp only [aE,aI,go_sem,sevalprocAttr]
      ·simp only [go_sem,sevalprocAttr,aA i (by omega)]
      ·simp only [go_sem,sevalprocAttr]
      ·rw [List.length_append,js];rfl
     ·rw [S3 9 (by unfold vd;rw [if_neg hk,if_neg EB,nH];simp [g1,g2,g3])]
      simp +contextual only [go_sem,aD,sevalprocAttr,VS,g1,g2,g3]
      exact ak hT ⟨by decide,rfl⟩
   ·by_cases g4:4<=l[i].k
    ·have qZ:=Gc t (by unfold vd;rw [if_neg hk,if_neg EB,nH];simp [g1,g4])
     simp +contextual only [go_sem,aD,sevalprocAttr,e6,VS,g1,g4]
     intro b7 mU jD
     refine cB (Tryz.underlying53) kB kA (x:=(t:Int)) (cs:=[.int .i64 t]) bq rfl (fun _ _=>cE) (ja rfl) mU (by omega) (by decide) ?_
     intro fv' R' bw
     simp +contextual only [go_sem,sevalprocAttr,ht]
     refine aS (al (al (aC ⟨l.length - (i+1),by omega,rfl,i+1,by omega,rfl,?_,?_,T8,M2,R',fv',acc++[t],hT,aW.trans bh,rfl,?_,?_,bw,qZ⟩)))
     ·simp only [aE,aI,go_sem,sevalprocAttr]
     ·simp only [go_sem,sevalprocAttr,aA i (by omega)]
     ·simp only [go_sem,sevalprocAttr]
     ·rw [List.length_append,js];rfl
    ·have qZ:=Gc 3 (by unfold vd;rw [if_neg hk,if_neg EB,nH];simp [g1,g4])
     simp +contextual only [go_sem,aD,sevalprocAttr,e6,VS,g1,g4]
     intro b7 mU jD
     refine cB (Tryz.underlying53) kB kA (x:=(3:Int)) (cs:=[.int .i64 3]) bq rfl (fun _ _=>cE) (ja rfl) mU (by omega) (by decide) ?_
     intro fv' R' bw
     simp +contextual only [go_sem,sevalprocAttr,ht]
     refine aS (al (al (aC ⟨l.length - (i+1),by omega,rfl,i+1,by omega,rfl,?_,?_,T8,M2,R',fv',acc++[3],hT,aW.trans bh,rfl,?_,?_,bw,qZ⟩)))
     ·simp only [aE,aI,go_sem,sevalprocAttr]
     ·simp only [go_sem,sevalprocAttr,aA i (by omega)]
     ·simp only [go_sem,sevalprocAttr]
     ·rw [List.length_append,js];rfl
 ·have:i=l.length:=by omega
  subst this
  rw [List.drop_length] at am
  simp only [jp,rL,List.append_nil] at am
  rw [<- am]
  simp +contextual only [go_sem,aD,sevalprocAttr,aI,ht,aL,e6]
  exact ct bq (by omega) (by decide) bj fun M2 bh aZ cH=>ak pz ⟨_,rfl,cH⟩
def Rq (k:Int){M:aR}(T:Tm):bU Tryz.prog 199 [.int .i64 k] T M [] [] (fun r _ _ _=>r=.int .i64 (iF k)) aM:=by
 refine az aiV rfl rfl ?_
 intro _ _
 simp +contextual only [go_sem,aD,sevalprocAttr]
 (repeat' split)<;>(refine ak aG.rfl' ?_;refine cR ?_;simp only [iF];grind)
theorem V9 {M:aR}{l:List Int}{a:Option Addr}{c:Nat}(hs:RS M RI 1 l (.slice a l.length c)):0<l.length ->∃ b o,a=some ⟨b,o,none⟩/\∀ (i:Nat),i<l.length ->aN M ⟨b,o+i,none⟩=some (.int .i64 (l.getD i 0)):=by
 obtain ⟨_,a',c',h',_,_,hg⟩:=ax (by decide) (fun _ _=>cE) hs
 cases h'
 intro h0
 obtain ⟨b,o,cs,rfl,_⟩:=hg 0 l[0] (gq h0)
 refine ⟨b,o,rfl,fun i hi=> ?_⟩
 obtain ⟨b2,o2,cs2,h2,bP,hr⟩:=hg i l[i] (gq hi)
 cases h2
 unfold RI at hr;subst hr
 have:=xC bP
 rw [Nat.mul_one] at this
 rw [this,List.getD_eq_getElem?_getD,gq hi];rfl
theorem Kh {a b:List Int}{i:Nat}(hi:i<a.length)(hj:i<b.length):lC (a.drop i) (b.drop i)=match kf a[i] b[i] with
 | none=> .error 9
 | some o=>BC o (lC (a.drop (i+1)) (b.drop (i+1))):=by
 rw [dq hi,dq hj,lC]
 cases kf a[i] b[i] with
 | none=>rfl
 | some o=>simp only;cases lC (a.drop (i+1)) (b.drop (i+1))<;>rfl
def wA {M:aR}{l m:List Int}{lv mv:Value}(hl:RS M RI 1 l lv)(hm:RS M RI 1 m mv)(bu:l.length<=1048576)(T:Tm):bU Tryz.prog 202 [lv,mv] T M [] [] (fun r M' _ _=>UY (oE l m) r M') aM:=by
 obtain ⟨fp,a,c,rfl,cX,_,hg⟩:=ax (by decide) (fun _ _=>cE) hl
 obtain ⟨_,a2,c2,rfl,pq,_,xh⟩:=ax (by decide) (fun _ _=>cE) hm
 have gl:=V9 hm
 refine az aiY rfl rfl ?_
 intro bj _
 unfold oE
 by_cases cm:l.length≠m.length
 ·rw [if_pos cm]
  have kd:¬ (l.length:Int)=(m.length:Int):=by omega
  simp +contextual only [go_sem,aD,sevalprocAttr,kd]
  exact ak aG.rfl' ⟨by decide,rfl⟩
 rw [if_neg cm]
 have hlm:l.length=m.length:=by omega
 simp +contextual only [go_sem,aD,sevalprocAttr,hlm]
 refine aO l.length 16 [(1,.slice a2 m.length c2),(14,.slice a l.length c),(15,.int .i64 (l.length:Int))] (fun i e h=>∃ R fv acc,h=⟨T,M,[],R⟩/\e 6=fv/\acc.length=i/\kY 3 1 RI [] R fv acc/\rL acc (lC (l.drop i) (m.drop i))=lC l m) 0 (by omega) (by simp only [aE,go_sem,sevalprocAttr,hlm]) (by simp only [go_sem,sevalprocAttr]) ⟨[],_,[],rfl,by simp only [go_sem,sevalprocAttr],rfl,cV,qt _⟩ ?_
 rintro i e h hi aI ht ⟨R1,fv,acc,rfl,e6,js,bq,am⟩
 simp only [aE] at aI
 by_cases aL:i<l.length
 ·obtain ⟨b',o',cs',rfl,bP,eh⟩:=hg i l[i] (gq aL)
  unfold RI at eh;subst eh
  have x0:=xC bP
  rw [Nat.mul_one] at x0
  have Jn:i<m.length:=by omega
  obtain ⟨b2,o2,rfl,hgi⟩:=gl (by omega)
  have y0:=hgi i Jn
  rw [List.getD_eq_getElem?_getD,gq Jn,Option.getD_some] at y0
  rw [Kh aL Jn] at am
  have vC:∀ (o:Int),kf l[i] m[i]=some o ->rL (acc++[o]) (lC (l.drop (i+1)) (m.drop (i+1)))=lC l m:=fun o h=>by rw [h] at am;rw [oe];exact am
  by_cases h1:l[i]=m[i]
  ·have qZ:=vC m[i] (by unfold kf;rw [if_pos (.inl h1),h1])
   simp +contextual only [go_sem,aD,sevalprocAttr,aI,ht,aL,Jn,e6,x0,y0,h1]
   intro b7 mU
   refine cB (Tryz.underlying53) kB kA (x:=m[i]) (cs:=[.int .i64 m[i]]) bq rfl (fun _ _=>cE) (ja rfl) mU (by omega) (by decide) ?_
   intro fv' R' bw
   simp +contextual only [go_sem,sevalprocAttr,ht]
   refine aS (al (aC ⟨l.length - (i+1),by omega,rfl,i+1,by omega,rfl,?_,?_,R',fv',acc++[m[i]],rfl,?_,?_,bw,qZ⟩))
   ·simp only [aE,aI,go_sem,sevalprocAttr]
   ·simp only [go_sem,sevalprocAttr,aA i (by omega)]
   ·simp only [go_sem,sevalprocAttr]
   ·rw [List.length_append,js];rfl
  ·by_cases h2:m[i]=1
   ·have qZ:=vC l[i] (by unfold kf;rw [if_pos (.inr h2)])
    simp +contextual only [go_sem,aD,sevalprocAttr,aI,ht,aL,Jn,e6,x0,y0,h2]
    intro b7 mU
    refine cB (Tryz.underlying53) kB kA (x:=l[i]) (cs:=[.int .i64 l[i]]) bq rfl (fun _ _=>cE) (ja rfl) mU (by omega) (by decide) ?_
    intro fv' R' bw
    simp +contextual only [go_sem,sevalprocAttr,ht]
    refine aS (al (aC ⟨l.length - (i+1),by omega,rfl,i+1,by omega,rfl,?_,?_,R',fv',acc++[l[i]],rfl,?_,?_,bw,qZ⟩))
    ·simp only [aE,aI,go_sem,sevalprocAttr]
    ·simp only [go_sem,sevalprocAttr,aA i (by omega)]
    ·simp only [go_sem,sevalprocAttr]
    ·rw [List.length_append,js];rfl
   ·by_cases h3:l[i]=1
    ·have qZ:=vC m[i] (by unfold kf;rw [if_neg (fun h=>h.elim h1 h2),if_pos h3])
     have h4:¬ 1=m[i]:=fun h=>h2 h.symm
     simp +contextual only [go_sem,aD,sevalprocAttr,aI,ht,aL,Jn,e6,x0,y0,h2,h3,h4]
     intro b7 mU
     refine cB (Tryz.underlying53) kB kA (x:=m[i]) (cs:=[.int .i64 m[i]]) bq rfl (fun _ _=>cE) (ja rfl) mU (by omega) (by decide) ?_
     intro fv' R' bw
     simp +contextual only [go_sem,sevalprocAttr,ht]
     refine aS (al (aC ⟨l.length - (i+1),by omega,rfl,i+1,by omega,rfl,?_,?_,R',fv',acc++[m[i]],rfl,?_,?_,bw,qZ⟩))
     ·simp only [aE,aI,go_sem,sevalprocAttr]
     ·simp only [go_sem,sevalprocAttr,aA i (by omega)]
     ·simp only [go_sem,sevalprocAttr]
     ·rw [List.length_append,js];rfl
    ·have:kf l[i] m[i]=none:=by unfold kf;rw [if_neg (fun h=>h.elim h1 h2),if_neg h3]
     rw [this] at am
     rw [<- am]
     simp +contextual only [go_sem,aD,sevalprocAttr,aI,ht,aL,Jn,x0,y0,h1,h2,h3]
     exact ak aG.rfl' ⟨by decide,rfl⟩
 ·have:i=l.length:=by omega
  subst this
  have us:lC ([]:List Int) []=.ok []:=by simp [lC]
  rw [List.drop_length,List.drop_eq_nil_of_le (by omega),us] at am
  simp only [rL,List.append_nil] at am
  rw [<- am]
  simp +contextual only [go_sem,aD,sevalprocAttr,aI,ht,aL,e6]
  exact ct bq (by omega) (by decide) bj fun M2 bh aZ cH=>ak aG.rfl' ⟨_,rfl,cH⟩
def eo {α:Type}(el:TypeId)(sz:Nat)(r:α ->List Value ->Prop)(M:aR)(N:Tm)(l:List α)(lv:Value)(L:LL):Prop:=
 (l=[]/\lv=.slice none 0 0/\L=[])\/
 ∃ g cap cs junk,lv=.slice (some ⟨g,0,none⟩) l.length cap/\L=[(g,cs++junk)]/\N g=some el/\RL r l cs/\cs.length=l.length*sz/\(cs++junk).length=cap*sz/\l.length<=cap/\M g=none
section
variable {α:Type} {el:TypeId} {sz:Nat} {r:α ->List Value ->Prop} {M:aR} {N:Tm} {l:List α} {lv:Value} {L:LL}
def ew {N':Tm}(hN:aG N N')(h:eo el sz r M N l lv L):eo el sz r M N' l lv L:=by
 rcases h with h | ⟨g,cap,cs,junk,h1,h2,h3,h4⟩
 ·exact .inl h
 ·exact .inr ⟨g,cap,cs,junk,h1,h2,hN _ _ h3,h4⟩
def fC {M':aR}{r':α ->List Value ->Prop}(hr:∀ x cs,r x cs ->r' x cs)(hn:aJ M' L)(h:eo el sz r M N l lv L):eo el sz r' M' N l lv L:=by
 rcases h with h | ⟨g,cap,cs,junk,h1,rfl,h3,h4,h5,h6,h7,_⟩
 ·exact .inl h
 ·exact .inr ⟨g,cap,cs,junk,h1,rfl,h3,dl hr h4,h5,h6,h7,hn.1⟩
theorem di (h:eo el sz r M N l lv L):∃ a c,lv=.slice a l.length c:=by
 rcases h with ⟨rfl,rfl,rfl⟩ | ⟨g,cap,cs,junk,rfl,_⟩<;>exact ⟨_,_,rfl⟩
def qO {P:Program}{F:Fi}{s:List Vc.Item}{e:dx}{ds:List Deferred}{dd:Option Nat}{R:RR}{t:TypeId}{z:List Value}{b:Nat}{x:α}{cs:List Value}{L1:LL}(hu:P.underlying t=some (.slice el))(bN:dY P t=some (el,sz,z))(ce:kz P t=true)
 (h:eo el sz r M N l lv L) (hx:r x cs) (bu:cs.length=sz) (dB:∀ u∈cs,u.oneCell'=true) (hb:M b=none) (hl:l.length*sz+sz<=4398046511104) (dK:0<sz)
 (k:∀ N' lv' g cs',aG N N' ->bf g ((b,cs)::L1) ->eo el sz r M N' (l++[x]) lv' [(g,cs')] ->cA P F s (cI e dd lv') ds ⟨N',M,(g,cs')::(b,cs)::L1,R⟩ ⟨⟩):om P F t t lv (.slice (some ⟨b,0,none⟩) 1 1) dd s e ds ⟨N,M,(b,cs)::L1++L,R⟩ ⟨⟩:=by
 have hs:∀ L2:LL,Srcs P t sz ⟨N,M,(b,cs)::L2,R⟩ (.slice (some ⟨b,0,none⟩) 1 1) cs:=fun L2=> .slice _ 1 _ _ _ hu (cF [] hb trivial (by rw [bu,Nat.one_mul])) dB
 have fin:∀ (xs:List Value),RL r l xs ->xs.length=l.length*sz ->MV lv el sz xs ⟨N,M,(b,cs)::L1++L,R⟩ ((b,cs)::L1) ->om P F t t lv (.slice (some ⟨b,0,none⟩) 1 1) dd s e ds ⟨N,M,(b,cs)::L1++L,R⟩ ⟨⟩:=by
  intro xs fq iY zw
  refine Dm bN ce zw (hs _) (hs _) (by omega) (by omega) ?_
  intro N' g m c junk km hNg hMg uj hm hmc cX
  have DR:m=(l++[x]).length:=by
   rw [List.length_append];simp only [ln]
   rw [iY,bu] at hm
   exact Nat.eq_of_mul_eq_mul_right dK (by rw [Nat.add_mul];omega)
  subst DR
  exact k N' _ g _ km uj (.inr ⟨g,c,xs++cs,junk,rfl,rfl,hNg,cS fq ⟨cs,[],by simp,hx,rfl⟩,by rw [List.length_append,List.length_append,iY,bu,Nat.add_mul];simp,cX,hmc,hMg⟩)
 rcases h with ⟨rfl,rfl,rfl⟩ | ⟨g,cap,xs,junk,rfl,rfl,hN,fq,iY,hc,cX,_⟩
 ·exact fin [] rfl (by simp) (.inl ⟨rfl,rfl,by simp⟩)
 ·exact fin xs fq iY (.inr ⟨g,_,cap,junk,(b,cs)::L1,[],rfl,hN,by simp,by simp,iY,hc,cX⟩)
def kZ {R:RR}{L2:LL}{k:Sh ->Prop}(h:eo el sz r M N l lv L)(hb:l.length*sz<=4398046511104)(hn:aJ M L2)
 (hk:∀ M',bm M M' ->aJ M' L2 ->RS M' r sz l lv ->cq ⟨N,M',L2,R⟩ k):cq ⟨N,M,L++L2,R⟩ k:=by
 rcases h with ⟨rfl,rfl,rfl⟩ | ⟨g,cap,cs,junk,rfl,rfl,hN,fq,iY,hc,cX,_⟩
 ·exact hk M bm.rfl' hn bz
 ·refine aU fun he h1 h2=>hk _ he h2 ⟨hb,cs,.inr ⟨g,0,l.length,cap,rfl,cX,iY,?_⟩,fq⟩
  exact jJ h1 _ 0 (fun i v hv=>by
   rw [Nat.zero_add,List.getElem?_append_left (by exact (List.getElem?_eq_some_iff.1 hv).1)];exact hv)
def jA (h:eo el sz r M N l lv L):aJ M L:=by
 rcases h with ⟨_,_,rfl⟩ | ⟨g,cap,cs0,junk,_,rfl,_,_,_,_,_,hg⟩
 ·trivial
 ·exact ⟨hg,trivial⟩
end
def yZ (M:aR)(v:Value):Prop:=∀ b o n c,v=.slice (some ⟨b,o,none⟩) n c ->M b=none
def wl {α:Type}{el:TypeId}{sz:Nat}{r:α ->List Value ->Prop}{M M0:aR}{N:Tm}{l:List α}{lv:Value}{L:LL}(he:bm M0 M)(h:eo el sz r M N l lv L):yZ M0 lv:=by
 rintro b o n c rfl
 rcases h with ⟨_,h,_⟩ | ⟨g,cap,cs,junk,h,_,_,_,_,_,_,hg⟩
 ·cases h
 ·cases h
  cases h0:M0 b with
  | none=>rfl
  | some x=>rw [he _ _ h0] at hg;cases hg
def lZ (M:aR)(t:List Int)(cs:List Value):Prop:=∃ v,cs=[v]/\RS M RI 1 t v
theorem cQ {M:aR}{t:List Int}{cs}(h:lZ M t cs):cs.length=1:=by obtain ⟨v,rfl,_⟩:=h;rfl
def cO {M M':aR}(hM:bm M M')(t:List Int)(cs)(h:lZ M t cs):lZ M' t cs:=by
 obtain ⟨v,rfl,h⟩:=h
 exact ⟨v,rfl,aH hM (fun _ _ h=>h) h⟩
theorem pI {M:aR}{t:List Int}{cs}(h:lZ M t cs):∀ u∈cs,u.oneCell'=true:=by
 obtain ⟨v,rfl,h⟩:=h
 obtain ⟨_,a,c,rfl,_⟩:=ax (by decide) (fun _ _=>cE) h
 intro u hu
 simp only [List.mem_singleton] at hu
 subst hu;rfl
def En {rels:List Rel}{i:Nat}(hi:i<rels.length):bO (rels.take (i+1))=bO (rels.take i)++(if rels[i].view=true then [] else [rels[i].cols.map (·.ty)]):=by
 rw [<- List.take_append_getElem hi]
 unfold bO
 rw [List.filter_append,List.map_append]
 congr 1
 cases h:rels[i].view<;>simp [h]
def yJ {M:aR}{rels:List Rel}{rv:Value}(hr:RS M (ig M) 14 rels rv)(bu:rels.length<=1048576)(eD:∀ r∈rels,r.cols.length<=1048576)(T:Tm):
 bU Tryz.prog 53 [rv] T M [] [] (fun r M' _ _=>RS M' (lZ M') 1 (bO rels) r/\yZ M r) aM:=by
 obtain ⟨fp,a,c,rfl,cX,_,hg⟩:=ax (by decide) (fun _ _=>ii) hr
 refine az F53 rfl rfl ?_
 intro bj _
 simp +contextual only [go_sem,aD,sevalprocAttr]
 refine aO rels.length 11 [(9,.slice a rels.length c),(10,.int .i64 (rels.length:Int))] (fun i e h=>∃ N' M' L' fv,aG T N'/\bm M M'/\h=⟨N',M',L',[]⟩/\e 3=fv/\eo 53 1 (lZ M') M' N' (bO (rels.take i)) fv L'/\(bO (rels.take i)).length<=i) 0 (by omega) (by simp only [aE,go_sem,sevalprocAttr]) (by simp only [go_sem,sevalprocAttr]) ⟨T,M,[],_,aG.rfl',bm.rfl',rfl,by simp only [go_sem,sevalprocAttr],.inl ⟨by simp [bO],rfl,rfl⟩,by simp [bO]⟩ ?_
 rintro i e h hi aI ht ⟨N1,M1,L1,fv,pz,aW,rfl,e3,bq,Lj⟩
 simp only [aE] at aI
 by_cases aL:i<rels.length
 ·obtain ⟨b',o',cs',rfl,bP,eh⟩:=hg i rels[i] (gq aL)
  obtain ⟨ca,cn,s1,a1,n1,a2,n2,a3,n3,rfl,iQ,gC,tA⟩:=iz (dV aW _ _ eh)
  obtain ⟨x0,x1,x2,x3,x4,x5,x6,x7,x8,x9,x10,x11,x12,x13⟩:=C7 (bP.ext aW)
  have eP:=En aL
  simp +contextual only [go_sem,aD,sevalprocAttr,aI,ht,aL,x0,x1,x2,x3,x4,x5,x6,x7,x8,x9,x10,x11,x12,x13,iQ]
  intro b5 T5 jz eg ko nq
  have cY:=pz.trans ko
  by_cases rY:rels[i].view=true
  ·rw [if_pos rY]
   rw [if_pos rY,List.append_nil] at eP
   refine aS (al (aC ⟨rels.length - (i+1),by omega,rfl,i+1,by omega,rfl,?_,?_,T5,M1,L1,fv,cY,aW,rfl,?_,?_,?_⟩))
   ·simp only [aE,aI,go_sem,sevalprocAttr]
   ·simp only [go_sem,sevalprocAttr,aA i (by omega)]
   ·simp only [e3,go_sem,sevalprocAttr]
   ·rw [eP];exact ew ko bq
   ·rw [eP];omega
  rw [if_neg rY]
  rw [if_neg rY] at eP
  obtain ⟨hcb,_,_,hcx,akD,_,hcg⟩:=ax (by decide) (fun _ _=>fZ) gC
  cases hcx
  have afw:=eD rels[i] (gm aL)
  refine bR rels[i].cols.length 20 [(3,fv),(9,.slice (some ⟨b',o',none⟩) rels.length c),(10,.int .i64 (rels.length:Int)),(11,.int .i64 (i:Nat)),(18,.slice ca rels[i].cols.length cn),(19,.int .i64 (rels[i].cols.length:Int))]
   (fun j e h=>∃ N' M' R' tv,aG T N'/\aG N1 N'/\bm M1 M'/\aJ M' L1/\h=⟨N',M',L1,R'⟩/\e 6=tv/\(j<rels[i].cols.length ->kY 3 1 RI [] R' tv ((rels[i].cols.take j).map (·.ty)))/\(j=rels[i].cols.length ->R'=[]/\RS M' RI 1 (rels[i].cols.map (·.ty)) tv))
   0 (by omega) (by simp only [aE,aI,e3,ht,go_sem,sevalprocAttr]) (by simp only [go_sem,sevalprocAttr]) ?_ ?_
  ·exact al (aC ⟨T5,M1,[],.slice none 0 0,cY,ko,bm.rfl',jA bq,rfl,by simp only [go_sem,sevalprocAttr],fun _=>cV,fun h0=>⟨rfl,by rw [List.eq_nil_of_length_eq_zero h0.symm];exact bz⟩⟩)
  ·rintro j e h hj dI EE ⟨N2,M2,R2,tv,I9,abi,bh,pt,rfl,e6,aj9,afD⟩
   simp only [aE] at dI
   by_cases um:j<rels[i].cols.length
   ·obtain ⟨bc,oc,cc',rfl,Sw,hrc⟩:=hcg j rels[i].cols[j] (gq um)
    unfold tF at hrc
    subst hrc
    obtain ⟨z0,z1⟩:=At2 (Sw.ext bh)
    have wH:=aj9 um
    simp +contextual only [go_sem,aD,sevalprocAttr,dI,EE,um,z0,z1,e6]
    intro b8 T8 pp eC nE sP b7 mU jD
    have uu:(rels[i].cols.take (j+1)).map (·.ty)=(rels[i].cols.take j).map (·.ty)++[rels[i].cols[j].ty]:=by
     rw [<- List.take_append_getElem um,List.map_append];rfl
    have AS:((rels[i].cols.take j).map (·.ty)).length=j:=by rw [List.length_map,List.length_take];omega
    refine cB (Tryz.underlying53) kB kA (x:=rels[i].cols[j].ty) (cs:=[.int .i64 rels[i].cols[j].ty]) wH rfl (fun _ _=>cE) (ja rfl) mU (by omega) (by decide) ?_
    intro tv' R' Xs
    rw [<- uu] at Xs
    simp +contextual only [go_sem,sevalprocAttr,EE]
    refine aS (al (al ?_))
    by_cases hje:j+1=rels[i].cols.length
    ·have afF:(rels[i].cols.take (j+1)).map (·.ty)=rels[i].cols.map (·.ty):=by rw [hje,List.take_length]
     rw [afF] at Xs
     refine ct Xs (by rw [List.length_map];omega) (by decide) pt fun M3 bG Jo cH=>aC ⟨rels[i].cols.length - (j+1),by omega,rfl,j+1,by omega,rfl,?_,?_,T8,M3,[],tv',I9.trans nE,abi.trans nE,bh.trans bG,Jo,rfl,?_,fun h=>absurd h (by omega),fun _=>⟨rfl,cH⟩⟩
     ·simp only [aE,dI,go_sem,sevalprocAttr]
     ·simp only [go_sem,sevalprocAttr,aA j (by omega)]
     ·simp only [go_sem,sevalprocAttr]
    ·refine aC ⟨rels[i].cols.length - (j+1),by omega,rfl,j+1,by omega,rfl,?_,?_,T8,M2,R',tv',I9.trans nE,abi.trans nE,bh,pt,rfl,?_,fun _=>Xs,fun h=>absurd h hje⟩
     ·simp only [aE,dI,go_sem,sevalprocAttr]
     ·simp only [go_sem,sevalprocAttr,aA j (by omega)]
     ·simp only [go_sem,sevalprocAttr]
   ·have:j=rels[i].cols.length:=by omega
    subst this
    obtain ⟨rfl,cH⟩:=afD rfl
    obtain ⟨_,ta,tc,rfl,_⟩:=ax (by decide) (fun _ _=>cE) cH
    simp +contextual only [go_sem,aD,sevalprocAttr,dI,EE,um,e6]
    intro b7 mU jD
    refine qO (L1:=[]) (Tryz.underlying130) An zX (ew abi (fC (cO bh) pt bq)) ⟨_,rfl,cH⟩ rfl (pI (M:=M2) ⟨_,rfl,cH⟩) mU (by omega) (by decide) ?_
    intro N4 fv' g cs' B4 uj bw
    simp +contextual only [go_sem,sevalprocAttr,dI]
    refine aS (dk (List.perm_append_comm (l₁:=[_])) (al (aC ⟨rels.length - (i+1),by omega,rfl,i+1,by omega,rfl,?_,?_,N4,M2,_,fv',I9.trans B4,aW.trans bh,rfl,?_,?_,?_⟩)))
    ·simp only [aE,dI,go_sem,sevalprocAttr]
    ·simp only [go_sem,sevalprocAttr,aA i (by omega)]
    ·simp only [go_sem,sevalprocAttr]
    ·rw [eP];exact bw
    ·rw [eP,List.length_append];simp only [ln];omega
 ·have:i=rels.length:=by omega
  subst this
  rw [List.take_length] at bq Lj
  simp +contextual only [go_sem,aD,sevalprocAttr,aI,ht,aL,e3]
  rw [<- List.append_nil L1]
  exact kZ (L2:=[]) bq (by omega) trivial fun M2 bh aZ cH=>ak pz ⟨aH bm.rfl' (cO bh) cH,wl aW bq⟩
theorem vn {M:aR}{rels:List Rel}{rv:Value}(hr:RS M (ig M) 14 rels rv)(bu:rels.length<=1048576)(eD:∀ r∈rels,r.cols.length<=1048576)(T:Tm):
 bU Tryz.prog 53 [rv] T M [] [] (fun r M' _ _=>RS M' (lZ M') 1 (bO rels) r) aM:=(yJ hr bu eD T).mono (fun _ _ _ _ _ _ _ h=>h.1) (fun _ _ _ _ _ _ _ h=>h)
set_option maxRecDepth 100000
section
variable {H:Type} {enc:TypeId×Value ->H} {W:World}
def amb (n:Nat):Qo enc Tryz.prog W n 2 RI:=by
 intro sp m hm cs x h hw
 exact Wd Tryz.underlying2 sp m hm cs x h hw
def GJ {sp:Nat ->Bool}{m:Nat}{cs:List Value}{x:DataW H×List MemPlace}(h:DataW.trod enc Tryz.prog W 0 sp true m 22 cs=some x)(hw:Rows.uptoBulk x.1<=1048576):
 ∃ l v,cs=[v]/\RS (ms W) (lZ (ms W)) 1 l v:=by
 obtain ⟨l,v,h1,h2,_⟩:=GI (sz:=1) ((Na (sz:=1) (amb m) Tryz.underlying25 (by kernel_rfl) (by decide)).le (Nat.le_succ m)) Tryz.underlying22 (by kernel_rfl) (by decide) (Nat.le_succ m) h hw
 exact ⟨l,v,h1,aH bm.rfl' (by rintro x cs ⟨s,h1,h2⟩;first | exact ⟨s,h2,h1⟩ | exact ⟨s,h1,h2⟩) h2⟩
end
end Go.Proofs.YtcpjbohndglclaaGreatDoor
namespace Go.Proofs
open Go.Shelf
def Tryz.lays106_ren:Go.Shelf.Ren:=⟨fun | 106=>271 | 213=>300 | 265=>319 | n=>n,fun | 9=>9 | 3=>3 | n=>n,fun | n=>n⟩
def Tryz.lays106:Go.Proofs.Lays.n106 Tryz.prog Tryz.lays106_ren:={
 mixed:=by kernel_rfl
 f106:=Tryz.func271.trans (congrArg some (by kernel_rfl))
 f213:=Tryz.func300.trans (congrArg some (by kernel_rfl))
 f265:=Tryz.func319.trans (congrArg some (by kernel_rfl))
 t3:=Tryz.underlying3
 a3:=Tryz.isAgg3
 z3:=Tryz.sizeOf3
 v3:=Tryz.zeroValue3
 t9:=Tryz.underlying9
 a9:=Tryz.isAgg9
 z9:=Tryz.sizeOf9
 v9:=Tryz.zeroValue9}
open Go.RowKit in
theorem Tryz.strings_Compare (a b:ByteArray)(w:World):
 Calls Tryz.prog 271 #[.string a,.string b] w fun e w'=>e=.returned (.int .i64 (Lib.compareBytes a.data.toList b.data.toList))/\w'=w:=Any.strings_Compare Tryz.lays106 a b w
end Go.Proofs
namespace Go.Proofs.YtcpjbohndglclaaGreatDoor
open Go Vc
set_option maxRecDepth 10000
def slR (M:aR):RR ->Prop
 | []=>True
 | (v,_,sz,xs)::R=>(0<sz ->Sl M v sz xs)/\slR M R
theorem sA {N:Tm}:∀ (R:RR) (M:aR) (k:Sh ->Prop),(∀ M',bm M M' ->slR M' R ->k ⟨N,M',[],[]⟩) ->cq ⟨N,M,[],R⟩ k
 | [],M,k,h=>aC (h M bm.rfl' trivial)
 | (v,el,sz,xs)::R,M,k,h=>by
  by_cases hs:0<sz
  ·exact cP (fun M' he _ iR=>sA R M' k fun M2 pC hR=>h M2 (he.trans pC) ⟨fun _=>iR.ext pC,hR⟩) hs
  ·intro c w hw
   obtain ⟨bs,hi⟩:=hw
   obtain ⟨bs',DO⟩:=hi.dropR
   exact sA R M k (fun M2 pC hR=>h M2 pC ⟨fun h=>absurd h hs,hR⟩) c w ⟨bs',DO⟩
section
variable {F:Fi} {s:List Vc.Item} {e:dx} {ds:List Deferred} {dd:Option Nat} {N:Tm} {M:aR} {L:LL} {R:RR}
def KA {c:Ctx}{w:World}{bs:List (Option Nat)}(hi:Hp c ⟨N,M,L,R⟩ w bs):Qa w [] N M [] []:=⟨[],rfl,
 {typ:=fun b t h=>⟨(hi.typ b t h).1,fun h=>by simp at h⟩
  holds:=hi.holds
  blk:=fun b cs h=>by simp at h
  rows:=⟨rfl,fun i v e sz xs o h=>by simp at h⟩
  nodup:=by simp
  apart:=fun b h=>by simp at h
  os:=rfl
  tape:=rfl
  output:=rfl
  size:=Nat.le_refl _
  old:=fun _ _ _=>rfl
  mem:=fun _ _ _=>rfl
  le:=fun _ _ h=>h}⟩
def cW {f:FuncId}{args:List Value}{x:Value}(hb:du Tryz.prog f=true)(hc:∀ M',bm M M' ->mj M' L ->slR M' R ->bU Tryz.prog f args N M' [] [] (fun r _ _ _=>r=x) aM)
 (hn:cA Tryz.prog F s (cI e dd x) ds ⟨N,M,L,R⟩ ⟨⟩):dp Tryz.prog F f args dd s e ds ⟨N,M,L,R⟩ ⟨⟩:=by
 refine ⟨hb,fun c w hw=> ?_⟩
 obtain ⟨_,⟨_,HW⟩,M',he,hL,hR,rfl⟩:=(lD (k:=fun h'=>∃ M',bm M M'/\mj M' L/\slR M' R/\h'=⟨N,M',[],[]⟩) fun M' he hL=>sA R M' _ fun M2 pC hR=>⟨M2,he.trans pC,B7 pC hL,hR,rfl⟩) c w hw
 have vG:Qa w [] N M' [] []:=KA HW
 refine Calls.mono ((hc M' he hL hR).2 w [] vG) ?_
 intro en w' hr
 cases en with
 | returned v=>
  obtain ⟨M2,L2,R2,⟨⟨_,ku⟩,_⟩,rfl⟩:=hr
  have hk:kh w w':=⟨ku.os,ku.tape,ku.output,ku.size,fun b hb=>ku.old b hb (by simp)⟩
  obtain ⟨bs,hi⟩:=hw
  exact ⟨_,⟨bs,hi.keeps hk⟩,hn⟩
 | panicked ch=>obtain ⟨_,_,_,_,hf⟩:=hr;exact hf.elim
 | outgrown=>exact hr.elim
def aP {f:FuncId}{args:List Value}{x:Value}(hc:bU Tryz.prog f args N M [] [] (fun r _ _ _=>r=x) aM)
 (hn:cA Tryz.prog F s (cI e dd x) ds ⟨N,M,L,R⟩ ⟨⟩):dp Tryz.prog F f args dd s e ds ⟨N,M,L,R⟩ ⟨⟩:=by
 refine ⟨hc.1,fun c w hw=> ?_⟩
 obtain ⟨bs,hi⟩:=hw
 have vG:Qa w [] N M [] []:=KA hi
 refine Calls.mono (hc.2 w [] vG) ?_
 intro en w' hr
 cases en with
 | returned v=>
  obtain ⟨M2,L2,R2,⟨⟨_,ku⟩,_⟩,rfl⟩:=hr
  have hk:kh w w':=⟨ku.os,ku.tape,ku.output,ku.size,fun b hb=>ku.old b hb (by simp)⟩
  exact ⟨_,⟨bs,hi.keeps hk⟩,hn⟩
 | panicked ch=>obtain ⟨_,_,_,_,hf⟩:=hr;exact hf.elim
 | outgrown=>exact hr.elim
end
def fx (a b:Int):Int:=if a<b then -1 else if b<a then 1 else 0
def kb (s t:Bs):Int:=Lib.compareBytes s t
def kg (a b:Int):Int:=if a≠0 then a else b
def j4:V:=⟨1,0,[]⟩
def yx (b:Bool):V:=⟨2,if b=true then 1 else 0,[]⟩
def DV (n:Int):V:=if n>1000000000000000\/n< -1000000000000000 then j4 else ⟨3,n,[]⟩
def pQ (a b:V):Int:=kg (fx (bQ a).k (bQ b).k) (kg (fx (bQ a).n (bQ b).n) (kb (bQ a).t (bQ b).t))
def vg (a b:V):Bool:=decide (a.k=b.k) && !decide (a.k=1)
def IW (a b:V):V:=if vg a b=true then yx (decide (pQ a b=0)) else j4
def ux (a b:V):V:=if vg a b=true then yx (decide (pQ a b<0)) else j4
def ou (v:V):Int:=if v.k=2 then IntKind.i64.wrap (2*v.n) else 1
def mX (n:Int):V:=if n=1 then j4 else yx (decide (n=2))
def Wv (a b:V):V:=mX (if ou b<ou a then ou b else ou a)
def orV (a b:V):V:=mX (if ou b>ou a then ou b else ou a)
def JQ (a:V):V:=mX (IntKind.i64.wrap (2 - ou a))
def My (v:V):Bool:=decide (ou v=2)
def UU (x y p:Int):V:=if x=0\/(IntKind.i64.wrap (p.tdiv x)=y/\p<=1000000000000000)/\p>= -1000000000000000 then DV p else j4
def wV (s:Int)(a b:V):V:=if a.k=3/\b.k=3 then
 (if s=43 then DV (IntKind.i64.wrap (a.n+b.n)) else if s=45 then DV (IntKind.i64.wrap (a.n - b.n)) else if s=42 then UU a.n b.n (IntKind.i64.wrap (a.n*b.n)) else j4) else j4
def Ch (a b:V):V:=if (a.k=4/\b.k=4)/\a.t.length+b.t.length<=60 then ⟨4,0,a.t++b.t⟩ else j4
def cC:List V ->List V ->Int
 | [],[]=>0
 | [],_::_=> -1
 | _::_,[]=>1
 | x::a,y::b=>kg (pQ x y) (cC a b)
variable {M:aR}
theorem Fx (a:Int)(T:Tm):bU Tryz.prog 272 [.int .i64 a] T M [] [] (fun r _ _ _=>r=.bool false) aM:=by
 refine az ajo rfl rfl ?_
 intro _ _
 simp +contextual only [go_sem,sevalprocAttr]
 exact ak aG.rfl' rfl
theorem yN (a:Int)(T:Tm):bU Tryz.prog 299 [.int .i64 a] T M [] [] (fun r _ _ _=>r=.bool false) aM:=by
 refine az ajv rfl rfl ?_
 intro _ _
 simp +contextual only [go_sem,sevalprocAttr]
 exact ak aG.rfl' rfl
def KX (a b:Int)(T:Tm):bU Tryz.prog 246 [.int .i64 a,.int .i64 b] T M [] [] (fun r _ _ _=>r=.int .i64 (fx a b)) aM:=by
 refine az aji rfl rfl ?_
 intro _ _
 simp +contextual only [go_sem,sevalprocAttr]
 refine aP (Fx a T) ?_
 simp +contextual only [go_sem,sevalprocAttr]
 refine aP (Fx b T) ?_
 simp +contextual only [go_sem,aD,sevalprocAttr]
 (repeat' split)<;>(refine ak aG.rfl' (cR ?_);unfold fx;simp [*])
def NO (a b:Int)(T:Tm):bU Tryz.prog 270 [.int .i64 a,.int .i64 b] T M [] [] (fun r _ _ _=>r=.int .i64 (fx a b)) aM:=by
 refine az ajn rfl rfl ?_
 intro _ _
 simp +contextual only [go_sem,sevalprocAttr]
 refine aP (yN a T) ?_
 simp +contextual only [go_sem,sevalprocAttr]
 refine aP (yN b T) ?_
 simp +contextual only [go_sem,aD,sevalprocAttr]
 (repeat' split)<;>(refine ak aG.rfl' (cR ?_);unfold fx;simp [*])
def WT (s t:Bs)(T:Tm):bU Tryz.prog 271 [st s,st t] T M [] [] (fun r _ _ _=>r=.int .i64 (kb s t)) aM:=
 (xM (by kernel_rfl) (fun w hw=>Calls.mono (Tryz.strings_Compare (bs s) (bs t) w) fun e w' h=>⟨by rw [h.1];rfl,by rw [h.2];exact kh.rfl'⟩) T).mono (fun _ _ _ _ _ _ _ h=>h.1) (fun _ _ _ _ _ _ _ h=>h)
def aeE {l:List Int}{lv:Value}(hs:RS M RI 1 l lv)(T:Tm):bU Tryz.prog 269 [lv] T M [] [] (fun r _ _ _=>r=.int .i64 (l.foldr kg 0)) aM:=by
 obtain ⟨fp,a,c,rfl,cX,_,hg⟩:=ax (by decide) (fun _ _=>cE) hs
 refine az aeo rfl rfl ?_
 intro bj _
 simp +contextual only [go_sem,aD,sevalprocAttr]
 refine aO l.length 8 [(3,.int .i64 0),(6,.slice a l.length c),(7,.int .i64 (l.length:Int))] (fun i e h=>h=⟨T,M,[],[]⟩/\(l.drop i).foldr kg 0=l.foldr kg 0) 0 (by omega) (by simp only [aE,go_sem,sevalprocAttr]) (by simp only [go_sem,sevalprocAttr]) ⟨rfl,rfl⟩ ?_
 rintro i e h hi aI ht ⟨rfl,am⟩
 simp only [aE] at aI
 by_cases aL:i<l.length
 ·obtain ⟨b',o',cs',rfl,bP,eh⟩:=hg i l[i] (gq aL)
  unfold RI at eh;subst eh
  have x0:=xC bP
  rw [Nat.mul_one] at x0
  have bK:l.drop i=l[i]::l.drop (i+1):=dq aL
  rw [bK,List.foldr_cons] at am
  simp +contextual only [go_sem,aD,sevalprocAttr,aI,ht,aL,x0]
  by_cases h0:l[i]=0
  ·rw [h0] at am
   simp +contextual only [go_sem,sevalprocAttr,h0]
   refine bT aL ?_ ?_ ⟨rfl,am⟩
   ·simp only [aE,aI,go_sem,sevalprocAttr]
   ·simp only [go_sem,sevalprocAttr,aA i (by omega)]
  ·simp +contextual only [go_sem,sevalprocAttr,h0]
   refine ak aG.rfl' (cR ?_)
   rw [<- am,kg,if_pos h0]
 ·have:i=l.length:=by omega
  subst this
  rw [List.drop_length] at am
  simp +contextual only [go_sem,aD,sevalprocAttr,aI,ht,aL]
  exact ak aG.rfl' (congrArg (Value.int .i64) am)
theorem tT (b:Bool)(T:Tm):bU Tryz.prog 170 [.bool b] T M [] [] (fun r _ _ _=>r=.agg ⟨(yx b).cs⟩) aM:=by
 refine az aiC rfl rfl ?_
 intro _ _
 cases b with
 | true=>
  simp +contextual only [go_sem,aD,sevalprocAttr]
  intro b1 T1 fO cY gu b2 T2 dO fz dA ef
  exact ak (cY.trans dA) rfl
 | false=>
  simp +contextual only [go_sem,aD,sevalprocAttr]
  intro b1 T1 fO cY gu b2 T2 dO fz dA ef
  exact ak (cY.trans dA) rfl
theorem xN (n:Int)(T:Tm):bU Tryz.prog 217 [.int .i64 n] T M [] [] (fun r _ _ _=>r=.agg ⟨(DV n).cs⟩) aM:=by
 unfold DV
 refine az ai8 rfl rfl ?_
 intro _ _
 by_cases h1:n>1000000000000000
 ·rw [if_pos (.inl h1)]
  simp +contextual only [go_sem,aD,sevalprocAttr,h1]
  intro b1 T1 fO cY gu
  refine aP (iO T1) ?_
  simp +contextual only [go_sem,sevalprocAttr,aB fO]
  exact ak cY rfl
 ·by_cases h2:n< -1000000000000000
  ·rw [if_pos (.inr h2)]
   simp +contextual only [go_sem,aD,sevalprocAttr,h1,h2]
   intro b1 T1 fO cY gu
   refine aP (iO T1) ?_
   simp +contextual only [go_sem,sevalprocAttr,aB fO]
   exact ak cY rfl
  ·rw [if_neg (fun h=>h.elim h1 h2)]
   simp +contextual only [go_sem,aD,sevalprocAttr,h1,h2]
   intro b1 T1 fO cY gu
   exact ak cY rfl
theorem BK (a b:V)(T:Tm):bU Tryz.prog 250 [.agg ⟨a.cs⟩,.agg ⟨b.cs⟩] T M [] [] (fun r _ _ _=>r=.bool (vg a b)) aM:=by
 obtain ⟨k,n,t⟩:=a
 obtain ⟨k',n',t'⟩:=b
 simp only [V.cs,vg]
 refine az ajk rfl rfl ?_
 intro _ _
 simp +contextual only [go_sem,sevalprocAttr]
 intro b1 T1 fO cY gu b2 T2 dO fz dA ef
 by_cases h:k=k'
 ·subst h
  simp +contextual only [go_sem,sevalprocAttr]
  exact ak (cY.trans dA) rfl
 ·simp +contextual only [go_sem,sevalprocAttr,h]
  exact ak (cY.trans dA) rfl
def pU (a b:V)(T:Tm):bU Tryz.prog 245 [.agg ⟨a.cs⟩,.agg ⟨b.cs⟩] T M [] [] (fun r _ _ _=>r=.int .i64 (pQ a b)) aM:=by
 obtain ⟨S,hS⟩:∃ S,S=pQ a b:=⟨_,rfl⟩
 rw [<- hS]
 unfold pQ at hS
 simp only [V.cs]
 refine IJ mx aap.bd Tryz.func245 rfl (by rw [aap.nt];exact Nat.le_of_ble_eq_true rfl) (dr:=[(1,.take 0<| .take 2<| .eff 1 false (.eff 3 false (.eff 4 true (.eff 5 true (.done)<| .no)<| .no)<| .no)<| .no),(2,.take 0<| .take 2<| .take 5<| .take 7<| .take 10<| .take 12<| .take 1<| .take 3<| .take 6<| .take 8<| .take 11<| .take 13<| .eff 4 false (.eff 9 false (.eff 14 false (.eff 15 false (.eff 16 false (.take 17<| .done)<| .no)<| .no)<| .no)<| .no)<| .no)]) (by kernel_rfl) aap.rs ?_
 intro _ _
 simp +contextual only [go_sem,sevalprocAttr]
 intro b1 T1 fO cY gu b2 T2 dO fz dA ef
 refine aT ?_
 simp +contextual only [go_sem,sevalprocAttr,fz,aB fO,aB dO]
 refine aP (l7 a _) ?_
 simp +contextual only [go_sem,sevalprocAttr]
 refine ⟨fW.refl _,?_⟩
 refine aP (l7 b _) ?_
 simp +contextual only [go_sem,sevalprocAttr,fz]
 refine ⟨fW.refl _,?_⟩
 refine aT ?_
 simp +contextual only [go_sem,sevalprocAttr,fz,aB fO,aB dO]
 refine aP (KX _ _ _) ?_
 simp +contextual only [go_sem,sevalprocAttr]
 refine ⟨fW.refl _,?_⟩
 refine aP (NO _ _ _) ?_
 simp +contextual only [go_sem,sevalprocAttr]
 refine ⟨fW.refl _,?_⟩
 refine aP (WT _ _ _) ?_
 simp +contextual only [go_sem,sevalprocAttr]
 refine ⟨fW.refl _,?_⟩
 intro b9 qY gY
 refine ⟨dJ bm.rfl' ⟨dO,fO,trivial⟩ ⟨gY.1,gY.2,trivial⟩,?_⟩
 refine dh aeo.bd fun M1 aW hb bj=> ?_
 refine aP (aeE (dE (fun _ _=>cE) hb (l:=[fx (bQ a).k (bQ b).k,fx (bQ a).n (bQ b).n,kb (bQ a).t (bQ b).t]) ⟨[_],_,rfl,rfl,[_],_,rfl,rfl,[_],_,rfl,rfl,rfl⟩ rfl (by simp)) _) ?_
 simp +contextual only [go_sem,sevalprocAttr]
 refine ⟨dL aW bj,?_⟩
 refine ak (cY.trans dA) (cR ?_)
 have h0:∀ x,kg x 0=x:=by intro x;unfold kg;split<;>omega
 simp only [hS,List.foldr,h0]
theorem BL (a b:V)(T:Tm):bU Tryz.prog 218 [.agg ⟨a.cs⟩,.agg ⟨b.cs⟩] T M [] [] (fun r _ _ _=>r=.agg ⟨(IW a b).cs⟩) aM:=by
 obtain ⟨S,hS⟩:∃ S,S=IW a b:=⟨_,rfl⟩
 rw [<- hS]
 unfold IW at hS
 refine az ai9 rfl rfl ?_
 intro _ _
 simp +contextual only [go_sem,sevalprocAttr,V.cs]
 intro b1 T1 fO cY gu b2 T2 dO fz dA ef b4 T4 eH em fE iJ
 refine aP (BK a b _) ?_
 have hT:=(cY.trans dA).trans fE
 cases Lj:vg a b with
 | true=>
  rw [Lj,if_pos rfl] at hS
  simp +contextual only [go_sem,aD,sevalprocAttr,fz,em,aB fO,aB dO]
  refine aP (pU a b _) ?_
  simp +contextual only [go_sem,sevalprocAttr]
  refine aP (tT _ _) ?_
  simp +contextual only [go_sem,sevalprocAttr,aB eH,V.cs]
  exact ak hT (by subst hS;rfl)
 | false=>
  rw [Lj,if_neg Bool.false_ne_true] at hS
  simp +contextual only [go_sem,aD,sevalprocAttr]
  refine aP (iO _) ?_
  simp +contextual only [go_sem,sevalprocAttr,aB eH]
  exact ak hT (by subst hS;rfl)
theorem tU (a b:V)(T:Tm):bU Tryz.prog 219 [.agg ⟨a.cs⟩,.agg ⟨b.cs⟩] T M [] [] (fun r _ _ _=>r=.agg ⟨(ux a b).cs⟩) aM:=by
 obtain ⟨S,hS⟩:∃ S,S=ux a b:=⟨_,rfl⟩
 rw [<- hS]
 unfold ux at hS
 refine az aja rfl rfl ?_
 intro _ _
 simp +contextual only [go_sem,sevalprocAttr,V.cs]
 intro b1 T1 fO cY gu b2 T2 dO fz dA ef b4 T4 eH em fE iJ
 refine aP (BK a b _) ?_
 have hT:=(cY.trans dA).trans fE
 cases Lj:vg a b with
 | true=>
  rw [Lj,if_pos rfl] at hS
  simp +contextual only [go_sem,aD,sevalprocAttr,fz,em,aB fO,aB dO]
  refine aP (pU a b _) ?_
  simp +contextual only [go_sem,sevalprocAttr]
  refine aP (tT _ _) ?_
  simp +contextual only [go_sem,sevalprocAttr,aB eH,V.cs]
  exact ak hT (by subst hS;rfl)
 | false=>
  rw [Lj,if_neg Bool.false_ne_true] at hS
  simp +contextual only [go_sem,aD,sevalprocAttr]
  refine aP (iO _) ?_
  simp +contextual only [go_sem,sevalprocAttr,aB eH]
  exact ak hT (by subst hS;rfl)
theorem nQ (a:V)(T:Tm):bU Tryz.prog 161 [.agg ⟨a.cs⟩] T M [] [] (fun r _ _ _=>r=.int .i64 (ou a)) aM:=by
 obtain ⟨S,hS⟩:∃ S,S=ou a:=⟨_,rfl⟩
 rw [<- hS]
 unfold ou at hS
 refine az aiu rfl rfl ?_
 intro _ _
 simp +contextual only [go_sem,aD,sevalprocAttr,V.cs]
 intro b1 T1 fO cY gu
 by_cases h:a.k=2
 ·rw [if_pos h] at hS
  simp +contextual only [go_sem,sevalprocAttr,h]
  exact ak cY (by subst hS;rfl)
 ·rw [if_neg h] at hS
  simp +contextual only [go_sem,sevalprocAttr,h]
  exact ak cY (by subst hS;rfl)
theorem sI (n:Int)(T:Tm):bU Tryz.prog 216 [.int .i64 n] T M [] [] (fun r _ _ _=>r=.agg ⟨(mX n).cs⟩) aM:=by
 obtain ⟨S,hS⟩:∃ S,S=mX n:=⟨_,rfl⟩
 rw [<- hS]
 unfold mX at hS
 refine az ai7 rfl rfl ?_
 intro _ _
 simp +contextual only [go_sem,aD,sevalprocAttr]
 intro b1 T1 fO cY gu
 by_cases h:n=1
 ·rw [if_pos h] at hS
  simp +contextual only [go_sem,sevalprocAttr,h]
  refine aP (iO _) ?_
  simp +contextual only [go_sem,sevalprocAttr,aB fO,V.cs]
  exact ak cY (by subst hS;rfl)
 ·rw [if_neg h] at hS
  simp +contextual only [go_sem,sevalprocAttr,h]
  refine aP (tT (decide (n=2)) _) ?_
  simp +contextual only [go_sem,sevalprocAttr,aB fO,V.cs]
  exact ak cY (by subst hS;rfl)
theorem W9 (a b:V)(T:Tm):bU Tryz.prog 166 [.agg ⟨a.cs⟩,.agg ⟨b.cs⟩] T M [] [] (fun r _ _ _=>r=.agg ⟨(Wv a b).cs⟩) aM:=by
 obtain ⟨S,hS⟩:∃ S,S=Wv a b:=⟨_,rfl⟩
 rw [<- hS]
 unfold Wv at hS
 refine az aiy rfl rfl ?_
 intro _ _
 simp +contextual only [go_sem,sevalprocAttr,V.cs]
 intro b1 T1 fO cY gu b2 T2 dO fz dA ef b4 T4 eH em fE iJ
 refine aT ?_
 simp +contextual only [go_sem,sevalprocAttr,fz,em,aB fO,aB dO]
 refine aP (nQ a _) ?_
 simp +contextual only [go_sem,sevalprocAttr]
 refine ⟨fW.refl _,?_⟩
 refine aP (nQ b _) ?_
 simp +contextual only [go_sem,sevalprocAttr]
 refine ⟨fW.refl _,?_⟩
 refine ⟨fW.refl _,?_⟩
 refine aP (sI _ _) ?_
 simp +contextual only [go_sem,sevalprocAttr,aB eH,V.cs]
 refine ⟨fW.refl _,?_⟩
 exact ak ((cY.trans dA).trans fE) (by subst hS;rfl)
theorem aaZ (a b:V)(T:Tm):bU Tryz.prog 167 [.agg ⟨a.cs⟩,.agg ⟨b.cs⟩] T M [] [] (fun r _ _ _=>r=.agg ⟨(orV a b).cs⟩) aM:=by
 obtain ⟨S,hS⟩:∃ S,S=orV a b:=⟨_,rfl⟩
 rw [<- hS]
 unfold orV at hS
 refine az aiz rfl rfl ?_
 intro _ _
 simp +contextual only [go_sem,sevalprocAttr,V.cs]
 intro b1 T1 fO cY gu b2 T2 dO fz dA ef b4 T4 eH em fE iJ
 refine aT ?_
 simp +contextual only [go_sem,sevalprocAttr,fz,em,aB fO,aB dO]
 refine aP (nQ a _) ?_
 simp +contextual only [go_sem,sevalprocAttr]
 refine ⟨fW.refl _,?_⟩
 refine aP (nQ b _) ?_
 simp +contextual only [go_sem,sevalprocAttr]
 refine ⟨fW.refl _,?_⟩
 refine ⟨fW.refl _,?_⟩
 refine aP (sI _ _) ?_
 simp +contextual only [go_sem,sevalprocAttr,aB eH,V.cs]
 refine ⟨fW.refl _,?_⟩
 exact ak ((cY.trans dA).trans fE) (by subst hS;rfl)
theorem xO (a:V)(T:Tm):bU Tryz.prog 165 [.agg ⟨a.cs⟩] T M [] [] (fun r _ _ _=>r=.agg ⟨(JQ a).cs⟩) aM:=by
 obtain ⟨S,hS⟩:∃ S,S=JQ a:=⟨_,rfl⟩
 rw [<- hS]
 unfold JQ at hS
 refine az aix rfl rfl ?_
 intro _ _
 simp +contextual only [go_sem,sevalprocAttr,V.cs]
 intro b1 T1 fO cY gu b2 T2 dO fz dA ef
 refine aP (nQ a _) ?_
 simp +contextual only [go_sem,sevalprocAttr]
 refine aP (sI _ _) ?_
 simp +contextual only [go_sem,sevalprocAttr,aB dO,V.cs]
 exact ak (cY.trans dA) (by subst hS;rfl)
theorem RK (a:V)(T:Tm):bU Tryz.prog 106 [.agg ⟨a.cs⟩] T M [] [] (fun r _ _ _=>r=.bool (My a)) aM:=by
 unfold My
 refine az ahZ rfl rfl ?_
 intro _ _
 simp +contextual only [go_sem,sevalprocAttr,V.cs]
 intro b1 T1 fO cY gu
 refine aP (nQ a _) ?_
 simp +contextual only [go_sem,sevalprocAttr]
 exact ak cY rfl
theorem RJ (a b:V)(ha:a.t.length<=1099511627776)(hb:b.t.length<=1099511627776)(T:Tm):bU Tryz.prog 169 [.agg ⟨a.cs⟩,.agg ⟨b.cs⟩] T M [] [] (fun r _ _ _=>r=.agg ⟨(Ch a b).cs⟩) aM:=by
 have hw:IntKind.i64.wrap ((a.t.length:Int)+b.t.length)=(a.t.length:Int)+b.t.length:=bJ (by omega) (by omega)
 obtain ⟨S,hS⟩:∃ S,S=Ch a b:=⟨_,rfl⟩
 rw [<- hS]
 unfold Ch at hS
 refine az aiB rfl rfl ?_
 intro _ _
 simp +contextual only [go_sem,aD,sevalprocAttr,V.cs]
 intro b1 T1 fO cY gu b2 T2 dO fz dA ef b4 T4 eH em fE iJ
 have hT:=(cY.trans dA).trans fE
 rw [hw]
 by_cases h1:(a.k=4/\b.k=4)/\a.t.length+b.t.length<=60
 ·rw [if_pos h1] at hS
  rw [if_neg (by omega)]
  have h2:a.t.length+b.t.length<=9223372036854775807:=by omega
  simp +contextual only [go_sem,sevalprocAttr,aB eH,h2,vi]
  exact ak hT (by subst hS;rfl)
 ·rw [if_neg h1] at hS
  rw [if_pos (by omega)]
  refine aP (iO _) ?_
  simp +contextual only [go_sem,sevalprocAttr,aB eH]
  exact ak hT (by subst hS;rfl)
theorem sJ (s:Int)(a b:V)(T:Tm):bU Tryz.prog 168 [.int .i32 s,.agg ⟨a.cs⟩,.agg ⟨b.cs⟩] T M [] [] (fun r _ _ _=>r=.agg ⟨(wV s a b).cs⟩) aM:=by
 obtain ⟨S,hS⟩:∃ S,S=wV s a b:=⟨_,rfl⟩
 rw [<- hS]
 unfold wV at hS
 refine az aiA rfl rfl ?_
 intro _ _
 simp +contextual only [go_sem,aD,sevalprocAttr,V.cs]
 intro b1 T1 fO cY gu b2 T2 dO fz dA ef b4 T4 eH em fE iJ
 have hT:=(cY.trans dA).trans fE
 by_cases h1:a.k=3/\b.k=3
 rotate_left
 ·have qW:¬a.k=3\/¬b.k=3:=by omega
  rw [if_neg h1] at hS
  rw [if_pos qW]
  refine aP (iO _) ?_
  simp +contextual only [go_sem,sevalprocAttr,aB eH]
  exact ak hT (by subst hS;rfl)
 have qW:¬(¬a.k=3\/¬b.k=3):=by omega
 rw [if_pos h1] at hS
 rw [if_neg qW]
 refine aT ?_
 simp +contextual only [go_sem,aD,sevalprocAttr,fz,em,aB fO,aB dO]
 by_cases s1:s=43
 ·rw [if_pos s1] at hS
  simp +contextual only [go_sem,sevalprocAttr,s1]
  refine aP (xN _ _) ?_
  simp +contextual only [go_sem,sevalprocAttr,aB eH,V.cs]
  exact ak hT (by subst hS;rfl)
 rw [if_neg s1] at hS
 by_cases s2:s=45
 ·rw [if_pos s2] at hS
  simp +contextual only [go_sem,sevalprocAttr,s2]
  refine aP (xN _ _) ?_
  simp +contextual only [go_sem,sevalprocAttr,aB eH,V.cs]
  exact ak hT (by subst hS;rfl)
 rw [if_neg s2] at hS
 by_cases s3:s=42
 ·simp +contextual only [go_sem,sevalprocAttr,s3]
  rw [if_pos s3] at hS
  obtain ⟨p,hp⟩:∃ p,p=IntKind.i64.wrap (a.n*b.n):=⟨_,rfl⟩
  rw [<- hp] at hS ⊢
  by_cases h0:a.n=0
  ·have hS:S=DV p:=by rw [hS];exact if_pos (.inl h0)
   simp +contextual only [go_sem,aD,sevalprocAttr,h0]
   refine aP (xN _ _) ?_
   simp +contextual only [go_sem,sevalprocAttr,aB eH,V.cs]
   exact ak hT (by subst hS;rfl)
  ·have hq:CU .quo .i64 p a.n=some (.int .i64 (IntKind.i64.wrap (p.tdiv a.n))):=by simp [CU,h0]
   by_cases hc:(IntKind.i64.wrap (p.tdiv a.n)=b.n/\p<=1000000000000000)/\p>= -1000000000000000
   ·have hS:S=DV p:=by rw [hS];exact if_pos (.inr hc)
    obtain ⟨⟨c1,c2⟩,c3⟩:=hc
    simp +contextual only [go_sem,aD,sevalprocAttr,h0,hq,c1,c2,c3]
    refine aP (xN _ _) ?_
    simp +contextual only [go_sem,sevalprocAttr,aB eH,V.cs]
    exact ak hT (by subst hS;rfl)
   ·have hS:S=j4:=by rw [hS];exact if_neg (fun h=>h.elim h0 hc)
    simp +contextual only [go_sem,aD,sevalprocAttr,h0,hq]
    rw [if_neg hc]
    refine aP (iO _) ?_
    simp +contextual only [go_sem,sevalprocAttr,aB eH]
    exact ak hT (by subst hS;rfl)
 rw [if_neg s3] at hS
 simp +contextual only [go_sem,sevalprocAttr,s1,s2,s3]
 refine aP (iO _) ?_
 simp +contextual only [go_sem,sevalprocAttr,aB eH]
 exact ak hT (by subst hS;rfl)
def pV {a b:List V}{av bv:Value}(ha:RS M RV 3 a av)(hb:RS M RV 3 b bv)(T:Tm):bU Tryz.prog 210 [av,bv] T M [] [] (fun r _ _ _=>r=.int .i64 (cC a b)) aM:=by
 obtain ⟨fp,a1,c1,rfl,cX,_,hg⟩:=ax (by decide) (fun _ _=>eK) ha
 obtain ⟨Ou,a2,c2,rfl,pq,_,xh⟩:=ax (by decide) (fun _ _=>eK) hb
 refine az ai2 rfl rfl ?_
 intro bj _
 simp +contextual only [go_sem,aD,sevalprocAttr]
 refine aO a.length 10 [(0,.slice a1 a.length c1),(1,.slice a2 b.length c2),(8,.slice a1 a.length c1),(9,.int .i64 (a.length:Int))] (fun i e h=>∃ N' M',aG T N'/\bm M M'/\h=⟨N',M',[],[]⟩/\i<=b.length/\cC (a.drop i) (b.drop i)=cC a b) 0 (by omega) (by simp only [aE,go_sem,sevalprocAttr]) (by simp only [go_sem,sevalprocAttr]) ⟨T,M,aG.rfl',bm.rfl',rfl,by omega,rfl⟩ ?_
 rintro i e h hi aI ht ⟨T1,M1,cY,aW,rfl,hib,am⟩
 simp only [aE] at aI
 by_cases aL:i<a.length
 ·obtain ⟨b1,o1,cs1,rfl,zj,DT⟩:=hg i a[i] (gq aL)
  have hda:a.drop i=a[i]::a.drop (i+1):=dq aL
  unfold RV V.cs at DT;subst DT
  obtain ⟨y0,y1,y2,_⟩:=zj.ext aW
  rw [hda] at am
  simp +contextual only [go_sem,aD,sevalprocAttr,aI,ht,aL,y0,y1,y2]
  intro b6 T6 pA ug DL
  by_cases sS:i=b.length
  ·subst sS
   rw [List.drop_length,cC] at am
   rw [if_pos rfl]
   exact ak (cY.trans ug) (cR am)
  ·have ZC:i<b.length:=by omega
   obtain ⟨b2,o2,cs2,rfl,oU,zB⟩:=xh i b[i] (gq ZC)
   have hdb:b.drop i=b[i]::b.drop (i+1):=dq ZC
   unfold RV V.cs at zB;subst zB
   obtain ⟨z0,z1,z2,_⟩:=oU.ext aW
   rw [hdb,cC] at am
   rw [if_neg (by omega)]
   refine aT ?_
   simp +contextual only [go_sem,sevalprocAttr,aI,ZC,z0,z1,z2,aB pA]
   refine aP (pU a[i] b[i] _) ?_
   by_cases h0:pQ a[i] b[i]=0
   ·rw [h0] at am ⊢
    simp +contextual only [go_sem,aD,sevalprocAttr,ht]
    refine aS (bM (aC ⟨a.length - (i+1),by omega,rfl,i+1,by omega,rfl,?_,?_,T6,M1,cY.trans ug,aW,rfl,by omega,am⟩))
    ·simp only [aE,aI,go_sem,sevalprocAttr]
    ·simp only [go_sem,sevalprocAttr,aA i (by omega)]
   ·simp +contextual only [go_sem,aD,sevalprocAttr,h0]
    refine ak (cY.trans ug) (cR ?_)
    rw [<- am,kg,if_pos h0]
 ·have:i=a.length:=by omega
  subst this
  rw [List.drop_length] at am
  simp +contextual only [go_sem,aD,sevalprocAttr,aI,ht,aL]
  refine aP (KX _ _ _) ?_
  simp +contextual only [go_sem,sevalprocAttr]
  refine ak cY (cR ?_)
  rw [<- am]
  cases hd:b.drop a.length with
  | nil=>
   have:=congrArg List.length hd
   simp only [List.length_drop,List.length_nil] at this
   unfold fx cC
   rw [if_neg (by omega),if_neg (by omega)]
  | cons y l=>
   have:=congrArg List.length hd
   simp only [List.length_drop,List.length_cons] at this
   unfold fx cC
   rw [if_pos (by omega)]
def nP (k:Int)(a b:V):V:=if k=6 then IW a b else if k=7 then JQ (IW a b) else if k=8 then ux a b else if k=9 then JQ (ux b a) else if k=10 then ux b a else JQ (ux a b)
def ofK (k:Int)(v:V)(c:Int)(row:List V)(g:Nat ->V):V:=
 if k=1 then bQ v else if k=2 then (if (row.length:Int)<=c then j4 else bQ (row.getD c.toNat j4))
 else if k=3 then JQ (g 0) else if k=4 then Wv (g 0) (g 1) else if k=5 then orV (g 0) (g 1)
 else if k=12 then wV 43 (g 0) (g 1) else if k=13 then wV 45 (g 0) (g 1) else if k=14 then wV 42 (g 0) (g 1)
 else if k=15 then Ch (g 0) (g 1) else if k=16 then yx (decide ((g 0).k=1))
 else if k=17 then (if My (g 0)=true then g 1 else g 2) else if k=18 then (if (g 0).k=1 then g 1 else g 0) else nP k (g 0) (g 1)
mutual
def OZ:Ex ->List V ->V
 | .mk k v c kids,row=>ofK k v c row fun i=>(D3 kids row).getD i j4
def D3:List Ex ->List V ->List V
 | [],_=>[]
 | x::l,row=>OZ x row::D3 l row
end
theorem Gy (row:List V):∀ (l:List Ex) (i:Nat) (x:Ex),l[i]?=some x ->(D3 l row).getD i j4=OZ x row
 | [],i,x,h=>by simp at h
 | y::l,0,x,h=>by simp at h;subst h;rfl
 | y::l,i+1,x,h=>by
  have:=Gy row l i x (by simpa using h)
  simpa [D3] using this
mutual
def nw:Ex ->Prop
 | .mk k v c kids=>(1<=k/\k<=18)/\(k=1 ->(bQ v).t.length<=1099511627776)/\(k=2 ->0<=c)/\(kids.length:Int)=gA k/\Gz kids
def Gz:List Ex ->Prop
 | []=>True
 | x::l=>nw x/\Gz l
end
theorem Cl:∀ {l:List Ex} {x:Ex},Gz l ->x∈l ->nw x
 | y::l,x,h,hx=>by
  rcases lQ hx with rfl | hx
  ·exact h.1
  ·exact Cl h.2 hx
def jN (row:List V):Prop:=∀ v∈row,(bQ v).t.length<=1099511627776
def acG {B:Nat}(hB:60<=B){k:Int}{v:V}{c:Int}{row:List V}{g:Nat ->V}(hv:k=1 ->(bQ v).t.length<=B)(hr:∀ v∈row,(bQ v).t.length<=B)(hg:∀ i,(g i).t.length<=B):(ofK k v c row g).t.length<=B:=by
 have hn:j4.t.length<=B:=by simp [j4]
 have hb:∀ b,(yx b).t.length<=B:=fun b=>by simp [yx]
 have hk:∀ n,(mX n).t.length<=B:=fun n=>by unfold mX;split;exact hn;exact hb _
 have hi:∀ n,(DV n).t.length<=B:=fun n=>by unfold DV;split;exact hn;simp
 have hq:∀ a b,(IW a b).t.length<=B:=fun a b=>by unfold IW;split;exact hb _;exact hn
 have hl:∀ a b,(ux a b).t.length<=B:=fun a b=>by unfold ux;split;exact hb _;exact hn
 have SW:∀ s a b,(wV s a b).t.length<=B:=fun s a b=>by
  unfold wV UU
  (repeat' split)<;>first | exact hi _ | exact hn
 have ite:∀ {c:Prop} [Decidable c] {a b:V},a.t.length<=B ->b.t.length<=B ->(if c then a else b).t.length<=B:=fun ha hb=>by split<;>assumption
 have hj:∀ a b,(Ch a b).t.length<=B:=fun a b=>by
  unfold Ch
  split
  ·rename_i h;simp only [List.length_append];omega
  ·exact hn
 unfold ofK nP
 by_cases h1:k=1
 ·rw [if_pos h1];exact hv h1
 rw [if_neg h1]
 refine ite (ite hn ?_) ?_
 ·rw [List.getD_eq_getElem?_getD]
  cases h:row[c.toNat]? with
  | none=>exact hn
  | some u=>exact hr u (List.mem_of_getElem? h)
 refine ite (hk _) (ite (hk _) (ite (hk _) (ite (SW _ _ _) (ite (SW _ _ _) (ite (SW _ _ _) (ite (hj _ _) (ite (hb _) (ite (ite (hg _) (hg _)) (ite (ite (hg _) (hg _)) ?_)))))))))
 exact ite (hq _ _) (ite (hk _) (ite (hl _ _) (ite (hk _) (ite (hl _ _) (hk _)))))
def agB {k:Int}{v:V}{c:Int}{row:List V}{g:Nat ->V}(hv:k=1 ->(bQ v).t.length<=1099511627776)(hr:jN row)(hg:∀ i,(g i).t.length<=1099511627776):(ofK k v c row g).t.length<=1099511627776:=acG (by omega) hv hr hg
mutual
theorem agC {row:List V}(hr:jN row):∀ (x:Ex),nw x ->(OZ x row).t.length<=1099511627776
 | .mk k v c kids,h=>by
  rw [OZ]
  exact agB h.2.1 hr (JR hr kids h.2.2.2.2)
theorem JR {row:List V}(hr:jN row):∀ (l:List Ex),Gz l ->∀ i,((D3 l row).getD i j4).t.length<=1099511627776
 | [],_,i=>by simp [D3,j4]
 | x::l,h,0=>by simpa [D3] using agC hr x h.1
 | x::l,h,i+1=>by simpa [D3] using JR hr l h.2 i
end
variable {M:aR}
theorem Ft (k:Int)(a b:V)(T:Tm):bU Tryz.prog 171 [.int .i64 k,.agg ⟨a.cs⟩,.agg ⟨b.cs⟩] T M [] [] (fun r _ _ _=>r=.agg ⟨(nP k a b).cs⟩) aM:=by
 obtain ⟨S,hS⟩:∃ S,S=nP k a b:=⟨_,rfl⟩
 rw [<- hS]
 unfold nP at hS
 refine az aiD rfl rfl ?_
 intro _ _
 simp +contextual only [go_sem,aD,sevalprocAttr, -Int.reduceAdd, -Int.reduceSub, -Int.reduceMul,V.cs]
 intro b1 T1 fO cY gu b2 T2 dO fz dA ef b4 T4 eH em fE iJ
 have hT:=(cY.trans dA).trans fE
 by_cases h:k=6
 ·rw [if_pos h] at hS
  simp +contextual only [go_sem,sevalprocAttr, -Int.reduceAdd, -Int.reduceSub, -Int.reduceMul,h]
  refine aP (BL a b _) ?_
  simp +contextual only [go_sem,sevalprocAttr, -Int.reduceAdd, -Int.reduceSub, -Int.reduceMul,aB eH,V.cs]
  exact ak hT (by subst hS;rfl)
 rw [if_neg h] at hS
 by_cases h':k=7
 ·rw [if_pos h'] at hS
  simp +contextual only [go_sem,sevalprocAttr, -Int.reduceAdd, -Int.reduceSub, -Int.reduceMul,h']
  refine aP (BL a b _) ?_
  simp +contextual only [go_sem,sevalprocAttr, -Int.reduceAdd, -Int.reduceSub, -Int.reduceMul]
  refine aP (xO _ _) ?_
  simp +contextual only [go_sem,sevalprocAttr, -Int.reduceAdd, -Int.reduceSub, -Int.reduceMul,aB eH,V.cs]
  exact ak hT (by subst hS;rfl)
 rw [if_neg h'] at hS
 by_cases h8:k=8
 ·rw [if_pos h8] at hS
  simp +contextual only [go_sem,sevalprocAttr, -Int.reduceAdd, -Int.reduceSub, -Int.reduceMul,h8]
  refine aP (tU a b _) ?_
  simp +contextual only [go_sem,sevalprocAttr, -Int.reduceAdd, -Int.reduceSub, -Int.reduceMul,aB eH,V.cs]
  exact ak hT (by subst hS;rfl)
 rw [if_neg h8] at hS
 by_cases h9:k=9
 ·rw [if_pos h9] at hS
  simp +contextual only [go_sem,sevalprocAttr, -Int.reduceAdd, -Int.reduceSub, -Int.reduceMul,h9]
  refine aP (tU b a _) ?_
  simp +contextual only [go_sem,sevalprocAttr, -Int.reduceAdd, -Int.reduceSub, -Int.reduceMul]
  refine aP (xO _ _) ?_
  simp +contextual only [go_sem,sevalprocAttr, -Int.reduceAdd, -Int.reduceSub, -Int.reduceMul,aB eH,V.cs]
  exact ak hT (by subst hS;rfl)
 rw [if_neg h9] at hS
 by_cases I4:k=10
 ·rw [if_pos I4] at hS
  simp +contextual only [go_sem,sevalprocAttr, -Int.reduceAdd, -Int.reduceSub, -Int.reduceMul,I4]
  refine aP (tU b a _) ?_
  simp +contextual only [go_sem,sevalprocAttr, -Int.reduceAdd, -Int.reduceSub, -Int.reduceMul,aB eH,V.cs]
  exact ak hT (by subst hS;rfl)
 rw [if_neg I4] at hS
 simp +contextual only [go_sem,sevalprocAttr, -Int.reduceAdd, -Int.reduceSub, -Int.reduceMul,h,h',h8,h9,I4]
 refine aP (tU a b _) ?_
 simp +contextual only [go_sem,sevalprocAttr, -Int.reduceAdd, -Int.reduceSub, -Int.reduceMul]
 refine aP (xO _ _) ?_
 simp +contextual only [go_sem,sevalprocAttr, -Int.reduceAdd, -Int.reduceSub, -Int.reduceMul,aB eH,V.cs]
 exact ak hT (by subst hS;rfl)
def OfB (x:Ex):Prop:=∀ (M:aR) (T:Tm) (b o:Nat) (cs:List Value) (row:List V) (rv:Value),At M b o cs ->hY M x cs ->RS M RV 3 row rv ->nw x ->jN row ->
 bU Tryz.prog 107 [.pointer (some ⟨b,o,none⟩),rv] T M [] [] (fun r _ _ _=>r=.agg ⟨(OZ x row).cs⟩) aM
def KB {M:aR}{x:Ex}{cs:List Value}{b o:Nat}(hx:hY M x cs)(ha:At M b o cs):∃ s,s.oneCell'=true/\RS M (hY M) 6 x.kids s/\aN M ⟨b,o,none⟩=some (.int .i64 x.k)/\aN M ⟨b,o+1,none⟩=some (.int .i64 x.v.k)/\
 aN M ⟨b,o+2,none⟩=some (.int .i64 x.v.n)/\aN M ⟨b,o+3,none⟩=some (st x.v.t)/\aN M ⟨b,o+4,none⟩=some (.int .i64 x.c)/\aN M ⟨b,o+5,none⟩=some s:=by
 obtain ⟨s,rfl,h1,h2⟩:=dG hx
 obtain ⟨m0,m1,m2,m3,m4,m5,_⟩:=ha
 exact ⟨s,h1,h2,m0,m1,m2,m3,m4,m5⟩
theorem aaQ {x y:Ex}{b2 b3 b o i:Nat}{cs:List Value}{row:List V}{rv:Value}(hy:OfB y)(h2:M b2=some [.pointer (some ⟨b,o,none⟩)])(h3:M b3=some [rv])(ha:At M b o cs)(hx:hY M x cs)(hr:RS M RV 3 row rv)
 (hi:x.kids[i]?=some y) (ho:nw y) (bN:jN row) (T:Tm):bU Tryz.prog 162 [.int .i64 (i:Int),.pointer (some ⟨b2,0,none⟩),.pointer (some ⟨b3,0,none⟩)] T M [] [] (fun r _ _ _=>r=.agg ⟨(OZ y row).cs⟩) aM:=by
 obtain ⟨s,iQ,hk,m0,m1,m2,m3,m4,m5⟩:=KB hx ha
 obtain ⟨fp,a,c,rfl,cX,_,hg⟩:=ax (by decide) (fun _ _=>dS) hk
 obtain ⟨p,q,ys,rfl,bP,hyx⟩:=hg i y hi
 have aL:i<x.kids.length:=(List.getElem?_eq_some_iff.1 hi).1
 obtain ⟨S,hS⟩:∃ S,S=OZ y row:=⟨_,rfl⟩
 rw [<- hS]
 refine az nl rfl rfl ?_
 intro bj _
 simp +contextual only [go_sem,sevalprocAttr, -Int.reduceAdd, -Int.reduceSub, -Int.reduceMul,V.cs]
 intro b1 T1 fO cY gu
 refine aT ?_
 simp +contextual only [go_sem,sevalprocAttr, -Int.reduceAdd, -Int.reduceSub, -Int.reduceMul,bg h2,bg h3,m5,aL]
 refine aP (hy _ _ _ _ _ _ _ bP hyx hr ho bN) ?_
 simp +contextual only [go_sem,sevalprocAttr, -Int.reduceAdd, -Int.reduceSub, -Int.reduceMul,aB fO,V.cs]
 exact ⟨fW.refl _,ak cY (by subst hS;rfl)⟩
def aeH:List (Nat×Sched):=[(6,.take 0<| .take 1<| .take 2<| .take 3<| .take 4<| .take 5<| .take 6<| .done),(8,.take 0<| .take 1<| .take 2<| .take 3<| .take 4<| .take 5<| .take 6<| .eff 7 false (.eff 8 true (.done)<| .no)<| .no),(18,.take 8<| .take 10<| .take 1<| .take 2<| .take 3<| .take 4<| .take 5<| .effN 0 false (.take 6<| .take 7<| .eff 9 false (.eff 11 false (.eff 12 false (.eff 13 true (.done)<| .no)<| .no)<| .no)<| .no)<| .eff 9 false (.effN 0 false (.take 6<| .take 7<| .eff 11 false (.eff 12 false (.eff 13 true (.done)<| .no)<| .no)<| .no)<| .eff 11 false (.effN 0 false (.take 6<| .take 7<| .eff 12 false (.eff 13 true (.done)<| .no)<| .no)<| .no)<| .no)<| .no),(32,.take 4<| .take 6<| .take 0<| .take 1<| .take 2<| .take 3<| .eff 5 false (.eff 7 false (.eff 8 false (.eff 9 true (.done)<| .no)<| .no)<| .no)<| .no)]
attribute [go_sem] aeH
theorem WJ:∀ (sz:Nat) (x:Ex),SizeOf.sizeOf x<=sz ->OfB x:=by
 intro sz
 induction sz with
 | zero=>intro x hx;cases x;simp at hx
 | succ sz ih=>
  intro x ed M T b o cs row rv ha hx hr ce bN
  obtain ⟨s,iQ,hk,m0,m1,m2,m3,m4,m5⟩:=KB hx ha
  obtain ⟨fp,ra,rc,rfl,cX,_,hg⟩:=ax (by decide) (fun _ _=>eK) hr
  cases x with | mk k v c kids=>
  simp only [Ex.k,Ex.v,Ex.c,Ex.kids] at m0 m1 m2 m3 m4 m5 hk
  obtain ⟨hkr,hvt,EA,VR,hks⟩:=ce
  obtain ⟨g,XI⟩:∃ g:Nat ->V,g=fun i=>(D3 kids row).getD i j4:=⟨_,rfl⟩
  have DN:∀ i,(g i).t.length<=1099511627776:=by intro i;rw [XI];exact JR bN kids hks i
  obtain ⟨S,hS⟩:∃ S,S=OZ (.mk k v c kids) row:=⟨_,rfl⟩
  rw [<- hS]
  rw [OZ,<- XI] at hS
  unfold ofK at hS
  refine IJ mx aah.bd Tryz.func107 rfl (by rw [aah.nt];exact Nat.le_of_ble_eq_true rfl) (dr:=aeH) (by kernel_rfl) aah.rs ?_
  intro bj _
  simp +contextual only [go_sem,sevalprocAttr, -Int.reduceAdd, -Int.reduceSub, -Int.reduceMul,V.cs]
  intro b2 T2 dO dA ef b3 T3 gK cZ fU gB b4 T4 eH em fE iJ
  have hT:=(dA.trans fU).trans fE
  have kid:∀ (i:Nat),i<kids.length ->∀ M',bm M M' ->M' b2=some [.pointer (some ⟨b,o,none⟩)] ->M' b3=some [.slice ra row.length rc] ->∀ T,bU Tryz.prog 162 [.int .i64 (i:Int),.pointer (some ⟨b2,0,none⟩),.pointer (some ⟨b3,0,none⟩)] T M' [] [] (fun r _ _ _=>r=.agg ⟨(g i).cs⟩) aM:=by
   intro i hi M' he h2 h3 T
   have gl:kids[i]?=some kids[i]:=gq hi
   have hm:=gm hi
   have aqB:=List.sizeOf_lt_of_mem hm
   have:=aaQ (ih kids[i] (by simp only [Ex.mk.sizeOf_spec] at ed;omega)) h2 h3 (ha.ext he) (cN he _ _ hx) (aH he (fun _ _ h=>h) hr) gl (Cl hks hm) bN T
   have hgi:g i=OZ kids[i] row:=by rw [XI];exact Gy row kids i kids[i] gl
   rw [hgi]
   exact this
  by_cases k1:k=1
  ·rw [if_pos k1] at hS
   simp +contextual only [go_sem,aD,sevalprocAttr, -Int.reduceAdd, -Int.reduceSub, -Int.reduceMul,cZ,em,aB dO,m0,m1,m2,m3,k1]
   refine aP (l7 v _) ?_
   simp +contextual only [go_sem,sevalprocAttr, -Int.reduceAdd, -Int.reduceSub, -Int.reduceMul,aB eH]
   exact ak hT (by subst hS;rfl)
  rw [if_neg k1] at hS
  by_cases k2:k=2
  ·rw [if_pos k2] at hS
   by_cases cK:(row.length:Int)<=c
   ·rw [if_pos cK] at hS
    simp +contextual only [go_sem,aD,sevalprocAttr, -Int.reduceAdd, -Int.reduceSub, -Int.reduceMul,m0,k2]
    refine aT ?_
    simp +contextual only [go_sem,aD,sevalprocAttr, -Int.reduceAdd, -Int.reduceSub, -Int.reduceMul,cZ,em,aB dO,aB gK,m4,cK]
    refine aP (iO _) ?_
    simp +contextual only [go_sem,sevalprocAttr, -Int.reduceAdd, -Int.reduceSub, -Int.reduceMul,aB eH]
    exact ak hT (by subst hS;rfl)
   ·rw [if_neg cK] at hS
    have h0:=EA k2
    obtain ⟨n,rfl⟩:∃ n:Nat,c=n:=⟨c.toNat,by omega⟩
    have aL:n<row.length:=by omega
    obtain ⟨p,q,ys,rfl,bP,hyx⟩:=hg n row[n] (gq aL)
    unfold RV V.cs at hyx;subst hyx
    obtain ⟨y0,y1,y2,_⟩:=bP
    simp +contextual only [go_sem,aD,sevalprocAttr, -Int.reduceAdd, -Int.reduceSub, -Int.reduceMul,m0,k2]
    refine aT ?_
    simp +contextual only [go_sem,aD,sevalprocAttr, -Int.reduceAdd, -Int.reduceSub, -Int.reduceMul,cZ,em,aB dO,aB gK,m4,cK]
    refine aT ?_
    simp +contextual only [go_sem,sevalprocAttr, -Int.reduceAdd, -Int.reduceSub, -Int.reduceMul,cZ,em,aB dO,aB gK,m4,aL,y0,y1,y2]
    refine aP (l7 row[n] _) ?_
    simp +contextual only [go_sem,sevalprocAttr, -Int.reduceAdd, -Int.reduceSub, -Int.reduceMul,aB eH]
    refine ⟨fW.refl _,ak hT ?_⟩
    have:row.getD n j4=row[n]:=by simp [aL]
    rw [hS,Int.toNat_natCast,this]
  rw [if_neg k2] at hS
  by_cases k3:k=3
  ·rw [if_pos k3] at hS
   have hl:kids.length=1:=by subst k3;simp [gA] at VR;omega
   simp +contextual only [go_sem,aD,sevalprocAttr, -Int.reduceAdd, -Int.reduceSub, -Int.reduceMul,m0,k3]
   refine cW nl.bd (fun M' he hL _=>kid 0 (by omega) M' he hL.2.2.1 hL.2.1 _) ?_
   simp +contextual only [go_sem,sevalprocAttr, -Int.reduceAdd, -Int.reduceSub, -Int.reduceMul]
   refine aP (xO _ _) ?_
   simp +contextual only [go_sem,sevalprocAttr, -Int.reduceAdd, -Int.reduceSub, -Int.reduceMul,aB eH,V.cs]
   exact ak hT (by subst hS;rfl)
  rw [if_neg k3] at hS
  by_cases k4:k=4
  ·rw [if_pos k4] at hS
   have hl:kids.length=2:=by subst k4;simp [gA] at VR;omega
   simp +contextual only [go_sem,aD,sevalprocAttr, -Int.reduceAdd, -Int.reduceSub, -Int.reduceMul,m0,k4]
   refine cW nl.bd (fun M' he hL _=>kid 0 (by omega) M' he hL.2.2.1 hL.2.1 _) ?_
   simp +contextual only [go_sem,sevalprocAttr, -Int.reduceAdd, -Int.reduceSub, -Int.reduceMul]
   refine cW nl.bd (fun M' he hL _=>kid 1 (by omega) M' he hL.2.2.1 hL.2.1 _) ?_
   simp +contextual only [go_sem,sevalprocAttr, -Int.reduceAdd, -Int.reduceSub, -Int.reduceMul]
   refine aP (W9 (g 0) (g 1) _) ?_
   simp +contextual only [go_sem,sevalprocAttr, -Int.reduceAdd, -Int.reduceSub, -Int.reduceMul,aB eH,V.cs]
   exact ak hT (by subst hS;rfl)
  rw [if_neg k4] at hS
  by_cases k5:k=5
  ·rw [if_pos k5] at hS
   have hl:kids.length=2:=by subst k5;simp [gA] at VR;omega
   simp +contextual only [go_sem,aD,sevalprocAttr, -Int.reduceAdd, -Int.reduceSub, -Int.reduceMul,m0,k5]
   refine cW nl.bd (fun M' he hL _=>kid 0 (by omega) M' he hL.2.2.1 hL.2.1 _) ?_
   simp +contextual only [go_sem,sevalprocAttr, -Int.reduceAdd, -Int.reduceSub, -Int.reduceMul]
   refine cW nl.bd (fun M' he hL _=>kid 1 (by omega) M' he hL.2.2.1 hL.2.1 _) ?_
   simp +contextual only [go_sem,sevalprocAttr, -Int.reduceAdd, -Int.reduceSub, -Int.reduceMul]
   refine aP (aaZ (g 0) (g 1) _) ?_
   simp +contextual only [go_sem,sevalprocAttr, -Int.reduceAdd, -Int.reduceSub, -Int.reduceMul,aB eH,V.cs]
   exact ak hT (by subst hS;rfl)
  rw [if_neg k5] at hS
  by_cases kr:k=12\/k=13\/k=14
  ·have hl:kids.length=2:=by
    have:gA k=2:=by unfold gA;rw [if_neg (by omega),if_neg (by omega),if_pos (by omega)]
    omega
   have e12:IntKind.i64.wrap (12 - 12)=0:=by decide
   have e13:IntKind.i64.wrap (13 - 12)=1:=by decide
   have e14:IntKind.i64.wrap (14 - 12)=2:=by decide
   rcases kr with rfl | rfl | rfl
   all_goals
    simp only [if_true,Int.reduceEq,if_false] at hS
    simp +contextual only [go_sem,aD,sevalprocAttr, -Int.reduceAdd, -Int.reduceSub, -Int.reduceMul,m0]
    refine aT ?_
    simp +contextual only [go_sem,sevalprocAttr, -Int.reduceAdd, -Int.reduceSub, -Int.reduceMul,cZ,em,aB dO,m0]
    refine ⟨?_,?_⟩
    ·intro b9 qY gY
     refine yp (dJ bm.rfl' ⟨eH,gK,dO,trivial⟩ ⟨gY.1,gY.2.1,gY.2.2,trivial⟩) ?_
     simp +contextual only [go_sem,sevalprocAttr, -Int.reduceAdd, -Int.reduceSub, -Int.reduceMul,aB qY,e12,e13,e14]
     refine cW nl.bd (fun M' he hL _=>kid 0 (by omega) M' he hL.2.2.2.1 hL.2.2.1 _) ?_
     simp +contextual only [go_sem,sevalprocAttr, -Int.reduceAdd, -Int.reduceSub, -Int.reduceMul,e12,e13,e14]
     refine ⟨fW.refl _,?_⟩
     refine cW nl.bd (fun M' he hL _=>kid 1 (by omega) M' he hL.2.2.2.1 hL.2.2.1 _) ?_
     simp +contextual only [go_sem,sevalprocAttr, -Int.reduceAdd, -Int.reduceSub, -Int.reduceMul,e12,e13,e14]
     refine ⟨fW.refl _,?_⟩
     refine aP (sJ _ (g 0) (g 1) _) ?_
     simp +contextual only [go_sem,sevalprocAttr, -Int.reduceAdd, -Int.reduceSub, -Int.reduceMul,gY,aB eH,V.cs]
     refine ⟨fW.refl _,?_⟩
     exact ak hT (by subst hS;rfl)
    ·refine cW nl.bd (fun M' he hL _=>kid 0 (by omega) M' he hL.2.2.1 hL.2.1 _) ?_
     simp +contextual only [go_sem,sevalprocAttr, -Int.reduceAdd, -Int.reduceSub, -Int.reduceMul]
     refine ⟨fW.refl _,?_,?_⟩
     ·intro b9 qY gY
      refine yp (dJ bm.rfl' ⟨eH,gK,dO,trivial⟩ ⟨gY.1,gY.2.1,gY.2.2,trivial⟩) ?_
      simp +contextual only [go_sem,sevalprocAttr, -Int.reduceAdd, -Int.reduceSub, -Int.reduceMul,aB qY,e12,e13,e14]
      refine cW nl.bd (fun M' he hL _=>kid 1 (by omega) M' he hL.2.2.2.1 hL.2.2.1 _) ?_
      simp +contextual only [go_sem,sevalprocAttr, -Int.reduceAdd, -Int.reduceSub, -Int.reduceMul,e12,e13,e14]
      refine ⟨fW.refl _,?_⟩
      refine aP (sJ _ (g 0) (g 1) _) ?_
      simp +contextual only [go_sem,sevalprocAttr, -Int.reduceAdd, -Int.reduceSub, -Int.reduceMul,gY,aB eH,V.cs]
      refine ⟨fW.refl _,?_⟩
      exact ak hT (by subst hS;rfl)
     ·refine cW nl.bd (fun M' he hL _=>kid 1 (by omega) M' he hL.2.2.1 hL.2.1 _) ?_
      simp +contextual only [go_sem,sevalprocAttr, -Int.reduceAdd, -Int.reduceSub, -Int.reduceMul]
      refine ⟨fW.refl _,?_⟩
      intro b9 qY gY
      refine yp (dJ bm.rfl' ⟨eH,gK,dO,trivial⟩ ⟨gY.1,gY.2.1,gY.2.2,trivial⟩) ?_
      simp +contextual only [go_sem,sevalprocAttr, -Int.reduceAdd, -Int.reduceSub, -Int.reduceMul,aB qY,e12,e13,e14]
      refine aP (sJ _ (g 0) (g 1) _) ?_
      simp +contextual only [go_sem,sevalprocAttr, -Int.reduceAdd, -Int.reduceSub, -Int.reduceMul,gY,aB eH,V.cs]
      refine ⟨fW.refl _,?_⟩
      exact ak hT (by subst hS;rfl)
  have k12:k≠12:=fun h=>kr (.inl h)
  have k13:k≠13:=fun h=>kr (.inr (.inl h))
  have k14:k≠14:=fun h=>kr (.inr (.inr h))
  rw [if_neg k12,if_neg k13,if_neg k14] at hS
  by_cases k15:k=15
  ·rw [if_pos k15] at hS
   have hl:kids.length=2:=by subst k15;simp [gA] at VR;omega
   simp +contextual only [go_sem,aD,sevalprocAttr, -Int.reduceAdd, -Int.reduceSub, -Int.reduceMul,m0,k15]
   refine cW nl.bd (fun M' he hL _=>kid 0 (by omega) M' he hL.2.2.1 hL.2.1 _) ?_
   simp +contextual only [go_sem,sevalprocAttr, -Int.reduceAdd, -Int.reduceSub, -Int.reduceMul]
   refine cW nl.bd (fun M' he hL _=>kid 1 (by omega) M' he hL.2.2.1 hL.2.1 _) ?_
   simp +contextual only [go_sem,sevalprocAttr, -Int.reduceAdd, -Int.reduceSub, -Int.reduceMul]
   refine aP (RJ (g 0) (g 1) (DN _) (DN _) _) ?_
   simp +contextual only [go_sem,sevalprocAttr, -Int.reduceAdd, -Int.reduceSub, -Int.reduceMul,aB eH,V.cs]
   exact ak hT (by subst hS;rfl)
  rw [if_neg k15] at hS
  by_cases k16:k=16
  ·rw [if_pos k16] at hS
   have hl:kids.length=1:=by subst k16;simp [gA] at VR;omega
   simp +contextual only [go_sem,aD,sevalprocAttr, -Int.reduceAdd, -Int.reduceSub, -Int.reduceMul,m0,k16]
   refine cW nl.bd (fun M' he hL _=>kid 0 (by omega) M' he hL.2.2.1 hL.2.1 _) ?_
   simp +contextual only [go_sem,sevalprocAttr, -Int.reduceAdd, -Int.reduceSub, -Int.reduceMul,V.cs]
   refine aP (tT _ _) ?_
   simp +contextual only [go_sem,sevalprocAttr, -Int.reduceAdd, -Int.reduceSub, -Int.reduceMul,aB eH,V.cs]
   exact ak hT (by subst hS;rfl)
  rw [if_neg k16] at hS
  by_cases k17:k=17
  ·rw [if_pos k17] at hS
   have hl:kids.length=3:=by subst k17;simp [gA] at VR;omega
   simp +contextual only [go_sem,aD,sevalprocAttr, -Int.reduceAdd, -Int.reduceSub, -Int.reduceMul,m0,k17]
   refine cW nl.bd (fun M' he hL _=>kid 0 (by omega) M' he hL.2.2.1 hL.2.1 _) ?_
   simp +contextual only [go_sem,sevalprocAttr, -Int.reduceAdd, -Int.reduceSub, -Int.reduceMul]
   refine aP (RK (g 0) _) ?_
   cases ht:My (g 0) with
   | true=>
    rw [if_pos ht] at hS
    simp +contextual only [go_sem,aD,sevalprocAttr, -Int.reduceAdd, -Int.reduceSub, -Int.reduceMul]
    refine cW nl.bd (fun M' he hL _=>kid 1 (by omega) M' he hL.2.2.1 hL.2.1 _) ?_
    simp +contextual only [go_sem,sevalprocAttr, -Int.reduceAdd, -Int.reduceSub, -Int.reduceMul,aB eH,V.cs]
    exact ak hT (by subst hS;rfl)
   | false=>
    rw [if_neg (by rw [ht];exact Bool.false_ne_true)] at hS
    simp +contextual only [go_sem,aD,sevalprocAttr, -Int.reduceAdd, -Int.reduceSub, -Int.reduceMul]
    refine cW nl.bd (fun M' he hL _=>kid 2 (by omega) M' he hL.2.2.1 hL.2.1 _) ?_
    simp +contextual only [go_sem,sevalprocAttr, -Int.reduceAdd, -Int.reduceSub, -Int.reduceMul,aB eH,V.cs]
    exact ak hT (by subst hS;rfl)
  rw [if_neg k17] at hS
  by_cases k18:k=18
  ·rw [if_pos k18] at hS
   have hl:kids.length=2:=by subst k18;simp [gA] at VR;omega
   simp +contextual only [go_sem,aD,sevalprocAttr, -Int.reduceAdd, -Int.reduceSub, -Int.reduceMul,m0,k18]
   refine cW nl.bd (fun M' he hL _=>kid 0 (by omega) M' he hL.2.2.1 hL.2.1 _) ?_
   simp +contextual only [go_sem,aD,sevalprocAttr, -Int.reduceAdd, -Int.reduceSub, -Int.reduceMul,V.cs]
   intro b6 T6 pA gR ug DL
   by_cases hn:(g 0).k=1
   ·rw [if_pos hn] at hS
    simp +contextual only [go_sem,sevalprocAttr, -Int.reduceAdd, -Int.reduceSub, -Int.reduceMul,hn]
    refine cW nl.bd (fun M' he hL _=>kid 1 (by omega) M' he hL.2.2.2.1 hL.2.2.1 _) ?_
    simp +contextual only [go_sem,sevalprocAttr, -Int.reduceAdd, -Int.reduceSub, -Int.reduceMul,gR,aB eH,V.cs]
    exact ak (hT.trans ug) (by subst hS;rfl)
   ·rw [if_neg hn] at hS
    simp +contextual only [go_sem,sevalprocAttr, -Int.reduceAdd, -Int.reduceSub, -Int.reduceMul,aB eH,hn]
    exact ak (hT.trans ug) (by subst hS;rfl)
  rw [if_neg k18] at hS
  have hl:kids.length=2:=by
   have:gA k=2:=by unfold gA;rw [if_neg (by omega),if_neg (by omega),if_pos (by omega)]
   omega
  simp +contextual only [go_sem,aD,sevalprocAttr, -Int.reduceAdd, -Int.reduceSub, -Int.reduceMul,m0,k1,k2,k3,k4,k5,k12,k13,k14,k15,k16,k17,k18]
  refine aT ?_
  simp +contextual only [go_sem,sevalprocAttr, -Int.reduceAdd, -Int.reduceSub, -Int.reduceMul,cZ,em,aB dO,m0]
  refine cW nl.bd (fun M' he hL _=>kid 0 (by omega) M' he hL.2.2.1 hL.2.1 _) ?_
  simp +contextual only [go_sem,sevalprocAttr, -Int.reduceAdd, -Int.reduceSub, -Int.reduceMul]
  refine ⟨fW.refl _,?_⟩
  refine cW nl.bd (fun M' he hL _=>kid 1 (by omega) M' he hL.2.2.1 hL.2.1 _) ?_
  simp +contextual only [go_sem,sevalprocAttr, -Int.reduceAdd, -Int.reduceSub, -Int.reduceMul]
  refine ⟨fW.refl _,?_⟩
  refine aP (Ft _ (g 0) (g 1) _) ?_
  simp +contextual only [go_sem,sevalprocAttr, -Int.reduceAdd, -Int.reduceSub, -Int.reduceMul,aB eH,V.cs]
  refine ⟨fW.refl _,?_⟩
  exact ak hT (by subst hS;rfl)
structure Z where
 row:List V
 w:Int
def RZ (M:aR)(z:Z)(cs:List Value):Prop:=∃ s,RS M RV 3 z.row s/\cs=[s,.int .i64 z.w]
theorem bi {M:aR}{z:Z}{cs}(h:RZ M z cs):cs.length=2:=by obtain ⟨_,_,rfl⟩:=h;rfl
def eU {M M':aR}(he:bm M M')(z:Z)(cs)(h:RZ M z cs):RZ M' z cs:=by
 obtain ⟨s,h1,h2⟩:=h;exact ⟨s,aH he (fun _ _ h=>h) h1,h2⟩
def jW {M M':aR}(he:bm M M'){l:List V}{v:Value}(h:RS M RV 3 l v):RS M' RV 3 l v:=aH he (fun _ _ h=>h) h
def cz {M M':aR}(he:bm M M'){l:List Z}{v:Value}(h:RS M (RZ M) 2 l v):RS M' (RZ M') 2 l v:=aH he (eU he) h
def mF {α:Type}(f:α ->Int):List α ->Int
 | []=>0
 | x::l=>kg (f x) (mF f l)
def jT (r:List V):Int:=if 8<r.length then 5 else mF eR r
def gF (w:Int):Bool:=decide (w<=1000000) && decide (w>= -1000000)
def HQ (p:Option (List V))(x:Z):Int:=kg (jT x.row) (if x.w=0\/gF x.w=false then 3 else match p with | some r=>(if cC r x.row>=0 then 2 else 0) | none=>0)
def Y3:Option (List V) ->List Z ->Int
 | _,[]=>0
 | p,x::l=>kg (HQ p x) (Y3 (some x.row) l)
def dQ (z:List Z):Int:=if 400<z.length then 5 else Y3 none z
def tZ:List V ->List Int ->Int
 | v::l,c::cs=>kg (eR v) (if v.k≠1/\v.k≠c then 9 else tZ l cs)
 | _,_=>0
def mS (cols:List Int)(row:List V):Int:=if row.length≠cols.length then 8 else tZ row cols
def iE (cols:List Int)(z:List Z):Int:=if 8<cols.length then 5 else kg (dQ z) (mF (fun x=>mS cols x.row) z)
def o6 (b:Int):kg 0 b=b:=by simp [kg]
def od {a b:Int}(h:a≠0):kg a b=a:=if_pos h
variable {M:aR}
theorem vq (w:Int)(T:Tm):bU Tryz.prog 97 [.int .i64 w] T M [] [] (fun r _ _ _=>r=.bool (gF w)) aM:=by
 unfold gF
 refine az F97 rfl rfl ?_
 intro _ _
 by_cases h:w<=1000000
 ·simp +contextual only [go_sem,sevalprocAttr,h]
  exact ak aG.rfl' rfl
 ·simp +contextual only [go_sem,sevalprocAttr,h]
  exact ak aG.rfl' rfl
def K8 {r:List V}{rv:Value}(hr:RS M RV 3 r rv)(T:Tm):bU Tryz.prog 96 [rv] T M [] [] (fun r' _ _ _=>r'=.int .i64 (jT r)) aM:=by
 obtain ⟨fp,a,c,rfl,cX,_,hg⟩:=ax (by decide) (fun _ _=>eK) hr
 obtain ⟨S,hS⟩:∃ S,S=jT r:=⟨_,rfl⟩
 rw [<- hS]
 unfold jT at hS
 refine az F96 rfl rfl ?_
 intro bj _
 by_cases h8:8<r.length
 ·have uf:(8:Int)<(r.length:Int):=by omega
  rw [if_pos h8] at hS
  simp +contextual only [go_sem,aD,sevalprocAttr,uf]
  exact ak aG.rfl' (cR hS.symm)
 have uf:¬ (8:Int)<(r.length:Int):=by omega
 rw [if_neg h8] at hS
 simp +contextual only [go_sem,aD,sevalprocAttr,uf]
 refine aO r.length 11 [(9,.slice a r.length c),(10,.int .i64 (r.length:Int))] (fun i e h=>∃ N',aG T N'/\h=⟨N',M,[],[]⟩/\S=mF eR (r.drop i)) 0 (by omega) (by simp only [aE,go_sem,sevalprocAttr]) (by simp only [go_sem,sevalprocAttr]) ⟨T,aG.rfl',rfl,hS⟩ ?_
 rintro i e h hi aI ht ⟨T1,cY,rfl,am⟩
 simp only [aE] at aI
 by_cases aL:i<r.length
 ·obtain ⟨b',o',cs',rfl,bP,eh⟩:=hg i r[i] (gq aL)
  unfold RV V.cs at eh;subst eh
  obtain ⟨y0,y1,y2,_⟩:=bP
  rw [dq aL,mF] at am
  simp +contextual only [go_sem,aD,sevalprocAttr,aI,ht,aL,y0,y1,y2]
  intro b4 T4 eH fE iJ
  refine aP (jq r[i] M _) ?_
  by_cases h0:eR r[i]=0
  ·rw [h0,o6] at am
   rw [h0]
   simp +contextual only [go_sem,aD,sevalprocAttr,ht]
   refine aS (bM (aC ⟨r.length - (i+1),by omega,rfl,i+1,by omega,rfl,?_,?_,T4,cY.trans fE,rfl,am⟩))
   ·simp only [aE,aI,go_sem,sevalprocAttr]
   ·simp only [go_sem,sevalprocAttr,aA i (by omega)]
  ·rw [od h0] at am
   simp +contextual only [go_sem,aD,sevalprocAttr,h0]
   exact ak (cY.trans fE) (cR am.symm)
 ·have:i=r.length:=by omega
  subst this
  rw [List.drop_length,mF] at am
  simp +contextual only [go_sem,aD,sevalprocAttr,aI,ht,aL]
  exact ak cY (cR am.symm)
def KS {cols:List Int}{r:List V}{cv rv:Value}(hc:RS M RI 1 cols cv)(hr:RS M RV 3 r rv)(T:Tm):bU Tryz.prog 55 [cv,rv] T M [] [] (fun r' _ _ _=>r'=.int .i64 (mS cols r)) aM:=by
 obtain ⟨fp,a,c,rfl,cX,_,hg⟩:=ax (by decide) (fun _ _=>eK) hr
 obtain ⟨Ou,a2,c2,rfl,pq,_,xh⟩:=ax (by decide) (fun _ _=>cE) hc
 obtain ⟨S,hS⟩:∃ S,S=mS cols r:=⟨_,rfl⟩
 rw [<- hS]
 unfold mS at hS
 refine az F55 rfl rfl ?_
 intro bj _
 by_cases hl:r.length=cols.length
 rotate_left
 ·have jL:¬ (r.length:Int)=(cols.length:Int):=by omega
  rw [if_pos hl] at hS
  simp +contextual only [go_sem,aD,sevalprocAttr,jL]
  exact ak aG.rfl' (cR hS.symm)
 rw [if_neg (fun h=>h hl)] at hS
 simp +contextual only [go_sem,aD,sevalprocAttr,hl]
 refine aO cols.length 15 [(0,.slice a2 cols.length c2),(13,.slice a cols.length c),(14,.int .i64 (cols.length:Int))] (fun i e h=>∃ N',aG T N'/\h=⟨N',M,[],[]⟩/\S=tZ (r.drop i) (cols.drop i)) 0 (by omega) (by simp only [aE,hl,go_sem,sevalprocAttr]) (by simp only [go_sem,sevalprocAttr]) ⟨T,aG.rfl',rfl,hS⟩ ?_
 rintro i e h hi aI ht ⟨T1,cY,rfl,am⟩
 simp only [aE] at aI
 by_cases aL:i<cols.length
 ·obtain ⟨b',o',cs',rfl,bP,eh⟩:=hg i r[i] (gq (by omega))
  unfold RV V.cs at eh;subst eh
  obtain ⟨y0,y1,y2,_⟩:=bP
  obtain ⟨b2,o2,cs2,rfl,oU,SY⟩:=xh i cols[i] (gq aL)
  unfold RI at SY;subst SY
  have x0:=xC oU
  rw [Nat.mul_one] at x0
  rw [dq aL,dq (show i<r.length by omega),tZ] at am
  simp +contextual only [go_sem,aD,sevalprocAttr,aI,ht,aL,y0,y1,y2]
  intro b6 T6 pA ug DL
  have hT:=cY.trans ug
  refine aP (jq r[i] M _) ?_
  by_cases h0:eR r[i]=0
  ·rw [h0,o6] at am
   rw [h0]
   simp +contextual only [go_sem,aD,sevalprocAttr]
   refine aT ?_
   by_cases h1:r[i].k=1
   ·rw [if_neg (fun h=>h.1 h1)] at am
    simp +contextual only [go_sem,aD,sevalprocAttr,ht,aB pA,h1]
    refine aS (bM (aC ⟨cols.length - (i+1),by omega,rfl,i+1,by omega,rfl,?_,?_,T6,hT,rfl,am⟩))
    ·simp only [aE,aI,go_sem,sevalprocAttr]
    ·simp only [go_sem,sevalprocAttr,aA i (by omega)]
   ·by_cases h2:r[i].k=cols[i]
    ·rw [if_neg (fun h=>h.2 h2)] at am
     have h3:¬ cols[i]=1:=by rw [<- h2];exact h1
     simp +contextual only [go_sem,aD,sevalprocAttr,aI,ht,aL,aB pA,x0,h2,h3]
     refine aS (bM (aC ⟨cols.length - (i+1),by omega,rfl,i+1,by omega,rfl,?_,?_,T6,hT,rfl,am⟩))
     ·simp only [aE,aI,go_sem,sevalprocAttr]
     ·simp only [go_sem,sevalprocAttr,aA i (by omega)]
    ·rw [if_pos ⟨h1,h2⟩] at am
     simp +contextual only [go_sem,aD,sevalprocAttr,aI,aL,aB pA,h1,x0,h2]
     exact ak hT (cR am.symm)
  ·rw [od h0] at am
   simp +contextual only [go_sem,aD,sevalprocAttr,h0]
   exact ak hT (cR am.symm)
 ·have:i=cols.length:=by omega
  subst this
  rw [List.drop_length,List.drop_eq_nil_of_le (by omega),tZ] at am
  simp +contextual only [go_sem,aD,sevalprocAttr,aI,ht,aL]
  exact ak cY (cR am.symm)
  all_goals simp
def Cv (z:List Z)(i:Nat):Option (List V):=if i=0 then none else (z[i - 1]?).map Z.row
def BN {z:List Z}{zv:Value}(hz:RS M (RZ M) 2 z zv)(T:Tm):bU Tryz.prog 160 [zv] T M [] [] (fun r' _ _ _=>r'=.int .i64 (dQ z)) aM:=by
 obtain ⟨fp,a,c,rfl,cX,_,hg⟩:=ax (by decide) (fun _ _=>bi) hz
 obtain ⟨S,hS⟩:∃ S,S=dQ z:=⟨_,rfl⟩
 rw [<- hS]
 unfold dQ at hS
 refine az ait rfl rfl ?_
 intro bj _
 by_cases h8:400<z.length
 ·have uf:(400:Int)<(z.length:Int):=by omega
  rw [if_pos h8] at hS
  simp +contextual only [go_sem,aD,sevalprocAttr,uf]
  exact ak aG.rfl' (cR hS.symm)
 have uf:¬ (400:Int)<(z.length:Int):=by omega
 rw [if_neg h8] at hS
 simp +contextual only [go_sem,aD,sevalprocAttr,uf]
 refine aO z.length 11 [(0,.slice a z.length c),(9,.slice a z.length c),(10,.int .i64 (z.length:Int))] (fun i e h=>∃ N',aG T N'/\h=⟨N',M,[],[]⟩/\S=Y3 (Cv z i) (z.drop i)) 0 (by omega) (by simp only [aE,go_sem,sevalprocAttr]) (by simp only [go_sem,sevalprocAttr]) ⟨T,aG.rfl',rfl,hS⟩ ?_
 rintro i e h hi aI ht ⟨T1,cY,rfl,am⟩
 simp only [aE] at aI
 by_cases aL:i<z.length
 ·obtain ⟨b',o',cs',rfl,bP,s,bN,rfl⟩:=hg i z[i] (gq aL)
  obtain ⟨y0,y1,_⟩:=bP
  have iQ:=(dy bN).1
  rw [dq aL,Y3] at am
  unfold HQ at am
  have fQ:some z[i].row=Cv z (i+1):=by simp [Cv,aL]
  rw [fQ] at am
  simp +contextual only [go_sem,aD,sevalprocAttr,aI,ht,aL,y0,y1,iQ]
  intro b4 T4 eH fE iJ
  have hT:=cY.trans fE
  refine aP (K8 bN _) ?_
  by_cases h0:jT z[i].row=0
  rotate_left
  ·have am:S=jT z[i].row:=by rw [am,od];exact od h0;rw [od h0];exact h0
   simp +contextual only [go_sem,aD,sevalprocAttr,h0]
   exact ak hT (cR am.symm)
  rw [h0,o6] at am
  rw [h0]
  simp +contextual only [go_sem,aD,sevalprocAttr,aB eH]
  by_cases Jw:z[i].w=0
  ·have am:S=3:=by rw [am,od];exact if_pos (.inl Jw);rw [if_pos (.inl Jw)];decide
   simp +contextual only [go_sem,sevalprocAttr,Jw]
   exact ak hT (cR am.symm)
  simp +contextual only [go_sem,sevalprocAttr,Jw]
  refine aP (vq _ _) ?_
  cases hwb:gF z[i].w with
  | false=>
   have am:S=3:=by rw [am,od];exact if_pos (.inr hwb);rw [if_pos (.inr hwb)];decide
   simp +contextual only [go_sem,aD,sevalprocAttr,Jw]
   exact ak hT (cR am.symm)
  | true=>
  rw [if_neg (by rintro (h | h);exact Jw h;rw [hwb] at h;cases h)] at am
  simp +contextual only [go_sem,aD,sevalprocAttr,Jw]
  refine aT ?_
  cases i with
  | zero=>
   simp only [Cv,if_true,o6] at am
   simp +contextual only [go_sem,aD,sevalprocAttr,ht]
   refine aS (bM (aC ⟨z.length - 1,by omega,rfl,1,by omega,rfl,?_,?_,T4,hT,rfl,am⟩))
   ·simp only [aE,aI,go_sem,sevalprocAttr]
   ·simp only [go_sem,sevalprocAttr]
    exact cR (by decide)
  | succ j=>
   have hj:j<z.length:=by omega
   obtain ⟨b2,o2,cs2,dO,oU,s2,agf,rfl⟩:=hg j z[j] (gq hj)
   injection dO with dO
   injection dO with afi XA apo
   subst afi XA
   obtain ⟨x0,x1,_⟩:=oU
   have hp:Cv z (j+1)=some z[j].row:=by simp [Cv,hj]
   rw [hp] at am
   simp only [] at am
   simp +contextual only [go_sem,sevalprocAttr,aI]
   have e1:IntKind.i64.wrap (((j+1:Nat):Int) - 1)=(j:Int):=by rw [bJ (by omega) (by omega)];omega
   simp +contextual only [go_sem,sevalprocAttr,aB eH,e1,hj,x0]
   refine aP (pV agf bN _) ?_
   by_cases PX:cC z[j].row z[j+1].row>=0
   ·rw [if_pos PX,od (by decide)] at am
    have abQ:0<=cC z[j].row z[j+1].row:=PX
    simp +contextual only [go_sem,aD,sevalprocAttr,abQ]
    exact ak hT (cR am.symm)
   ·rw [if_neg PX,o6] at am
    have abQ:¬ 0<=cC z[j].row z[j+1].row:=PX
    simp +contextual only [go_sem,aD,sevalprocAttr,abQ,ht]
    refine aS (bM (aC ⟨z.length - (j+1+1),by omega,rfl,j+1+1,by omega,rfl,?_,?_,T4,hT,rfl,am⟩))
    ·simp only [aE,aI,go_sem,sevalprocAttr]
    ·simp only [go_sem,sevalprocAttr,aA (j+1) (by omega)]
 ·have:i=z.length:=by omega
  subst this
  rw [List.drop_length,Y3] at am
  simp +contextual only [go_sem,aD,sevalprocAttr,aI,ht,aL]
  exact ak cY (cR am.symm)
def BI {zs:List (List Z)}{zv:Value}(hz:RS M (fun z cs=>∃ s,RS M (RZ M) 2 z s/\cs=[s]) 1 zs zv)(T:Tm):bU Tryz.prog 150 [zv] T M [] [] (fun r' _ _ _=>r'=.int .i64 (mF dQ zs)) aM:=by
 obtain ⟨fp,a,c,rfl,cX,_,hg⟩:=ax (by decide) (by rintro _ _ ⟨_,_,rfl⟩;rfl) hz
 obtain ⟨S,hS⟩:∃ S,S=mF dQ zs:=⟨_,rfl⟩
 rw [<- hS]
 refine az aal rfl rfl ?_
 intro bj _
 simp +contextual only [go_sem,aD,sevalprocAttr]
 refine aO zs.length 8 [(6,.slice a zs.length c),(7,.int .i64 (zs.length:Int))] (fun i e h=>h=⟨T,M,[],[]⟩/\S=mF dQ (zs.drop i)) 0 (by omega) (by simp only [aE,go_sem,sevalprocAttr]) (by simp only [go_sem,sevalprocAttr]) ⟨rfl,hS⟩ ?_
 rintro i e h hi aI ht ⟨rfl,am⟩
 simp only [aE] at aI
 by_cases aL:i<zs.length
 ·obtain ⟨b',o',cs',rfl,bP,s,bN,rfl⟩:=hg i zs[i] (gq aL)
  have y0:=xC bP
  rw [Nat.mul_one] at y0
  rw [dq aL,mF] at am
  simp +contextual only [go_sem,aD,sevalprocAttr,aI,ht,aL,y0]
  refine aP (BN bN _) ?_
  by_cases h0:dQ zs[i]=0
  ·rw [h0,o6] at am
   rw [h0]
   simp +contextual only [go_sem,aD,sevalprocAttr,ht]
   refine bT aL ?_ ?_ ⟨rfl,am⟩
   ·simp only [aE,aI,go_sem,sevalprocAttr]
   ·simp only [go_sem,sevalprocAttr,aA i (by omega)]
  ·rw [od h0] at am
   simp +contextual only [go_sem,aD,sevalprocAttr,h0]
   exact ak aG.rfl' (cR am.symm)
 ·have:i=zs.length:=by omega
  subst this
  rw [List.drop_length,mF] at am
  simp +contextual only [go_sem,aD,sevalprocAttr,aI,ht,aL]
  exact ak aG.rfl' (cR am.symm)
def yI {cols:List Int}{z:List Z}{cv zv:Value}(hc:RS M RI 1 cols cv)(hz:RS M (RZ M) 2 z zv)(T:Tm):bU Tryz.prog 105 [cv,zv] T M [] [] (fun r' _ _ _=>r'=.int .i64 (iE cols z)) aM:=by
 obtain ⟨fp,a,c,rfl,cX,_,hg⟩:=ax (by decide) (fun _ _=>bi) hz
 obtain ⟨Ou,a2,c2,rfl,pq,_,_⟩:=ax (by decide) (fun _ _=>cE) hc
 obtain ⟨S,hS⟩:∃ S,S=iE cols z:=⟨_,rfl⟩
 rw [<- hS]
 unfold iE at hS
 refine az ahY rfl rfl ?_
 intro bj _
 by_cases h8:8<cols.length
 ·have uf:(8:Int)<(cols.length:Int):=by omega
  rw [if_pos h8] at hS
  simp +contextual only [go_sem,aD,sevalprocAttr,uf]
  exact ak aG.rfl' (cR hS.symm)
 have uf:¬ (8:Int)<(cols.length:Int):=by omega
 rw [if_neg h8] at hS
 simp +contextual only [go_sem,aD,sevalprocAttr,uf]
 refine aP (BN hz _) ?_
 by_cases hw:dQ z=0
 rotate_left
 ·rw [od hw] at hS
  simp +contextual only [go_sem,aD,sevalprocAttr,hw]
  exact ak aG.rfl' (cR hS.symm)
 rw [hw,o6] at hS
 rw [hw]
 simp +contextual only [go_sem,aD,sevalprocAttr]
 refine aO z.length 19 [(0,.slice a2 cols.length c2),(17,.slice a z.length c),(18,.int .i64 (z.length:Int))] (fun i e h=>∃ N',aG T N'/\h=⟨N',M,[],[]⟩/\S=mF (fun x=>mS cols x.row) (z.drop i)) 0 (by omega) (by simp only [aE,go_sem,sevalprocAttr]) (by simp only [go_sem,sevalprocAttr]) ⟨T,aG.rfl',rfl,hS⟩ ?_
 rintro i e h hi aI ht ⟨T1,cY,rfl,am⟩
 simp only [aE] at aI
 by_cases aL:i<z.length
 ·obtain ⟨b',o',cs',rfl,bP,s,bN,rfl⟩:=hg i z[i] (gq aL)
  obtain ⟨y0,y1,_⟩:=bP
  have iQ:=(dy bN).1
  rw [dq aL,mF] at am
  simp +contextual only [go_sem,aD,sevalprocAttr,aI,ht,aL,y0,y1,iQ]
  intro b4 T4 eH fE iJ
  have hT:=cY.trans fE
  refine aP (KS hc bN _) ?_
  by_cases h0:mS cols z[i].row=0
  ·rw [h0,o6] at am
   rw [h0]
   simp +contextual only [go_sem,aD,sevalprocAttr,ht]
   refine aS (bM (aC ⟨z.length - (i+1),by omega,rfl,i+1,by omega,rfl,?_,?_,T4,hT,rfl,am⟩))
   ·simp only [aE,aI,go_sem,sevalprocAttr]
   ·simp only [go_sem,sevalprocAttr,aA i (by omega)]
  ·rw [od h0] at am
   simp +contextual only [go_sem,aD,sevalprocAttr,h0]
   exact ak hT (cR am.symm)
 ·have:i=z.length:=by omega
  subst this
  rw [List.drop_length,mF] at am
  simp +contextual only [go_sem,aD,sevalprocAttr,aI,ht,aL]
  exact ak cY (cR am.symm)
abbrev PV:=Value×Value
def fl {α:Type}(enc:α ->PV)(l:List α):List Value:=l.flatMap fun e=>[(enc e).1,(enc e).2]
section
variable {α:Type} {enc:α ->PV}
theorem ee:∀ (l:List α),(fl enc l).length=l.length*2
 | []=>rfl
 | e::l=>by
  have:=ee l
  simp only [fl,List.flatMap_cons,List.length_append,ln] at this ⊢
  omega
theorem ej:∀ {l:List α} {i:Nat} (junk:List Value) (h:i<l.length),(fl enc l++junk)[i*2]?=some (enc l[i]).1
 | e::l,0,_,_=>rfl
 | e::l,i+1,junk,h=>by
  have:=ej (l:=l) (i:=i) junk (by simpa using h)
  simpa [fl,Nat.add_mul] using this
theorem ek:∀ {l:List α} {i:Nat} (junk:List Value) (h:i<l.length),(fl enc l++junk)[i*2+1]?=some (enc l[i]).2
 | e::l,0,_,_=>rfl
 | e::l,i+1,junk,h=>by
  have:=ek (l:=l) (i:=i) junk (by simpa using h)
  have h2:(i+1)*2+1=(i*2+1)+2:=by omega
  rw [h2]
  simpa [fl] using this
theorem ub:∀ {l:List α} {i:Nat} (junk:List Value) (x:α) (h:i<l.length),((fl enc l++junk).set (i*2) (enc x).1).set (i*2+1) (enc x).2=fl enc (l.set i x)++junk
 | e::l,0,_,_,_=>rfl
 | e::l,i+1,junk,x,h=>by
  have:=ub (l:=l) (i:=i) junk x (by simpa using h)
  have h1:(i+1)*2=i*2+2:=by omega
  have h2:(i+1)*2+1=(i*2+1)+2:=by omega
  rw [h2,h1]
  simpa [fl] using this
end
inductive SF:FuncId ->FuncId ->FuncId ->FuncId ->FuncId ->FuncId ->Prop
 | z:SF 267 318 298 268 244 208
def sw {α:Type}[Inhabited α](l:List α)(i j:Nat):List α:=(l.set i (l.getD j default)).set j (l.getD i default)
def kQ {α:Type}[Inhabited α](l:List α)(i j:Nat):(sw l i j).length=l.length:=by simp [sw]
def qC {α:Type}[Inhabited α]{ok:α ->Prop}{l:List α}{i j:Nat}(hi:i<l.length)(hj:j<l.length)(h:∀ e∈l,ok e):∀ e∈sw l i j,ok e:=by
 intro e he
 unfold sw at he
 rcases List.mem_or_eq_of_mem_set he with he | rfl
 ·rcases List.mem_or_eq_of_mem_set he with he | rfl
  ·exact h e he
  ·rw [List.getD_eq_getElem?_getD,gq hj];exact h _ (gm hj)
 ·rw [List.getD_eq_getElem?_getD,gq hi];exact h _ (gm hi)
def fK {α:Type}[Inhabited α]{l:List α}{i:Nat}(h:i<l.length):l.getD i default=l[i]:=by simp [h]
def qV {α:Type}[Inhabited α]{enc:α ->PV}{l:List α}{i j:Nat}(junk:List Value)(hi:i<l.length)(hj:j<l.length):
 ((((fl enc l++junk).set (i*2) (enc l[j]).1).set (i*2+1) (enc l[j]).2).set (j*2) (enc l[i]).1).set (j*2+1) (enc l[i]).2=fl enc (sw l i j)++junk:=by
 rw [ub junk _ hi,ub junk _ (by simpa using hj),sw,fK hi,fK hj]
def pw {α:Type}[Inhabited α](cf:α ->α ->Int)(l:List α)(i j:Nat):Bool:=decide (cf (l.getD i default) (l.getD j default)<0)
def lB {α:Type}[Inhabited α](cf:α ->α ->Int)(a:Nat):Nat ->List α ->List α
 | 0,l=>l
 | j+1,l=>if a<j+1/\pw cf l (j+1) j=true then lB cf a j (sw l (j+1) j) else l
def xo {α:Type}[Inhabited α](cf:α ->α ->Int)(a:Nat):Nat ->Nat ->List α ->List α
 | 0,_,l=>l
 | f+1,i,l=>xo cf a f (i+1) (lB cf a i l)
def qh {α:Type}[Inhabited α](cf:α ->α ->Int)(l:List α)(a b:Nat):List α:=xo cf a (b - (a+1)) (a+1) l
structure CmpOk {α:Type} (M:aR) (enc:α ->PV) (g:FuncId) (caps:List Value) (cf:α ->α ->Int) (ok:α ->Prop):Prop where
 bod:du Tryz.prog g=true
 one:∀ x,ok x ->(enc x).1.oneCell'=true/\(enc x).2.oneCell'=true
 call:∀ x y,ok x ->ok y ->∀ T,bU Tryz.prog g ([.agg ⟨[(enc x).1,(enc x).2]⟩,.agg ⟨[(enc y).1,(enc y).2]⟩]++caps) T M [] [] (fun r _ _ _=>r=.int .i64 (cf x y)) aM
section
variable {P:Program} {F:Fi} {s:List Vc.Item} {e:dx} {ds:List Deferred} {h:Sh} {b:Code}
def LW (ds0:List Deferred)(lv:List (Nat×Value))(K:Nat ->dx ->Sh ->Prop):Nat ->dx ->List Deferred ->Sh ->Prop:=fun m e ds h=>ds=ds0/\aE e lv/\K m e h
def iU (lv:List (Nat×Value))(K:Nat ->dx ->Sh ->Prop)(m0:Nat)(hl:aE e lv)(hK:K m0 e h)(hs:∀ m e' h',aE e' lv ->K m e' h' ->cA P F (.code b:: .lp (LW ds lv K) m::s) e' ds h' ⟨⟩):G1 P F b s e ds h ⟨⟩:=
 gM (LW ds lv K) ⟨m0,rfl,hl,hK⟩ (by rintro m e' ds' h' ⟨rfl,h1,h2⟩;exact hs m e' h' h1 h2)
def oZ {lv:List (Nat×Value)}{K:Nat ->dx ->Sh ->Prop}{m m':Nat}(hm:m'<m)(hl:aE e lv)(hK:K m' e h):cA P F (.lp (LW ds lv K) m::s) e ds h ⟨⟩:=by
 rw [eL];exact aC ⟨m',hm,rfl,hl,hK⟩
end
variable {M:aR} {α:Type} [Inhabited α] {enc:α ->PV}
def KZ {fi fs fr fm ft fo:FuncId}(hs:SF fi fs fr fm ft fo){g:FuncId}{caps:List Value}{cf:α ->α ->Int}{ok:α ->Prop}(hc:CmpOk M enc g caps cf ok){db n cap a b:Nat}{l:List α}{junk:List Value}(hl:l.length=n)(mi:n<=cap)(ce:∀ e∈l,ok e)(Xq:a<=b)(hb:b<=n)(hn:n<=4294967296)(T:Tm):
 bU Tryz.prog fi [.slice (some ⟨db,0,none⟩) n cap,.int .i64 (a:Int),.int .i64 (b:Int),.func (.func g) #[] ⟨caps⟩] T M [(db,fl enc l++junk)] [] (fun r M' L' R'=>r=.tuple #[]/\M'=M/\L'=[(db,fl enc (qh cf l a b)++junk)]/\R'=[]) aM:=by
 obtain ⟨S,hS⟩:∃ S,S=qh cf l a b:=⟨_,rfl⟩
 rw [<- hS]
 have DJ:=hs
 cases hs
 all_goals
  refine az aen rfl rfl ?_
  intro bj _
  simp +contextual only [go_sem,aD,sevalprocAttr]
  have hwa:IntKind.i64.wrap ((a:Int)+1)=((a+1:Nat):Int):=aA a (by omega)
  refine iU [(0,.slice (some ⟨db,0,none⟩) n cap),(1,.int .i64 (a:Int)),(2,.int .i64 (b:Int)),(3,.func (.func g) #[] ⟨caps⟩)] (fun m e h=>∃ i l',e 8=.int .i64 ((i:Nat):Int)/\h=⟨T,M,[(db,fl enc l'++junk)],[]⟩/\l'.length=n/\(∀ e∈l',ok e)/\a<i/\i<=b+1/\m=b+1 - i/\S=xo cf a (b - i) i l') (b+1 - (a+1)) (by simp only [aE,go_sem,sevalprocAttr]) ⟨a+1,l,by simp only [go_sem,sevalprocAttr,hwa],rfl,hl,ce,by omega,by omega,rfl,hS⟩ ?_
  rintro m e h aI ⟨i,l',e8,rfl,jL,jf,hai,hib,rfl,am⟩
  simp only [aE] at aI
  by_cases aL:i<b
  rotate_left
  ·have h0:b - i=0:=by omega
   rw [h0,xo] at am
   simp +contextual only [go_sem,aD,sevalprocAttr,aI,e8,aL]
   exact aQ aG.rfl' rfl rfl ⟨rfl,rfl,by rw [am],rfl⟩
  obtain ⟨f,hf⟩:∃ f,b - i=f+1:=⟨b - i - 1,by omega⟩
  rw [hf,xo] at am
  simp +contextual only [go_sem,aD,sevalprocAttr,aI,e8,aL]
  refine iU [(0,.slice (some ⟨db,0,none⟩) n cap),(1,.int .i64 (a:Int)),(2,.int .i64 (b:Int)),(3,.func (.func g) #[] ⟨caps⟩),(8,.int .i64 (i:Int))] (fun m e h=>∃ j l2,e 9=.int .i64 ((j:Nat):Int)/\h=⟨T,M,[(db,fl enc l2++junk)],[]⟩/\l2.length=n/\(∀ e∈l2,ok e)/\j<=i/\m=j/\lB cf a i l'=lB cf a j l2) i (by simp only [aE,go_sem,sevalprocAttr,aI,e8]) ⟨i,l',by simp only [go_sem,sevalprocAttr],rfl,jL,jf,by omega,rfl,rfl⟩ ?_
  rintro j e h aI ⟨_,l2,e9,rfl,fD,pu,xU,rfl,SV⟩
  simp only [aE] at aI
  simp +contextual only [go_sem,sevalprocAttr]
  refine aT ?_
  by_cases haj:a<j
  rotate_left
  ·simp +contextual only [go_sem,aD,sevalprocAttr,aI,e9,haj]
   refine oZ (m':=b+1 - (i+1)) (by omega) (by simp only [aE,go_sem,sevalprocAttr,aI]) ⟨i+1,l2,?_,rfl,fD,pu,by omega,by omega,rfl,?_⟩
   ·simp only [go_sem,sevalprocAttr,aA i (by omega)]
   ·have h1:b - (i+1)=f:=by omega
    rw [h1,am,SV]
    cases j with
    | zero=>rw [lB]
    | succ j=>rw [lB,if_neg (fun h=>haj h.1)]
  obtain ⟨j,rfl⟩:∃ k,j=k+1:=⟨j - 1,by omega⟩
  have PZ:j+1<l2.length:=by omega
  have DQ:j<l2.length:=by omega
  have hjn:j+1<n:=by omega
  have afM:j<n:=by omega
  have e1:IntKind.i64.wrap (((j+1:Nat):Int) - 1)=((j:Nat):Int):=by rw [bJ (by omega) (by omega)];omega
  have c0:=ej (enc:=enc) junk DQ
  have c1:=ek (enc:=enc) junk DQ
  have d0:=ej (enc:=enc) junk PZ
  have d1:=ek (enc:=enc) junk PZ
  have o1:=hc.one _ (pu _ (gm PZ))
  have o0:=hc.one _ (pu _ (gm DQ))
  simp +contextual only [go_sem,sevalprocAttr,aI,e9,haj,e1,hjn,afM,aB bj.1,c0,c1,d0,d1]
  refine aP (hc.call _ _ (pu _ (gm PZ)) (pu _ (gm DQ)) _) ?_
  simp +contextual only [go_sem,aD,sevalprocAttr,aI]
  by_cases xT:cf l2[j+1] l2[j]<0
  rotate_left
  ·rw [if_neg xT]
   refine oZ (m':=b+1 - (i+1)) (by omega) (by simp only [aE,go_sem,sevalprocAttr,aI]) ⟨i+1,l2,?_,rfl,fD,pu,by omega,by omega,rfl,?_⟩
   ·simp only [go_sem,sevalprocAttr,aA i (by omega)]
   ·have h1:b - (i+1)=f:=by omega
    have h2:pw cf l2 (j+1) j=false:=by simp only [pw,fK PZ,fK DQ];simp [xT]
    rw [h1,am,SV,lB,if_neg (by rw [h2];simp)]
  rw [if_pos xT]
  refine aT ?_
  have Lz:(j+1)*2+2<=(fl enc l2++junk).length:=by rw [List.length_append,ee];omega
  have SN:j*2+2<=(fl enc l2++junk).length:=by rw [List.length_append,ee];omega
  simp +contextual only [go_sem,sevalprocAttr,aI,e9,e1,hjn,afM,aB bj.1,c0,c1,d0,d1,o1,o0,Lz,SN]
  refine oZ (m':=j) (by omega) (by simp only [aE,go_sem,sevalprocAttr,aI]) ⟨j,sw l2 (j+1) j,?_,?_,by rw [kQ];exact fD,qC PZ DQ pu,by omega,rfl,?_⟩
  ·simp only [go_sem,sevalprocAttr]
  ·rw [qV junk PZ DQ]
  ·have h2:pw cf l2 (j+1) j=true:=by simp only [pw,fK PZ,fK DQ];simp [xT]
   rw [SV,lB,if_pos ⟨haj,h2⟩]
def Hn {α:Type}[Inhabited α](a b:Nat):Nat ->Nat ->List α ->List α
 | 0,_,l=>l
 | f+1,i,l=>Hn a b f (i+1) (sw l (a+i) (b+i))
def CC {α:Type}[Inhabited α](l:List α)(m i j:Nat):List α:=
 if i≠j/\0<i/\0<j then (if i>j then CC (Hn (m - i) m j 0 l) m (i - j) j else CC (Hn (m - i) (m+j - i) i 0 l) m i (j - i)) else Hn (m - i) m i 0 l
termination_by i+j
decreasing_by all_goals omega
def E3 (p:Nat ->Bool)(i j:Nat):Nat:=if i<j then (if p ((i+j) / 2)=true then E3 p ((i+j) / 2+1) j else E3 p i ((i+j) / 2)) else i
termination_by j - i
decreasing_by all_goals omega
def w9 {α:Type}[Inhabited α](l:List α)(k e:Nat):List α:=if k+1<e then w9 (sw l k (k+1)) (k+1) e else l
termination_by e - k
def vj {α:Type}[Inhabited α](i:Nat):Nat ->List α ->List α
 | 0,l=>l
 | k+1,l=>if i<k+1 then vj i k (sw l (k+1) k) else l
theorem nf {α:Type}[Inhabited α](a b:Nat):∀ (f i:Nat) (l:List α),(Hn a b f i l).length=l.length
 | 0,_,_=>rfl
 | f+1,i,l=>by rw [Hn,nf a b f];exact kQ _ _ _
theorem rk {α:Type}[Inhabited α]{ok:α ->Prop}(a b:Nat):∀ (f i:Nat) (l:List α),a+i+f<=l.length ->b+i+f<=l.length ->(∀ e∈l,ok e) ->∀ e∈Hn a b f i l,ok e
 | 0,_,_,_,_,h=>h
 | f+1,i,l,h1,h2,h=>by
  rw [Hn]
  exact rk a b f (i+1) _ (by rw [kQ];omega) (by rw [kQ];omega) (qC (by omega) (by omega) h)
def Mh {α:Type}[Inhabited α](l:List α)(m i j:Nat):(CC l m i j).length=l.length:=by
 fun_induction CC l m i j with
 | case1 l i j h h2 ih=>rw [ih,nf]
 | case2 l i j h h2 ih=>rw [ih,nf]
 | case3 l i j h=>rw [nf]
def Mi {α:Type}[Inhabited α]{ok:α ->Prop}(l:List α)(m i j:Nat)(h1:i<=m)(h2:m+j<=l.length)(zp:i≠0/\j≠0)(h:∀ e∈l,ok e):∀ e∈CC l m i j,ok e:=by
 fun_induction CC l m i j with
 | case1 l i j hc DN ih=>exact ih (by omega) (by rw [nf];omega) (by omega) (rk _ _ _ _ _ (by omega) (by omega) h)
 | case2 l i j hc DN ih=>exact ih (by omega) (by rw [nf];omega) (by omega) (rk _ _ _ _ _ (by omega) (by omega) h)
 | case3 l i j hc=>exact rk _ _ _ _ _ (by omega) (by omega) h
variable {M:aR} {α:Type} [Inhabited α] {enc:α ->PV}
def iI {F:Fi}{s:List Vc.Item}{e:dx}{ds:List Deferred}{dd:Option Nat}{N:Tm}{L:LL}{R:RR}{f:FuncId}{args:List Value}{x:Value}{b:Nat}{cs cs':List Value}
 (hc:bU Tryz.prog f args N M [(b,cs)] [] (fun r M' L' R'=>r=x/\M'=M/\L'=[(b,cs')]/\R'=[]) aM) (hn:cA Tryz.prog F s (cI e dd x) ds ⟨N,M,(b,cs')::L,R⟩ ⟨⟩):dp Tryz.prog F f args dd s e ds ⟨N,M,(b,cs)::L,R⟩ ⟨⟩:=
 gO [] [(b,cs)] L [] [] R hc (by rintro v M' L' R' _ _ _ _ ⟨rfl,rfl,rfl,rfl⟩;exact hn) (fun _ _ _ _ _ _ _ _ h=>h.elim)
def DD {fi fs fr fm ft fo:FuncId}(hs:SF fi fs fr fm ft fo){fv:Value}{ok:α ->Prop}(dB:∀ x,ok x ->(enc x).1.oneCell'=true/\(enc x).2.oneCell'=true){db n cap a b c:Nat}{l:List α}{junk:List Value}(hl:l.length=n)(mi:n<=cap)(ce:∀ e∈l,ok e)(ha:a+c<=n)(hb:b+c<=n)(hn:n<=4294967296)(T:Tm):
 bU Tryz.prog fs [.slice (some ⟨db,0,none⟩) n cap,.int .i64 (a:Int),.int .i64 (b:Int),.int .i64 (c:Int),fv] T M [(db,fl enc l++junk)] [] (fun r M' L' R'=>r=.tuple #[]/\M'=M/\L'=[(db,fl enc (Hn a b c 0 l)++junk)]/\R'=[]) aM:=by
 obtain ⟨S,hS⟩:∃ S,S=Hn a b c 0 l:=⟨_,rfl⟩
 rw [<- hS]
 have DJ:=hs
 cases hs
 all_goals
  refine az ajx rfl rfl ?_
  intro bj _
  simp +contextual only [go_sem,aD,sevalprocAttr]
  refine iU [(0,.slice (some ⟨db,0,none⟩) n cap),(1,.int .i64 (a:Int)),(2,.int .i64 (b:Int)),(3,.int .i64 (c:Int))] (fun m e h=>∃ i l',e 10=.int .i64 ((i:Nat):Int)/\h=⟨T,M,[(db,fl enc l'++junk)],[]⟩/\l'.length=n/\(∀ e∈l',ok e)/\i<=c/\m=c - i/\S=Hn a b (c - i) i l') c (by simp only [aE,go_sem,sevalprocAttr]) ⟨0,l,by simp only [go_sem,sevalprocAttr],rfl,hl,ce,by omega,rfl,hS⟩ ?_
  rintro m e h aI ⟨i,l',e10,rfl,jL,jf,hic,rfl,am⟩
  simp only [aE] at aI
  by_cases aL:i<c
  rotate_left
  ·have h0:c - i=0:=by omega
   rw [h0,Hn] at am
   simp +contextual only [go_sem,aD,sevalprocAttr,aI,e10,aL]
   exact aQ aG.rfl' rfl rfl ⟨rfl,rfl,by rw [am],rfl⟩
  obtain ⟨f,hf⟩:∃ f,c - i=f+1:=⟨c - i - 1,by omega⟩
  rw [hf,Hn] at am
  simp +contextual only [go_sem,aD,sevalprocAttr,aI,e10,aL]
  refine aT ?_
  have hai:a+i<l'.length:=by omega
  have XE:b+i<l'.length:=by omega
  have wa:IntKind.i64.wrap ((a:Int)+(i:Int))=((a+i:Nat):Int):=by rw [bJ (by omega) (by omega)];omega
  have wb:IntKind.i64.wrap ((b:Int)+(i:Int))=((b+i:Nat):Int):=by rw [bJ (by omega) (by omega)];omega
  have han:a+i<n:=by omega
  have hbn:b+i<n:=by omega
  have c0:=ej (enc:=enc) junk hai
  have c1:=ek (enc:=enc) junk hai
  have d0:=ej (enc:=enc) junk XE
  have d1:=ek (enc:=enc) junk XE
  have o1:=dB _ (jf _ (gm hai))
  have o0:=dB _ (jf _ (gm XE))
  have Lz:(a+i)*2+2<=(fl enc l'++junk).length:=by rw [List.length_append,ee];omega
  have SN:(b+i)*2+2<=(fl enc l'++junk).length:=by rw [List.length_append,ee];omega
  simp +contextual only [go_sem,sevalprocAttr,aI,e10,wa,wb,han,hbn,aB bj.1,c0,c1,d0,d1,o1,o0,Lz,SN]
  refine oZ (m':=c - (i+1)) (by omega) (by simp only [aE,go_sem,sevalprocAttr,aI]) ⟨i+1,sw l' (a+i) (b+i),?_,?_,by rw [kQ];exact jL,qC hai XE jf,by omega,rfl,?_⟩
  ·simp only [go_sem,sevalprocAttr,aA i (by omega)]
  ·rw [qV junk hai XE]
  ·rw [am];congr 1;omega
def W1 {fi fs fr fm ft fo:FuncId}(hs:SF fi fs fr fm ft fo){fv:Value}{ok:α ->Prop}(dB:∀ x,ok x ->(enc x).1.oneCell'=true/\(enc x).2.oneCell'=true){db n cap a m b:Nat}{l:List α}{junk:List Value}(hl:l.length=n)(mi:n<=cap)(ce:∀ e∈l,ok e)(ham:a<m)(hmb:m<b)(hb:b<=n)(hn:n<=4294967296)(T:Tm):
 bU Tryz.prog fr [.slice (some ⟨db,0,none⟩) n cap,.int .i64 (a:Int),.int .i64 (m:Int),.int .i64 (b:Int),fv] T M [(db,fl enc l++junk)] [] (fun r M' L' R'=>r=.tuple #[]/\M'=M/\L'=[(db,fl enc (CC l m (m - a) (b - m))++junk)]/\R'=[]) aM:=by
 obtain ⟨S,hS⟩:∃ S,S=CC l m (m - a) (b - m):=⟨_,rfl⟩
 rw [<- hS]
 have DJ:=hs
 cases hs
 all_goals
  refine az aju rfl rfl ?_
  intro bj _
  have w1:IntKind.i64.wrap ((m:Int) - (a:Int))=((m - a:Nat):Int):=by rw [bJ (by omega) (by omega)];omega
  have w2:IntKind.i64.wrap ((b:Int) - (m:Int))=((b - m:Nat):Int):=by rw [bJ (by omega) (by omega)];omega
  simp +contextual only [go_sem,aD,sevalprocAttr,w1,w2]
  refine iU [(0,.slice (some ⟨db,0,none⟩) n cap),(2,.int .i64 (m:Int)),(4,fv)] (fun k e h=>∃ i j l',e 10=.int .i64 ((i:Nat):Int)/\e 11=.int .i64 ((j:Nat):Int)/\h=⟨T,M,[(db,fl enc l'++junk)],[]⟩/\l'.length=n/\(∀ e∈l',ok e)/\0<i/\0<j/\i<=m/\m+j<=n/\k=i+j/\S=CC l' m i j) (m - a+(b - m)) (by simp only [aE,go_sem,sevalprocAttr]) ⟨m - a,b - m,l,by simp only [go_sem,sevalprocAttr],by simp only [go_sem,sevalprocAttr],rfl,hl,ce,by omega,by omega,by omega,by omega,rfl,hS⟩ ?_
  rintro k e h aI ⟨i,j,l',e10,e11,rfl,jL,jf,vE,DQ,him,hjn,rfl,am⟩
  simp only [aE] at aI
  have w3:IntKind.i64.wrap ((m:Int) - (i:Int))=((m - i:Nat):Int):=by rw [bJ (by omega) (by omega)];omega
  by_cases zp:i=j
  ·subst zp
   rw [CC,if_neg (fun h=>h.1 rfl)] at am
   simp +contextual only [go_sem,aD,sevalprocAttr,aI,e10,e11,w3]
   refine iI (DD DJ dB jL mi jf (by omega) (by omega) hn _) ?_
   simp +contextual only [go_sem,sevalprocAttr]
   exact aQ aG.rfl' rfl rfl ⟨rfl,rfl,by rw [am],rfl⟩
  have afK:¬ (i:Int)=(j:Int):=by omega
  by_cases DN:j<i
  ·rw [CC,if_pos ⟨zp,vE,DQ⟩,if_pos DN] at am
   simp +contextual only [go_sem,aD,sevalprocAttr,aI,e10,e11,w3,afK,DN]
   refine iI (DD DJ dB jL mi jf (by omega) (by omega) hn _) ?_
   have w4:IntKind.i64.wrap ((i:Int) - (j:Int))=((i - j:Nat):Int):=by rw [bJ (by omega) (by omega)];omega
   simp +contextual only [go_sem,sevalprocAttr,e10,e11,w4]
   exact oZ (m':=i - j+j) (by omega) (by simp only [aE,go_sem,sevalprocAttr,aI]) ⟨i - j,j,_,by simp only [go_sem,sevalprocAttr],by simp only [go_sem,sevalprocAttr,e11],rfl,by rw [nf];exact jL,rk _ _ _ _ _ (by omega) (by omega) jf,by omega,by omega,by omega,by omega,rfl,am⟩
  ·rw [CC,if_pos ⟨zp,vE,DQ⟩,if_neg (by omega)] at am
   have w5:IntKind.i64.wrap ((m:Int)+(j:Int))=((m+j:Nat):Int):=by rw [bJ (by omega) (by omega)];omega
   have w6:IntKind.i64.wrap (((m+j:Nat):Int) - (i:Int))=((m+j - i:Nat):Int):=by rw [bJ (by omega) (by omega)];omega
   simp +contextual only [go_sem,aD,sevalprocAttr,aI,e10,e11,w3,afK,DN,w5,w6]
   refine iI (DD DJ dB jL mi jf (by omega) (by omega) hn _) ?_
   have w4:IntKind.i64.wrap ((j:Int) - (i:Int))=((j - i:Nat):Int):=by rw [bJ (by omega) (by omega)];omega
   simp +contextual only [go_sem,sevalprocAttr,e10,e11,w4]
   exact oZ (m':=i+(j - i)) (by omega) (by simp only [aE,go_sem,sevalprocAttr,aI]) ⟨i,j - i,_,by simp only [go_sem,sevalprocAttr,e10],by simp only [go_sem,sevalprocAttr],rfl,by rw [nf];exact jL,rk _ _ _ _ _ (by omega) (by omega) jf,by omega,by omega,by omega,by omega,rfl,am⟩
end Go.Proofs.YtcpjbohndglclaaGreatDoor

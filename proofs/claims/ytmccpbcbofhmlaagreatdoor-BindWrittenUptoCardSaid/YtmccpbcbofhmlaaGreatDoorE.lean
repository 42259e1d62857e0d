import Derived.Test.YtmccpbcbofhmlaaGreatDoorD
import Derived.Test.YtmccpbcbofhmlaaGreatDoorC
import Derived.Shelf.Strings.Builder1
import Derived.Shelf.Strings.Builder2
import Derived.Shelf.Small.Strs
import Derived.Shelf.Strconv.Itoa0
import Derived.Shelf.Strconv.Itoa1
import Derived.Shelf.LaysM
import Derived.Shelf.Strconv.Itoa2
import Derived.Shelf.Strconv.Itoa3
import Derived.Shelf.Strconv.Itoa4
import Derived.Shelf.Strconv.ParseIntEmpty
import Derived.Shelf.Strconv.Clone
import Derived.Shelf.Strconv.SyntaxError
import Derived.Shelf.LaysC
import Derived.Shelf.Strconv.ToError
import Derived.Shelf.Strconv.Lower
import Derived.Shelf.Strconv.ParseUint10
import Derived.Shelf.Strconv.ParseUint10Empty
import Derived.Shelf.Strconv.ParseUint10Any
import Derived.Shelf.Strconv.ParseInt10
import Derived.Shelf.Strconv.RangeError
import Derived.Shelf.Strconv.ToErrorRange
import Derived.Shelf.Strconv.ParseUintEmpty
import Derived.Shelf.Strconv.ParseUint10b64
import Derived.Shelf.Strconv.ParseUint10b32
import Derived.Shelf.Strconv.ParseUint10b16
import Derived.Shelf.Strconv.ParseUint10b8
import Derived.Shelf.Strconv.ParseUint10At
import Derived.Shelf.Strconv.ParseInt10At64
import Derived.Shelf.Strconv.ParseInt10At32
import Derived.Shelf.Strconv.ParseInt10At16
import Derived.Shelf.Strconv.ParseInt10At8
import Derived.Shelf.Strconv.ParseInt10All
import Derived.Shelf.Strconv.ParseIntPublic10
import Derived.Shelf.Strings.Search1
import Derived.Shelf.Strings.Search2
import Derived.Shelf.Strings.Search3
import Derived.Shelf.Strings.Count
import Derived.Shelf.Strings.Shaped
import Derived.Shelf.Strings.Prefix
import Derived.Shelf.Strings.Split
import Derived.Shelf.Strings.Fields
import Derived.Shelf.Strings.Replace
import Derived.Shelf.Unicode.Latin
import Derived.Shelf.Unicode.DecodeSlow
import Derived.Shelf.Unicode.Is16White
import Derived.Shelf.Unicode.IsSpaceAny
import Derived.Shelf.Unicode.Is16Any
import Derived.Shelf.Unicode.Is32Any
import Derived.Shelf.Unicode.ExclAny
import Derived.Test.YtmccpbcbofhmlaaGreatDoorProg
import Derived.Lib.ItoaLen
import Derived.Test.YtmccpbcbofhmlaaGreatDoorB
set_option linter.all false
namespace Go.Proofs.YtmccpbcbofhmlaaGreatDoor
open Go Vc
set_option maxRecDepth 10000
theorem rd {T0 T:Tm}{M M':aV}{L:LL}{R:RR}(h:bG M M'):lr ⟨T0,M,[],[]⟩ ⟨T,M',L,R⟩:=by
 intro a v hv
 simp only [Sh.cell] at hv ⊢
 cases hm:aL M a with
 | some u=>
  rw [hm] at hv
  injection hv with hv;subst hv
  rw [ax h hm]
 | none=>
  rw [hm] at hv
  simp [eb] at hv
theorem QC {M:aV}{b o:Nat}{x:It}{cs:List Value}(h:xQ M x cs)(ha:At M b o cs):aL M ⟨b,o+7,none⟩=some (st x.as)/\∃ c,RX M x.x c/\At M b o c:=by
 obtain ⟨c,hx,rfl⟩:=h
 rw [eJ,dY hx] at ha
 exact ⟨ha.2.1,c,hx,ha.1⟩
theorem Rn {M:aV}{p q b o i:Nat}{items:List It}{iv:Value}(hg:fO M)(hp:M p=some [.pointer (some ⟨b,o,none⟩)])(hq:M q=some [.int .i64 (i:Int)])(hn:aL M ⟨b,o+2,none⟩=some iv)(hi:RS M (xQ M) 8 items iv)(aF:i<items.length):
 Ct Tryz.prog 229 [.pointer (some ⟨p,0,none⟩),.pointer (some ⟨q,0,none⟩)] M [] [] (fun r _ _ _=>r=.int .i64 (gX items[i].x)) bj:=by
 intro T
 obtain ⟨hb,a,c,rfl,jo,_,eE⟩:=aI (by decide) (fun _ _=>j8) hi
 obtain ⟨b',o',cs,rfl,cC,ff⟩:=eE i items[i] (List.getElem?_eq_getElem aF)
 obtain ⟨m7,c',hx,Ai⟩:=QC ff cC
 obtain ⟨s,rfl,ho,m0,m1,m2,m3,m4,m5,m6⟩:=tJ hx Ai
 refine aT mx adK Tryz.func229 rfl (by rw [alH];exact Nat.le_of_ble_eq_true rfl) (dr:=Zs) (by kernel_rfl) aks ?_
 intro bN _
 simp +contextual only [go_sem,ak,sevalprocAttr]
 refine bq ?_
 simp +contextual only [go_sem,ak,sevalprocAttr,aY hp,aY hq,hn,aF,m0,m1,m2,m3,m4,m5,m6]
 refine am (oQ hg hx T) ?_ (fun _ _ _ _ h=>h.elim)
 rintro v M3 bD _ rfl
 simp +contextual only [go_sem,ak,sevalprocAttr]
 exact ⟨rd bD,az aH.rfl' rfl⟩
theorem Qg {M:aV}{p q b o i:Nat}{items:List It}{iv:Value}(hg:fO M)(hp:M p=some [.pointer (some ⟨b,o,none⟩)])(hq:M q=some [.int .i64 (i:Int)])(hn:aL M ⟨b,o+2,none⟩=some iv)(hi:RS M (xQ M) 8 items iv)(aF:i<items.length):
 Ct Tryz.prog 230 [.pointer (some ⟨p,0,none⟩),.pointer (some ⟨q,0,none⟩)] M [] [] (fun r _ _ _=>r=.int .i64 (em items[i].as)) bj:=by
 intro T
 obtain ⟨hb,a,c,rfl,jo,_,eE⟩:=aI (by decide) (fun _ _=>j8) hi
 obtain ⟨b',o',cs,rfl,cC,ff⟩:=eE i items[i] (List.getElem?_eq_getElem aF)
 obtain ⟨m7,c',hx,Ai⟩:=QC ff cC
 refine aT mx adV Tryz.func230 rfl (by rw [aoX];exact Nat.le_of_ble_eq_true rfl) (dr:=Zn) (by kernel_rfl) aoS ?_
 intro bN _
 simp +contextual only [go_sem,ak,sevalprocAttr]
 refine bq ?_
 simp +contextual only [go_sem,ak,sevalprocAttr,aY hp,aY hq,hn,aF,m7]
 refine am (Ga items[i].as hg T) ?_ (fun _ _ _ _ h=>h.elim)
 rintro v M3 bD _ rfl
 simp +contextual only [go_sem,ak,sevalprocAttr]
 exact ⟨rd bD,az aH.rfl' rfl⟩
theorem aek {M:aV}{b o:Nat}{x:Se}{cs:List Value}(h:CX M x cs)(ha:At M b o cs):∃ i f g,RS M (xQ M) 8 x.items i/\RS M (D1 M) 10 x.src f/\RS M (RX M) 7 x.group g/\
 aL M ⟨b,o+1,none⟩=some (.bool x.star)/\aL M ⟨b,o+2,none⟩=some i/\aL M ⟨b,o+3,none⟩=some f/\aL M ⟨b,o+4,none⟩=some (.bool x.hasW)/\aL M ⟨b,o+5,none⟩=some (.bool x.hasH)/\
 (∃ c,RX M x.wh c/\At M b (o+6) c)/\(∃ c,RX M x.hv c/\At M b (o+13) c)/\aL M ⟨b,o+20,none⟩=some g:=by
 obtain ⟨i,f,w,hh,g,h1,h2,h3,h4,h5,rfl⟩:=h
 rw [eJ,eJ,eJ,dY h3,dY h4] at ha
 obtain ⟨⟨_,a1,a2,a3,a4,a5,_⟩,aw,ah,ag,_⟩:=ha
 exact ⟨i,f,g,h1,h2,h5,a1,a2,a3,a4,a5,⟨w,h3,aw⟩,⟨hh,h4,ah⟩,ag⟩
def kW:List It ->Int | []=>0 | x::l=>sj (fT [gX x.x,em x.as]) (kW l)
def eu:Nat ->List So ->Int | _,[]=>0 | i,x::l=>sj (i6 i x) (eu (i+1) l)
def iq:List X ->Int | []=>0 | x::l=>sj (gX x) (iq l)
def mj (x:Se):Bool:=decide (((x.src.length:Int)<1\/4<(x.src.length:Int))\/8<(x.group.length:Int)) || !x.star && (decide ((x.items.length:Int)<1) || decide (8<(x.items.length:Int)))
def zj (x:Se):Int:=if x.hasH=true then gX x.hv else 0
def B0 (x:Se):Int:=sj (iq x.group) (zj x)
def zJ (x:Se):Int:=sj (if x.hasW=true then gX x.wh else 0) (B0 x)
def xI (x:Se):Int:=sj (eu 0 x.src) (zJ x)
def qu (x:Se):Int:=if mj x=true then 5 else sj (if x.star=true then 0 else kW x.items) (xI x)
theorem fK {a b:Int}(h:a≠0):sj a b=a:=if_pos h
theorem sN (b:Int):sj 0 b=b:=if_neg (fun h'=>h' rfl)
theorem Eh {a b:Int}(h:a=0):sj a b=b:=if_neg (fun h'=>h' h)
theorem J5 {M:aV}{b o:Nat}{x:Se}{cs:List Value}(hg:fO M)(hx:CX M x cs)(ha:At M b o cs):Ct Tryz.prog 175 [.pointer (some ⟨b,o,none⟩)] M [] [] (fun r _ _ _=>r=.int .i64 (qu x)) bj:=by
 intro T
 obtain ⟨iv,fv,gv,hi,hf,D3,m1,m2,m3,m4,m5,⟨wc,hw,haw⟩,⟨vc,hv,hav⟩,m20⟩:=aek hx ha
 have mm:=hi
 obtain ⟨hib,ia,ic,rfl,hil,_,auM⟩:=aI (by decide) (fun _ _=>j8) hi
 obtain ⟨hfb,fa,fc,rfl,PD,_,RN⟩:=aI (by decide) (fun _ _=>mY) hf
 obtain ⟨hgb,ga,gc,rfl,Y3,_,PR⟩:=aI (by decide) (fun _ _=>dY) D3
 obtain ⟨sw,rfl,ow,w0,w1,w2,w3,w4,w5,w6⟩:=tJ hw haw
 obtain ⟨sv,rfl,ov,v0,v1,v2,v3,v4,v5,v6⟩:=tJ hv hav
 obtain ⟨S,hS⟩:∃ S,S=qu x:=⟨_,rfl⟩
 rw [<- hS]
 unfold qu at hS
 refine aT mx aaS Tryz.func175 rfl (by rw [anD];exact Nat.le_of_ble_eq_true rfl) (dr:=YF) (by kernel_rfl) anC ?_
 intro bN _
 simp +contextual only [go_sem,sevalprocAttr,m1,m2,m3,m4,m5,m20]
 intro b1 T1 jK jt pV
 show yZ _ _ (.bool (mj x)) _ _ _ _ _ _ _
 cases hmy:mj x with
 | true=>
  rw [if_pos hmy] at hS
  simp +contextual only [go_sem,ak,sevalprocAttr]
  exact az jt (by rw [hS])
 | false=>
 rw [if_neg (by rw [hmy];exact Bool.false_ne_true)] at hS
 rw [bV,if_neg Bool.false_ne_true]
 simp +contextual only [go_sem,sevalprocAttr,jK,m1,m2,m3,m4,m5,m20]
 refine gE (fun e ds h=>ds=[]/\e 1=.pointer (some ⟨b1,0,none⟩)/\S=xI x/\∃ N M' L,aH T N/\bG M M'/\M' b1=some [.pointer (some ⟨b,o,none⟩)]/\h=⟨N,M',L,[]⟩) (fun S' dW=> ?_) ?_
 ·simp +contextual only [go_sem,ak,sevalprocAttr]
  refine bA x.items.length 61 [(1,.pointer (some ⟨b1,0,none⟩)),(60,.int .i64 (x.items.length:Int))]
   (fun i e h=>∃ N M',aH T N/\bG M M'/\M' b1=some [.pointer (some ⟨b,o,none⟩)]/\h=⟨N,M',[],[]⟩/\S=sj (if x.star=true then 0 else kW (x.items.drop i)) (xI x))
   0 (by omega) (by simp only [aG,go_sem,ak,sevalprocAttr]) (by simp only [go_sem,ak,sevalprocAttr]) (aJ fun he hb bN=>aA ⟨T1,_,jt,he,hb,rfl,hS⟩) ?_
  clear hS
  rintro i e h hi aD ht ⟨N,M1,hN,aP,iT,rfl,hS⟩
  simp only [aG] at aD
  have n1:=ax aP m1
  by_cases aF:i<x.items.length
  ·cases fG:x.star with
   | true=>
    rw [if_pos fG,Eh rfl] at hS
    simp +contextual only [go_sem,ak,sevalprocAttr,aD,ht,aF,aY iT,n1,fG]
    intro b3 N3 fh Af ja
    refine dW _ _ _ ⟨rfl,?_,hS,N3,M1,_,hN.trans Af,aP,iT,rfl⟩
    simp only [aD,go_sem,ak,sevalprocAttr]
   | false=>
    have bX:x.items.drop i=x.items[i]::x.items.drop (i+1):=List.drop_eq_getElem_cons aF
    rw [if_neg (by rw [fG];exact Bool.false_ne_true),bX,kW] at hS
    simp +contextual only [go_sem,ak,sevalprocAttr,aD,ht,aF,aY iT,n1,fG]
    intro b3 N3 fh Af ja b70 awU auO
    refine pw H3 fun M2 aX hL2=> ?_
    obtain ⟨Kb,FM, -⟩:=hL2
    have gz:=aP.trans aX
    have BB:=hg.ext gz
    have gV:=aX _ _ iT
    have nu:=aN gz (ko gz) mm
    have O3:RS M2 RFn 1 [(229,[.pointer (some ⟨b1,0,none⟩),.pointer (some ⟨b3,0,none⟩)],gX x.items[i].x),(230,[.pointer (some ⟨b1,0,none⟩),.pointer (some ⟨b3,0,none⟩)],em x.items[i].as)] (.slice (some ⟨b70,0,none⟩) 2 2):=
     df (fun _ _ h=>by unfold RFn at h;subst h;rfl) Kb ⟨_,_,rfl,rfl,_,_,rfl,rfl,rfl⟩ rfl (by decide)
    refine am (Gw (es:=[gX x.items[i].x,em x.items[i].as]) rfl O3 (fun f hf M' T lC=> ?_) N3) ?_ (fun _ _ _ _ h=>h.elim)
    ·simp only [List.mem_cons,List.not_mem_nil,or_false] at hf
     rcases hf with rfl | rfl
     ·exact Rn (BB.ext lC) (lC _ _ gV) (lC _ _ FM) (ax (gz.trans lC) m2) (aN lC (ko lC) nu) aF T
     ·exact Qg (BB.ext lC) (lC _ _ gV) (lC _ _ FM) (ax (gz.trans lC) m2) (aN lC (ko lC) nu) aF T
    rintro v M3 bD _ rfl
    generalize fT [gX x.items[i].x,em x.items[i].as]=E at hS ⊢
    by_cases hE:E=0
    ·rw [hE,sN] at hS
     simp +contextual only [go_sem,ak,sevalprocAttr,aD,ht,hE]
     refine bW aF ?_ ?_ ⟨N3,M3,hN.trans Af,gz.trans bD,bD _ _ gV,rfl,?_⟩
     ·simp only [aG,aD,go_sem,ak,sevalprocAttr]
     ·simp only [ht,go_sem,ak,sevalprocAttr,aC i (by omega)]
     ·exact hS
    ·rw [fK hE,fK hE] at hS
     simp +contextual only [go_sem,ak,sevalprocAttr,aD,ht,hE]
     exact az (hN.trans Af) (by rw [hS])
  ·have:i=x.items.length:=by omega
   subst this
   rw [List.drop_length] at hS
   have lX:S=xI x:=by rw [hS];cases x.star<;>rfl
   simp +contextual only [go_sem,ak,sevalprocAttr,aD,ht,aF]
   refine dW _ _ _ ⟨rfl,?_,lX,N,M1,[],hN,aP,iT,rfl⟩
   simp only [aD,go_sem,ak,sevalprocAttr]
 clear hS
 rintro e ds h ⟨rfl,e1,hS,N,M1,L1,hN,aP,iT,rfl⟩
 simp +contextual only [go_sem,sevalprocAttr,e1,aY iT,ax aP m3]
 refine gE (fun e ds h=>ds=[]/\e 1=.pointer (some ⟨b1,0,none⟩)/\S=zJ x/\∃ N M',aH T N/\bG M M'/\M' b1=some [.pointer (some ⟨b,o,none⟩)]/\h=⟨N,M',[],[]⟩) (fun S' dW=> ?_) ?_
 ·simp +contextual only [go_sem,ak,sevalprocAttr,e1]
  refine bA x.src.length 81 [(1,.pointer (some ⟨b1,0,none⟩)),(80,.int .i64 (x.src.length:Int))]
   (fun i e h=>∃ M',bG M M'/\M' b1=some [.pointer (some ⟨b,o,none⟩)]/\h=⟨N,M',[],[]⟩/\S=sj (eu i (x.src.drop i)) (zJ x))
   0 (by omega) (by simp only [aG,e1,go_sem,ak,sevalprocAttr]) (by simp only [go_sem,ak,sevalprocAttr]) (iJ (aA ⟨M1,aP,iT,rfl,hS⟩)) ?_
  clear hS e1 iT aP
  rintro i e h hi aD ht ⟨M1,aP,iT,rfl,hS⟩
  simp only [aG] at aD
  by_cases aF:i<x.src.length
  ·obtain ⟨b',o',cs',rfl,cC,ff⟩:=RN i x.src[i] (List.getElem?_eq_getElem aF)
   have bX:x.src.drop i=x.src[i]::x.src.drop (i+1):=List.drop_eq_getElem_cons aF
   rw [bX,eu] at hS
   simp +contextual only [go_sem,ak,sevalprocAttr,aD,ht,aF,aY iT,ax aP m3]
   refine am (JK i (hg.ext aP) (rk aP _ _ ff) (cC.ext aP) N) ?_ (fun _ _ _ _ h=>h.elim)
   rintro v M2 aX _ rfl
   by_cases hE:i6 i x.src[i]=0
   ·rw [hE,sN] at hS
    simp +contextual only [go_sem,ak,sevalprocAttr,aD,ht,hE]
    refine bW aF ?_ ?_ ⟨M2,aP.trans aX,aX _ _ iT,rfl,hS⟩
    ·simp only [aG,aD,go_sem,ak,sevalprocAttr]
    ·simp only [ht,go_sem,ak,sevalprocAttr,aC i (by omega)]
   ·rw [fK hE,fK hE] at hS
    simp +contextual only [go_sem,ak,sevalprocAttr,aD,ht,hE]
    exact az hN (by rw [hS])
  ·have:i=x.src.length:=by omega
   subst this
   rw [List.drop_length,eu,sN] at hS
   simp +contextual only [go_sem,ak,sevalprocAttr,aD,ht,aF]
   refine dW _ _ _ ⟨rfl,?_,hS,N,M1,hN,aP,iT,rfl⟩
   simp only [aD,go_sem,ak,sevalprocAttr]
 clear hS e1 iT aP hN
 rintro e ds h ⟨rfl,e1,hS,N,M1,hN,aP,iT,rfl⟩
 unfold zJ at hS
 simp +contextual only [go_sem,sevalprocAttr,e1,aY iT,ax aP m4]
 refine dI (fun e ds h=>ds=[]/\e 1=.pointer (some ⟨b1,0,none⟩)/\S=B0 x/\∃ M',bG M M'/\M' b1=some [.pointer (some ⟨b,o,none⟩)]/\h=⟨N,M',[],[]⟩) (fun S' dW=> ?_) ?_
 ·cases hW:x.hasW with
  | false=>
   rw [if_neg (by rw [hW];exact Bool.false_ne_true),sN] at hS
   simp +contextual only [go_sem,ak,sevalprocAttr]
   refine dW _ _ _ ⟨rfl,?_,hS,M1,aP,iT,rfl⟩
   simp only [e1,go_sem,ak,sevalprocAttr]
  | true=>
   rw [if_pos hW] at hS
   simp +contextual only [go_sem,ak,sevalprocAttr,e1,aY iT,ax aP w0,ax aP w1,ax aP w2,ax aP w3,ax aP w4,ax aP w5,ax aP w6]
   refine am (oQ (hg.ext aP) (br aP _ _ hw) N) ?_ (fun _ _ _ _ h=>h.elim)
   rintro v M2 aX _ rfl
   by_cases hE:gX x.wh=0
   ·rw [hE,sN] at hS
    simp +contextual only [go_sem,ak,sevalprocAttr,e1,hE]
    refine dW _ _ _ ⟨rfl,?_,hS,M2,aP.trans aX,aX _ _ iT,rfl⟩
    simp only [e1,go_sem,ak,sevalprocAttr]
   ·rw [fK hE] at hS
    simp +contextual only [go_sem,ak,sevalprocAttr,e1,hE]
    exact az hN (by rw [hS])
 clear hS e1 iT aP
 rintro e ds h ⟨rfl,e1,hS,M1,aP,iT,rfl⟩
 unfold B0 at hS
 simp +contextual only [go_sem,sevalprocAttr,e1,aY iT,ax aP m20]
 refine gE (fun e ds h=>ds=[]/\e 1=.pointer (some ⟨b1,0,none⟩)/\S=zj x/\∃ N M',aH T N/\bG M M'/\M' b1=some [.pointer (some ⟨b,o,none⟩)]/\h=⟨N,M',[],[]⟩) (fun S' dW=> ?_) ?_
 ·simp +contextual only [go_sem,ak,sevalprocAttr,e1]
  refine bh x.group.length 113 [(1,.pointer (some ⟨b1,0,none⟩)),(111,.slice ga x.group.length gc),(112,.int .i64 (x.group.length:Int))]
   (fun i e h=>∃ N M',aH T N/\bG M M'/\M' b1=some [.pointer (some ⟨b,o,none⟩)]/\h=⟨N,M',[],[]⟩/\S=sj (iq (x.group.drop i)) (zj x))
   0 (by omega) (by simp only [aG,e1,go_sem,ak,sevalprocAttr]) (by simp only [go_sem,ak,sevalprocAttr]) ⟨N,M1,hN,aP,iT,rfl,hS⟩ ?_
  clear hS e1 iT aP hN
  rintro i e h hi aD ht ⟨N,M1,hN,aP,iT,rfl,hS⟩
  simp only [aG] at aD
  by_cases aF:i<x.group.length
  ·obtain ⟨b',o',cs',rfl,cC,ff⟩:=PR i x.group[i] (List.getElem?_eq_getElem aF)
   obtain ⟨sg,rfl,og,g0,g1,g2,g3,g4,g5,g6⟩:=tJ ff cC
   have bX:x.group.drop i=x.group[i]::x.group.drop (i+1):=List.drop_eq_getElem_cons aF
   rw [bX,iq] at hS
   simp +contextual only [go_sem,ak,sevalprocAttr,aD,ht,aF,ax aP g0,ax aP g1,ax aP g2,ax aP g3,ax aP g4,ax aP g5,ax aP g6,og]
   intro b9 N9 rF UC oP
   refine am (oQ (hg.ext aP) (br aP _ _ ff) N9) ?_ (fun _ _ _ _ h=>h.elim)
   rintro v M2 aX _ rfl
   by_cases hE:gX x.group[i]=0
   ·rw [hE,sN] at hS
    simp +contextual only [go_sem,ak,sevalprocAttr,aD,ht,hE]
    rw [fq]
    refine al (aA ⟨x.group.length - (i+1),by omega,rfl,i+1,by omega,rfl,?_,?_,N9,M2,hN.trans UC,aP.trans aX,aX _ _ iT,rfl,hS⟩)
    ·simp only [aG,aD,go_sem,ak,sevalprocAttr]
    ·simp only [ht,go_sem,ak,sevalprocAttr,aC i (by omega)]
   ·rw [fK hE,fK hE] at hS
    simp +contextual only [go_sem,ak,sevalprocAttr,aD,ht,hE]
    exact az (hN.trans UC) (by rw [hS])
  ·have:i=x.group.length:=by omega
   subst this
   rw [List.drop_length,iq,sN] at hS
   simp +contextual only [go_sem,ak,sevalprocAttr,aD,ht,aF]
   refine dW _ _ _ ⟨rfl,?_,hS,N,M1,hN,aP,iT,rfl⟩
   simp only [aD,go_sem,ak,sevalprocAttr]
 clear hS e1 iT aP hN
 rintro e ds h ⟨rfl,e1,hS,N,M1,hN,aP,iT,rfl⟩
 unfold zj at hS
 cases hH:x.hasH with
 | false=>
  rw [if_neg (by rw [hH];exact Bool.false_ne_true)] at hS
  rw [hH] at m5
  simp +contextual only [go_sem,ak,sevalprocAttr,e1,aY iT,ax aP m5]
  exact az hN (by rw [hS])
 | true=>
  rw [if_pos hH] at hS
  rw [hH] at m5
  simp +contextual only [go_sem,ak,sevalprocAttr,e1,aY iT,ax aP m5,ax aP v0,ax aP v1,ax aP v2,ax aP v3,ax aP v4,ax aP v5,ax aP v6]
  refine am (oQ (hg.ext aP) (br aP _ _ hv) N) ?_ (fun _ _ _ _ h=>h.elim)
  rintro v M2 aX _ rfl
  simp +contextual only [go_sem,ak,sevalprocAttr]
  exact az hN (by rw [hS])
theorem Zd {M:aV}{b o:Nat}{x:Q}{cs:List Value}(h:RQ M x cs)(ha:At M b o cs):∃ p f g,RS M (CX M) 21 x.parts p/\RS M RI 1 x.ops f/\RS M (RX M) 7 x.order g/\
 aL M ⟨b,o,none⟩=some p/\aL M ⟨b,o+1,none⟩=some f/\aL M ⟨b,o+2,none⟩=some g/\aL M ⟨b,o+3,none⟩=some (.int .i64 x.limit):=by
 obtain ⟨p,f,g,h1,h2,h3,rfl⟩:=h
 exact ⟨p,f,g,h1,h2,h3,ha.1,ha.2.1,ha.2.2.1,ha.2.2.2.1⟩
def jT (ops:List Int):Nat ->List Se ->Int
 | _,[]=>0
 | i,s::l=>if 0<i/\(ops.getD (i - 1) 0<1\/4<ops.getD (i - 1) 0) then 1 else sj (qu s) (jT ops (i+1) l)
def lA (q:Q):Int:=if q.limit<0 then 0 else iq q.order
def fl (q:Q):Bool:=decide ((((q.parts.length:Int)<1\/4<(q.parts.length:Int))\/(q.ops.length:Int)≠(q.parts.length:Int) - 1)\/(0<=q.limit/\((q.order.length:Int)<1\/8<(q.order.length:Int))))
def gR (q:Q):Int:=if fl q=true then 5 else if 50<q.limit then 3 else sj (jT q.ops 0 q.parts) (lA q)
theorem Bw {M:aV}{b o:Nat}{x:Q}{cs:List Value}(hg:fO M)(hx:RQ M x cs)(ha:At M b o cs):Ct Tryz.prog 125 [.pointer (some ⟨b,o,none⟩)] M [] [] (fun r _ _ _=>r=.int .i64 (gR x)) bj:=by
 intro T
 obtain ⟨pv,fv,gv,hp,hf,D3,m0,m1,m2,m3⟩:=Zd hx ha
 obtain ⟨hpb,pa,pc,rfl,py,_,TK⟩:=aI (by decide) (fun _ _=>lx) hp
 obtain ⟨hfb,fa,fc,rfl,PD,_,RN⟩:=aI (by decide) (fun _ _=>cW) hf
 obtain ⟨hgb,ga,gc,rfl,Y3,_,PR⟩:=aI (by decide) (fun _ _=>dY) D3
 have xb:IntKind.i64.wrap ((x.parts.length:Int) - 1)=(x.parts.length:Int) - 1:=eZ (by omega) (by omega)
 obtain ⟨S,hS⟩:∃ S,S=gR x:=⟨_,rfl⟩
 rw [<- hS]
 unfold gR at hS
 refine aT mx aec Tryz.func125 rfl (by rw [anW];exact Nat.le_of_ble_eq_true rfl) (dr:=QL) (by kernel_rfl) aiI ?_
 intro bN _
 simp +contextual only [go_sem,sevalprocAttr]
 refine yn (fun e ds h=>ds=[]/\e 0=.pointer (some ⟨b,o,none⟩)/\e 58=.bool (fl x)/\h=⟨T,M,[],[]⟩) (fun S' dW=> ?_) ?_
 ·have fin:∀ {e:dN} {t:Bool},e 0=.pointer (some ⟨b,o,none⟩) ->e 58=.bool t ->t=fl x ->cB Tryz.prog (fi Tryz.prog T QL [ResultVar.tmp 2] (bd []) 0 (fun r x x_1 x_2=>r=Value.int IntKind.i64 S) bj) S' e [] ⟨T,M,[],[]⟩ ⟨⟩:=by
   intro e t h0 h1 h2
   exact dW _ _ _ ⟨rfl,h0,by rw [h1,h2],rfl⟩
  refine bq ?_
  by_cases c1:(x.parts.length:Int)<1
  ·simp +contextual only [go_sem,sevalprocAttr,m0,m1,m2,m3,xb,c1]
   refine fin (t:=true) ?_ ?_ ?_
   ·simp only [go_sem,ak,sevalprocAttr]
   ·simp only [go_sem,ak,sevalprocAttr]
   ·simp [fl,c1]
  by_cases c2:4<(x.parts.length:Int)
  ·simp +contextual only [go_sem,sevalprocAttr,m0,m1,m2,m3,xb,c1,c2]
   refine fin (t:=true) ?_ ?_ ?_
   ·simp only [go_sem,ak,sevalprocAttr]
   ·simp only [go_sem,ak,sevalprocAttr]
   ·simp [fl,c2]
  by_cases c3:(x.ops.length:Int)=(x.parts.length:Int) - 1
  ·by_cases c4:0<=x.limit
   ·by_cases c5:(x.order.length:Int)<1
    ·simp +contextual only [go_sem,sevalprocAttr,m0,m1,m2,m3,xb,c1,c2,c3,c4,c5]
     refine fin (t:=true) ?_ ?_ ?_
     ·simp only [go_sem,ak,sevalprocAttr]
     ·simp only [go_sem,ak,sevalprocAttr]
     ·simp [fl,c4,c5]
    ·by_cases c6:8<(x.order.length:Int)
     ·simp +contextual only [go_sem,sevalprocAttr,m0,m1,m2,m3,xb,c1,c2,c3,c4,c5,c6]
      refine fin (t:=true) ?_ ?_ ?_
      ·simp only [go_sem,ak,sevalprocAttr]
      ·simp only [go_sem,ak,sevalprocAttr]
      ·simp [fl,c4,c6]
     ·simp +contextual only [go_sem,sevalprocAttr,m0,m1,m2,m3,xb,c1,c2,c3,c4,c5,c6]
      refine fin (t:=false) ?_ ?_ ?_
      ·simp only [go_sem,ak,sevalprocAttr]
      ·simp only [go_sem,ak,sevalprocAttr]
      ·exact (decide_eq_false (by omega)).symm
   ·simp +contextual only [go_sem,sevalprocAttr,m0,m1,m2,m3,xb,c1,c2,c3,c4]
    refine fin (t:=false) ?_ ?_ ?_
    ·simp only [go_sem,ak,sevalprocAttr]
    ·simp only [go_sem,ak,sevalprocAttr]
    ·exact (decide_eq_false (by omega)).symm
  ·simp +contextual only [go_sem,sevalprocAttr,m0,m1,m2,m3,xb,c1,c2,c3]
   refine fin (t:=true) ?_ ?_ ?_
   ·simp only [go_sem,ak,sevalprocAttr]
   ·simp only [go_sem,ak,sevalprocAttr]
   ·simp [fl,c3]
 rintro e ds h ⟨rfl,e0,e58,rfl⟩
 cases hm:fl x with
 | true=>
  rw [hm] at e58
  rw [if_pos hm] at hS
  simp +contextual only [go_sem,ak,sevalprocAttr,e58]
  exact az aH.rfl' (by rw [hS])
 | false=>
 rw [hm] at e58
 rw [if_neg (by rw [hm];exact Bool.false_ne_true)] at hS
 have s7:x.ops.length+1=x.parts.length:=by
  have:=of_decide_eq_false hm
  omega
 by_cases h50:50<x.limit
 ·rw [if_pos h50] at hS
  simp +contextual only [go_sem,ak,sevalprocAttr,e0,e58,m3,h50]
  exact az aH.rfl' (by rw [hS])
 rw [if_neg h50] at hS
 simp +contextual only [go_sem,sevalprocAttr,e0,e58]
 rw [bV,if_neg Bool.false_ne_true]
 simp +contextual only [go_sem,sevalprocAttr,e0,m3,h50]
 rw [bV,if_neg Bool.false_ne_true]
 simp +contextual only [go_sem,sevalprocAttr,e0,m0]
 refine gE (fun e ds h=>ds=[]/\e 0=.pointer (some ⟨b,o,none⟩)/\S=lA x/\∃ M',bG M M'/\h=⟨T,M',[],[]⟩) (fun S' dW=> ?_) ?_
 ·simp +contextual only [go_sem,ak,sevalprocAttr,e0]
  refine bh x.parts.length 69 [(0,.pointer (some ⟨b,o,none⟩)),(68,.int .i64 (x.parts.length:Int))]
   (fun i e h=>∃ M',bG M M'/\h=⟨T,M',[],[]⟩/\S=sj (jT x.ops i (x.parts.drop i)) (lA x))
   0 (by omega) (by simp only [aG,e0,go_sem,ak,sevalprocAttr]) (by simp only [go_sem,ak,sevalprocAttr]) ⟨M,bG.rfl',rfl,hS⟩ ?_
  clear hS e0 e58
  rintro i e h hi aD ht ⟨M1,aP,rfl,hS⟩
  simp only [aG] at aD
  have n0:=ax aP m0
  have n1:=ax aP m1
  by_cases aF:i<x.parts.length
  ·obtain ⟨b',o',cs',rfl,cC,ff⟩:=TK i x.parts[i] (List.getElem?_eq_getElem aF)
   have bX:x.parts.drop i=x.parts[i]::x.parts.drop (i+1):=List.drop_eq_getElem_cons aF
   rw [bX,jT] at hS
   have key:¬ (0<i/\(x.ops.getD (i - 1) 0<1\/4<x.ops.getD (i - 1) 0)) ->S=sj (sj (qu x.parts[i]) (jT x.ops (i+1) (x.parts.drop (i+1)))) (lA x):=fun h=>by rw [hS,if_neg h]
   by_cases hz:i=0
   ·have hz':¬ (0:Int)<(i:Int):=by omega
    replace hS:=key (fun h=>by omega)
    clear key
    simp +contextual only [go_sem,ak,sevalprocAttr,aD,ht,aF,hz',n0]
    refine am (J5 (hg.ext aP) (kn aP _ _ ff) (cC.ext aP) T) ?_ (fun _ _ _ _ h=>h.elim)
    rintro v M2 aX _ rfl
    by_cases hE:qu x.parts[i]=0
    ·rw [hE,sN] at hS
     simp +contextual only [go_sem,ak,sevalprocAttr,aD,ht,hE]
     refine bW aF ?_ ?_ ⟨M2,aP.trans aX,rfl,hS⟩
     ·simp only [aG,aD,go_sem,ak,sevalprocAttr]
     ·simp only [ht,go_sem,ak,sevalprocAttr,aC i (by omega)]
    ·rw [fK hE,fK hE] at hS
     simp +contextual only [go_sem,ak,sevalprocAttr,aD,ht,hE]
     exact az aH.rfl' (by rw [hS])
   ·have hz':(0:Int)<(i:Int):=by omega
    have hil:i - 1<x.ops.length:=by omega
    obtain ⟨bo,oo,co,rfl,Vj,hro⟩:=RN (i - 1) x.ops[i - 1] (List.getElem?_eq_getElem hil)
    unfold RI at hro;subst hro
    have hx:=ax aP Vj.1
    rw [Nat.mul_one] at hx
    have hgd:x.ops.getD (i - 1) 0=x.ops[i - 1]:=by simp [List.getD,List.getElem?_eq_getElem hil]
    have hwi:IntKind.i64.wrap ((i:Int) - 1)=((i - 1:Nat):Int):=by rw [eZ (by omega) (by omega)];omega
    rw [hgd] at hS key
    by_cases c1:x.ops[i - 1]<1
    ·rw [if_pos ⟨by omega,.inl c1⟩,fK (by decide)] at hS
     simp +contextual only [go_sem,ak,sevalprocAttr,aD,ht,aF,hz',n0,n1,hwi,hil,hx,c1]
     exact az aH.rfl' (by rw [hS])
    ·by_cases c2:4<x.ops[i - 1]
     ·rw [if_pos ⟨by omega,.inr c2⟩,fK (by decide)] at hS
      simp +contextual only [go_sem,ak,sevalprocAttr,aD,ht,aF,hz',n0,n1,hwi,hil,hx,c1,c2]
      exact az aH.rfl' (by rw [hS])
     ·replace hS:=key (fun h=>by rcases h.2 with h | h;exact c1 h;exact c2 h)
      clear key
      simp +contextual only [go_sem,ak,sevalprocAttr,aD,ht,aF,hz',n0,n1,hwi,hil,hx,c1,c2]
      refine am (J5 (hg.ext aP) (kn aP _ _ ff) (cC.ext aP) T) ?_ (fun _ _ _ _ h=>h.elim)
      rintro v M2 aX _ rfl
      by_cases hE:qu x.parts[i]=0
      ·rw [hE,sN] at hS
       simp +contextual only [go_sem,ak,sevalprocAttr,aD,ht,hE]
       refine bW aF ?_ ?_ ⟨M2,aP.trans aX,rfl,hS⟩
       ·simp only [aG,aD,go_sem,ak,sevalprocAttr]
       ·simp only [ht,go_sem,ak,sevalprocAttr,aC i (by omega)]
      ·rw [fK hE,fK hE] at hS
       simp +contextual only [go_sem,ak,sevalprocAttr,aD,ht,hE]
       exact az aH.rfl' (by rw [hS])
  ·have:i=x.parts.length:=by omega
   subst this
   rw [List.drop_length,jT,sN] at hS
   simp +contextual only [go_sem,ak,sevalprocAttr,aD,ht,aF]
   refine dW _ _ _ ⟨rfl,?_,hS,M1,aP,rfl⟩
   simp only [aD,go_sem,ak,sevalprocAttr]
 clear hS e0 e58
 rintro e ds h ⟨rfl,e0,hS,M1,aP,rfl⟩
 unfold lA at hS
 simp +contextual only [go_sem,sevalprocAttr,e0,ax aP m2]
 refine gE (fun e ds h=>ds=[]/\S=0/\∃ N M' L,aH T N/\h=⟨N,M',L,[]⟩) (fun S' dW=> ?_) ?_
 ·simp +contextual only [go_sem,ak,sevalprocAttr,e0]
  refine bh x.order.length 112 [(0,.pointer (some ⟨b,o,none⟩)),(110,.slice ga x.order.length gc),(111,.int .i64 (x.order.length:Int))]
   (fun i e h=>∃ N M',aH T N/\bG M M'/\h=⟨N,M',[],[]⟩/\S=(if x.limit<0 then 0 else iq (x.order.drop i)))
   0 (by omega) (by simp only [aG,e0,go_sem,ak,sevalprocAttr]) (by simp only [go_sem,ak,sevalprocAttr]) ⟨T,M1,aH.rfl',aP,rfl,hS⟩ ?_
  clear hS e0 aP
  rintro i e h hi aD ht ⟨N,M1,hN,aP,rfl,hS⟩
  simp only [aG] at aD
  by_cases aF:i<x.order.length
  ·obtain ⟨b',o',cs',rfl,cC,ff⟩:=PR i x.order[i] (List.getElem?_eq_getElem aF)
   obtain ⟨sg,rfl,og,g0,g1,g2,g3,g4,g5,g6⟩:=tJ ff cC
   have bX:x.order.drop i=x.order[i]::x.order.drop (i+1):=List.drop_eq_getElem_cons aF
   by_cases vG:x.limit<0
   ·rw [if_pos vG] at hS
    simp +contextual only [go_sem,ak,sevalprocAttr,aD,ht,aF,ax aP m3,ax aP g0,ax aP g1,ax aP g2,ax aP g3,ax aP g4,ax aP g5,ax aP g6,og,vG]
    intro b9 N9 rF UC oP
    exact dW _ _ _ ⟨rfl,hS,N9,M1,_,hN.trans UC,rfl⟩
   rw [if_neg vG,bX,iq] at hS
   simp +contextual only [go_sem,ak,sevalprocAttr,aD,ht,aF,ax aP m3,ax aP g0,ax aP g1,ax aP g2,ax aP g3,ax aP g4,ax aP g5,ax aP g6,og,vG]
   intro b9 N9 rF UC oP
   refine am (oQ (hg.ext aP) (br aP _ _ ff) N9) ?_ (fun _ _ _ _ h=>h.elim)
   rintro v M2 aX _ rfl
   by_cases hE:gX x.order[i]=0
   ·rw [hE,sN] at hS
    simp +contextual only [go_sem,ak,sevalprocAttr,aD,ht,hE]
    rw [fq]
    refine al (aA ⟨x.order.length - (i+1),by omega,rfl,i+1,by omega,rfl,?_,?_,N9,M2,hN.trans UC,aP.trans aX,rfl,by rw [if_neg vG];exact hS⟩)
    ·simp only [aG,aD,go_sem,ak,sevalprocAttr]
    ·simp only [ht,go_sem,ak,sevalprocAttr,aC i (by omega)]
   ·rw [fK hE] at hS
    simp +contextual only [go_sem,ak,sevalprocAttr,aD,ht,hE]
    exact az (hN.trans UC) (by rw [hS])
  ·have:i=x.order.length:=by omega
   subst this
   rw [List.drop_length,iq,ite_self] at hS
   simp +contextual only [go_sem,ak,sevalprocAttr,aD,ht,aF]
   exact dW _ _ _ ⟨rfl,hS,N,M1,[],hN,rfl⟩
 rintro e ds h ⟨rfl,hS,N,M2,L,hN,rfl⟩
 simp +contextual only [go_sem,ak,sevalprocAttr]
 exact az hN (by rw [hS])
theorem Pu:HF Tryz.prog 29=some [1,1,2]:=by kernel_rfl
theorem GB {M:aV}{b o:Nat}{v0 v1 v2 v3 v4 v5 v6 v7 v8 v9 v10 v11 v12 v13 v14 v15 v16 v17 v18 v19 v20:Value}(h:At M b o [v0,v1,v2,v3,v4,v5,v6,v7,v8,v9,v10,v11,v12,v13,v14,v15,v16,v17,v18,v19,v20]):aL M ⟨b,o,none⟩=some v0/\aL M ⟨b,o+1,none⟩=some v1/\aL M ⟨b,o+2,none⟩=some v2/\aL M ⟨b,o+3,none⟩=some v3/\aL M ⟨b,o+4,none⟩=some v4/\aL M ⟨b,o+5,none⟩=some v5/\aL M ⟨b,o+6,none⟩=some v6/\aL M ⟨b,o+7,none⟩=some v7/\aL M ⟨b,o+8,none⟩=some v8/\aL M ⟨b,o+9,none⟩=some v9/\aL M ⟨b,o+10,none⟩=some v10/\aL M ⟨b,o+11,none⟩=some v11/\aL M ⟨b,o+12,none⟩=some v12/\aL M ⟨b,o+13,none⟩=some v13/\aL M ⟨b,o+14,none⟩=some v14/\aL M ⟨b,o+15,none⟩=some v15/\aL M ⟨b,o+16,none⟩=some v16/\aL M ⟨b,o+17,none⟩=some v17/\aL M ⟨b,o+18,none⟩=some v18/\aL M ⟨b,o+19,none⟩=some v19/\aL M ⟨b,o+20,none⟩=some v20:=
 ⟨h.1,h.2.1,h.2.2.1,h.2.2.2.1,h.2.2.2.2.1,h.2.2.2.2.2.1,h.2.2.2.2.2.2.1,h.2.2.2.2.2.2.2.1,h.2.2.2.2.2.2.2.2.1,h.2.2.2.2.2.2.2.2.2.1,h.2.2.2.2.2.2.2.2.2.2.1,h.2.2.2.2.2.2.2.2.2.2.2.1,h.2.2.2.2.2.2.2.2.2.2.2.2.1,h.2.2.2.2.2.2.2.2.2.2.2.2.2.1,h.2.2.2.2.2.2.2.2.2.2.2.2.2.2.1,h.2.2.2.2.2.2.2.2.2.2.2.2.2.2.2.1,h.2.2.2.2.2.2.2.2.2.2.2.2.2.2.2.2.1,h.2.2.2.2.2.2.2.2.2.2.2.2.2.2.2.2.2.1,h.2.2.2.2.2.2.2.2.2.2.2.2.2.2.2.2.2.2.1,h.2.2.2.2.2.2.2.2.2.2.2.2.2.2.2.2.2.2.2.1,h.2.2.2.2.2.2.2.2.2.2.2.2.2.2.2.2.2.2.2.2.1⟩
theorem acS {M:aV}{b o:Nat}{v0 v1 v2 v3 v4 v5 v6 v7 v8 v9:Value}(h:At M b o [v0,v1,v2,v3,v4,v5,v6,v7,v8,v9]):aL M ⟨b,o,none⟩=some v0/\aL M ⟨b,o+1,none⟩=some v1/\aL M ⟨b,o+2,none⟩=some v2/\aL M ⟨b,o+3,none⟩=some v3/\aL M ⟨b,o+4,none⟩=some v4/\aL M ⟨b,o+5,none⟩=some v5/\aL M ⟨b,o+6,none⟩=some v6/\aL M ⟨b,o+7,none⟩=some v7/\aL M ⟨b,o+8,none⟩=some v8/\aL M ⟨b,o+9,none⟩=some v9:=
 ⟨h.1,h.2.1,h.2.2.1,h.2.2.2.1,h.2.2.2.2.1,h.2.2.2.2.2.1,h.2.2.2.2.2.2.1,h.2.2.2.2.2.2.2.1,h.2.2.2.2.2.2.2.2.1,h.2.2.2.2.2.2.2.2.2.1⟩
theorem At8 {M:aV}{b o:Nat}{v0 v1 v2 v3 v4 v5 v6 v7:Value}(h:At M b o [v0,v1,v2,v3,v4,v5,v6,v7]):aL M ⟨b,o,none⟩=some v0/\aL M ⟨b,o+1,none⟩=some v1/\aL M ⟨b,o+2,none⟩=some v2/\aL M ⟨b,o+3,none⟩=some v3/\aL M ⟨b,o+4,none⟩=some v4/\aL M ⟨b,o+5,none⟩=some v5/\aL M ⟨b,o+6,none⟩=some v6/\aL M ⟨b,o+7,none⟩=some v7:=
 ⟨h.1,h.2.1,h.2.2.1,h.2.2.2.1,h.2.2.2.2.1,h.2.2.2.2.2.1,h.2.2.2.2.2.2.1,h.2.2.2.2.2.2.2.1⟩
theorem E4 {M:aV}{s:Se}{cs:List Value}(h:CX M s cs):∃ ai aj af ag aw ah ap aq,cs=[.bool s.distinct,.bool s.star,.slice ai s.items.length aj,.slice af s.src.length ag,.bool s.hasW,.bool s.hasH,.int .i64 s.wh.k,.int .i64 s.wh.v.k,.int .i64 s.wh.v.n,st s.wh.v.t,st s.wh.tab,st s.wh.name,aw,.int .i64 s.hv.k,.int .i64 s.hv.v.k,.int .i64 s.hv.v.n,st s.hv.v.t,st s.hv.tab,st s.hv.name,ah,.slice ap s.group.length aq]/\RS M (xQ M) 8 s.items (.slice ai s.items.length aj)/\RS M (D1 M) 10 s.src (.slice af s.src.length ag)/\
 RX M s.wh [.int .i64 s.wh.k,.int .i64 s.wh.v.k,.int .i64 s.wh.v.n,st s.wh.v.t,st s.wh.tab,st s.wh.name,aw]/\RX M s.hv [.int .i64 s.hv.k,.int .i64 s.hv.v.k,.int .i64 s.hv.v.n,st s.hv.v.t,st s.hv.tab,st s.hv.name,ah]/\RS M (RX M) 7 s.group (.slice ap s.group.length aq)/\aw.oneCell'=true/\ah.oneCell'=true:=by
 obtain ⟨i,f,w,hh,g,h1,h2,h3,h4,h5,rfl⟩:=h
 obtain ⟨_,ai,aj,rfl,_⟩:=aI (by decide) (fun _ _=>j8) h1
 obtain ⟨_,af,ag,rfl,_⟩:=aI (by decide) (fun _ _=>mY) h2
 obtain ⟨_,ap,aq,rfl,_⟩:=aI (by decide) (fun _ _=>dY) h5
 obtain ⟨aw,rfl,k1,_⟩:=cb h3
 obtain ⟨ah,rfl,k2,_⟩:=cb h4
 exact ⟨ai,aj,af,ag,aw,ah,ap,aq,rfl,h1,h2,h3,h4,h5,k1,k2⟩
theorem Cx {M:aV}{s:So}{cs:List Value}(h:D1 M s cs):∃ aw,cs=[.int .i64 s.k,st s.name,st s.as,.int .i64 s.on.k,.int .i64 s.on.v.k,.int .i64 s.on.v.n,st s.on.v.t,st s.on.tab,st s.on.name,aw]/\RX M s.on [.int .i64 s.on.k,.int .i64 s.on.v.k,.int .i64 s.on.v.n,st s.on.v.t,st s.on.tab,st s.on.name,aw]/\aw.oneCell'=true:=by
 obtain ⟨c,h1,rfl⟩:=h
 obtain ⟨aw,rfl,k1,_⟩:=cb h1
 exact ⟨aw,rfl,h1,k1⟩
theorem mO {M:aV}{s:It}{cs:List Value}(h:xQ M s cs):∃ aw,cs=[.int .i64 s.x.k,.int .i64 s.x.v.k,.int .i64 s.x.v.n,st s.x.v.t,st s.x.tab,st s.x.name,aw,st s.as]/\RX M s.x [.int .i64 s.x.k,.int .i64 s.x.v.k,.int .i64 s.x.v.n,st s.x.v.t,st s.x.tab,st s.x.name,aw]/\aw.oneCell'=true:=by
 obtain ⟨c,h1,rfl⟩:=h
 obtain ⟨aw,rfl,k1,_⟩:=cb h1
 exact ⟨aw,rfl,h1,k1⟩
theorem tK {α:Type}{M:aV}{r:α ->List Value ->Prop}{sz:Nat}{l:List α}{a n c}(gG:0<sz)(eF:∀ x cs,r x cs ->cs.length=sz)(hs:RS M r sz l (.slice a n c)){i:Nat}{x:α}(h:l[i]?=some x):∃ b o cs,a=some ⟨b,o,none⟩/\At M b (o+i*sz) cs/\r x cs:=by
 obtain ⟨_,a',c',he,_,_,hg⟩:=aI gG eF hs
 injection he with h1 h2 h3
 rw [h1];exact hg i x h
theorem Aa {α:Type}{M:aV}{r:α ->List Value ->Prop}{sz:Nat}{l:List α}{v:Value}(hs:RS M r sz l v):l.length*sz<=4398046511104:=hs.1
theorem ajX {M:aV}{b o:Nat}{v0 v1 v2 v3 v4 v5 v6 v7 v8 v9 v10 v11 v12 v13 v14 v15:Value}(h:At M b o [v0,v1,v2,v3,v4,v5,v6,v7,v8,v9,v10,v11,v12,v13,v14,v15]):aL M ⟨b,o,none⟩=some v0/\aL M ⟨b,o+1,none⟩=some v1/\aL M ⟨b,o+2,none⟩=some v2/\aL M ⟨b,o+3,none⟩=some v3/\aL M ⟨b,o+4,none⟩=some v4/\aL M ⟨b,o+5,none⟩=some v5/\aL M ⟨b,o+6,none⟩=some v6/\aL M ⟨b,o+7,none⟩=some v7/\aL M ⟨b,o+8,none⟩=some v8/\aL M ⟨b,o+9,none⟩=some v9/\aL M ⟨b,o+10,none⟩=some v10/\aL M ⟨b,o+11,none⟩=some v11/\aL M ⟨b,o+12,none⟩=some v12/\aL M ⟨b,o+13,none⟩=some v13/\aL M ⟨b,o+14,none⟩=some v14/\aL M ⟨b,o+15,none⟩=some v15:=
 ⟨h.1,h.2.1,h.2.2.1,h.2.2.2.1,h.2.2.2.2.1,h.2.2.2.2.2.1,h.2.2.2.2.2.2.1,h.2.2.2.2.2.2.2.1,h.2.2.2.2.2.2.2.2.1,h.2.2.2.2.2.2.2.2.2.1,h.2.2.2.2.2.2.2.2.2.2.1,h.2.2.2.2.2.2.2.2.2.2.2.1,h.2.2.2.2.2.2.2.2.2.2.2.2.1,h.2.2.2.2.2.2.2.2.2.2.2.2.2.1,h.2.2.2.2.2.2.2.2.2.2.2.2.2.2.1,h.2.2.2.2.2.2.2.2.2.2.2.2.2.2.2.1⟩
theorem SN {M:aV}{b o:Nat}{v0 v1:Value}(h:At M b o [v0,v1]):aL M ⟨b,o,none⟩=some v0/\aL M ⟨b,o+1,none⟩=some v1:=
 ⟨h.1,h.2.1⟩
theorem At3 {M:aV}{b o:Nat}{v0 v1 v2:Value}(h:At M b o [v0,v1,v2]):aL M ⟨b,o,none⟩=some v0/\aL M ⟨b,o+1,none⟩=some v1/\aL M ⟨b,o+2,none⟩=some v2:=
 ⟨h.1,h.2.1,h.2.2.1⟩
theorem Bu {M:aV}{b o:Nat}{v0:Value}(h:At M b o [v0]):aL M ⟨b,o,none⟩=some v0:=h.1
theorem ge {c:Co}{cs}(h:uE c cs):cs.length=2:=by unfold uE at h;subst h;rfl
theorem J8 {M:aV}{l:List V}{cs}(h:RVs M l cs):cs.length=1:=by obtain ⟨s,_,rfl⟩:=h;rfl
theorem Bv {M:aV}{s:Stm}{cs:List Value}(h:o9 M s cs):∃ ac ad ap aq ao an ar ae au av aw,cs=[.int .i64 s.k,st s.name,.slice ac s.cols.length ad,.slice ap s.q.parts.length aq,.slice ao s.q.ops.length an,.slice ar s.q.order.length ae,.int .i64 s.q.limit,.slice au s.rows.length av,.bool s.hasW,.int .i64 s.wh.k,.int .i64 s.wh.v.k,.int .i64 s.wh.v.n,st s.wh.v.t,st s.wh.tab,st s.wh.name,aw]/\RS M uE 2 s.cols (.slice ac s.cols.length ad)/\RQ M s.q [.slice ap s.q.parts.length aq,.slice ao s.q.ops.length an,.slice ar s.q.order.length ae,.int .i64 s.q.limit]/\
 RS M (RVs M) 1 s.rows (.slice au s.rows.length av)/\RX M s.wh [.int .i64 s.wh.k,.int .i64 s.wh.v.k,.int .i64 s.wh.v.n,st s.wh.v.t,st s.wh.tab,st s.wh.name,aw]/\aw.oneCell'=true:=by
 obtain ⟨c,qq,r,w,h1,h2,h3,h4,rfl⟩:=h
 obtain ⟨_,ac,ad,rfl,_⟩:=aI (by decide) (fun _ _=>ge) h1
 obtain ⟨_,au,av,rfl,_⟩:=aI (by decide) (fun _ _=>J8) h3
 obtain ⟨aw,rfl,k1,_⟩:=cb h4
 obtain ⟨p,o,rr,g1,g2,g3,rfl⟩:=h2
 obtain ⟨_,ap,aq,rfl,_⟩:=aI (by decide) (fun _ _=>lx) g1
 obtain ⟨_,ao,an,rfl,_⟩:=aI (by decide) (fun _ _=>cW) g2
 obtain ⟨_,ar,ae,rfl,_⟩:=aI (by decide) (fun _ _=>dY) g3
 exact ⟨ac,ad,ap,aq,ao,an,ar,ae,au,av,aw,rfl,h1,⟨_,_,_,g1,g2,g3,rfl⟩,h3,h4,k1⟩
theorem FL {N:Tm}{M:aV}{L:LL}{R:RR}{b:Nat}:∀ (xs:List Value) (o i:Nat),At M b (o+i) xs ->Sh.cells ⟨N,M,L,R⟩ ⟨b,o,none⟩ i xs.length=some xs
 | [],o,i,h=>rfl
 | x::xs,o,i,h=>by
  rw [List.length_cons,tL,FL xs o (i+1) h.2]
  have:Sh.cell ⟨N,M,L,R⟩ ⟨b,o+i,none⟩=some x:=by simp only [Sh.cell,h.1]
  rw [this];rfl
theorem Lw {α:Type}{r:α ->List Value ->Prop}(hr:∀ x cs,r x cs ->∀ u∈cs,u.oneCell'=true):∀ {l xs},RL r l xs ->∀ u∈xs,u.oneCell'=true
 | [],xs,h,u,hu=>by have:xs=[]:=h;subst this;cases hu
 | x::l,xs,h,u,hu=>by
  obtain ⟨cs,rest,rfl,h1,h2⟩:=h
  rcases List.mem_append.1 hu with hu | hu
  ·exact hr x cs h1 u hu
  ·exact Lw hr h2 u hu
theorem CI {P:Program}{tx e':TypeId}{α:Type}{r:α ->List Value ->Prop}{sz:Nat}{M:aV}{l:List α}{v:Value}(hu:P.underlying tx=some (.slice e'))(eF:∀ x cs,r x cs ->cs.length=sz)(hr:∀ x cs,r x cs ->∀ u∈cs,u.oneCell'=true)(hs:RS M r sz l v):
 ∃ xs,xs.length=l.length*sz/\RL r l xs/\∀ N L R,Srcs P tx sz ⟨N,M,L,R⟩ v xs:=by
 obtain ⟨_,xs,h,hl⟩:=hs
 refine ⟨xs,fI eF hl,hl,fun N L R=> ?_⟩
 rcases h with ⟨a,c,rfl,rfl,Ai⟩ | ⟨b,o,n,c,rfl,jo,hn,ha⟩
 ·cases a with
  | none=>rw [Ai rfl];exact .nil 0 e' hu
  | some a=>exact .slice a 0 c [] e' hu (by rw [Nat.zero_mul];rfl) (fun u hu=>by cases hu)
 ·refine .slice _ n c xs e' hu ?_ (Lw hr hl)
  rw [<- hn]
  exact FL xs o 0 ha
theorem dx {α:Type}{r:α ->List Value ->Prop}:∀ {l m:List α} {xs ys:List Value},RL r l xs ->RL r m ys ->RL r (l++m) (xs++ys)
 | [],m,xs,ys,h,h'=>by have:xs=[]:=h;subst this;exact h'
 | x::l,m,xs,ys,h,h'=>by
  obtain ⟨cs,rest,rfl,h1,h2⟩:=h
  exact ⟨cs,rest++ys,by rw [List.append_assoc],h1,dx h2 h'⟩
def nK {α:Type}(el:TypeId)(sz:Nat)(r:α ->List Value ->Prop)(R0 R:RR)(fv:Value)(aO:List α):Prop:=
 (aO=[]/\fv=.slice none 0 0/\R=R0)\/∃ a c xs,fv=.slice a aO.length c/\RL r aO xs/\R=(fv,el,sz,xs)::R0
section
variable {α:Type} {el:TypeId} {sz:Nat} {r:α ->List Value ->Prop} {R0 R:RR} {fv:Value} {aO:List α}
theorem ew:nK el sz r R0 R0 (.slice none 0 0) []:=.inl ⟨rfl,rfl,rfl⟩
theorem kq (h:nK el sz r R0 R fv aO):∃ a c,fv=.slice a aO.length c:=by
 rcases h with ⟨rfl,rfl,_⟩ | ⟨a,c,xs,rfl,_⟩
 ·exact ⟨_,_,rfl⟩
 ·exact ⟨_,_,rfl⟩
theorem uz (h:nK el sz r R0 R fv aO):fv.oneCell'=true/\fv.cells.toList=[fv]:=by
 obtain ⟨a,c,rfl⟩:=kq h
 exact ⟨rfl,rfl⟩
theorem eX {r':α ->List Value ->Prop}(hr:∀ x cs,r x cs ->r' x cs)(h:nK el sz r R0 R fv aO):nK el sz r' R0 R fv aO:=by
 rcases h with ⟨h1,h2,h3⟩ | ⟨a,c,xs,h1,h2,h3⟩
 ·exact .inl ⟨h1,h2,h3⟩
 ·exact .inr ⟨a,c,xs,h1,dZ hr h2,h3⟩
theorem dH {P:Program}{F:Fi}{s:List Vc.Item}{e:dN}{ds:List Deferred}{dd:Option Nat}{T:Tm}{M:aV}{L:LL}{t:TypeId}{z:List Value}{b:Nat}{x:α}{cs:List Value}(hu:P.underlying t=some (.slice el))(fg:fB P t=some (el,sz,z))(dG:nM P t=true)
 (h:nK el sz r R0 R fv aO) (hx:r x cs) (bQ:∀ x cs,r x cs ->cs.length=sz) (fk:∀ u∈cs,u.oneCell'=true) (hb:M b=none) (hl:aO.length*sz+sz<=4398046511104) (gG:0<sz)
 (k:∀ fv' R',nK el sz r R0 R' fv' (aO++[x]) ->cB P F s (cV e dd fv') ds ⟨T,M,(b,cs)::L,R'⟩ ⟨⟩):zM P F t t fv (.slice (some ⟨b,0,none⟩) 1 1) dd s e ds ⟨T,M,(b,cs)::L,R⟩ ⟨⟩:=by
 have dw:=bQ x cs hx
 rcases h with ⟨rfl,rfl,rfl⟩ | ⟨a,c,xs,rfl,h3,rfl⟩
 ·refine nb fg dG (.slice _ 1 _ _ _ hu (cT [] hb trivial (by rw [dw,Nat.one_mul])) fk) (by rw [dw];simp at hl;omega) ?_
  intro ra rm rc ky
  have:rm=1:=by
   rw [dw] at ky
   exact Nat.eq_of_mul_eq_mul_right gG (by omega)
  subst this
  exact k _ _ (.inr ⟨_,_,_,rfl,cP hx,rfl⟩)
 ·have nr:=fI bQ h3
  refine gi fg dG (.slice _ 1 _ _ _ hu (cT [] hb trivial (by rw [dw,Nat.one_mul])) fk) (by rw [dw,nr];omega) ?_
  intro ra rm rc ky
  have:rm=(aO++[x]).length:=by
   rw [dw,nr] at ky
   rw [List.length_append]
   refine Nat.eq_of_mul_eq_mul_right gG ?_
   rw [Nat.add_mul]
   simpa using ky
  subst this
  exact k _ _ (.inr ⟨_,_,_,rfl,dx h3 (cP hx),rfl⟩)
theorem cU {N:Tm}{M:aV}{L:LL}{k:Sh ->Prop}(h:nK el sz r R0 R fv aO)(hb:aO.length*sz<=4398046511104)(gG:0<sz)(bN:aB M L)(hk:∀ M',bG M M' ->aB M' L ->RS M' r sz aO fv ->cK ⟨N,M',L,R0⟩ k):cK ⟨N,M,L,R⟩ k:=by
 rcases h with ⟨rfl,rfl,rfl⟩ | ⟨a,c,xs,rfl,h3,rfl⟩
 ·exact hk M bG.rfl' bN bR
 ·exact dn (fun M' hM iQ j7=>hk M' hM iQ ⟨hb,xs,j7,h3⟩) gG
end
def kc (k:Int):Int:=if k=1 then 119 else if k=2 then 110 else if k=3 then 116 else 115
def wL (b:Nat)(lv:Value)(en op be ba:Int):LL:=[(b,[lv,.int .i64 en,.int .i64 op,.int .i64 be,.int .i64 ba])]
def Rl {α:Type}(r:Rs α)(be ba:Int)(a:α)(t:List Tk)(be' ba':Int):Prop:=
 if be=0 then (match r with
  | .ok a0 t0=>a=a0/\t=t0/\be'=0/\ba'=ba
  | .err e x=>e≠0/\be'=e/\ba'=x
  | .out=>True)
 else be'=be/\ba'=ba
def Up {α:Type}(cur:Rs α)(be1 ba1:Int)(res:Rs α)(be ba:Int):Prop:=∀ a t be' ba',Rl cur be1 ba1 a t be' ba' ->Rl res be ba a t be' ba'
theorem Up.rfl' {α:Type}{r:Rs α}{be ba:Int}:Up r be ba r be ba:=fun _ _ _ _ h=>h
theorem Up.congr {α:Type}{c c' res:Rs α}{be1 ba1 be ba:Int}(h:Up c be1 ba1 res be ba)(hc:be1=0 ->c=c'):Up c' be1 ba1 res be ba:=by
 intro a t be' ba' h1
 refine h a t be' ba' ?_
 unfold Rl at h1 ⊢
 split at h1
 ·rename_i h0
  rw [if_pos h0,hc h0];exact h1
 ·rename_i h0
  rw [if_neg h0];exact h1
theorem Up.bind {α β:Type}{g:Rs α}{F:α ->List Tk ->Rs β}{res:Rs β}{be1 ba1 be ba:Int}(h:Up (g.bind F) be1 ba1 res be ba){a:α}{t:List Tk}{be2 ba2:Int}(hg:Rl g be1 ba1 a t be2 ba2):Up (F a t) be2 ba2 res be ba:=by
 intro x t' be' ba' h1
 refine h x t' be' ba' ?_
 unfold Rl at hg h1 ⊢
 by_cases h0:be1=0
 ·rw [if_pos h0] at hg ⊢
  cases g with
  | ok a0 t0=>
   obtain ⟨rfl,rfl,h2,rfl⟩:=hg
   rw [if_pos h2] at h1
   exact h1
  | err e x=>
   obtain ⟨h2,rfl,rfl⟩:=hg
   rw [if_neg h2] at h1
   obtain ⟨rfl,rfl⟩:=h1
   exact ⟨h2,rfl,rfl⟩
  | out=>trivial
 ·rw [if_neg h0] at hg ⊢
  obtain ⟨rfl,rfl⟩:=hg
  rw [if_neg h0] at h1
  exact h1
theorem Up.ok {α:Type}{res:Rs α}{a:α}{t:List Tk}{be1 ba1 be ba:Int}(h:Up (.ok a t) be1 ba1 res be ba):Rl res be ba a t be1 ba1:=by
 refine h a t be1 ba1 ?_
 unfold Rl
 split
 ·rename_i h0;exact ⟨rfl,rfl,h0,rfl⟩
 ·exact ⟨rfl,rfl⟩
theorem Up.bad {α:Type}{c res:Rs α}{a:α}{t:List Tk}{be1 ba1 be ba:Int}(h:Up c be1 ba1 res be ba)(h0:be1≠0):Rl res be ba a t be1 ba1:=by
 refine h a t be1 ba1 ?_
 unfold Rl
 rw [if_neg h0];exact ⟨rfl,rfl⟩
def S8 (e a:Int)(be ba:Int):Int×Int:=if be=0 then (e,a) else (be,ba)
theorem Up.err {α:Type}{c res:Rs α}{e x:Int}{a:α}{t:List Tk}{be1 ba1 be ba:Int}(h:Up c be1 ba1 res be ba)(hc:be1=0 ->c=.err e x)(he:e≠0):Rl res be ba a t (S8 e x be1 ba1).1 (S8 e x be1 ba1).2:=by
 refine (h.congr hc) a t _ _ ?_
 unfold Rl S8
 by_cases h0:be1=0
 ·rw [if_pos h0,if_pos h0];exact ⟨he,rfl,rfl⟩
 ·rw [if_neg h0,if_neg h0];exact ⟨rfl,rfl⟩
theorem Sp (b lv en op be ba k o):eb (wL b lv en op be ba) ⟨k,o,none⟩=if k=b then some ([lv,.int .i64 en,.int .i64 op,.int .i64 be,.int .i64 ba][o]?) else none:=(rfl)
theorem TZ (b lv en op be ba v):o6 (wL b lv en op be ba) b 0 [v]=some (wL b v en op be ba):=by simp [o6,wL,nC]
theorem PQ (b lv en op be ba n):o6 (wL b lv en op be ba) b 2 [.int .i64 n]=some (wL b lv en n be ba):=by simp [o6,wL,nC]
theorem Py (b lv en op be ba e a):o6 (wL b lv en op be ba) b 3 [.int .i64 e,.int .i64 a]=some (wL b lv en op e a):=by simp [o6,wL,nC]
theorem cZ (M b lv en op be ba):aB M (wL b lv en op be ba)=(M b=none):=by simp [aB,wL]
theorem MD (k b lv en op be ba):dz k (wL b lv en op be ba)=(k≠b/\b≠k):=by simp [dz,wL]
attribute [go_sem] Sp TZ PQ Py cZ MD
set_option maxHeartbeats 2000000
set_option maxHeartbeats 4000000
theorem Tx {α:Type}{el:TypeId}{sz:Nat}{r:α ->List Value ->Prop}{R0 R:RR}{fv:Value}{aO l:List α}{P:Program}{F:Fi}{s:List Vc.Item}{e:dN}{ds:List Deferred}{dd:Option Nat}{T:Tm}{M:aV}{L:LL}{t:TypeId}{z ys:List Value}{y:Value}(fg:fB P t=some (el,sz,z))(dG:nM P t=true)
 (h:nK el sz r R0 R fv aO) (Vm:RL r l ys) (hs:∀ R,Srcs P t sz ⟨T,M,L,R⟩ y ys) (bQ:∀ x cs,r x cs ->cs.length=sz) (hl:aO.length*sz+l.length*sz<=4398046511104) (gG:0<sz)
 (k:∀ fv' R',nK el sz r R0 R' fv' (aO++l) ->cB P F s (cV e dd fv') ds ⟨T,M,L,R'⟩ ⟨⟩):zM P F t t fv y dd s e ds ⟨T,M,L,R⟩ ⟨⟩:=by
 have hyl:=fI bQ Vm
 rcases h with ⟨rfl,rfl,rfl⟩ | ⟨a,c,xs,rfl,h3,rfl⟩
 ·refine nb fg dG (hs _) (by rw [hyl];simp at hl;omega) ?_
  intro ra rm rc ky
  have:rm=([]++l).length:=by
   rw [hyl] at ky
   exact Nat.eq_of_mul_eq_mul_right gG (by simpa using ky)
  subst this
  exact k _ _ (.inr ⟨_,_,_,rfl,by simpa using Vm,rfl⟩)
 ·have nr:=fI bQ h3
  refine gi fg dG (hs _) (by rw [hyl,nr];omega) ?_
  intro ra rm rc ky
  have:rm=(aO++l).length:=by
   rw [hyl,nr] at ky
   rw [List.length_append]
   refine Nat.eq_of_mul_eq_mul_right gG ?_
   rw [Nat.add_mul]
   simpa using ky
  subst this
  exact k _ _ (.inr ⟨_,_,_,rfl,dx h3 Vm,rfl⟩)
set_option maxHeartbeats 4000000
inductive Ex where
 | mk (k:Int) (v:V) (c:Int) (kids:List Ex)
namespace Ex
def k:Ex ->Int | mk k _ _ _=>k
def v:Ex ->V | mk _ v _ _=>v
def c:Ex ->Int | mk _ _ c _=>c
def kids:Ex ->List Ex | mk _ _ _ l=>l
end Ex
mutual
def jL (M:aV):Ex ->List Value ->Prop
 | .mk k v c kids,cs=>∃ s xs,cs=[.int .i64 k,.int .i64 v.k,.int .i64 v.n,st v.t,.int .i64 c,s]/\kids.length*6<=4398046511104/\Sl M s 6 xs/\Hl M kids xs
def Hl (M:aV):List Ex ->List Value ->Prop
 | [],xs=>xs=[]
 | x::l,xs=>∃ cs rest,xs=cs++rest/\jL M x cs/\Hl M l rest
end
theorem Ku {M:aV}:∀ {l xs},Hl M l xs ↔ RL (jL M) l xs
 | [],_=>by simp [Hl,RL]
 | x::l,xs=>by simp only [Hl,RL,Ku (l:=l)]
theorem gD {M:aV}{x:Ex}{cs}:jL M x cs ↔ ∃ s,cs=[.int .i64 x.k,.int .i64 x.v.k,.int .i64 x.v.n,st x.v.t,.int .i64 x.c,s]/\RS M (jL M) 6 x.kids s:=by
 obtain ⟨k,v,c,kids⟩:=x
 simp only [jL,RS,Ex.k,Ex.v,Ex.c,Ex.kids,Ku]
 constructor
 ·rintro ⟨s,xs,h1,h0,h2,h3⟩;exact ⟨s,h1,h0,xs,h2,h3⟩
 ·rintro ⟨s,h1,h0,xs,h2,h3⟩;exact ⟨s,xs,h1,h0,h2,h3⟩
theorem ed {M:aV}{x:Ex}{cs}(h:jL M x cs):cs.length=6:=by
 obtain ⟨s,rfl,_⟩:=gD.1 h;rfl
mutual
theorem bS {M M':aV}(he:bG M M'):∀ (x:Ex) (cs:List Value),jL M x cs ->jL M' x cs
 | .mk _ _ _ kids,_,h=>by
  obtain ⟨s,xs,h1,h0,h2,h3⟩:=h
  exact ⟨s,xs,h1,h0,h2.ext he,F5 he kids xs h3⟩
theorem F5 {M M':aV}(he:bG M M'):∀ (l:List Ex) (xs:List Value),Hl M l xs ->Hl M' l xs
 | [],_,h=>h
 | x::l,_,h=>by
  obtain ⟨cs,rest,h1,h2,h3⟩:=h
  exact ⟨cs,rest,h1,bS he x cs h2,F5 he l rest h3⟩
end
theorem cg {M:aV}{x:Ex}{cs:List Value}(h:jL M x cs):∃ s,cs=[.int .i64 x.k,.int .i64 x.v.k,.int .i64 x.v.n,st x.v.t,.int .i64 x.c,s]/\s.oneCell'=true/\RS M (jL M) 6 x.kids s:=by
 obtain ⟨s,rfl,hs⟩:=gD.1 h
 exact ⟨s,rfl,(eV hs).1,hs⟩
theorem j9 {M:aV}{x:Ex}{cs:List Value}(h:jL M x cs):∀ u∈cs,u.oneCell'=true:=by
 obtain ⟨s,rfl,h1,_⟩:=cg h
 intro u hu
 simp only [List.mem_cons,List.not_mem_nil,or_false] at hu
 rcases hu with rfl | rfl | rfl | rfl | rfl | rfl<;>first | rfl | exact h1
structure Ag where
 k:Int
 x:Ex
def DK (M:aV)(a:Ag)(cs:List Value):Prop:=∃ c,jL M a.x c/\cs=.int .i64 a.k::c
theorem ml {M:aV}{a:Ag}{cs}(h:DK M a cs):cs.length=7:=by
 obtain ⟨c,h1,rfl⟩:=h;simp [ed h1]
theorem ki {M M':aV}(he:bG M M')(a:Ag)(cs)(h:DK M a cs):DK M' a cs:=by
 obtain ⟨c,h1,h2⟩:=h;exact ⟨c,bS he _ _ h1,h2⟩
inductive Pl where
 | mk (k n:Int) (x:Ex) (xs:List Ex) (ags:List Ag) (kids:List Pl)
namespace Pl
def k:Pl ->Int | mk k _ _ _ _ _=>k
def n:Pl ->Int | mk _ n _ _ _ _=>n
def x:Pl ->Ex | mk _ _ x _ _ _=>x
def xs:Pl ->List Ex | mk _ _ _ l _ _=>l
def ags:Pl ->List Ag | mk _ _ _ _ l _=>l
def kids:Pl ->List Pl | mk _ _ _ _ _ l=>l
end Pl
mutual
def j5 (M:aV):Pl ->List Value ->Prop
 | .mk k n x xs ags kids,cs=>∃ xc xv av s ys,cs=[.int .i64 k,.int .i64 n]++(xc++[xv,av,s])/\jL M x xc/\RS M (jL M) 6 xs xv/\RS M (DK M) 7 ags av/\kids.length*11<=4398046511104/\Sl M s 11 ys/\IC M kids ys
def IC (M:aV):List Pl ->List Value ->Prop
 | [],xs=>xs=[]
 | x::l,xs=>∃ cs rest,xs=cs++rest/\j5 M x cs/\IC M l rest
end
theorem Dz {M:aV}:∀ {l xs},IC M l xs ↔ RL (j5 M) l xs
 | [],_=>by simp [IC,RL]
 | x::l,xs=>by simp only [IC,RL,Dz (l:=l)]
theorem mp {M:aV}{p:Pl}{cs}:j5 M p cs ↔ ∃ xc xv av s,cs=[.int .i64 p.k,.int .i64 p.n]++(xc++[xv,av,s])/\jL M p.x xc/\RS M (jL M) 6 p.xs xv/\RS M (DK M) 7 p.ags av/\RS M (j5 M) 11 p.kids s:=by
 obtain ⟨k,n,x,xs,ags,kids⟩:=p
 constructor
 ·intro h
  obtain ⟨xc,xv,av,s,ys,h1,h2,h3,h4,h5,h6,h7⟩:=h
  exact ⟨xc,xv,av,s,h1,h2,h3,h4,h5,ys,h6,Dz.1 h7⟩
 ·rintro ⟨xc,xv,av,s,h1,h2,h3,h4,h5,ys,h6,h7⟩
  exact ⟨xc,xv,av,s,ys,h1,h2,h3,h4,h5,h6,Dz.2 h7⟩
theorem jI {M:aV}{p:Pl}{cs}(h:j5 M p cs):cs.length=11:=by
 obtain ⟨xc,xv,av,s,rfl,h1,_⟩:=mp.1 h;simp [ed h1]
mutual
theorem bO {M M':aV}(he:bG M M'):∀ (p:Pl) (cs:List Value),j5 M p cs ->j5 M' p cs
 | .mk _ _ _ _ _ kids,_,h=>by
  obtain ⟨xc,xv,av,s,ys,h1,h2,h3,h4,h5,h6,h7⟩:=h
  exact ⟨xc,xv,av,s,ys,h1,bS he _ _ h2,aN he (bS he) h3,aN he (ki he) h4,h5,h6.ext he,EO he kids ys h7⟩
theorem EO {M M':aV}(he:bG M M'):∀ (l:List Pl) (xs:List Value),IC M l xs ->IC M' l xs
 | [],_,h=>h
 | x::l,_,h=>by
  obtain ⟨cs,rest,h1,h2,h3⟩:=h
  exact ⟨cs,rest,h1,bO he x cs h2,EO he l rest h3⟩
end
structure Rel where
 name:Bs
 cols:List Co
 view:Bool
 plan:Pl
def qH (M:aV)(r:Rel)(cs:List Value):Prop:=∃ c p,RS M uE 2 r.cols c/\j5 M r.plan p/\cs=[st r.name,c,.bool r.view]++p
theorem jf {M:aV}{r:Rel}{cs}(h:qH M r cs):cs.length=14:=by
 obtain ⟨c,p,_,h2,rfl⟩:=h;simp [jI h2]
theorem gb {M M':aV}(he:bG M M')(r:Rel)(cs)(h:qH M r cs):qH M' r cs:=by
 obtain ⟨c,p,h1,h2,h3⟩:=h;exact ⟨c,p,aN he (fun _ _ h=>h) h1,bO he _ _ h2,h3⟩
def sk:V:=⟨0,0,[]⟩
def dP:Ex:=.mk 0 sk 0 []
def CJ (v:V):V:=if v.k=1 then ⟨1,0,[]⟩ else if v.k=4 then ⟨4,0,v.t⟩ else ⟨v.k,v.n,[]⟩
def rZ (a b:V):Bool:=decide (a.k=b.k) && (decide (a.n=b.n) && decide (a.t=b.t))
mutual
def fp:X ->X ->Bool
 | .mk k v tab name kids,.mk k' v' tab' name' kids'=>decide (k=k') && (if k=1 then rZ (CJ v) (CJ v') else if k=2 then decide (tab=tab') && decide (name=name') else fH kids kids')
def fH:List X ->List X ->Bool
 | [],[]=>true
 | x::l,y::m=>fp x y && fH l m
 | _,_=>false
end
def lZ (tab name:Bs):Nat ->Option Nat ->List (Bs×Bs) ->Option (Option Nat)
 | _,k,[]=>some k
 | i,k,c::l=>if c.2=name/\(tab=[]\/c.1=tab) then (match k with | none=>lZ tab name (i+1) (some i) l | some _=>none) else lZ tab name (i+1) k l
def l6 (l:List (Bs×Bs))(tab name:Bs):Except Int Nat:=match lZ tab name 0 none l with
 | some (some i)=> .ok i
 | _=> .error 7
def sS (i:Nat):Ex:=.mk 2 sk i []
mutual
def iH (names:List (Bs×Bs)):X ->Except Int Ex
 | .mk k v tab name kids=>if 19<=k then .error 8 else if k=2 then (match l6 names tab name with | .ok i=> .ok (sS i) | .error e=> .error e) else if k=1 then .ok (.mk 1 v 0 [])
  else match cI names kids with | .ok l=> .ok (.mk k sk 0 l) | .error e=> .error e
def cI (names:List (Bs×Bs)):List X ->Except Int (List Ex)
 | []=> .ok []
 | x::l=>match iH names x with
  | .error e=> .error e
  | .ok y=>match cI names l with | .ok m=> .ok (y::m) | .error e=> .error e
end
def wN (names:List (Bs×Bs))(kids:List X):Except Int Ex:=match kids with
 | []=> .ok dP
 | x::_=>iH names x
mutual
def kR (names:List (Bs×Bs))(bd:List X):X ->List Ag ->Except Int (Ex×List Ag)
 | .mk k v tab name kids,ags=>match bd.findIdx? (fun y=>fp (.mk k v tab name kids) y) with
  | some i=> .ok (sS i,ags)
  | none=>if 19<=k then (match wN names kids with | .ok a=> .ok (sS (bd.length+ags.length),ags++[⟨k - 18,a⟩]) | .error e=> .error e)
   else if k=2 then .error 8 else if k=1 then .ok (.mk 1 v 0 [],ags)
   else match dq names bd kids ags with | .ok l=> .ok (.mk k sk 0 l.1,l.2) | .error e=> .error e
def dq (names:List (Bs×Bs))(bd:List X):List X ->List Ag ->Except Int (List Ex×List Ag)
 | [],ags=> .ok ([],ags)
 | x::l,ags=>match kR names bd x ags with
  | .error e=> .error e
  | .ok y=>match dq names bd l y.2 with | .ok m=> .ok (y.1::m.1,m.2) | .error e=> .error e
end
mutual
def mW:X ->Bool
 | .mk k _ _ _ kids=>decide (19<=k) || GQ kids
def GQ:List X ->Bool
 | []=>false
 | x::l=>mW x || GQ l
end
def cA (rels:List Rel):List (List Int):=(rels.filter fun r=> !r.view).map fun r=>r.cols.map (·.ty)
def iC (k:Int)(p:Pl):Pl:=.mk k 0 dP [] [] [p]
def oA (k:Int)(p q:Pl):Pl:=.mk k 0 dP [] [] [p,q]
def C3 (n:Nat):Pl:=.mk 1 n dP [] [] []
def kN (name:Bs):Nat ->List Rel ->Option (Pl×List Co)
 | _,[]=>none
 | n,r::l=>if r.name=name then some (if r.view=true then r.plan else C3 n,r.cols) else kN name (if r.view=true then n else n+1) l
def lQ (rels:List Rel)(name:Bs):Except Int (Pl×List Co):=match kN name 0 rels with | some x=> .ok x | none=> .error 7
def dB (s:So):Bs:=if s.as=[] then s.name else s.as
def mf (k:Int):Int:=if k=2 then 4 else if k=3 then 5 else if k=4 then 6 else if k=5 then 7 else 0
def iB (rels:List Rel):List So ->Nat ->Pl ->List (Bs×Bs) ->List Bs ->Except Int (Pl×List (Bs×Bs))
 | [],_,p,names,_=> .ok (p,names)
 | s::l,i,p,names,had=>match lQ rels s.name with
  | .error e=> .error e
  | .ok q=>if had.contains (dB s)=true then .error 7 else
   if i=0 then iB rels l 1 q.1 (names++q.2.map fun c=>(dB s,c.name)) (had++[dB s])
   else match iH (names++q.2.map fun c=>(dB s,c.name)) s.on with
    | .error e=> .error e
    | .ok x=>iB rels l (i+1) (.mk (mf s.k) 0 x [] [] [p,q.1]) (if s.k=2\/s.k=5 then names++q.2.map fun c=>(dB s,c.name) else names) (had++[dB s])
def iZ:Pl:=.mk 0 0 dP [] [] []
def mQ (rels:List Rel)(l:List So):Except Int (Pl×List (Bs×Bs)):=iB rels l 0 iZ [] []
def oT (x:It)(i:Nat):Bs:=if x.as≠[] then x.as else if x.x.k=2 then x.x.name else 99::Lib.decDigits (i+1)
def ec:Nat ->List It ->List Bs
 | _,[]=>[]
 | i,x::l=>oT x i::ec (i+1) l
def eK (x:Ex)(p:Pl):Pl:=.mk 2 0 x [] [] [p]
def dX (s:Se):Bool:=(decide (0<s.group.length) || s.hasH) || (!s.star && s.items.any fun i=>mW i.x)
def nZ (names:List (Bs×Bs))(h:Bool)(x:X):Except Int Ex:=if h=true then iH names x else .ok dP
def oy (names:List (Bs×Bs))(bd:List X)(h:Bool)(x:X)(ags:List Ag):Except Int (Ex×List Ag):=if h=true then kR names bd x ags else .ok (dP,ags)
def gI (s:Se)(p:Pl)(names:List (Bs×Bs)):Except Int Pl:=if s.star=true then .error 8 else
 match cI names s.group with
 | .error e=> .error e
 | .ok bd=>match dq names s.group (s.items.map (·.x)) [] with
  | .error e=> .error e
  | .ok it=>match oy names s.group s.hasH s.hv it.2 with
   | .error e=> .error e
   | .ok h=>let g:Pl:=.mk 12 0 dP bd h.2 [p]
    .ok (.mk 3 0 dP it.1 [] [if s.hasH=true then eK h.1 g else g])
def kL (s:Se)(p:Pl)(names:List (Bs×Bs)):Except Int Pl:=if s.star=true then .ok p else
 match cI names (s.items.map (·.x)) with
 | .error e=> .error e
 | .ok l=> .ok (.mk 3 0 dP l [] [p])
def l5 (rels:List Rel)(s:Se):Except Int (Pl×List Bs):=match mQ rels s.src with
 | .error e=> .error e
 | .ok f=>match nZ f.2 s.hasW s.wh with
  | .error e=> .error e
  | .ok w=>let p:=if s.hasW=true then eK w f.1 else f.1
   match (if dX s=true then gI s p f.2 else kL s p f.2) with
   | .error e=> .error e
   | .ok q=> .ok (if s.distinct=true then iC 11 q else q,if s.star=true then f.2.map (·.2) else ec 0 s.items)
def Ab (op:Int)(a b:Pl):Pl:=if op=1 then oA 8 a b else if op=2 then iC 11 (oA 8 a b) else if op=4 then iC 10 (oA 9 (iC 11 a) (iC 11 b)) else iC 10 (oA 9 a b)
def ey (rels:List Rel)(ops:List Int):Nat ->Pl ->List Bs ->List Se ->Except Int (Pl×List Bs)
 | _,p,names,[]=> .ok (p,names)
 | i,p,names,s::l=>match l5 rels s with
  | .error e=> .error e
  | .ok r=>if i=0 then ey rels ops 1 r.1 r.2 l else ey rels ops (i+1) (Ab (ops.getD (i - 1) 0) p r.1) names l
def uL (q:Q)(r:Pl×List Bs):Except Int Pl:=if 0<=q.limit then (match cI (r.2.map fun n=>([],n)) q.order with
 | .error e=> .error e
 | .ok xs=> .ok (.mk 13 q.limit dP xs [] [r.1])) else .ok r.1
def gJ (rels:List Rel)(q:Q):Except Int (Pl×List Bs):=match ey rels q.ops 0 iZ [] q.parts with
 | .error e=> .error e
 | .ok r=>match uL q r with
  | .error e=> .error e
  | .ok p=> .ok (p,r.2)
def mI (k:Int):Int:=if k=1\/k=2 then 0 else if k=3\/k=16 then 1 else if (4<=k/\k<=15)\/k=18 then 2 else if k=17 then 3 else -1
def kG (a b:Int):Option Int:=if a=b\/b=1 then some a else if a=1 then some b else none
def uO (a jj:Int):Bool:=(kG a jj).isSome
def CK (k:Int)(t:List Int):Except Int Int:=
 if k<=5 then (if t.all (uO · 2)=true then .ok 2 else .error 9)
 else if k<=11 then (if (kG (t.getD 0 0) (t.getD 1 0)).isSome=true then .ok 2 else .error 9)
 else if k<=14 then (if t.all (uO · 3)=true then .ok 3 else .error 9)
 else if k=15 then (if t.all (uO · 4)=true then .ok 4 else .error 9)
 else if k=17 then (match kG (t.getD 1 0) (t.getD 2 0) with | some o=>if uO (t.getD 0 0) 2=true then .ok o else .error 9 | none=> .error 9)
 else (match kG (t.getD 0 0) (t.getD 1 0) with | some o=> .ok o | none=> .error 9)
mutual
def pj (cols:List Int)(bU n:Nat):Ex ->Except Int Int×Nat
 | .mk k v c kids=>if 200<n+1\/20<bU then (.error 4,n+1) else if mI k<0 then (.error 1,n+1) else if (kids.length:Int)≠mI k then (.error 5,n+1)
  else match oE cols (bU+1) (n+1) kids with
   | (.error e,m)=>(.error e,m)
   | (.ok t,m)=>(if k=1 then (if cR v=0 then .ok v.k else .error (cR v)) else if k=2 then (if 0<=c/\c<cols.length then .ok (cols.getD c.toNat 0) else .error 7) else if k=16 then .ok 2 else CK k t,m)
def oE (cols:List Int)(bU n:Nat):List Ex ->Except Int (List Int)×Nat
 | []=>(.ok [],n)
 | x::l=>match pj cols bU n x with
  | (.error e,m)=>(.error e,m)
  | (.ok t,m)=>match oE cols bU m l with
   | (.error e,m')=>(.error e,m')
   | (.ok ts,m')=>(.ok (t::ts),m')
end
def oG (cols:List Int)(x:Ex):Except Int Int:=if 16<cols.length then .error 5 else if cols.all (fun t=>decide (1<=t/\t<=4))=true then (pj cols 1 0 x).1 else .error 1
def gQ (cols:List Int):List Ex ->Except Int (List Int)
 | []=> .ok []
 | x::l=>match oG cols x with
  | .error e=> .error e
  | .ok t=>match gQ cols l with | .ok ts=> .ok (t::ts) | .error e=> .error e
def iM (cols:List Int)(xs:List Ex):Except Int (List Int):=if 8<xs.length then .error 5 else gQ cols xs
def rM (cols:List Int)(a:Ag):Except Int Int:=if a.k<1\/5<a.k then .error 1 else if a.k=1 then .ok 3 else match oG cols a.x with
 | .error e=> .error e
 | .ok u=>if a.k=3/\u≠3/\u≠1 then .error 9 else .ok (if 4<=a.k then u else 3)
def gL (cols:List Int):List Ag ->Except Int (List Int)
 | []=> .ok []
 | a::l=>match rM cols a with
  | .error e=> .error e
  | .ok t=>match gL cols l with | .ok ts=> .ok (t::ts) | .error e=> .error e
def oJ (cols:List Int)(x:Ex):Except Int Unit:=match oG cols x with
 | .error e=> .error e
 | .ok t=>if t=2\/t=1 then .ok () else .error 9
def iU (k:Int):Int:=if k=1 then 0 else if 4<=k/\k<=9 then 2 else if 1<k/\k<=13 then 1 else -1
def kI:List Int ->List Int ->Except Int (List Int)
 | t::a,u::b=>match kG t u with
  | none=> .error 9
  | some o=>match kI a b with | .ok l=> .ok (o::l) | .error e=> .error e
 | _,_=> .ok []
def mw (a b:List Int):Except Int (List Int):=if a.length≠b.length then .error 8 else kI a b
def jA (tables:List (List Int))(k n:Int)(x:Ex)(xs:List Ex)(ags:List Ag)(c:List (List Int)):Except Int (List Int):=
 let a:=c.getD 0 []
 let b:=c.getD 1 []
 if k=1 then (if 0<=n/\n<tables.length then .ok (tables.getD n.toNat []) else .error 7)
 else if k=2 then (match oJ a x with | .ok _=> .ok a | .error e=> .error e)
 else if k=3 then iM a xs
 else if k=8\/k=9 then mw a b
 else if k=10\/k=11 then .ok a
 else if k=12 then (if 8<xs.length+ags.length then .error 5 else match iM a xs with
  | .error e=> .error e
  | .ok ks=>match gL a ags with | .ok g=> .ok (ks++g) | .error e=> .error e)
 else if k=13 then (match iM a xs with
  | .error e=> .error e
  | .ok _=>if n<0\/50<n then .error 3 else .ok a)
 else if 8<(a++b).length then .error 5
 else match oJ (a++b) x with
  | .error e=> .error e
  | .ok _=> .ok (if k=5\/k=6 then a else a++b)
mutual
def fz (tables:List (List Int))(bU m:Nat):Pl ->Except Int (List Int)×Nat
 | .mk k n x xs ags kids=>if 60<m+1\/15<bU then (.error 4,m+1) else if iU k<0 then (.error 1,m+1) else if (kids.length:Int)≠iU k then (.error 5,m+1)
  else match gZ tables (bU+1) (m+1) kids with
   | (.error e,m')=>(.error e,m')
   | (.ok c,m')=>(jA tables k n x xs ags c,m')
def gZ (tables:List (List Int))(bU m:Nat):List Pl ->Except Int (List (List Int))×Nat
 | []=>(.ok [],m)
 | p::l=>match fz tables bU m p with
  | (.error e,m')=>(.error e,m')
  | (.ok c,m')=>match gZ tables bU m' l with
   | (.error e,m'')=>(.error e,m'')
   | (.ok cs,m'')=>(.ok (c::cs),m'')
end
def Dk:List (List Int) ->Int
 | []=>0
 | t::l=>if 8<t.length then 5 else if t.all (fun k=>decide (1<=k/\k<=4))=true then Dk l else 1
def kQ (tables:List (List Int))(p:Pl):Except Int (List Int):=if 8<tables.length then .error 5 else if Dk tables≠0 then .error (Dk tables) else (fz tables 1 0 p).1
def uX:List Bs ->List Int ->List Co
 | n::l,t::m=>⟨n,t⟩::uX l m
 | _,_=>[]
def gm (rels:List Rel)(q:Q):Except Int (Pl×List Co):=match gJ rels q with
 | .error e=> .error e
 | .ok r=>match kQ (cA rels) r.1 with
  | .error e=> .error e
  | .ok t=> .ok (r.1,uX r.2 t)
def Gk (e:Int):List PanicEntry:=[{v:=.iface 89 (.agg #[.int .i64 e]),recovered:=false}]
theorem FS (e:Int)(M:aV)(T:Tm):ep Tryz.prog 66 [.int .i64 e] T M [] [] (fun _ _ _ _=>False) (fun ch _ _ _=>ch=Gk e):=by
 refine aT mx akF Tryz.func66 rfl (by rw [aua];exact Nat.le_of_ble_eq_true rfl) (dr:=amj) (by kernel_rfl) arn ?_
 intro _ _
 simp +contextual only [go_sem,ak,sevalprocAttr]
 exact az aH.rfl' rfl
def G6 (c:Bs×Bs)(cs:List Value):Prop:=cs=[st c.1,st c.2]
theorem q7 {c:Bs×Bs}{cs}(h:G6 c cs):cs.length=2:=by rw [h];rfl
def wA {α:Type}(enc:α ->Value ->aV ->Prop)(res:Except Int α):eP:=fun v M' _ _=>∃ a,res=.ok a/\enc a v M'
def rR {α:Type}(res:Except Int α):n8:=fun ch _ _ _=>∃ e,res=.error e/\ch=Gk e
theorem nq {α:Type}{T N:Tm}{M:aV}{L:LL}{R:RR}{dr ts e post}{res:Except Int α}{c:Int}(hT:aH T N)(h:res=.error c):(fi Tryz.prog T dr ts (bd []) 0 post (rR res)).pan (Gk c) e [] ⟨N,M,L,R⟩:=by
 rw [mK,kj]
 exact az hT ⟨c,h,rfl⟩
theorem vp {α:Type}{T N:Tm}{M:aV}{L:LL}{R:RR}{dr ts e post d s}{res:Except Int α}{c:Int}(hT:aH T N)(h:res=.error c):dT Tryz.prog (fi Tryz.prog T dr ts (bd []) 0 post (rR res)) 66 [.int .i64 c] d s e [] ⟨N,M,L,R⟩ ⟨⟩:=by
 refine am (FS c M N) (fun _ _ _ _ h=>h.elim) ?_
 rintro ch M1 aP bL rfl
 exact nq hT h
theorem FQ (tab name:Bs)(i:Nat)(k:Option Nat)(c:Bs×Bs)(l:List (Bs×Bs)):lZ tab name i k (c::l)=if c.2=name/\(tab=[]\/c.1=tab) then (match k with | none=>lZ tab name (i+1) (some i) l | some _=>none) else lZ tab name (i+1) k l:=by
 cases k<;>rfl
def nR:Option Nat ->Int | none=> -1 | some i=>(i:Int)
theorem XU {M:aV}{names:List (Bs×Bs)}{lv kv av rv:Value}{sb b o:Nat}{x:X}{cs:List Value}(hl:RS M G6 2 names lv)(TW:M sb=some [lv,kv,av,rv])(ha:At M b o cs)(hx:RX M x cs)(T:Tm):
 ep Tryz.prog 80 [.pointer (some ⟨sb,0,none⟩),.pointer (some ⟨b,o,none⟩)] T M [] [] (wA (fun (i:Nat) v _=>v=.int .i64 (i:Int)) (l6 names x.tab x.name)) (rR (l6 names x.tab x.name)):=by
 obtain ⟨s,hs,m0,m1,m2,m3,m4,m5,m6⟩:=we hx ha
 obtain ⟨lh,la,c,rfl,jo,_,eE⟩:=aI (by decide) (fun _ _=>q7) hl
 have aaC:lZ x.tab x.name 0 none names=none ->l6 names x.tab x.name=.error 7:=fun h=>by unfold l6;rw [h]
 have akk:lZ x.tab x.name 0 none names=some none ->l6 names x.tab x.name=.error 7:=fun h=>by unfold l6;rw [h]
 refine aT mx aoW Tryz.func80 rfl (by rw [ass];exact Nat.le_of_ble_eq_true rfl) (dr:=ahS) (by kernel_rfl) aqW ?_
 intro bN _
 simp +contextual only [go_sem,ak,sevalprocAttr,aY TW]
 refine bh names.length 13 [(0,.pointer (some ⟨sb,0,none⟩)),(1,.pointer (some ⟨b,o,none⟩)),(11,.slice la names.length c),(12,.int .i64 (names.length:Int))] (fun i e h=>∃ T' k,aH T T'/\h=⟨T',M,[],[]⟩/\e 5=.int .i64 (nR k)/\lZ x.tab x.name i k (names.drop i)=lZ x.tab x.name 0 none names) 0 (by omega) (by simp only [aG,go_sem,ak,sevalprocAttr]) (by simp only [go_sem,ak,sevalprocAttr]) ⟨T,none,aH.rfl',rfl,by simp only [go_sem,ak,sevalprocAttr,nR],rfl⟩ ?_
 rintro i e h hi aD ht ⟨T1,k,jt,rfl,e5,ay⟩
 simp only [aG] at aD
 by_cases aF:i<names.length
 ·obtain ⟨b',o',cs',rfl,cC,eL⟩:=eE i names[i] (List.getElem?_eq_getElem aF)
  unfold G6 at eL;subst eL
  obtain ⟨y0,y1⟩:=SN cC
  have bX:names.drop i=names[i]::names.drop (i+1):=List.drop_eq_getElem_cons aF
  rw [bX,FQ] at ay
  simp +contextual only [go_sem,ak,sevalprocAttr,aD,ht,aF,y0,y1]
  intro b7 T7 km B6 Ol
  refine bq ?_
  have hT:=jt.trans B6
  by_cases DL:names[i].2=x.name/\(x.tab=[]\/names[i].1=x.tab)
  ·rw [if_pos DL] at ay
   have gU:(names[i].2=x.name/\x.tab=[]/\True)\/(names[i].2=x.name/\¬ x.tab=[]/\names[i].1=x.tab):=by
    by_cases h2:x.tab=[]
    ·exact .inl ⟨DL.1,h2,trivial⟩
    ·exact .inr ⟨DL.1,h2,DL.2.resolve_left h2⟩
   rcases gU with ⟨h1,h2,h3⟩ | ⟨h1,h2,h3⟩
   all_goals
    cases k with
    | none=>
     simp only at ay
     simp +contextual only [go_sem,ak,sevalprocAttr,aD,ht,aF,m4,m5,km,e5,nR,h1,h2,h3]
     refine bf (al (aA ⟨names.length - (i+1),by omega,rfl,i+1,by omega,?_,?_,?_,T7,some i,hT,rfl,?_,ay⟩))
     ·rfl
     ·simp only [aG,aD,go_sem,ak,sevalprocAttr]
     ·simp only [ht,go_sem,ak,sevalprocAttr,aC i (by omega)]
     ·simp only [go_sem,ak,sevalprocAttr,nR]
    | some j=>
     simp only at ay
     simp +contextual only [go_sem,ak,sevalprocAttr,aD,ht,aF,m4,m5,km,e5,nR,h1,h2,h3]
     exact vp hT (aaC ay.symm)
  ·rw [if_neg DL] at ay
   have gU:(¬ names[i].2=x.name/\True/\True)\/(names[i].2=x.name/\¬ x.tab=[]/\¬ names[i].1=x.tab):=by
    by_cases h1:names[i].2=x.name
    ·exact .inr ⟨h1,fun h2=>DL ⟨h1,.inl h2⟩,fun h3=>DL ⟨h1,.inr h3⟩⟩
    ·exact .inl ⟨h1,trivial,trivial⟩
   rcases gU with ⟨h1,h2,h3⟩ | ⟨h1,h2,h3⟩
   all_goals
    simp +contextual only [go_sem,ak,sevalprocAttr,aD,ht,aF,m4,m5,km,h1,h2,h3]
    refine bf (al (aA ⟨names.length - (i+1),by omega,rfl,i+1,by omega,?_,?_,?_,T7,k,hT,rfl,?_,ay⟩))
    ·rfl
    ·simp only [aG,aD,go_sem,ak,sevalprocAttr]
    ·simp only [ht,go_sem,ak,sevalprocAttr,aC i (by omega)]
    ·simp only [e5,go_sem,ak,sevalprocAttr]
 ·have:i=names.length:=by omega
  subst this
  rw [List.drop_length] at ay
  cases k with
  | none=>
   simp +contextual only [go_sem,ak,sevalprocAttr,aD,ht,aF,e5,nR]
   exact vp jt (akk ay.symm)
  | some j=>
   have hj:¬ (j:Int)<0:=by omega
   simp +contextual only [go_sem,ak,sevalprocAttr,aD,ht,aF,e5,nR,hj]
   refine az jt ⟨j,?_,rfl⟩
   unfold l6
   rw [<- ay];rfl
theorem adT (k n:Int)(t:Bs)(k' n':Int)(t':Bs):iV Tryz.prog .eql 29 (.agg ⟨[.int .i64 k,.int .i64 n,.string (bs t)]⟩) (.agg ⟨[.int .i64 k',.int .i64 n',.string (bs t')]⟩)=some (.bool (rZ ⟨k,n,t⟩ ⟨k',n',t'⟩)):=by
 show (match HF Tryz.prog 29 with | some ks=>(NA ks _ _).map Value.bool | none=>none)=_
 rw [Pu];simp only [NA,eqV,rZ,st,Ju,Option.map]
 cases decide (k=k')<;>cases decide (n=n')<;>cases decide (t=t')<;>simp
theorem Tf {M:aV}(T:Tm):ep Tryz.prog 173 [] T M [] [] (fun r _ _ _=>r=.agg ⟨[.int .i64 1,.int .i64 0,st []]⟩) bj:=by
 refine aT mx adY Tryz.func173 rfl (by rw [ahO];exact Nat.le_of_ble_eq_true rfl) (dr:=X4) (by kernel_rfl) aii ?_
 intro _ _
 simp +contextual only [go_sem,ak,sevalprocAttr]
 intro b1 T1 jK jt pV
 exact az jt rfl
theorem EZ {M:aV}(v:V)(T:Tm):ep Tryz.prog 119 [.agg ⟨[.int .i64 v.k,.int .i64 v.n,st v.t]⟩] T M [] [] (fun r _ _ _=>r=.agg ⟨[.int .i64 (CJ v).k,.int .i64 (CJ v).n,st (CJ v).t]⟩) bj:=by
 obtain ⟨k,n,t⟩:=v
 unfold CJ
 refine aT mx aay Tryz.func119 rfl (by rw [anH];exact Nat.le_of_ble_eq_true rfl) (dr:=Zt) (by kernel_rfl) akh ?_
 intro bN _
 by_cases h1:k=1
 ·subst h1
  simp +contextual only [go_sem,ak,sevalprocAttr]
  intro b1 T1 jK jt pV b2 T2 eG cr fu ju
  refine am (Tf T2) ?_ (fun _ _ _ _ h=>h.elim)
  rintro v M1 aP bL rfl
  simp only [aB,and_true] at bL
  simp +contextual only [go_sem,ak,sevalprocAttr,bL]
  exact az (jt.trans fu) rfl
 by_cases h4:k=4
 ·subst h4
  simp +contextual only [go_sem,ak,sevalprocAttr]
  intro b1 T1 jK jt pV b2 T2 eG cr fu ju
  exact az (jt.trans fu) rfl
 simp +contextual only [go_sem,ak,sevalprocAttr,h1,h4]
 intro b1 T1 jK jt pV b2 T2 eG cr fu ju
 exact az (jt.trans fu) rfl
theorem At7 {M:aV}{b o:Nat}{v0 v1 v2 v3 v4 v5 v6:Value}(h:At M b o [v0,v1,v2,v3,v4,v5,v6]):aL M ⟨b,o,none⟩=some v0/\aL M ⟨b,o+1,none⟩=some v1/\aL M ⟨b,o+2,none⟩=some v2/\aL M ⟨b,o+3,none⟩=some v3/\aL M ⟨b,o+4,none⟩=some v4/\aL M ⟨b,o+5,none⟩=some v5/\aL M ⟨b,o+6,none⟩=some v6:=
 ⟨h.1,h.2.1,h.2.2.1,h.2.2.2.1,h.2.2.2.2.1,h.2.2.2.2.2.1,h.2.2.2.2.2.2.1⟩
theorem yu:∀ {l m:List X},¬ l.length=m.length ->fH l m=false
 | [],[],h=>(h rfl).elim
 | [],_::_,_=>rfl
 | _::_,[],_=>rfl
 | x::l,y::m,h=>by
  rw [fH,yu (l:=l) (m:=m) (fun h1=>h (by simp [h1])),Bool.and_false]
def SmB (x:X):Prop:=∀ (M:aV) (T:Tm) (b o b' o':Nat) (y:X) (cs cs':List Value),At M b o cs ->RX M x cs ->At M b' o' cs' ->RX M y cs' ->
 ep Tryz.prog 78 [.pointer (some ⟨b,o,none⟩),.pointer (some ⟨b',o',none⟩)] T M [] [] (fun r _ _ _=>r=.bool (fp x y)) bj
theorem Tj {x y:X}(h:SmB x){M:aV}{cs cs':List Value}(hx:RX M x cs)(hy:RX M y cs')(T:Tm):ep Tryz.prog 121 [.agg ⟨cs⟩,.agg ⟨cs'⟩] T M [] [] (fun r _ _ _=>r=.bool (fp x y)) bj:=by
 have hl:=dY hx
 have ns:=dY hy
 refine aT mx ade Tryz.func121 rfl (by rw [amv];exact Nat.le_of_ble_eq_true rfl) (dr:=Zv) (by kernel_rfl) agU ?_
 intro bN _
 simp +contextual only [go_sem,ak,sevalprocAttr,hl,ns]
 intro b2 T2 eG fu ju b3 T3 fh bT fD ja
 refine pw Sg fun M1 aP hL1=> ?_
 obtain ⟨zc,Ft,_⟩:=hL1
 refine am (h M1 T3 b2 0 b3 0 y _ _ (wu Ft _ 0 (by simp)) (br aP _ _ hx) (wu zc _ 0 (by simp)) (br aP _ _ hy)) ?_ (fun _ _ _ _ h=>h.elim)
 rintro v M2 aX _ rfl
 simp +contextual only [go_sem,ak,sevalprocAttr]
 exact az (fu.trans fD) rfl
theorem LZ {l m:List X}(h:∀ x∈l,SmB x){M:aV}{v1 v2:Value}(h1:RS M (RX M) 7 l v1)(h2:RS M (RX M) 7 m v2)(T:Tm):
 ep Tryz.prog 120 [v1,v2,.func (.func 121) #[] #[]] T M [] [] (fun r _ _ _=>r=.bool (fH l m)) bj:=by
 obtain ⟨anP,a1,c1,rfl,awy,_,mC⟩:=aI (by decide) (fun _ _=>dY) h1
 obtain ⟨axT,a2,c2,rfl,Ax,_,BB⟩:=aI (by decide) (fun _ _=>dY) h2
 refine aT mx abB Tryz.func120 rfl (by rw [afO];exact Nat.le_of_ble_eq_true rfl) (dr:=XY) (by kernel_rfl) aji ?_
 intro bN _
 by_cases bQ:l.length=m.length
 ·simp +contextual only [go_sem,ak,sevalprocAttr,bQ]
  refine bh m.length 17 [(1,.slice a2 m.length c2),(2,.func (.func 121) #[] #[]),(15,.slice a1 m.length c1),(16,.int .i64 (m.length:Int))] (fun i e h=>∃ T' M',aH T T'/\bG M M'/\h=⟨T',M',[],[]⟩/\fH (l.drop i) (m.drop i)=fH l m) 0 (by omega) (by simp only [aG,bQ,go_sem,ak,sevalprocAttr]) (by simp only [go_sem,ak,sevalprocAttr]) ⟨T,M,aH.rfl',bG.rfl',rfl,rfl⟩ ?_
  rintro i e h hi aD ht ⟨T1,M1,jt,aP,rfl,ay⟩
  simp only [aG] at aD
  by_cases aF:i<m.length
  ·have pS:i<l.length:=by omega
   obtain ⟨p1,o1,cs1,rfl,Hg,JB⟩:=mC i l[i] (List.getElem?_eq_getElem pS)
   obtain ⟨p2,o2,cs2,rfl,C5,Dq⟩:=BB i m[i] (List.getElem?_eq_getElem aF)
   have hdl:l.drop i=l[i]::l.drop (i+1):=List.drop_eq_getElem_cons pS
   have hdm:m.drop i=m[i]::m.drop (i+1):=List.drop_eq_getElem_cons aF
   rw [hdl,hdm,fH] at ay
   obtain ⟨s1,JO,gH,_⟩:=cb JB
   obtain ⟨s2,Kb,mU,_⟩:=cb Dq
   subst JO Kb
   obtain ⟨y0,y1,y2,y3,y4,y5,y6⟩:=At7 (Hg.ext aP)
   obtain ⟨z0,z1,z2,z3,z4,z5,z6⟩:=At7 (C5.ext aP)
   simp +contextual only [go_sem,ak,sevalprocAttr,aD,ht,aF,y0,y1,y2,y3,y4,y5,y6,z0,z1,z2,z3,z4,z5,z6,gH,mU]
   intro b8 T8 sd rV z8 b9 T9 rF je pG oP
   refine am (Tj (h l[i] (List.getElem_mem pS)) (br aP _ _ JB) (br aP _ _ Dq) T9) ?_ (fun _ _ _ _ h=>h.elim)
   rintro v M2 aX _ rfl
   have hT:=(jt.trans rV).trans pG
   cases hb:fp l[i] m[i] with
   | true=>
    rw [hb,Bool.true_and] at ay
    simp +contextual only [go_sem,ak,sevalprocAttr,aD,ht,aF]
    refine bf (iJ (aA ⟨m.length - (i+1),by omega,rfl,i+1,by omega,rfl,?_,?_,T9,M2,hT,aP.trans aX,rfl,ay⟩))
    ·simp only [aG,aD,go_sem,ak,sevalprocAttr]
    ·simp only [ht,go_sem,ak,sevalprocAttr,aC i (by omega)]
   | false=>
    rw [hb,Bool.false_and] at ay
    simp +contextual only [go_sem,ak,sevalprocAttr,aD,ht,aF]
    exact az hT (by rw [<- ay])
  ·have:i=m.length:=by omega
   subst this
   have GS:l.drop m.length=[]:=by rw [<- bQ];exact List.drop_length
   rw [List.drop_length,GS] at ay
   simp +contextual only [go_sem,ak,sevalprocAttr,aD,ht,aF]
   exact az jt (by rw [<- ay];rfl)
 ·have dh:¬ (l.length:Int)=m.length:=by omega
  have:fH l m=false:=yu bQ
  simp +contextual only [go_sem,ak,sevalprocAttr,dh]
  exact az aH.rfl' (by rw [this])
theorem MC:∀ (sz:Nat) (x:X),SizeOf.sizeOf x<=sz ->SmB x:=by
 intro sz
 induction sz with
 | zero=>intro x hx;cases x;simp at hx
 | succ sz ih=>
  intro x eF M T b o b' o' y cs cs' ha hx ha' hy
  obtain ⟨s,hs,m0,m1,m2,m3,m4,m5,m6⟩:=we hx ha
  obtain ⟨s',oD,n0,n1,n2,n3,n4,n5,n6⟩:=we hy ha'
  cases x with | mk k v tab name kids=>
  cases y with | mk k' v' tab' name' kids'=>
  simp only [X.k,X.v,X.tab,X.name,X.kids] at m0 m1 m2 m3 m4 m5 m6 hs n0 n1 n2 n3 n4 n5 n6 oD
  rw [fp]
  refine aT mx Sg Tryz.func78 rfl (by rw [apP];exact Nat.le_of_ble_eq_true rfl) (dr:=alK) (by kernel_rfl) ark ?_
  intro bN _
  by_cases hk:k=k'
  ·subst hk
   by_cases h1:k=1
   ·subst h1
    simp +contextual only [go_sem,ak,sevalprocAttr,m0,n0]
    refine bq ?_
    simp +contextual only [go_sem,ak,sevalprocAttr,m0,n0]
    refine bq ?_
    simp +contextual only [go_sem,ak,sevalprocAttr,m1,m2,m3,n1,n2,n3]
    refine am (EZ v T) ?_ (fun _ _ _ _ h=>h.elim)
    rintro r M1 aP _ rfl
    replace n1:=ax aP n1
    replace n2:=ax aP n2
    replace n3:=ax aP n3
    simp +contextual only [go_sem,ak,sevalprocAttr,n1,n2,n3]
    refine ⟨rd aP,?_⟩
    refine am (EZ v' T) ?_ (fun _ _ _ _ h=>h.elim)
    rintro r M2 aX _ rfl
    simp +contextual only [go_sem,ak,sevalprocAttr,adT]
    refine ⟨rd (aP.trans aX),?_⟩
    exact az aH.rfl' rfl
   ·by_cases h2:k=2
    ·subst h2
     simp +contextual only [go_sem,ak,sevalprocAttr,m0,n0]
     refine bq ?_
     simp +contextual only [go_sem,ak,sevalprocAttr,m0,n0]
     refine bq ?_
     simp +contextual only [go_sem,ak,sevalprocAttr,m4,m5,n4,n5]
     by_cases ht:tab=tab'
     ·rw [if_pos ht]
      refine az aH.rfl' ?_
      subst ht
      simp
     ·rw [if_neg ht]
      refine az aH.rfl' ?_
      simp [ht]
    ·simp +contextual only [go_sem,ak,sevalprocAttr,m0,n0]
     refine bq ?_
     simp +contextual only [go_sem,ak,sevalprocAttr,m0,n0,h1,h2]
     refine bq ?_
     simp +contextual only [go_sem,ak,sevalprocAttr,m6,n6]
     refine am (LZ (fun x hx=>ih x ?_) hs oD T) ?_ (fun _ _ _ _ h=>h.elim)
     ·have h1:=List.sizeOf_lt_of_mem hx
      simp only [X.mk.sizeOf_spec] at eF
      omega
     rintro r M1 aP _ rfl
     simp +contextual only [go_sem,ak,sevalprocAttr]
     exact az aH.rfl' (by simp [h1,h2])
  ·simp +contextual only [go_sem,ak,sevalprocAttr,m0,n0]
   refine bq ?_
   simp +contextual only [go_sem,ak,sevalprocAttr,m0,n0,hk]
   exact az aH.rfl' rfl
mutual
def Ae:X ->Prop
 | .mk k v tab name kids=>(kids.length:Int)=dE k/\(k=1 ->1<=v.k/\v.k<=4)/\Wv kids
def Wv:List X ->Prop
 | []=>True
 | x::l=>Ae x/\Wv l
end
theorem xE:∀ {l:List X},Wv l ->∀ x∈l,Ae x
 | _::_,h,_,hy=>by
  rcases List.mem_cons.1 hy with rfl | hy
  ·exact h.1
  ·exact xE h.2 _ hy
theorem Ei (k:Int):dE k<=3:=by unfold dE;repeat' split<;>omega
theorem VZ {a:Option Addr}:iV Tryz.prog .neq 98 (.pointer a) (.pointer none)=some (.bool (!a.isNone)):=by
 show (if xS Tryz.prog 98=true then some (Value.bool (!a.isNone)) else none)=_
 rw [if_pos (by kernel_rfl)]
theorem abW {a:Option Addr}:iV Tryz.prog .eql 98 (.pointer a) (.pointer none)=some (.bool a.isNone):=by
 show (if xS Tryz.prog 98=true then some (Value.bool a.isNone) else none)=_
 rw [if_pos (by kernel_rfl)]
theorem yd:∀ {L:LL} {M:aV} {a:Addr} {o:Option Value},aB M L ->eb L a=some o ->M a.block=none
 | (b,cs)::L,M,a,o,hn,h=>by
  by_cases hb:a.block=b
  ·rw [hb];exact hn.1
  ·rw [eb,if_neg hb] at h
   exact yd hn.2 h
theorem dK {T0 T:Tm}{M M':aV}{L:LL}{R0 R:RR}(h:bG M M')(hn:aB M' L):lr ⟨T0,M,L,R0⟩ ⟨T,M',L,R⟩:=by
 intro a v hv
 simp only [Sh.cell] at hv ⊢
 cases hm:aL M a with
 | some u=>
  rw [hm] at hv
  rw [ax h hm];exact hv
 | none=>
  rw [hm] at hv
  cases hl:eb L a with
  | none=>rw [hl] at hv;simp at hv
  | some o=>
   have hb:=yd hn hl
   have:aL M' a=none:=by
    obtain ⟨k,f,sp⟩:=a
    unfold aL
    cases sp with
    | none=>simp only at hb ⊢;rw [hb];rfl
    | some q=>simp
   rw [this]
   rw [hl] at hv
   exact hv
theorem iw {T0 T:Tm}{M M':aV}{L:LL}{R0 R:RR}{b:Nat}{cs:List Value}(h:bG M M')(hn:aB M' L)(hb:dz b L):lr ⟨T0,M,L,R0⟩ ⟨T,M',(b,cs)::L,R⟩:=by
 intro a v hv
 have h1:=dK (T:=T) (R:=R) h hn a v hv
 simp only [Sh.cell] at h1 hv ⊢
 cases hm:aL M' a with
 | some u=>rw [hm] at h1;exact h1
 | none=>
  rw [hm] at h1
  cases hl:eb L a with
  | none=>rw [hl] at h1;simp at h1
  | some o=>
   have dh:a.block≠b:=fun hab=>by
    have:∀ {L:LL},dz b L ->eb L a=none:=by
     intro L
     induction L with
     | nil=>intro _;rfl
     | cons p l ih=>
      obtain ⟨k,ds⟩:=p
      intro iP
      rw [eb,if_neg (by rw [hab];exact iP.1.1)]
      exact ih iP.2
    rw [this hb] at hl;cases hl
   rw [eb,if_neg dh]
   exact h1
def WO (y:Ex)(v:Value)(M:aV):Prop:=∃ cs,v=.agg ⟨cs⟩/\jL M y cs
theorem fM (M:aV):jL M dP [.int .i64 0,.int .i64 0,.int .i64 0,st [],.int .i64 0,.slice none 0 0]:=gD.2 ⟨_,rfl,bR⟩
theorem Hz (M:aV)(i:Nat):jL M (sS i) [.int .i64 2,.int .i64 0,.int .i64 0,st [],.int .i64 (i:Int),.slice none 0 0]:=gD.2 ⟨_,rfl,bR⟩
theorem QG (M:aV)(v:V):jL M (.mk 1 v 0 []) [.int .i64 1,.int .i64 v.k,.int .i64 v.n,st v.t,.int .i64 0,.slice none 0 0]:=gD.2 ⟨_,rfl,bR⟩
def rI {α:Type}(aO:List α):Except Int (List α) ->Except Int (List α)
 | .ok l=> .ok (aO++l)
 | .error e=> .error e
theorem pZ {α:Type}(r:Except Int (List α)):rI [] r=r:=by cases r<;>rfl
def Bl {α:Type}(a:α):Except Int (List α) ->Except Int (List α)
 | .ok l=> .ok (a::l)
 | .error e=> .error e
theorem oM {α:Type}(aO:List α)(a:α)(r:Except Int (List α)):rI (aO++[a]) r=rI aO (Bl a r):=by
 cases r with
 | ok l=>simp [rI,Bl]
 | error e=>rfl
theorem BN {names:List (Bs×Bs)}{x:X}{l:List X}{y:Ex}(h:iH names x=.ok y):cI names (x::l)=Bl y (cI names l):=by
 rw [cI,h]
 cases cI names l<;>rfl
theorem z7 {names:List (Bs×Bs)}{x:X}{l:List X}{e:Int}(h:iH names x=.error e):cI names (x::l)=.error e:=by
 rw [cI,h]
def ExB (names:List (Bs×Bs))(x:X):Prop:=∀ (M:aV) (T:Tm) (sb:Nat) (lv kv av:Value) (b o:Nat) (cs:List Value),RS M G6 2 names lv ->M sb=some [lv,kv,av,.pointer none] ->At M b o cs ->RX M x cs ->
 ep Tryz.prog 37 [.pointer (some ⟨sb,0,none⟩),.pointer (some ⟨b,o,none⟩)] T M [] [] (wA WO (iH names x)) (rR (iH names x))
theorem CY {names:List (Bs×Bs)}{l:List X}(h:∀ x∈l,ExB names x)(bQ:l.length<=1048576){M:aV}{sb:Nat}{lv kv av sv:Value}(hl:RS M G6 2 names lv)(TW:M sb=some [lv,kv,av,.pointer none])(hs:RS M (RX M) 7 l sv)(T:Tm):
 ep Tryz.prog 31 [.pointer (some ⟨sb,0,none⟩),sv] T M [] [] (wA (fun l v M=>RS M (jL M) 6 l v) (cI names l)) (rR (cI names l)):=by
 obtain ⟨lh,a,c,rfl,jo,_,hg⟩:=aI (by decide) (fun _ _=>dY) hs
 refine aT mx KS Tryz.func31 rfl (by rw [ai7];exact Nat.le_of_ble_eq_true rfl) (dr:=aak) (by kernel_rfl) al8 ?_
 intro bN _
 simp +contextual only [go_sem,ak,sevalprocAttr]
 refine bh l.length 9 [(0,.pointer (some ⟨sb,0,none⟩)),(1,.slice a l.length c),(7,.slice a l.length c),(8,.int .i64 (l.length:Int))] (fun i e h=>∃ M' fv R aO,bG M M'/\h=⟨T,M',[],R⟩/\e 5=fv/\aO.length=i/\nK 38 6 (jL M') [] R fv aO/\rI aO (cI names (l.drop i))=cI names l) 0 (by omega) (by simp only [aG,go_sem,ak,sevalprocAttr]) (by simp only [go_sem,ak,sevalprocAttr]) ⟨M,_,_,[],bG.rfl',rfl,by simp only [go_sem,ak,sevalprocAttr],rfl,ew,pZ _⟩ ?_
 rintro i e h hi aD ht ⟨M1,fv,R,aO,aP,rfl,e5,lk,cy,ay⟩
 simp only [aG] at aD
 by_cases aF:i<l.length
 ·obtain ⟨b',o',cs',rfl,cC,eL⟩:=hg i l[i] (List.getElem?_eq_getElem aF)
  have bX:l.drop i=l[i]::l.drop (i+1):=List.drop_eq_getElem_cons aF
  rw [bX] at ay
  simp +contextual only [go_sem,ak,sevalprocAttr,aD,ht,aF]
  refine am (h l[i] (List.getElem_mem aF) M1 T sb lv kv av b' _ cs' (aN aP (fun _ _ h=>h) hl) (aP _ _ TW) (cC.ext aP) (br aP _ _ eL)) ?_ ?_
  ·rintro v M2 aX aQ ⟨y,hy,cs,rfl,yq⟩
   rw [BN hy,<- oM] at ay
   have dw:=ed yq
   simp +contextual only [go_sem,ak,sevalprocAttr,aD,ht,aF,e5,dw]
   intro b6 mB
   refine dH (Tryz.underlying36) yL yV (eX (bS aX) cy) yq (fun _ _=>ed) (j9 yq) mB (by omega) (by decide) ?_
   intro fv' R' cF
   simp +contextual only [go_sem,ak,sevalprocAttr,aD,ht,aF]
   refine bf (al (aA ⟨l.length - (i+1),by omega,rfl,i+1,by omega,rfl,?_,?_,M2,fv',R',aO++[y],aP.trans aX,rfl,?_,?_,cF,ay⟩))
   ·simp only [aG,aD,go_sem,ak,sevalprocAttr]
   ·simp only [ht,go_sem,ak,sevalprocAttr,aC i (by omega)]
   ·simp only [go_sem,ak,sevalprocAttr]
   ·rw [List.length_append,lk];rfl
  ·rintro ch M2 aX aQ ⟨er,he,rfl⟩
   rw [z7 he] at ay
   exact nq aH.rfl' ay.symm
 ·have:i=l.length:=by omega
  subst this
  rw [List.drop_length,cI] at ay
  simp +contextual only [go_sem,ak,sevalprocAttr,aD,ht,aF,e5]
  refine cU cy (by omega) (by decide) bN fun M2 aX aQ ff=>az aH.rfl' ⟨aO,?_,?_⟩
  ·rw [<- ay];simp [rI]
  ·exact aN bG.rfl' (bS aX) ff
theorem Mw {M:aV}{sb:Nat}{lv kv av xv:Value}(TW:M sb=some [lv,kv,av,.pointer none])(T:Tm):
 ep Tryz.prog 79 [.pointer (some ⟨sb,0,none⟩),xv] T M [] [] (fun _ _ _ _=>False) (rR (.error 8:Except Int Ex)):=by
 refine aT mx Za Tryz.func79 rfl (by rw [aon];exact Nat.le_of_ble_eq_true rfl) (dr:=abY) (by kernel_rfl) ann ?_
 intro bN _
 simp +contextual only [go_sem,ak,sevalprocAttr,aY TW,abW]
 intro b4 T4 iR j6 pp
 exact vp j6 rfl
theorem exB (names:List (Bs×Bs)):∀ (sz:Nat) (x:X),SizeOf.sizeOf x<=sz ->Ae x ->ExB names x:=by
 intro sz
 induction sz with
 | zero=>intro x hx;cases x;simp at hx
 | succ sz ih=>
  intro x eF dG M T sb lv kv av b o cs hl TW ha hx
  obtain ⟨s,hs,m0,m1,m2,m3,m4,m5,m6⟩:=we hx ha
  cases x with | mk k v tab name kids=>
  have xl:=hx
  simp only [X.k,X.v,X.tab,X.name,X.kids] at m0 m1 m2 m3 m4 m5 m6 hs
  obtain ⟨xp,_,AB⟩:=dG
  have V9:=Ei k
  obtain ⟨E,hE⟩:∃ E,E=iH names (.mk k v tab name kids):=⟨_,rfl⟩
  rw [<- hE]
  rw [iH] at hE
  refine aT mx Ld Tryz.func37 rfl (by rw [ag1];exact Nat.le_of_ble_eq_true rfl) (dr:=adW) (by kernel_rfl) akQ ?_
  intro bN _
  simp +contextual only [go_sem,ak,sevalprocAttr,aY TW,m0,VZ]
  intro b3 T3 fh fD ja b4 T4 iR cN j6 pp
  have hT:=fD.trans j6
  by_cases nd:19<=k
  ·rw [if_pos nd] at hE
   simp +contextual only [go_sem,ak,sevalprocAttr,nd,fh,iR,cN]
   refine am (Mw TW T4) (fun _ _ _ _ h=>h.elim) ?_
   rintro ch M1 aP bL ⟨er,he,rfl⟩
   injection he with he
   subst he
   exact nq hT hE
  rw [if_neg nd] at hE
  by_cases h2:k=2
  ·subst h2
   rw [if_pos rfl] at hE
   simp +contextual only [go_sem,ak,sevalprocAttr,fh,iR,cN]
   refine am (XU hl TW ha hx T4) ?_ ?_
   ·rintro r M1 aP bL ⟨i,hi,rfl⟩
    simp only [X.tab,X.name] at hi
    rw [hi] at hE
    simp only [aB,and_true] at bL
    simp +contextual only [go_sem,ak,sevalprocAttr,bL,cN]
    exact az hT ⟨_,hE,_,rfl,Hz _ _⟩
   ·rintro ch M1 aP bL ⟨er,he,rfl⟩
    simp only [X.tab,X.name] at he
    rw [he] at hE
    exact nq hT hE
  rw [if_neg h2] at hE
  by_cases h1:k=1
  ·subst h1
   rw [if_pos rfl] at hE
   simp +contextual only [go_sem,ak,sevalprocAttr,fh,iR,cN,m1,m2,m3]
   exact az hT ⟨_,hE,_,rfl,QG _ v⟩
  rw [if_neg h1] at hE
  simp +contextual only [go_sem,ak,sevalprocAttr,nd,h1,h2,fh,iR,cN]
  refine bq ?_
  simp +contextual only [go_sem,ak,sevalprocAttr,fh,iR,cN,m0,m6]
  refine am (CY (fun x hx=>ih x (by
   have h1:=List.sizeOf_lt_of_mem hx
   simp only [X.mk.sizeOf_spec] at eF
   omega) (xE AB x hx)) (by omega) hl TW hs T4) ?_ ?_
  ·rintro r M1 aP bL ⟨l,hl,ff⟩
   rw [hl] at hE
   simp only [aB,and_true] at bL
   obtain ⟨r1,r2⟩:=eV ff
   have r2m:=r2
   simp only [Value.cells] at r2m
   simp +contextual only [go_sem,ak,sevalprocAttr,bL,cN,r1,r2,r2m]
   refine ⟨dK aP ⟨bL.1,bL.2,trivial⟩,?_⟩
   exact az hT ⟨_,hE,_,rfl,gD.2 ⟨_,rfl,ff⟩⟩
  ·rintro ch M1 aP bL ⟨er,he,rfl⟩
   rw [he] at hE
   exact nq hT hE
theorem gu {F:Fi}{f:FuncId}{args:List Value}{dd:Option Nat}{s:List Vc.Item}{e:dN}{ds:List Deferred}{N:Tm}{M:aV}(L1:LL){b:Nat}{cs:List Value}{L2:LL}{R:RR}(hb:aK Tryz.prog f=true)
 (h:∀ M',bG M M' ->M' b=some cs ->aB M' (L1++L2) ->dT Tryz.prog F f args dd s e ds ⟨N,M',L1++L2,R⟩ ⟨⟩):dT Tryz.prog F f args dd s e ds ⟨N,M,L1++(b,cs)::L2,R⟩ ⟨⟩:=
 eh (k:=fun h'=>∃ M',bG M M'/\M' b=some cs/\aB M' (L1++L2)/\h'=⟨N,M',L1++L2,R⟩) (ef List.perm_middle (aJ fun he h1 h2=>aA ⟨_,he,h1,h2,rfl⟩))
  (by rintro h' ⟨M',he,h1,h2,rfl⟩;exact h M' he h1 h2) hb
theorem Bo {p:X ->Bool}{l:List X}{gf:FuncId}{fa fc:List Value}{M:aV}{lv:Value}(hs:RS M (RX M) 7 l lv)(afy:aK Tryz.prog gf=true)
 (hf:∀ x∈l,∀ (M':aV) (T:Tm) (cs:List Value),bG M M' ->RX M' x cs ->ep Tryz.prog gf (fa++(.agg ⟨cs⟩::fc)) T M' [] [] (fun r _ _ _=>r=.bool (p x)) bj) (T:Tm):
 ep Tryz.prog 76 [lv,.func (.func gf) ⟨fa⟩ ⟨fc⟩] T M [] [] (fun r _ _ _=>r=.int .i64 (nR (l.findIdx? p))) bj:=by
 obtain ⟨lh,a,c,rfl,jo,_,hg⟩:=aI (by decide) (fun _ _=>dY) hs
 refine aT mx Yb Tryz.func76 rfl (by rw [asv];exact Nat.le_of_ble_eq_true rfl) (dr:=ajy) (by kernel_rfl) as2 ?_
 intro bN _
 simp +contextual only [go_sem,ak,sevalprocAttr]
 refine bh l.length 8 [(0,.slice a l.length c),(1,.func (.func gf) ⟨fa⟩ ⟨fc⟩),(7,.int .i64 (l.length:Int))] (fun i e h=>∃ M',bG M M'/\h=⟨T,M',[],[]⟩/\l.findIdx? p=((l.drop i).findIdx? p).map (·+i)) 0 (by omega) (by simp only [aG,go_sem,ak,sevalprocAttr]) (by simp only [go_sem,ak,sevalprocAttr]) ⟨M,bG.rfl',rfl,by simp⟩ ?_
 rintro i e h hi aD ht ⟨M1,aP,rfl,ay⟩
 simp only [aG] at aD
 by_cases aF:i<l.length
 ·obtain ⟨p1,o1,cs1,rfl,Hg,JB⟩:=hg i l[i] (List.getElem?_eq_getElem aF)
  have hdl:l.drop i=l[i]::l.drop (i+1):=List.drop_eq_getElem_cons aF
  rw [hdl,List.findIdx?_cons] at ay
  obtain ⟨s1,JO,gH,_⟩:=cb JB
  subst JO
  obtain ⟨y0,y1,y2,y3,y4,y5,y6⟩:=At7 (Hg.ext aP)
  simp +contextual only [go_sem,ak,sevalprocAttr,aD,ht,aF,y0,y1,y2,y3,y4,y5,y6,gH]
  refine am (hf l[i] (List.getElem_mem aF) M1 T _ aP (br aP _ _ JB)) ?_ (fun _ _ _ _ h=>h.elim)
  rintro v M2 aX _ rfl
  cases hb:p l[i] with
  | true=>
   rw [hb] at ay
   simp +contextual only [go_sem,ak,sevalprocAttr,aD,ht,aF]
   exact az aH.rfl' (by rw [ay];simp [nR])
  | false=>
   rw [hb] at ay
   simp +contextual only [go_sem,ak,sevalprocAttr,aD,ht,aF]
   refine bW aF ?_ ?_ ⟨M2,aP.trans aX,rfl,?_⟩
   ·simp only [aG,aD,go_sem,ak,sevalprocAttr]
   ·simp only [ht,go_sem,ak,sevalprocAttr,aC i (by omega)]
   ·rw [ay]
    cases (l.drop (i+1)).findIdx? p<;>simp;omega
 ·have:i=l.length:=by omega
  subst this
  rw [List.drop_length] at ay
  simp +contextual only [go_sem,ak,sevalprocAttr,aD,ht,aF]
  exact az aH.rfl' (by rw [ay];rfl)
theorem Gp {α:Type}(p:α ->Bool):∀ (l:List α),decide ((0:Int)<=nR (l.findIdx? p))=l.any p:=by
 intro l
 cases h:l.findIdx? p with
 | none=>
  have:∀ x∈l,p x=false:=by
   rw [List.findIdx?_eq_none_iff] at h
   simpa using h
  rw [List.any_eq_false.2 (by simpa using this)]
  rfl
 | some i=>
  have hi:=List.findIdx?_eq_some_iff_getElem.1 h
  obtain ⟨aF,hp,_⟩:=hi
  rw [List.any_eq_true.2 ⟨l[i],List.getElem_mem aF,hp⟩]
  simp [nR]
theorem CS {p:X ->Bool}{l:List X}{gf:FuncId}{fa fc:List Value}{M:aV}{lv:Value}(hs:RS M (RX M) 7 l lv)(afy:aK Tryz.prog gf=true)
 (hf:∀ x∈l,∀ (M':aV) (T:Tm) (cs:List Value),bG M M' ->RX M' x cs ->ep Tryz.prog gf (fa++(.agg ⟨cs⟩::fc)) T M' [] [] (fun r _ _ _=>r=.bool (p x)) bj) (T:Tm):
 ep Tryz.prog 109 [lv,.func (.func gf) ⟨fa⟩ ⟨fc⟩] T M [] [] (fun r _ _ _=>r=.bool (l.any p)) bj:=by
 refine aT mx acm Tryz.func109 rfl (by rw [agK];exact Nat.le_of_ble_eq_true rfl) (dr:=Zi) (by kernel_rfl) ank ?_
 intro bN _
 simp +contextual only [go_sem,ak,sevalprocAttr]
 refine am (Bo hs afy hf T) ?_ (fun _ _ _ _ h=>h.elim)
 rintro v M1 aP _ rfl
 simp +contextual only [go_sem,ak,sevalprocAttr]
 exact az aH.rfl' (by rw [Gp])
def SpX (x:X):Prop:=∀ (M:aV) (T:Tm) (b o:Nat) (cs:List Value),At M b o cs ->RX M x cs ->ep Tryz.prog 65 [.pointer (some ⟨b,o,none⟩)] T M [] [] (fun r _ _ _=>r=.bool (mW x)) bj
theorem JN {x:X}(h:SpX x){M:aV}{cs:List Value}(hx:RX M x cs)(T:Tm):ep Tryz.prog 110 [.agg ⟨cs⟩] T M [] [] (fun r _ _ _=>r=.bool (mW x)) bj:=by
 have hl:=dY hx
 refine aT mx Rv Tryz.func110 rfl (by rw [alF];exact Nat.le_of_ble_eq_true rfl) (dr:=Y9) (by kernel_rfl) ahU ?_
 intro bN _
 simp +contextual only [go_sem,ak,sevalprocAttr,hl]
 intro b2 T2 eG fu ju
 refine aW Ri fun M1 aP Ft bL=> ?_
 refine am (h M1 T2 b2 0 _ (wu Ft _ 0 (by simp)) (br aP _ _ hx)) ?_ (fun _ _ _ _ h=>h.elim)
 rintro v M2 aX _ rfl
 simp +contextual only [go_sem,ak,sevalprocAttr]
 exact az fu rfl
theorem GD:∀ (l:List X),GQ l=l.any mW
 | []=>rfl
 | x::l=>by rw [GQ,List.any_cons,GD l]
theorem spX:∀ (sz:Nat) (x:X),SizeOf.sizeOf x<=sz ->SpX x:=by
 intro sz
 induction sz with
 | zero=>intro x hx;cases x;simp at hx
 | succ sz ih=>
  intro x eF M T b o cs ha hx
  obtain ⟨s,hs,m0,m1,m2,m3,m4,m5,m6⟩:=we hx ha
  cases x with | mk k v tab name kids=>
  simp only [X.k,X.v,X.tab,X.name,X.kids] at m0 m1 m2 m3 m4 m5 m6 hs
  refine aT mx Ri Tryz.func65 rfl (by rw [auB];exact Nat.le_of_ble_eq_true rfl) (dr:=aoF) (by kernel_rfl) auz ?_
  intro bN _
  by_cases nd:19<=k
  ·simp +contextual only [go_sem,ak,sevalprocAttr,m0,m6,nd]
   exact az aH.rfl' (by rw [mW];simp [nd])
  ·simp +contextual only [go_sem,ak,sevalprocAttr,m0,m6,nd]
   refine am (CS (p:=mW) (fa:=[]) (fc:=[]) hs Rv (fun x hx M' T' cs lC hc=>JN (ih x ?_) hc T') T) ?_ (fun _ _ _ _ h=>h.elim)
   ·have h1:=List.sizeOf_lt_of_mem hx
    simp only [X.mk.sizeOf_spec] at eF
    omega
   rintro r M1 aP _ rfl
   simp +contextual only [go_sem,ak,sevalprocAttr]
   exact az aH.rfl' (by rw [mW,GD];simp [nd])
def Vr (M:aV)(ab:Nat)(L:LL)(R:RR)(ags:List Ag):Prop:=∃ a c xs,L=[(ab,[.slice a ags.length c])]/\R=[(.slice a ags.length c,119,7,xs)]/\RL (DK M) ags xs
theorem Lb {M M':aV}(he:bG M M'){ab L R ags}(h:Vr M ab L R ags):Vr M' ab L R ags:=by
 obtain ⟨a,c,xs,h1,h2,h3⟩:=h
 exact ⟨a,c,xs,h1,h2,dZ (ki he) h3⟩
def Tv {α:Type}(ab:Nat)(enc:α ->Value ->aV ->Prop)(res:Except Int (α×List Ag)):eP:=fun v M' L' R'=>∃ a ags,res=.ok (a,ags)/\enc a v M'/\Vr M' ab L' R' ags
theorem GL {α:Type}{T N:Tm}{M:aV}{L1 L:LL}{R1 R:RR}{dr ts e post}{ks:List Nat}{n:Nat}{res:Except Int α}{c:Int}(hT:aH T N)(hk:bd L=ks)(hn:R.length=n)(h:res=.error c):(fi Tryz.prog T dr ts ks n post (rR res)).pan (Gk c) e [] ⟨N,M,L1++L,R1++R⟩:=by
 rw [mK,kj]
 refine gW L1 ?_
 induction R1 with
 | nil=>exact aM hT hk hn ⟨c,h,rfl⟩
 | cons r R1 ih=>exact lV ih
theorem aeH {α:Type}{T N:Tm}{M:aV}{L1 L:LL}{R1 R:RR}{dr ts e post d s}{ks:List Nat}{n:Nat}{res:Except Int α}{c:Int}(hT:aH T N)(hk:bd L=ks)(hn:R.length=n)(h:res=.error c):
 dT Tryz.prog (fi Tryz.prog T dr ts ks n post (rR res)) 66 [.int .i64 c] d s e [] ⟨N,M,L1++L,R1++R⟩ ⟨⟩:=by
 refine am (FS c M N) (fun _ _ _ _ h=>h.elim) ?_
 rintro ch M1 aP bL rfl
 exact GL hT hk hn h
structure Gs (M:aV) (sb ab rb:Nat) (names:List (Bs×Bs)) (bd:List X) (lv kv cv kw aw:Value):Prop where
 s:M sb=some [cv,kv,.pointer (some ⟨ab,0,none⟩),.pointer (some ⟨rb,0,none⟩)]
 r:M rb=some [lv,kw,aw,.pointer none]
 n:RS M G6 2 names lv
 k:RS M (RX M) 7 bd kv
theorem Gs.ext {M M':aV}(he:bG M M'){sb ab rb names bd lv kv cv kw aw}(h:Gs M sb ab rb names bd lv kv cv kw aw):Gs M' sb ab rb names bd lv kv cv kw aw:=
 ⟨he _ _ h.s,he _ _ h.r,aN he (fun _ _ h=>h) h.n,aN he (br he) h.k⟩
def Nn (names:List (Bs×Bs))(nk:Nat)(k:Int)(kids:List X)(ags:List Ag):Except Int (Ex×List Ag):=match wN names kids with
 | .ok a=> .ok (sS (nk+ags.length),ags++[⟨k - 18,a⟩])
 | .error e=> .error e
theorem Ue {names nk k kids ags e}(h:wN names kids=.error e):Nn names nk k kids ags=.error e:=by unfold Nn;rw [h]
theorem Xj {names nk k kids ags a}(h:wN names kids=.ok a):Nn names nk k kids ags=.ok (sS (nk+ags.length),ags++[⟨k - 18,a⟩]):=by unfold Nn;rw [h]
theorem Vx {M:aV}{k:Int}{y:Ex}{cs:List Value}(h:jL M y cs):DK M ⟨k,y⟩ (.int .i64 k::cs):=⟨cs,h,rfl⟩
theorem aaA {M:aV}{sb ab rb:Nat}{names:List (Bs×Bs)}{keys':List X}{lv kv cv kw aw:Value}{k:Int}{v:V}{tab name:Bs}{kids:List X}{b o:Nat}{cs:List Value}{ags:List Ag}{L:LL}{R:RR}(hG:Gs M sb ab rb names keys' lv kv cv kw aw)
 (ha:At M b o cs) (hx:RX M (.mk k v tab name kids) cs) (dG:Ae (.mk k v tab name kids)) (hk:19<=k) (hA:Vr M ab L R ags) (bQ:ags.length<=1048576) (xp:keys'.length<=1048576) (T:Tm):
 ep Tryz.prog 79 [.pointer (some ⟨sb,0,none⟩),.pointer (some ⟨b,o,none⟩)] T M L R (Tv ab WO (Nn names keys'.length k kids ags)) (rR (Nn names keys'.length k kids ags)):=by
 obtain ⟨s,hs,m0,m1,m2,m3,m4,m5,m6⟩:=we hx ha
 simp only [X.k,X.v,X.tab,X.name,X.kids] at m0 m1 m2 m3 m4 m5 m6 hs
 obtain ⟨WH,_,AB⟩:=dG
 have axK:k<=23:=by
  unfold dE at WH
  repeat' split at WH
  all_goals omega
 obtain ⟨lh,sa,sc,rfl,jo,_,hg⟩:=aI (by decide) (fun _ _=>dY) hs
 obtain ⟨aa,ac,xs,rfl,rfl,kD⟩:=hA
 have nr:=fI (fun _ _=>ml) kD
 refine aT mx Za Tryz.func79 rfl (by rw [aon];exact Nat.le_of_ble_eq_true rfl) (dr:=abY) (by kernel_rfl) ann ?_
 intro bN _
 simp only [aB,and_true] at bN
 have w1:IntKind.i64.wrap (k - 19)=k - 19:=eZ (by omega) (by omega)
 have w2:IntKind.i64.wrap (k - 19+1)=k - 18:=by rw [eZ (by omega) (by omega)];omega
 simp +contextual only [go_sem,sevalprocAttr,aY hG.s,abW,m0,m6,w1,w2]
 intro b4 T4 iR cN j6 pp
 rw [bV,if_neg (by decide),EJ]
 simp +contextual only [go_sem,sevalprocAttr,aY hG.s,abW,m0,m6,w1,w2]
 intro b5 T5 jH eO tG zk
 have hT:=j6.trans tG
 refine dI (fun e ds h=>ds=[]/\e 0=.pointer (some ⟨sb,0,none⟩)/\e 4=.pointer (some ⟨b4,0,none⟩)/\e 5=.pointer (some ⟨b5,0,none⟩)/\∃ M' y c0 c1 c2 c3 c4 c5,bG M M'/\wN names kids=.ok y/\jL M' y [c0,c1,c2,c3,c4,c5]/\(∀ u∈[c0,c1,c2,c3,c4,c5],u.oneCell'=true)/\M' b5=none/\M' b4=none/\M' ab=none/\
  h=⟨T5,M',[(b5,[.int .i64 (k - 18),c0,c1,c2,c3,c4,c5]),(b4,[.int .i64 0,.int .i64 0,.int .i64 0,st [],.int .i64 0,.slice none 0 0]),(ab,[.slice aa ags.length ac])],[(.slice aa ags.length ac,119,7,xs)]⟩) (fun S' dW=> ?_) ?_
 ·cases kids with
  | nil=>
   have hz:¬ ((0:Int)<(([]:List X).length:Int)):=by decide
   simp +contextual only [go_sem,ak,sevalprocAttr,hz]
   refine dW _ _ _ ⟨rfl,?_,?_,?_,M,dP,_,_,_,_,_,_,bG.rfl',rfl,fM M,?_,jH,iR,bN,rfl⟩
   ·simp only [go_sem,ak,sevalprocAttr]
   ·simp only [go_sem,ak,sevalprocAttr]
   ·simp only [go_sem,ak,sevalprocAttr]
   ·exact j9 (fM M)
  | cons x0 kr=>
   have hz:(0:Int)<((x0::kr:List X).length:Int):=by simp only [List.length_cons];omega
   have hz2:(1:Int)<=((x0::kr:List X).length:Int):=by simp only [List.length_cons];omega
   obtain ⟨b',o',cs',rfl,cC,eL⟩:=hg 0 x0 rfl
   rw [Nat.zero_mul,Nat.add_zero] at cC
   simp +contextual only [go_sem,ak,sevalprocAttr,hz]
   refine bq ?_
   simp +contextual only [go_sem,ak,sevalprocAttr,aY hG.s,m6,hz,iR,jH,cN,eO]
   refine am (exB names _ x0 (Nat.le_refl _) AB.1 M T5 rb lv kw aw b' o' cs' hG.n hG.r cC eL) ?_ ?_
   ·rintro r M1 aP bL ⟨y,hy,cs1,rfl,yq⟩
    obtain ⟨s1,rfl,gH,_⟩:=cg yq
    simp only [List.cons_append,List.nil_append,aB,cZ] at bL
    simp +contextual only [go_sem,ak,sevalprocAttr,bL,cN,eO,gH]
    refine ⟨dK aP ⟨bL.1,bL.2.1,bL.2.2.1,trivial⟩,?_⟩
    refine dW _ _ _ ⟨rfl,?_,?_,?_,M1,y,_,_,_,_,_,_,aP,?_,yq,j9 yq,bL.1,bL.2.1,bL.2.2.1,rfl⟩
    ·simp only [go_sem,ak,sevalprocAttr]
    ·simp only [go_sem,ak,sevalprocAttr]
    ·simp only [go_sem,ak,sevalprocAttr]
    ·simp only [wN];exact hy
   ·rintro ch M1 aP bL ⟨er,he,rfl⟩
    refine GL (L1:=[(b5,_),(b4,_)]) (R1:=[]) hT rfl rfl ?_
    exact Ue (by simp only [wN];exact he)
 ·rintro e ds h ⟨rfl,e0,e4,e5,M1,y,c0,c1,c2,c3,c4,c5,aP,hy,yq,fk,n5,n4,na,rfl⟩
  have hG1:=hG.ext aP
  have aj5:=dZ (fun x cs h=>ki aP x cs h) kD
  simp +contextual only [go_sem,ak,sevalprocAttr,e0,e4,e5]
  refine bq ?_
  simp +contextual only [go_sem,ak,sevalprocAttr,e0,e4,e5,aY hG1.s,n5,n4,na,cN,eO]
  intro b6 mB de
  refine ⟨iw bG.rfl' ⟨n5,n4,na,trivial⟩ ⟨de.1,de.2.1,de.2.2,trivial⟩,?_⟩
  have Au:=Vx (k:=k - 18) yq
  have ahF:=fI (fun _ _=>ml) aj5
  refine gi PT Pe (.slice _ 1 _ _ _ Tryz.underlying39 (cT [] mB trivial rfl) (by
   intro u hu
   rcases List.mem_cons.1 hu with rfl | hu
   ·rfl
   ·exact fk u hu)) (by rw [ahF];simp only [List.length_cons,List.length_nil];omega) ?_
  intro ra rm rc ky
  have jO:rm=(ags++[⟨k - 18,y⟩]:List Ag).length:=by
   rw [ahF] at ky
   simp only [List.length_append,List.length_cons,List.length_nil] at ky ⊢
   omega
  subst jO
  obtain ⟨_,ka,kc,rfl,_⟩:=aI (by decide) (fun _ _=>dY) hG1.k
  have w3:IntKind.i64.wrap ((keys'.length:Int)+((ags++[⟨k - 18,y⟩]:List Ag).length:Int))=((keys'.length+ags.length+1:Nat):Int):=by
   rw [eZ (by simp only [List.length_append,List.length_cons,List.length_nil];omega) (by simp only [List.length_append,List.length_cons,List.length_nil];omega)]
   simp only [List.length_append,List.length_cons,List.length_nil];omega
  have w4:IntKind.i64.wrap (((keys'.length+ags.length+1:Nat):Int) - 1)=((keys'.length+ags.length:Nat):Int):=by
   rw [eZ (by omega) (by omega)];omega
  simp +contextual only [go_sem,ak,sevalprocAttr,e0,e4,e5,aY hG1.s,n5,n4,na,cN,eO,mB,de]
  refine ⟨iw bG.rfl' ⟨n5,n4,na,trivial⟩ ⟨de.1,de.2.1,de.2.2,trivial⟩,?_⟩
  refine bq ?_
  simp +contextual only [go_sem,ak,sevalprocAttr,e0,e4,e5,aY hG1.s,n5,n4,na,cN,eO,mB,de,w3,w4]
  refine al (al (al (aM hT rfl rfl ⟨_,_,Xj hy,⟨_,rfl,Hz _ _⟩,ra,rc,_,rfl,rfl,dx aj5 (cP Au)⟩)))
theorem yB {F:Fi}{f:FuncId}{args:List Value}{dd:Option Nat}{s:List Vc.Item}{e:dN}{ds:List Deferred}{N:Tm}{M:aV}(L1:LL){Lp:LL}(R1:RR){Rp:RR}{post:eP}{pan:n8}
 (hc:ep Tryz.prog f args N M Lp Rp post pan)
 (hn:∀ v M' L' R',bG M M' ->bd L'=bd Lp ->R'.length=Rp.length ->aB M' (L1++L') ->post v M' L' R' ->cB Tryz.prog F s (cV e dd v) ds ⟨N,M',L1++L',R1++R'⟩ ⟨⟩)
 (hp:∀ ch M' L' R',bG M M' ->bd L'=bd Lp ->R'.length=Rp.length ->pan ch M' L' R' ->F.pan ch e ds ⟨N,M',L1++L',R1++R'⟩):dT Tryz.prog F f args dd s e ds ⟨N,M,L1++Lp,R1++Rp⟩ ⟨⟩:=by
 have key:∀ (L2:LL) (R2:RR),L2=L1++Lp++[] ->R2=R1++Rp++[] ->dT Tryz.prog F f args dd s e ds ⟨N,M,L2,R2⟩ ⟨⟩:=by
  rintro _ _ rfl rfl
  refine cM L1 Lp [] R1 Rp [] hc (fun v M' L' R' hM hk hR bN hq=> ?_) (fun ch M' L' R' hM hk hR bN hq=> ?_)
  ·have k2:∀ (L2:LL) (R2:RR),L2=L1++L' ->R2=R1++R' ->cB Tryz.prog F s (cV e dd v) ds ⟨N,M',L2,R2⟩ ⟨⟩:=by
    rintro _ _ rfl rfl
    exact hn v M' L' R' hM hk hR (by simpa using bN) hq
   exact k2 _ _ (by simp) (by simp)
  ·have:=hp ch M' L' R' hM hk hR hq
   simpa using this
 exact key _ _ (by simp) (by simp)
theorem vw {α:Type}{F:Fi}{f:FuncId}{args:List Value}{dd:Option Nat}{s:List Vc.Item}{e:dN}{ds:List Deferred}{N:Tm}{M:aV}{el:TypeId}{sz:Nat}{r:α ->List Value ->Prop}{R0 R:RR}{fv:Value}{aO:List α}{post:eP}{pan:n8}(L1:LL){Lp:LL}
 (hc:ep Tryz.prog f args N M Lp R0 post pan) (h:nK el sz r R0 R fv aO)
 (hn:∀ v M' L' R0' R',bG M M' ->bd L'=bd Lp ->R0'.length=R0.length ->aB M' (L1++L') ->post v M' L' R0' ->nK el sz r R0' R' fv aO ->cB Tryz.prog F s (cV e dd v) ds ⟨N,M',L1++L',R'⟩ ⟨⟩)
 (hp:∀ ch M' L' R1 R0',bG M M' ->bd L'=bd Lp ->R0'.length=R0.length ->pan ch M' L' R0' ->F.pan ch e ds ⟨N,M',L1++L',R1++R0'⟩):dT Tryz.prog F f args dd s e ds ⟨N,M,L1++Lp,R⟩ ⟨⟩:=by
 have key:∀ (R1:RR) (R2:RR) (L2:LL),L2=L1++Lp++[] ->R2=R1++R0++[] ->(∀ R0',nK el sz r R0' (R1++R0') fv aO) ->dT Tryz.prog F f args dd s e ds ⟨N,M,L2,R2⟩ ⟨⟩:=by
  rintro R1 _ _ rfl rfl cy
  refine cM L1 Lp [] R1 R0 [] hc (fun v M' L' R' hM hk hR bN hq=> ?_) (fun ch M' L' R' hM hk hR bN hq=> ?_)
  ·have k2:∀ (L2:LL) (R2:RR),L2=L1++L' ->R2=R1++R' ->cB Tryz.prog F s (cV e dd v) ds ⟨N,M',L2,R2⟩ ⟨⟩:=by
    rintro _ _ rfl rfl
    exact hn v M' L' R' _ hM hk hR (by simpa using bN) hq (cy R')
   exact k2 _ _ (by simp) (by simp)
  ·have:=hp ch M' L' R1 R' hM hk hR hq
   simpa using this
 rcases h with ⟨rfl,rfl,rfl⟩ | ⟨a,c,xs,rfl,h3,rfl⟩
 ·exact key [] _ _ (by simp) (by simp) fun R0'=> .inl ⟨rfl,rfl,rfl⟩
 ·exact key [(.slice a aO.length c,el,sz,xs)] _ _ (by simp) (by simp) fun R0'=> .inr ⟨a,c,xs,rfl,h3,rfl⟩
mutual
def wV:X ->Nat
 | .mk _ _ _ _ kids=>1+pR kids
def pR:List X ->Nat
 | []=>0
 | x::l=>wV x+pR l
end
mutual
theorem rz {names:List (Bs×Bs)}{bd:List X}:∀ (x:X) (ags:List Ag) (y:Ex) (ags':List Ag),kR names bd x ags=.ok (y,ags') ->ags'.length<=ags.length+wV x
 | .mk k v tab name kids,ags,y,ags',h=>by
  rw [kR] at h
  rw [wV]
  split at h
  ·injection h with h;injection h with h1 h2;subst h2;omega
  ·split at h
   ·split at h
    ·injection h with h;injection h with h1 h2;subst h2;simp
    ·cases h
   ·split at h
    ·cases h
    ·split at h
     ·injection h with h;injection h with h1 h2;subst h2;omega
     ·split at h
      ·rename_i l hl
       injection h with h;injection h with h1 h2;subst h2
       have:=zV kids ags l.1 l.2 hl
       omega
      ·cases h
theorem zV {names:List (Bs×Bs)}{bd:List X}:∀ (l:List X) (ags:List Ag) (ys:List Ex) (ags':List Ag),dq names bd l ags=.ok (ys,ags') ->ags'.length<=ags.length+pR l
 | [],ags,ys,ags',h=>by
  rw [dq] at h
  injection h with h;injection h with h1 h2;subst h2;omega
 | x::l,ags,ys,ags',h=>by
  rw [dq] at h
  rw [pR]
  split at h
  ·cases h
  ·rename_i y hy
   split at h
   ·rename_i m hm
    injection h with h;injection h with h1 h2;subst h2
    have h1:=rz x ags y.1 y.2 hy
    have h2:=zV l y.2 m.1 m.2 hm
    omega
   ·cases h
end
def G0 {α:Type}(aO:List α):Except Int (List α×List Ag) ->Except Int (List α×List Ag)
 | .ok (l,g)=> .ok (aO++l,g)
 | .error e=> .error e
def Rt {α:Type}(a:α):Except Int (List α×List Ag) ->Except Int (List α×List Ag)
 | .ok (l,g)=> .ok (a::l,g)
 | .error e=> .error e
theorem FY {α:Type}(r:Except Int (List α×List Ag)):G0 [] r=r:=by cases r<;>rfl
theorem BH {α:Type}(aO:List α)(a:α)(r:Except Int (List α×List Ag)):G0 (aO++[a]) r=G0 aO (Rt a r):=by
 cases r with
 | ok l=>simp [G0,Rt]
 | error e=>rfl
theorem CD {names:List (Bs×Bs)}{bd:List X}{x:X}{l:List X}{ags ags':List Ag}{y:Ex}(h:kR names bd x ags=.ok (y,ags')):dq names bd (x::l) ags=Rt y (dq names bd l ags'):=by
 rw [dq,h]
 simp only
 cases dq names bd l ags'<;>rfl
theorem xF {names:List (Bs×Bs)}{bd:List X}{x:X}{l:List X}{ags:List Ag}{e:Int}(h:kR names bd x ags=.error e):dq names bd (x::l) ags=.error e:=by
 rw [dq,h]
def ExG (names:List (Bs×Bs))(keys':List X)(x:X):Prop:=∀ (M:aV) (T:Tm) (sb ab rb:Nat) (lv kv cv kw aw:Value) (b o:Nat) (cs:List Value) (ags:List Ag) (L:LL) (R:RR),Gs M sb ab rb names keys' lv kv cv kw aw ->At M b o cs ->RX M x cs ->Vr M ab L R ags ->ags.length+wV x<=1048576 ->
 ep Tryz.prog 37 [.pointer (some ⟨sb,0,none⟩),.pointer (some ⟨b,o,none⟩)] T M L R (Tv ab WO (kR names keys' x ags)) (rR (kR names keys' x ags))
theorem uF {M:aV}{ab:Nat}{L:LL}{R:RR}{ags:List Ag}(h:Vr M ab L R ags):bd L=[ab]/\R.length=1:=by
 obtain ⟨a,c,xs,rfl,rfl,_⟩:=h
 exact ⟨rfl,rfl⟩
theorem Wm {names:List (Bs×Bs)}{keys':List X}{l:List X}(h:∀ x∈l,ExG names keys' x)(bQ:l.length<=1048576){M:aV}{sb ab rb:Nat}{lv kv cv kw aw sv:Value}{ags:List Ag}{L:LL}{R:RR}(hG:Gs M sb ab rb names keys' lv kv cv kw aw)(hs:RS M (RX M) 7 l sv)(hA:Vr M ab L R ags)(W2:ags.length+pR l<=1048576)(T:Tm):
 ep Tryz.prog 31 [.pointer (some ⟨sb,0,none⟩),sv] T M L R (Tv ab (fun l v M=>RS M (jL M) 6 l v) (dq names keys' l ags)) (rR (dq names keys' l ags)):=by
 obtain ⟨lh,a,c,rfl,jo,_,hg⟩:=aI (by decide) (fun _ _=>dY) hs
 obtain ⟨oI,J4⟩:=uF hA
 refine aT mx KS Tryz.func31 rfl (by rw [ai7];exact Nat.le_of_ble_eq_true rfl) (dr:=aak) (by kernel_rfl) al8 ?_
 intro bN _
 simp +contextual only [go_sem,ak,sevalprocAttr]
 refine bh l.length 9 [(0,.pointer (some ⟨sb,0,none⟩)),(1,.slice a l.length c),(7,.slice a l.length c),(8,.int .i64 (l.length:Int))] (fun i e h=>∃ M' L' R0 R' fv aO agi,bG M M'/\h=⟨T,M',L',R'⟩/\aB M' L'/\e 5=fv/\aO.length=i/\Vr M' ab L' R0 agi/\nK 38 6 (jL M') R0 R' fv aO/\agi.length+pR (l.drop i)<=1048576/\G0 aO (dq names keys' (l.drop i) agi)=dq names keys' l ags) 0 (by omega) (by simp only [aG,go_sem,ak,sevalprocAttr]) (by simp only [go_sem,ak,sevalprocAttr]) ⟨M,L,R,R,_,[],ags,bG.rfl',rfl,bN,by simp only [go_sem,ak,sevalprocAttr],rfl,hA,ew,W2,FY _⟩ ?_
 rintro i e h hi aD ht ⟨M1,L1,R0,R1,fv,aO,agi,aP,rfl,bL,e5,lk,ZG,cy,Zm,ay⟩
 simp only [aG] at aD
 obtain ⟨gB,hr1⟩:=uF ZG
 by_cases aF:i<l.length
 ·obtain ⟨b',o',cs',rfl,cC,eL⟩:=hg i l[i] (List.getElem?_eq_getElem aF)
  have bX:l.drop i=l[i]::l.drop (i+1):=List.drop_eq_getElem_cons aF
  rw [bX] at ay Zm
  rw [pR] at Zm
  simp +contextual only [go_sem,ak,sevalprocAttr,aD,ht,aF]
  refine vw [] (h l[i] (List.getElem_mem aF) M1 T sb ab rb lv kv cv kw aw b' _ cs' agi L1 R0 (hG.ext aP) (cC.ext aP) (br aP _ _ eL) ZG (by omega)) cy ?_ ?_
  ·rintro v M2 L2 R2 R3 aX jY Aj aQ ⟨y,ag2,hy,⟨cs,rfl,yq⟩,HB⟩ kK
   rw [CD hy,<- BH] at ay
   have xN:=rz _ _ _ _ hy
   have dw:=ed yq
   simp only [List.nil_append] at aQ
   simp +contextual only [go_sem,ak,sevalprocAttr,aD,ht,aF,e5,dw]
   intro b6 mB de
   refine dH (Tryz.underlying36) yL yV (eX (bS aX) kK) yq (fun _ _=>ed) (j9 yq) mB (by omega) (by decide) ?_
   intro fv' R' cF
   simp +contextual only [go_sem,ak,sevalprocAttr,aD,ht,aF]
   refine bf (al (aA ⟨l.length - (i+1),by omega,rfl,i+1,by omega,rfl,?_,?_,M2,L2,R2,R',fv',aO++[y],ag2,aP.trans aX,rfl,aQ,?_,?_,HB,cF,by omega,ay⟩))
   ·simp only [aG,aD,go_sem,ak,sevalprocAttr]
   ·simp only [ht,go_sem,ak,sevalprocAttr,aC i (by omega)]
   ·simp only [go_sem,ak,sevalprocAttr]
   ·rw [List.length_append,lk];rfl
  ·rintro ch M2 L2 R2 R3 aX jY Aj ⟨er,he,rfl⟩
   rw [xF he] at ay
   exact GL (L1:=[]) (R1:=R2) aH.rfl' ((jY.trans gB).trans oI.symm) (by omega) ay.symm
 ·have:i=l.length:=by omega
  subst this
  rw [List.drop_length,dq] at ay
  simp +contextual only [go_sem,ak,sevalprocAttr,aD,ht,aF,e5]
  refine cU cy (by omega) (by decide) bL fun M2 aX aQ ff=>aM aH.rfl' (gB.trans oI.symm) (by omega) ⟨aO,agi,?_,?_,Lb aX ZG⟩
  ·rw [<- ay];simp [G0]
  ·exact aN bG.rfl' (bS aX) ff
theorem Nm {x y:X}{M:aV}{b3 b o:Nat}{cs cs':List Value}(h3:M b3=some [.pointer (some ⟨b,o,none⟩)])(ha:At M b o cs)(hx:RX M x cs)(hy:RX M y cs')(T:Tm):
 ep Tryz.prog 77 [.agg ⟨cs'⟩,.pointer (some ⟨b3,0,none⟩)] T M [] [] (fun r _ _ _=>r=.bool (fp x y)) bj:=by
 have hl:=dY hy
 refine aT mx YJ Tryz.func77 rfl (by rw [apC];exact Nat.le_of_ble_eq_true rfl) (dr:=aoy) (by kernel_rfl) atk ?_
 intro bN _
 simp +contextual only [go_sem,ak,sevalprocAttr,hl,aY h3]
 intro b2 T2 eG fu ju
 refine aW Sg fun M1 aP Ft bL=> ?_
 refine am (MC _ x (Nat.le_refl _) M1 T2 b o b2 0 y _ _ (ha.ext aP) (br aP _ _ hx) (wu Ft _ 0 (by simp)) (br aP _ _ hy)) ?_ (fun _ _ _ _ h=>h.elim)
 rintro v M2 aX _ rfl
 simp +contextual only [go_sem,ak,sevalprocAttr]
 exact az fu rfl
theorem exG (names:List (Bs×Bs))(keys':List X)(xp:keys'.length<=1048576):∀ (sz:Nat) (x:X),SizeOf.sizeOf x<=sz ->Ae x ->ExG names keys' x:=by
 intro sz
 induction sz with
 | zero=>intro x hx;cases x;simp at hx
 | succ sz ih=>
  intro x eF dG M T sb ab rb lv kv cv kw aw b o cs ags L R hG ha hx hA W2
  obtain ⟨s,hs,m0,m1,m2,m3,m4,m5,m6⟩:=we hx ha
  obtain ⟨oI,J4⟩:=uF hA
  cases x with | mk k v tab name kids=>
  have xl:=hx
  simp only [X.k,X.v,X.tab,X.name,X.kids] at m0 m1 m2 m3 m4 m5 m6 hs
  obtain ⟨WH,arS,AB⟩:=dG
  have V9:=Ei k
  rw [wV] at W2
  obtain ⟨E,hE⟩:∃ E,E=kR names keys' (.mk k v tab name kids) ags:=⟨_,rfl⟩
  rw [<- hE]
  rw [kR] at hE
  refine aT mx Ld Tryz.func37 rfl (by rw [ag1];exact Nat.le_of_ble_eq_true rfl) (dr:=adW) (by kernel_rfl) akQ ?_
  intro bN _
  simp +contextual only [go_sem,sevalprocAttr,aY hG.s,m0,VZ]
  intro b3 T3 fh bT fD ja b4 T4 iR cN j6 pp
  have hT:=fD.trans j6
  rw [bV,if_pos (by rfl)]
  simp +contextual only [go_sem,sevalprocAttr,aY hG.s,m0,VZ]
  refine gu [(b4,_)] Yb fun M1 aP zc bL=> ?_
  have hG1:=hG.ext aP
  have ha1:=ha.ext aP
  have JB:=br aP _ _ hx
  refine am (Bo (p:=fun y=>fp (.mk k v tab name kids) y) (fa:=[]) (fc:=[.pointer (some ⟨b3,0,none⟩)]) hG1.k YJ (fun y _ M' T' cs lC hc=>Nm (lC _ _ zc) (ha1.ext lC) (br lC _ _ JB) hc T') T4) ?_ (fun _ _ _ _ h=>h.elim)
  rintro r M2 aX aQ rfl
  have gz:=aP.trans aX
  replace zc:=aX _ _ zc
  have hG2:=hG.ext gz
  have OE:=ha.ext gz
  have Dq:=br gz _ _ hx
  have mU:=aN gz (br gz) hs
  have HB:=Lb gz hA
  replace m0:=ax gz m0
  replace m1:=ax gz m1
  replace m2:=ax gz m2
  replace m3:=ax gz m3
  replace m6:=ax gz m6
  simp only [List.cons_append,List.nil_append,aB,cZ] at aQ
  cases hf:keys'.findIdx? (fun y=>fp (.mk k v tab name kids) y) with
  | some j=>
   rw [hf] at hE
   simp only at hE
   simp +contextual only [go_sem,ak,sevalprocAttr,nR,aQ]
   exact al (aM hT rfl rfl ⟨_,_,hE,⟨_,rfl,Hz _ _⟩,HB⟩)
  | none=>
   rw [hf] at hE
   simp only at hE
   by_cases nd:19<=k
   ·rw [if_pos nd] at hE
    simp +contextual only [go_sem,ak,sevalprocAttr,nR,aQ,aY zc,m0,nd]
    refine yB [(b4,_)] [] (aaA hG2 OE Dq ⟨WH,arS,AB⟩ nd HB (by omega) xp T4) ?_ ?_
    ·rintro r M3 L3 R3 bD yi Wi aZ ⟨y,ag3,hy,⟨cs3,rfl,yq⟩,hA3⟩
     obtain ⟨s3,rfl,KR,_⟩:=cg yq
     simp only [List.cons_append,List.nil_append,aB,cZ] at aZ
     simp +contextual only [go_sem,ak,sevalprocAttr,aZ,KR]
     refine al (aM hT yi Wi ⟨y,ag3,?_,⟨_,rfl,yq⟩,hA3⟩)
     rw [hE];exact hy
    ·rintro ch M3 L3 R3 bD yi Wi ⟨er,he,rfl⟩
     exact GL (L1:=[(b4,_)]) (R1:=[]) hT yi Wi (hE.trans he)
   rw [if_neg nd] at hE
   by_cases h2:k=2
   ·subst h2
    rw [if_pos rfl] at hE
    simp +contextual only [go_sem,ak,sevalprocAttr,nR,aQ,aY zc,m0,nd,VZ,aY hG2.s]
    exact aeH (L1:=[(b4,_)]) (R1:=[]) hT rfl rfl hE
   rw [if_neg h2] at hE
   by_cases h1:k=1
   ·subst h1
    rw [if_pos rfl] at hE
    simp +contextual only [go_sem,ak,sevalprocAttr,nR,aQ,aY zc,m0,m1,m2,m3,nd]
    exact al (aM hT rfl rfl ⟨_,_,hE,⟨_,rfl,QG _ v⟩,HB⟩)
   rw [if_neg h1] at hE
   simp +contextual only [go_sem,ak,sevalprocAttr,nR,aQ,aY zc,m0,nd,h1,h2]
   refine eR ⟨T,M2,[],[]⟩ (rd bG.rfl') ?_
   simp +contextual only [go_sem,ak,sevalprocAttr,nR,aQ,aY zc,m0,m6,nd,h1,h2]
   refine yB [(b4,_)] [] (Wm (fun x hx=>ih x (by
    have h1:=List.sizeOf_lt_of_mem hx
    simp only [X.mk.sizeOf_spec] at eF
    omega) (xE AB x hx)) (by omega) hG2 mU HB (by omega) T4) ?_ ?_
   ·rintro r M3 L3 R3 bD yi Wi aZ ⟨l,ag3,hl,ff,hA3⟩
    rw [hl] at hE
    simp only at hE
    obtain ⟨r1,r2⟩:=eV ff
    have r2m:=r2
    simp only [Value.cells] at r2m
    simp only [List.cons_append,List.nil_append,aB,cZ] at aZ
    simp +contextual only [go_sem,ak,sevalprocAttr,aZ,r1,r2,r2m]
    refine ⟨rd bD,al (aM hT yi Wi ⟨.mk k sk 0 l,ag3,hE,⟨_,rfl,gD.2 ⟨r,rfl,ff⟩⟩,hA3⟩)⟩
   ·rintro ch M3 L3 R3 bD yi Wi ⟨er,he,rfl⟩
    rw [he] at hE
    exact GL (L1:=[(b4,_)]) (R1:=[]) hT yi Wi hE
abbrev pO (p:Pl)(s1 xv av s:Value):List Value:=[.int .i64 p.k,.int .i64 p.n,.int .i64 p.x.k,.int .i64 p.x.v.k,.int .i64 p.x.v.n,st p.x.v.t,.int .i64 p.x.c,s1,xv,av,s]
theorem gK {M:aV}{p:Pl}{cs:List Value}(h:j5 M p cs):∃ s1 a1 n1 a2 n2 a3 n3,cs=pO p s1 (.slice a1 p.xs.length n1) (.slice a2 p.ags.length n2) (.slice a3 p.kids.length n3)/\s1.oneCell'=true/\
 RS M (jL M) 6 p.x.kids s1/\RS M (jL M) 6 p.xs (.slice a1 p.xs.length n1)/\RS M (DK M) 7 p.ags (.slice a2 p.ags.length n2)/\RS M (j5 M) 11 p.kids (.slice a3 p.kids.length n3):=by
 obtain ⟨xc,xv,av,s,rfl,h1,h2,h3,h4⟩:=mp.1 h
 obtain ⟨s1,rfl,gH,hk⟩:=cg h1
 obtain ⟨_,a1,n1,rfl,_⟩:=aI (by decide) (fun _ _=>ed) h2
 obtain ⟨_,a2,n2,rfl,_⟩:=aI (by decide) (fun _ _=>ml) h3
 obtain ⟨_,a3,n3,rfl,_⟩:=aI (by decide) (fun _ _=>jI) h4
 exact ⟨s1,a1,n1,a2,n2,a3,n3,rfl,gH,hk,h2,h3,h4⟩
theorem yH {M:aV}{p:Pl}{cs:List Value}(h:j5 M p cs):∀ u∈cs,u.oneCell'=true:=by
 obtain ⟨s1,a1,n1,a2,n2,a3,n3,rfl,h1,_⟩:=gK h
 intro u hu
 simp only [pO,List.mem_cons,List.not_mem_nil,or_false] at hu
 rcases hu with rfl | rfl | rfl | rfl | rfl | rfl | rfl | rfl | rfl | rfl | rfl<;>first | rfl | exact h1
theorem ln {M:aV}{r:Rel}{cs:List Value}(h:qH M r cs):∃ ca cn s1 a1 n1 a2 n2 a3 n3,cs=[st r.name,.slice ca r.cols.length cn,.bool r.view,.int .i64 r.plan.k,.int .i64 r.plan.n,.int .i64 r.plan.x.k,.int .i64 r.plan.x.v.k,.int .i64 r.plan.x.v.n,st r.plan.x.v.t,.int .i64 r.plan.x.c,s1,.slice a1 r.plan.xs.length n1,.slice a2 r.plan.ags.length n2,.slice a3 r.plan.kids.length n3]/\
 s1.oneCell'=true/\RS M uE 2 r.cols (.slice ca r.cols.length cn)/\j5 M r.plan (pO r.plan s1 (.slice a1 r.plan.xs.length n1) (.slice a2 r.plan.ags.length n2) (.slice a3 r.plan.kids.length n3)):=by
 obtain ⟨c,p,h1,h2,rfl⟩:=h
 obtain ⟨_,ca,cn,rfl,_⟩:=aI (by decide) (fun _ _=>ge) h1
 obtain ⟨s1,a1,n1,a2,n2,a3,n3,rfl,gH,_⟩:=gK h2
 exact ⟨ca,cn,s1,a1,n1,a2,n2,a3,n3,rfl,gH,h1,h2⟩
theorem Ou {M:aV}{b o:Nat}{v0 v1 v2 v3 v4 v5 v6 v7 v8 v9 v10 v11 v12 v13:Value}(h:At M b o [v0,v1,v2,v3,v4,v5,v6,v7,v8,v9,v10,v11,v12,v13]):aL M ⟨b,o,none⟩=some v0/\aL M ⟨b,o+1,none⟩=some v1/\aL M ⟨b,o+2,none⟩=some v2/\aL M ⟨b,o+3,none⟩=some v3/\aL M ⟨b,o+4,none⟩=some v4/\aL M ⟨b,o+5,none⟩=some v5/\aL M ⟨b,o+6,none⟩=some v6/\aL M ⟨b,o+7,none⟩=some v7/\aL M ⟨b,o+8,none⟩=some v8/\aL M ⟨b,o+9,none⟩=some v9/\aL M ⟨b,o+10,none⟩=some v10/\aL M ⟨b,o+11,none⟩=some v11/\aL M ⟨b,o+12,none⟩=some v12/\aL M ⟨b,o+13,none⟩=some v13:=by
 obtain ⟨h0,h1,h2,h3,h4,h5,h6,h7,h8,h9,Uw,ZO,gz,Al,_⟩:=h
 exact ⟨h0,h1,h2,h3,h4,h5,h6,h7,h8,h9,Uw,ZO,gz,Al⟩
def aer (p:Pl)(v:Value)(M:aV):Prop:=∃ cs,v=.agg ⟨cs⟩/\j5 M p cs
def ajv (r:Pl×List Co)(v:Value)(M:aV):Prop:=∃ cs cv,v=.tuple ⟨[.agg ⟨cs⟩,cv]⟩/\j5 M r.1 cs/\RS M uE 2 r.2 cv
theorem UI (M:aV):j5 M iZ [.int .i64 0,.int .i64 0,.int .i64 0,.int .i64 0,.int .i64 0,st [],.int .i64 0,.slice none 0 0,.slice none 0 0,.slice none 0 0,.slice none 0 0]:=
 mp.2 ⟨_,_,_,_,rfl,fM M,bR,bR,bR⟩
theorem PG (M:aV)(n:Nat):j5 M (C3 n) [.int .i64 1,.int .i64 (n:Int),.int .i64 0,.int .i64 0,.int .i64 0,st [],.int .i64 0,.slice none 0 0,.slice none 0 0,.slice none 0 0,.slice none 0 0]:=
 mp.2 ⟨_,_,_,_,rfl,fM M,bR,bR,bR⟩
theorem zl (name:Bs)(n:Nat)(r:Rel)(l:List Rel):kN name n (r::l)=if r.name=name then some (if r.view=true then r.plan else C3 n,r.cols) else kN name (if r.view=true then n else n+1) l:=rfl
theorem abU {M:aV}{bb:Nat}{rels:List Rel}{rv:Value}(name:Bs)(hr:RS M (qH M) 14 rels rv)(Uq:M bb=some [rv])(T:Tm):
 ep Tryz.prog 105 [.pointer (some ⟨bb,0,none⟩),st name] T M [] [] (wA ajv (lQ rels name)) (rR (lQ rels name)):=by
 obtain ⟨lh,a,c,rfl,jo,_,hg⟩:=aI (by decide) (fun _ _=>jf) hr
 have aaC:kN name 0 rels=none ->lQ rels name=.error 7:=fun h=>by unfold lQ;rw [h]
 have YH:∀ {x},kN name 0 rels=some x ->lQ rels name=.ok x:=fun h=>by unfold lQ;rw [h]
 refine aT mx adm Tryz.func105 rfl (by rw [agv];exact Nat.le_of_ble_eq_true rfl) (dr:=X8) (by kernel_rfl) ahv ?_
 intro bN _
 simp +contextual only [go_sem,ak,sevalprocAttr,aY Uq]
 intro b4 T4 iR j6 pp
 refine bh rels.length 14 [(1,st name),(4,.pointer (some ⟨b4,0,none⟩)),(12,.slice a rels.length c),(13,.int .i64 (rels.length:Int))] (fun i e h=>∃ T' n,aH T4 T'/\h=⟨T',M,[(b4,[.int .i64 0,.int .i64 0,.int .i64 0,.int .i64 0,.int .i64 0,st [],.int .i64 0,.slice none 0 0,.slice none 0 0,.slice none 0 0,.slice none 0 0])],[]⟩/\e 6=.int .i64 ((n:Nat):Int)/\n<=i/\kN name n (rels.drop i)=kN name 0 rels) 0 (by omega) (by simp only [aG,go_sem,ak,sevalprocAttr]) (by simp only [go_sem,ak,sevalprocAttr]) ⟨T4,0,aH.rfl',rfl,by simp only [go_sem,ak,sevalprocAttr],by omega,rfl⟩ ?_
 rintro i e h hi aD ht ⟨T1,n,jt,rfl,e6,hni,ay⟩
 simp only [aG] at aD
 by_cases aF:i<rels.length
 ·obtain ⟨b',o',cs',rfl,cC,eL⟩:=hg i rels[i] (List.getElem?_eq_getElem aF)
  obtain ⟨ca,cn,s1,a1,n1,a2,n2,a3,n3,rfl,gH,gy,py⟩:=ln eL
  obtain ⟨y0,y1,y2,y3,y4,y5,y6,y7,y8,y9,y10,y11,y12,y13⟩:=Ou cC
  have bX:rels.drop i=rels[i]::rels.drop (i+1):=List.drop_eq_getElem_cons aF
  rw [bX,zl] at ay
  have hT:=j6.trans jt
  by_cases hn:rels[i].name=name
  ·rw [if_pos hn] at ay
   cases hv:rels[i].view with
   | true=>
    rw [hv,if_pos rfl] at ay
    simp +contextual only [go_sem,ak,sevalprocAttr,aD,ht,aF,y0,y1,y2,y3,y4,y5,y6,y7,y8,y9,y10,y11,y12,y13,iR,gH,hn,hv]
    intro b8 T8 sd fj rV z8
    refine eR ⟨T,fun _=>none,[(b8,_)],[]⟩ (gn sd) ?_
    simp +contextual only [go_sem,ak,sevalprocAttr,aD,ht,aF,y0,y1,y2,y3,y4,y5,y6,y7,y8,y9,y10,y11,y12,y13,iR,gH,hn,hv,sd,fj]
    exact ⟨gn sd,az (hT.trans rV) ⟨_,YH ay.symm,_,_,rfl,py,gy⟩⟩
   | false=>
    rw [hv,if_neg (by decide)] at ay
    simp +contextual only [go_sem,ak,sevalprocAttr,aD,ht,aF,y0,y1,y2,y3,y4,y5,y6,y7,y8,y9,y10,y11,y12,y13,iR,gH,hn,hv,e6]
    intro b8 T8 sd fj rV z8
    refine eR ⟨T,fun _=>none,[(b8,_)],[]⟩ (gn sd) ?_
    simp +contextual only [go_sem,ak,sevalprocAttr,aD,ht,aF,y0,y1,y2,y3,y4,y5,y6,y7,y8,y9,y10,y11,y12,y13,iR,gH,hn,hv,sd,fj,e6]
    exact ⟨gn sd,az (hT.trans rV) ⟨_,YH ay.symm,_,_,rfl,PG M n,gy⟩⟩
  ·rw [if_neg hn] at ay
   cases hv:rels[i].view with
   | true=>
    rw [hv,if_pos rfl] at ay
    simp +contextual only [go_sem,ak,sevalprocAttr,aD,ht,aF,y0,y1,y2,y3,y4,y5,y6,y7,y8,y9,y10,y11,y12,y13,iR,gH,hn,hv,e6]
    intro b8 T8 sd fj rV z8
    refine bf (al (aA ⟨rels.length - (i+1),by omega,rfl,i+1,by omega,rfl,?_,?_,T8,n,jt.trans rV,rfl,?_,by omega,ay⟩))
    ·simp only [aG,aD,go_sem,ak,sevalprocAttr]
    ·simp only [ht,go_sem,ak,sevalprocAttr,aC i (by omega)]
    ·simp only [e6,go_sem,ak,sevalprocAttr]
   | false=>
    rw [hv,if_neg (by decide)] at ay
    simp +contextual only [go_sem,ak,sevalprocAttr,aD,ht,aF,y0,y1,y2,y3,y4,y5,y6,y7,y8,y9,y10,y11,y12,y13,iR,gH,hn,hv,e6]
    intro b8 T8 sd fj rV z8
    refine bf (al (aA ⟨rels.length - (i+1),by omega,rfl,i+1,by omega,rfl,?_,?_,T8,n+1,jt.trans rV,rfl,?_,by omega,ay⟩))
    ·simp only [aG,aD,go_sem,ak,sevalprocAttr]
    ·simp only [ht,go_sem,ak,sevalprocAttr,aC i (by omega)]
    ·simp only [e6,go_sem,ak,sevalprocAttr,aC n (by omega)]
 ·have:i=rels.length:=by omega
  subst this
  rw [List.drop_length] at ay
  simp +contextual only [go_sem,ak,sevalprocAttr,aD,ht,aF]
  exact vp (j6.trans jt) (aaC ay.symm)
theorem bK {M:aV}{p:Pl}{cs:List Value}(h:j5 M p cs):∃ c0 c1 c2 c3 c4 c5 c6 c7 c8 c9 c10,cs=[c0,c1,c2,c3,c4,c5,c6,c7,c8,c9,c10]/\c0.oneCell'=true/\c1.oneCell'=true/\c2.oneCell'=true/\c3.oneCell'=true/\c4.oneCell'=true/\c5.oneCell'=true/\c6.oneCell'=true/\c7.oneCell'=true/\c8.oneCell'=true/\c9.oneCell'=true/\c10.oneCell'=true:=by
 obtain ⟨s1,a1,n1,a2,n2,a3,n3,rfl,h1,_⟩:=gK h
 exact ⟨_,_,_,_,_,_,_,_,_,_,_,rfl,rfl,rfl,rfl,rfl,rfl,rfl,rfl,h1,rfl,rfl,rfl⟩
theorem jV {M:aV}{k n:Int}{x:Ex}{xs:List Ex}{ags:List Ag}{kids:List Pl}{s1 xv av s:Value}(hx:jL M x [.int .i64 x.k,.int .i64 x.v.k,.int .i64 x.v.n,st x.v.t,.int .i64 x.c,s1])(h2:RS M (jL M) 6 xs xv)(h3:RS M (DK M) 7 ags av)(h4:RS M (j5 M) 11 kids s):
 j5 M (.mk k n x xs ags kids) [.int .i64 k,.int .i64 n,.int .i64 x.k,.int .i64 x.v.k,.int .i64 x.v.n,st x.v.t,.int .i64 x.c,s1,xv,av,s]:=mp.2 ⟨_,_,_,_,rfl,hx,h2,h3,h4⟩
theorem ly {M:aV}{b:Nat}{p:Pl}{cs:List Value}(hb:M b=some cs)(hp:j5 M p cs):RS M (j5 M) 11 [p] (.slice (some ⟨b,0,none⟩) 1 1):=df (fun _ _=>jI) hb (cP hp) rfl (by decide)
theorem uR {M:aV}{b:Nat}{p q:Pl}{cs ds:List Value}(hb:M b=some (cs++ds))(hp:j5 M p cs)(hq:j5 M q ds):RS M (j5 M) 11 [p,q] (.slice (some ⟨b,0,none⟩) 2 2):=df (fun _ _=>jI) hb ⟨cs,ds,rfl,hp,cP hq⟩ rfl (by decide)
theorem B1 {M:aV}{x:Ex}{p:Pl}{cs ds:List Value}(hx:jL M x cs)(hp:j5 M p ds)(T:Tm):ep Tryz.prog 62 [.agg ⟨cs⟩,.agg ⟨ds⟩] T M [] [] (fun r M' _ _=>aer (eK x p) r M') bj:=by
 obtain ⟨s0,rfl,Ar,oI⟩:=cg hx
 obtain ⟨s1,a1,n1,a2,n2,a3,n3,rfl,gH,_⟩:=gK hp
 refine aT mx ZK Tryz.func62 rfl (by rw [aqb];exact Nat.le_of_ble_eq_true rfl) (dr:=afw) (by kernel_rfl) asR ?_
 intro bN _
 simp +contextual only [go_sem,ak,sevalprocAttr,Ar,gH]
 intro b2 T2 eG fu ju b3 T3 fh bT fD ja b4 T4 iR cN j6 pp b5 jH eO
 exact aJ fun he h5 _=>az ((fu.trans fD).trans j6) ⟨_,rfl,jV (bS he _ _ hx) bR bR (ly h5 (bO he _ _ hp))⟩
theorem DS {M:aV}{p:Pl}{ds:List Value}(hp:j5 M p ds)(T:Tm):ep Tryz.prog 68 [.agg ⟨ds⟩] T M [] [] (fun r M' _ _=>aer (iC 11 p) r M') bj:=by
 obtain ⟨s1,a1,n1,a2,n2,a3,n3,rfl,gH,_⟩:=gK hp
 refine aT mx ZB Tryz.func68 rfl (by rw [asI];exact Nat.le_of_ble_eq_true rfl) (dr:=akG) (by kernel_rfl) asm ?_
 intro bN _
 simp +contextual only [go_sem,ak,sevalprocAttr,gH]
 intro b2 T2 eG fu ju b3 T3 fh bT fD ja b5 jH eO
 exact aJ fun he h5 _=>az (fu.trans fD) ⟨_,rfl,jV (fM _) bR bR (ly h5 (bO he _ _ hp))⟩
theorem VW {M:aV}{op:Int}{p q:Pl}{cs ds:List Value}(hp:j5 M p cs)(hq:j5 M q ds)(T:Tm):ep Tryz.prog 30 [.int .i64 op,.agg ⟨cs⟩,.agg ⟨ds⟩] T M [] [] (fun r M' _ _=>aer (Ab op p q) r M') bj:=by
 obtain ⟨c0,c1,c2,c3,c4,c5,c6,c7,c8,c9,c10,rfl,hc⟩:=bK hp
 obtain ⟨d0,d1,d2,d3,d4,d5,d6,d7,d8,d9,d10,rfl,hd⟩:=bK hq
 unfold Ab
 refine aT mx aj2 Tryz.func30 rfl (by rw [arM];exact Nat.le_of_ble_eq_true rfl) (dr:=ahe) (by kernel_rfl) arR ?_
 intro bN _
 by_cases h1:op=1
 ·subst h1
  simp +contextual only [go_sem,ak,sevalprocAttr,hc,hd]
  intro b2 T2 eG fu ju b3 T3 fh bT fD ja b4 T4 iR cN j6 pp b5 jH eO
  exact aJ fun he h5 _=>az ((fu.trans fD).trans j6) ⟨_,rfl,jV (fM _) bR bR (uR h5 (bO he _ _ hp) (bO he _ _ hq))⟩
 by_cases h2:op=2
 ·subst h2
  simp +contextual only [go_sem,ak,sevalprocAttr,hc,hd]
  intro b2 T2 eG fu ju b3 T3 fh bT fD ja b4 T4 iR cN j6 pp b5 jH eO
  refine aW ZB fun M1 he h5 bL=> ?_
  refine am (DS (jV (k:=8) (n:=0) (fM _) bR bR (uR h5 (bO he _ _ hp) (bO he _ _ hq))) T4) ?_ (fun _ _ _ _ h=>h.elim)
  rintro r M2 aX aQ ⟨c2,rfl,h2⟩
  obtain ⟨e0,e1,e2,e3,e4,e5,e6,e7,e8,e9,e10,rfl,he⟩:=bK h2
  simp only [List.cons_append,List.nil_append,aB,cZ] at aQ
  simp +contextual only [go_sem,ak,sevalprocAttr,aQ,he]
  exact az ((fu.trans fD).trans j6) ⟨_,rfl,h2⟩
 by_cases h4:op=4
 ·subst h4
  simp +contextual only [go_sem,ak,sevalprocAttr,hc,hd]
  intro b2 T2 eG fu ju b3 T3 fh bT fD ja b4 T4 iR cN j6 pp
  refine bq ?_
  simp +contextual only [go_sem,ak,sevalprocAttr,eG,fh,bT,iR,cN]
  refine am (DS hp T4) ?_ (fun _ _ _ _ h=>h.elim)
  rintro r M2 aX aQ ⟨_,rfl,h2⟩
  obtain ⟨e0,e1,e2,e3,e4,e5,e6,e7,e8,e9,e10,rfl,he⟩:=bK h2
  simp only [List.cons_append,List.nil_append,aB,cZ] at aQ
  simp +contextual only [go_sem,ak,sevalprocAttr,aQ,he,bT,cN]
  refine ⟨dK aX ⟨aQ.1,aQ.2.1,aQ.2.2.1,trivial⟩,?_⟩
  refine am (DS (bO aX _ _ hq) T4) ?_ (fun _ _ _ _ h=>h.elim)
  rintro r M3 bD aZ ⟨_,rfl,h3⟩
  obtain ⟨f0,f1,f2,f3,f4,f5,f6,f7,f8,f9,f10,rfl,hf⟩:=bK h3
  simp only [List.cons_append,List.nil_append,aB,cZ] at aZ
  simp +contextual only [go_sem,ak,sevalprocAttr,aZ,he,hf,bT,cN]
  intro b5 jH eO b6 mB de
  refine ef (List.Perm.swap _ _ _) (aJ fun Az h5 _=>aJ fun kC h6 _=>az ((fu.trans fD).trans j6) ⟨_,rfl,jV (fM _) bR bR (ly h6 (jV (fM _) bR bR ?_))⟩)
  exact uR (cs:=[e0,e1,e2,e3,e4,e5,e6,e7,e8,e9,e10]) (ds:=[f0,f1,f2,f3,f4,f5,f6,f7,f8,f9,f10]) (kC _ _ h5) (bO ((bD.trans Az).trans kC) _ _ h2) (bO (Az.trans kC) _ _ h3)
 ·simp +contextual only [go_sem,ak,sevalprocAttr,hc,hd,h1,h2,h4]
  intro b2 T2 eG fu ju b3 T3 fh bT fD ja b4 T4 iR cN j6 pp b5 jH eO b6 mB de
  refine ef (List.Perm.swap _ _ _) (aJ fun Az h5 _=>aJ fun kC h6 _=>az ((fu.trans fD).trans j6) ⟨_,rfl,jV (fM _) bR bR (ly h6 (jV (fM _) bR bR ?_))⟩)
  exact uR (cs:=[c0,c1,c2,c3,c4,c5,c6,c7,c8,c9,c10]) (ds:=[d0,d1,d2,d3,d4,d5,d6,d7,d8,d9,d10]) (kC _ _ h5) (bO (Az.trans kC) _ _ hp) (bO (Az.trans kC) _ _ hq)
end Go.Proofs.YtmccpbcbofhmlaaGreatDoor
namespace Go.Proofs
open Go.Shelf
def Tryz.lays171_ren:Go.Shelf.Ren:=⟨fun | 171=>72 | 243=>112 | 246=>171 | 283=>220 | 284=>221 | 285=>222 | 286=>223 | 129=>265 | 317=>264 | 318=>266 | 319=>267 | 320=>268 | 337=>301 | 338=>302 | n=>n,fun | 3=>3 | 9=>9 | 2=>2 | 4=>4 | 171=>311 | 0=>0 | 53=>312 | 37=>134 | 5=>5 | 173=>315 | 212=>359 | 51=>360 | 20=>20 | 213=>361 | 46=>363 | 232=>410 | 233=>411 | n=>n,fun | 17=>1 | 18=>8 | 19=>9 | n=>n⟩
theorem Tryz.lays171:Go.Proofs.Lays.n171 Tryz.prog Tryz.lays171_ren:={
 mixed:=by kernel_rfl
 f129:=Tryz.func265.trans (congrArg some (by kernel_rfl))
 f171:=Tryz.func72.trans (congrArg some (by kernel_rfl))
 f243:=Tryz.func112.trans (congrArg some (by kernel_rfl))
 f246:=Tryz.func171.trans (congrArg some (by kernel_rfl))
 f283:=Tryz.func220.trans (congrArg some (by kernel_rfl))
 f284:=Tryz.func221.trans (congrArg some (by kernel_rfl))
 f285:=Tryz.func222.trans (congrArg some (by kernel_rfl))
 f286:=Tryz.func223.trans (congrArg some (by kernel_rfl))
 f317:=Tryz.func264.trans (congrArg some (by kernel_rfl))
 f318:=Tryz.func266.trans (congrArg some (by kernel_rfl))
 f319:=Tryz.func267.trans (congrArg some (by kernel_rfl))
 f320:=Tryz.func268.trans (congrArg some (by kernel_rfl))
 f337:=Tryz.func301.trans (congrArg some (by kernel_rfl))
 f338:=Tryz.func302.trans (congrArg some (by kernel_rfl))
 t0:=Tryz.underlying0
 a0:=Tryz.isAgg0
 z0:=Tryz.sizeOf0
 v0:=Tryz.zeroValue0
 t2:=Tryz.underlying2
 a2:=Tryz.isAgg2
 z2:=Tryz.sizeOf2
 v2:=Tryz.zeroValue2
 t3:=Tryz.underlying3
 a3:=Tryz.isAgg3
 z3:=Tryz.sizeOf3
 v3:=Tryz.zeroValue3
 t4:=Tryz.underlying4
 a4:=Tryz.isAgg4
 z4:=Tryz.sizeOf4
 v4:=Tryz.zeroValue4
 t5:=Tryz.underlying5
 a5:=Tryz.isAgg5
 z5:=Tryz.sizeOf5
 v5:=Tryz.zeroValue5
 t9:=Tryz.underlying9
 a9:=Tryz.isAgg9
 z9:=Tryz.sizeOf9
 v9:=Tryz.zeroValue9
 t20:=Tryz.underlying20
 a20:=Tryz.isAgg20
 z20:=Tryz.sizeOf20
 v20:=Tryz.zeroValue20
 t37:=Tryz.underlying134
 a37:=Tryz.isAgg134
 z37:=Tryz.sizeOf134
 v37:=Tryz.zeroValue134
 t46:=Tryz.underlying363
 a46:=Tryz.isAgg363
 z46:=Tryz.sizeOf363
 v46:=Tryz.zeroValue363
 t51:=Tryz.underlying360
 a51:=Tryz.isAgg360
 z51:=Tryz.sizeOf360
 v51:=Tryz.zeroValue360
 t53:=Tryz.underlying312
 a53:=Tryz.isAgg312
 z53:=Tryz.sizeOf312
 v53:=Tryz.zeroValue312
 t171:=Tryz.underlying311
 a171:=Tryz.isAgg311
 z171:=Tryz.sizeOf311
 v171:=Tryz.zeroValue311
 t173:=Tryz.underlying315
 a173:=Tryz.isAgg315
 z173:=Tryz.sizeOf315
 v173:=Tryz.zeroValue315
 t212:=Tryz.underlying359
 a212:=Tryz.isAgg359
 z212:=Tryz.sizeOf359
 v212:=Tryz.zeroValue359
 t213:=Tryz.underlying361
 a213:=Tryz.isAgg361
 z213:=Tryz.sizeOf361
 t232:=Tryz.underlying410
 a232:=Tryz.isAgg410
 z232:=Tryz.sizeOf410
 v232:=Tryz.zeroValue410
 t233:=Tryz.underlying411
 a233:=Tryz.isAgg411
 z233:=Tryz.sizeOf411
 v233:=Tryz.zeroValue411
 g17:=by kernel_rfl
 g18:=by kernel_rfl
 g19:=by kernel_rfl}
open Go.RowKit Go.Sort Go.Lib in
theorem Tryz.strconv_Itoa_small (i:Nat)(hi:i<100)(w:World):
 Calls Tryz.prog 72 #[.int .i64 i] w fun e w'=>e=.returned (.string ⟨(Lib.decDigits i).toArray⟩)/\w'=w:=Any.strconv_Itoa_small Tryz.lays171 i hi w
def Tryz.laysM173_ren:Go.Shelf.Ren:=⟨fun | 173=>135 | 246=>171 | 283=>220 | 284=>221 | 285=>222 | 286=>223 | 129=>265 | 317=>264 | 318=>266 | 319=>267 | 320=>268 | 337=>301 | 338=>302 | n=>n,fun | 2=>2 | 3=>3 | 9=>9 | 4=>4 | 171=>311 | 0=>0 | 53=>312 | 37=>134 | 5=>5 | 173=>315 | 212=>359 | 51=>360 | 20=>20 | 213=>361 | 46=>363 | 232=>410 | 233=>411 | n=>n,fun | 17=>1 | 18=>8 | 19=>9 | n=>n⟩
theorem Tryz.laysM173:Go.Proofs.LaysM.n173 Tryz.prog Tryz.laysM173_ren:={
 mixed:=by kernel_rfl
 f129:=Tryz.func265.trans (congrArg some (by kernel_rfl))
 f173:=Tryz.func135.trans (congrArg some (by kernel_rfl))
 f246:=Tryz.func171.trans (congrArg some (by kernel_rfl))
 f283:=Tryz.func220.trans (congrArg some (by kernel_rfl))
 f284:=Tryz.func221.trans (congrArg some (by kernel_rfl))
 f285:=Tryz.func222.trans (congrArg some (by kernel_rfl))
 f286:=Tryz.func223.trans (congrArg some (by kernel_rfl))
 f317:=Tryz.func264.trans (congrArg some (by kernel_rfl))
 f318:=Tryz.func266.trans (congrArg some (by kernel_rfl))
 f319:=Tryz.func267.trans (congrArg some (by kernel_rfl))
 f320:=Tryz.func268.trans (congrArg some (by kernel_rfl))
 f337:=Tryz.func301.trans (congrArg some (by kernel_rfl))
 f338:=Tryz.func302.trans (congrArg some (by kernel_rfl))
 t0:=Tryz.underlying0
 a0:=Tryz.isAgg0
 z0:=Tryz.sizeOf0
 v0:=Tryz.zeroValue0
 t2:=Tryz.underlying2
 a2:=Tryz.isAgg2
 z2:=Tryz.sizeOf2
 v2:=Tryz.zeroValue2
 t3:=Tryz.underlying3
 a3:=Tryz.isAgg3
 z3:=Tryz.sizeOf3
 v3:=Tryz.zeroValue3
 t4:=Tryz.underlying4
 a4:=Tryz.isAgg4
 z4:=Tryz.sizeOf4
 v4:=Tryz.zeroValue4
 t5:=Tryz.underlying5
 a5:=Tryz.isAgg5
 z5:=Tryz.sizeOf5
 v5:=Tryz.zeroValue5
 t9:=Tryz.underlying9
 a9:=Tryz.isAgg9
 z9:=Tryz.sizeOf9
 v9:=Tryz.zeroValue9
 t20:=Tryz.underlying20
 a20:=Tryz.isAgg20
 z20:=Tryz.sizeOf20
 v20:=Tryz.zeroValue20
 t37:=Tryz.underlying134
 a37:=Tryz.isAgg134
 z37:=Tryz.sizeOf134
 v37:=Tryz.zeroValue134
 t46:=Tryz.underlying363
 a46:=Tryz.isAgg363
 z46:=Tryz.sizeOf363
 v46:=Tryz.zeroValue363
 t51:=Tryz.underlying360
 a51:=Tryz.isAgg360
 z51:=Tryz.sizeOf360
 v51:=Tryz.zeroValue360
 t53:=Tryz.underlying312
 a53:=Tryz.isAgg312
 z53:=Tryz.sizeOf312
 v53:=Tryz.zeroValue312
 t171:=Tryz.underlying311
 a171:=Tryz.isAgg311
 z171:=Tryz.sizeOf311
 v171:=Tryz.zeroValue311
 t173:=Tryz.underlying315
 a173:=Tryz.isAgg315
 z173:=Tryz.sizeOf315
 v173:=Tryz.zeroValue315
 t212:=Tryz.underlying359
 a212:=Tryz.isAgg359
 z212:=Tryz.sizeOf359
 v212:=Tryz.zeroValue359
 t213:=Tryz.underlying361
 a213:=Tryz.isAgg361
 z213:=Tryz.sizeOf361
 t232:=Tryz.underlying410
 a232:=Tryz.isAgg410
 z232:=Tryz.sizeOf410
 v232:=Tryz.zeroValue410
 t233:=Tryz.underlying411
 a233:=Tryz.isAgg411
 z233:=Tryz.sizeOf411
 v233:=Tryz.zeroValue411
 g17:=by kernel_rfl
 g18:=by kernel_rfl
 g19:=by kernel_rfl
 i0:=by kernel_rfl
 i2:=by kernel_rfl
 i3:=by kernel_rfl
 i4:=by kernel_rfl
 i5:=by kernel_rfl
 i9:=by kernel_rfl
 i20:=by kernel_rfl
 i37:=by kernel_rfl
 i46:=by kernel_rfl
 i51:=by kernel_rfl
 i53:=by kernel_rfl
 i171:=by kernel_rfl
 i173:=by kernel_rfl
 i212:=by kernel_rfl
 i232:=by kernel_rfl
 i233:=by kernel_rfl
 m17:=by kernel_rfl
 m18:=by kernel_rfl
 m19:=by kernel_rfl}
def Tryz.lays101_ren:Go.Shelf.Ren:=⟨fun | 101=>134 | 208=>179 | 206=>182 | n=>n,fun | 9=>9 | 4=>4 | 3=>3 | n=>n,fun | n=>n⟩
theorem Tryz.lays101:Go.Proofs.Lays.n101 Tryz.prog Tryz.lays101_ren:={
 mixed:=by kernel_rfl
 f101:=Tryz.func134.trans (congrArg some (by kernel_rfl))
 f206:=Tryz.func182.trans (congrArg some (by kernel_rfl))
 f208:=Tryz.func179.trans (congrArg some (by kernel_rfl))
 t3:=Tryz.underlying3
 a3:=Tryz.isAgg3
 z3:=Tryz.sizeOf3
 v3:=Tryz.zeroValue3
 t4:=Tryz.underlying4
 a4:=Tryz.isAgg4
 z4:=Tryz.sizeOf4
 v4:=Tryz.zeroValue4
 t9:=Tryz.underlying9
 a9:=Tryz.isAgg9
 z9:=Tryz.sizeOf9
 v9:=Tryz.zeroValue9}
open Go.RowKit Go.Lib in
theorem Tryz.strings_TrimPrefix (s p:ByteArray)(w:World):
 Calls Tryz.prog 134 #[.string s,.string p] w fun e w'=>e=.returned (.string ⟨(Lib.trimPrefix s.data.toList p.data.toList).toArray⟩)/\w'=w:=Any.strings_TrimPrefix Tryz.lays101 s p w
def Tryz.lays155_ren:Go.Shelf.Ren:=⟨fun | 155=>133 | 154=>178 | 138=>235 | 165=>236 | 143=>237 | 166=>130 | 197=>238 | 169=>45 | 195=>275 | 218=>276 | 240=>177 | 241=>277 | 219=>278 | 260=>279 | 276=>234 | 277=>303 | 217=>137 | 225=>304 | 224=>305 | 267=>306 | 266=>181 | 314=>319 | n=>n,fun | 9=>9 | 3=>3 | 4=>4 | 72=>136 | 0=>0 | 76=>232 | 105=>332 | 21=>21 | 5=>5 | 70=>133 | 20=>20 | 37=>134 | 75=>230 | 127=>196 | 164=>328 | 46=>363 | 119=>371 | 139=>394 | 138=>393 | 146=>412 | 51=>360 | 80=>142 | n=>n,fun | 1=>0 | 3=>3 | 4=>4 | n=>n⟩
theorem Tryz.lays155:Go.Proofs.Lays.n155 Tryz.prog Tryz.lays155_ren:={
 mixed:=by kernel_rfl
 f138:=Tryz.func235.trans (congrArg some (by kernel_rfl))
 f143:=Tryz.func237.trans (congrArg some (by kernel_rfl))
 f154:=Tryz.func178.trans (congrArg some (by kernel_rfl))
 f155:=Tryz.func133.trans (congrArg some (by kernel_rfl))
 f165:=Tryz.func236.trans (congrArg some (by kernel_rfl))
 f166:=Tryz.func130.trans (congrArg some (by kernel_rfl))
 f169:=Tryz.func45.trans (congrArg some (by kernel_rfl))
 f195:=Tryz.func275.trans (congrArg some (by kernel_rfl))
 f197:=Tryz.func238.trans (congrArg some (by kernel_rfl))
 f217:=Tryz.func137.trans (congrArg some (by kernel_rfl))
 f218:=Tryz.func276.trans (congrArg some (by kernel_rfl))
 f219:=Tryz.func278.trans (congrArg some (by kernel_rfl))
 f224:=Tryz.func305.trans (congrArg some (by kernel_rfl))
 f225:=Tryz.func304.trans (congrArg some (by kernel_rfl))
 f240:=Tryz.func177.trans (congrArg some (by kernel_rfl))
 f241:=Tryz.func277.trans (congrArg some (by kernel_rfl))
 f260:=Tryz.func279.trans (congrArg some (by kernel_rfl))
 f266:=Tryz.func181.trans (congrArg some (by kernel_rfl))
 f267:=Tryz.func306.trans (congrArg some (by kernel_rfl))
 f276:=Tryz.func234.trans (congrArg some (by kernel_rfl))
 f277:=Tryz.func303.trans (congrArg some (by kernel_rfl))
 f314:=Tryz.func319.trans (congrArg some (by kernel_rfl))
 t0:=Tryz.underlying0
 a0:=Tryz.isAgg0
 z0:=Tryz.sizeOf0
 v0:=Tryz.zeroValue0
 t3:=Tryz.underlying3
 a3:=Tryz.isAgg3
 z3:=Tryz.sizeOf3
 v3:=Tryz.zeroValue3
 t4:=Tryz.underlying4
 a4:=Tryz.isAgg4
 z4:=Tryz.sizeOf4
 v4:=Tryz.zeroValue4
 t5:=Tryz.underlying5
 a5:=Tryz.isAgg5
 z5:=Tryz.sizeOf5
 v5:=Tryz.zeroValue5
 t9:=Tryz.underlying9
 a9:=Tryz.isAgg9
 z9:=Tryz.sizeOf9
 v9:=Tryz.zeroValue9
 t20:=Tryz.underlying20
 a20:=Tryz.isAgg20
 z20:=Tryz.sizeOf20
 v20:=Tryz.zeroValue20
 t21:=Tryz.underlying21
 a21:=Tryz.isAgg21
 z21:=Tryz.sizeOf21
 v21:=Tryz.zeroValue21
 t37:=Tryz.underlying134
 a37:=Tryz.isAgg134
 z37:=Tryz.sizeOf134
 v37:=Tryz.zeroValue134
 t46:=Tryz.underlying363
 a46:=Tryz.isAgg363
 z46:=Tryz.sizeOf363
 v46:=Tryz.zeroValue363
 t51:=Tryz.underlying360
 a51:=Tryz.isAgg360
 z51:=Tryz.sizeOf360
 v51:=Tryz.zeroValue360
 t70:=Tryz.underlying133
 a70:=Tryz.isAgg133
 z70:=Tryz.sizeOf133
 v70:=Tryz.zeroValue133
 t72:=Tryz.underlying136
 a72:=Tryz.isAgg136
 z72:=Tryz.sizeOf136
 v72:=Tryz.zeroValue136
 t75:=Tryz.underlying230
 a75:=Tryz.isAgg230
 z75:=Tryz.sizeOf230
 v75:=Tryz.zeroValue230
 t76:=Tryz.underlying232
 a76:=Tryz.isAgg232
 z76:=Tryz.sizeOf232
 v76:=Tryz.zeroValue232
 t105:=Tryz.underlying332
 a105:=Tryz.isAgg332
 z105:=Tryz.sizeOf332
 v105:=Tryz.zeroValue332
 t119:=Tryz.underlying371
 a119:=Tryz.isAgg371
 z119:=Tryz.sizeOf371
 t127:=Tryz.underlying196
 a127:=Tryz.isAgg196
 z127:=Tryz.sizeOf196
 v127:=Tryz.zeroValue196
 t138:=Tryz.underlying393
 a138:=Tryz.isAgg393
 z138:=Tryz.sizeOf393
 v138:=Tryz.zeroValue393
 t139:=Tryz.underlying394
 a139:=Tryz.isAgg394
 z139:=Tryz.sizeOf394
 v139:=Tryz.zeroValue394
 t146:=Tryz.underlying412
 a146:=Tryz.isAgg412
 z146:=Tryz.sizeOf412
 v146:=Tryz.zeroValue412
 t164:=Tryz.underlying328
 a164:=Tryz.isAgg328
 z164:=Tryz.sizeOf328
 v164:=Tryz.zeroValue328
 g1:=by kernel_rfl
 g3:=by kernel_rfl
 g4:=by kernel_rfl}
theorem Tryz.Builder_Extra_155:Builder.Extra Tryz.prog Tryz.lays155_ren:={
 sizeBuilder:=by kernel_rfl
 liesBuilder:=by kernel_rfl
 t5:=Tryz.underlying5
 a5:=Tryz.isAgg5
 z5:=Tryz.sizeOf5
 v5:=Tryz.zeroValue5
 infoByte:=by kernel_rfl
 cellsByte:=by kernel_rfl
 sizeByte:=by kernel_rfl
 neB5:=by decide}
open Go.RowKit Go.Lib in
theorem Tryz.strings_ReplaceAll (s old new:ByteArray)(m:Int)(w:World)(hs:s.size<4294967281)(hm:w.cell? ⟨0,0,none⟩=some (.int .i64 m))(h1:1<=old.size)(bQ:s.size+Lib.countB s old*new.size<=140737488355328):
 Calls Tryz.prog 133 #[.string s,.string old,.string new] w fun e w'=>
  e=.returned (.string ⟨(Lib.replaceAll s.data.toList old.data.toList new.data.toList).toArray⟩)/\Below w.heap.size w w':=Any.strings_ReplaceAll Tryz.lays155 Tryz.Builder_Extra_155 s old new m w hs hm h1 bQ
end Go.Proofs
namespace Go.Proofs.YtmccpbcbofhmlaaGreatDoor
open Go Vc
set_option maxRecDepth 10000
theorem Tc:aK Tryz.prog 72=true:=by kernel_rfl
theorem TC {M:aV}(n:Nat)(hn:n<100)(T:Tm):ep Tryz.prog 72 [.int .i64 (n:Int)] T M [] [] (fun r M' _ _=>r=st (Lib.decDigits n)/\M'=M) bj:=by
 refine pf Tc (fun w hw=>Calls.mono (Tryz.strconv_Itoa_small n hn w) ?_) T
 rintro e w' ⟨rfl,rfl⟩
 exact ⟨rfl,lU.rfl'⟩
theorem NL (i:Nat)(h:i<50):(Lib.decDigits (i+1)).length<=20:=by rw [Lib.decDigits_length];exact Lib.nDigits_le20 _ (by omega)
theorem Iz {M:aV}{x:It}{cs:List Value}(hx:xQ M x cs)(i:Nat)(hi:i<50)(T:Tm):ep Tryz.prog 67 [.agg ⟨cs⟩,.int .i64 (i:Int)] T M [] [] (fun r _ _ _=>r=st (oT x i)) bj:=by
 obtain ⟨aw,rfl,_,h1⟩:=mO hx
 unfold oT
 refine aT mx aoN Tryz.func67 rfl (by rw [aqK];exact Nat.le_of_ble_eq_true rfl) (dr:=anX) (by kernel_rfl) atL ?_
 intro bN _
 have w1:=aC i (by omega)
 by_cases ha:x.as=[]
 ·by_cases hk:x.x.k=2
  ·simp +contextual only [go_sem,ak,sevalprocAttr,h1,ha,hk]
   intro b2 T2 eG fu ju
   exact az fu (by simp)
  ·simp +contextual only [go_sem,ak,sevalprocAttr,h1,ha,hk,w1]
   intro b2 T2 eG fu ju
   refine am (TC (i+1) (by omega) T2) ?_ (fun _ _ _ _ h=>h.elim)
   rintro r M1 aP _ ⟨rfl,rfl⟩
   have hd:(Lib.decDigits (i+1)).length<=20:=NL i hi
   have CF:1+(Lib.decDigits (i+1)).length<=9223372036854775807:=by omega
   simp +contextual only [go_sem,ak,sevalprocAttr,CF,vg]
   exact az fu (by simp [ha,hk])
 ·simp +contextual only [go_sem,ak,sevalprocAttr,h1,ha]
  intro b2 T2 eG fu ju
  exact az fu (by simp [ha])
theorem zd {c:Bs×Bs}{cs}(h:G6 c cs):∀ u∈cs,u.oneCell'=true:=by
 rw [h]
 intro u hu
 simp only [List.mem_cons,List.not_mem_nil,or_false] at hu
 rcases hu with rfl | rfl<;>rfl
theorem Mt {M:aV}{names:List (Bs×Bs)}{lv:Value}(hl:RS M G6 2 names lv)(rP:names=[] ->lv=.slice none 0 0)(bQ:names.length<=16777216)(T:Tm):
 CtN Tryz.prog 107 [lv] T M [] [] 1 (fun v _ _ R'=>∃ a c xs,v=.slice a names.length c/\(names=[] ->v=.slice none 0 0)/\RL G6 names xs/\R'=[(v,104,2,xs)]) bj:=by
 refine KA mx aeh Tryz.func107 rfl (by rw [afA];exact Nat.le_of_ble_eq_true rfl) (dr:=Yg) (by kernel_rfl) alI ?_
 intro bN _
 by_cases h0:names=[]
 ·subst h0
  rw [rP rfl]
  simp +contextual only [go_sem,ak,sevalprocAttr]
  exact iu (aM aH.rfl' rfl rfl ⟨none,0,[],rfl,by simp,rfl,rfl⟩)
 ·obtain ⟨lh,a,c,rfl,jo,Ai,eE⟩:=aI (by decide) (fun _ _=>q7) hl
  obtain ⟨p,hp⟩:∃ p,a=some p:=by
   cases names with
   | nil=>exact (h0 rfl).elim
   | cons x l=>obtain ⟨b,o,cs,h,_⟩:=eE 0 x rfl;exact ⟨_,h⟩
  subst hp
  obtain ⟨ys,hyl,Vm,Ru⟩:=CI (P:=Tryz.prog) Tryz.underlying99 (fun _ _=>q7) (fun _ _ h=>zd h) hl
  have gG:0<names.length:=List.length_pos_iff.2 h0
  simp +contextual only [go_sem,ak,sevalprocAttr]
  intro b hb
  refine qE (n:=0) (xs:=[]) KC K6 (Ru _ _ _) rfl (by omega) (by simp only [List.length_nil];omega) ?_
  intro ra rm rc ky
  have jO:rm=names.length:=by simp only [List.length_nil] at ky;omega
  subst jO
  simp +contextual only [go_sem,ak,sevalprocAttr]
  exact al (aM aH.rfl' rfl rfl ⟨ra,rc,ys,rfl,fun h=>(h0 h).elim,Vm,by simp⟩)
end Go.Proofs.YtmccpbcbofhmlaaGreatDoor
namespace Vc
open Go
theorem QQ {P:Program}{f:FuncId}{args:List Value}{T:Tm}{M:aV}{v:Value}{e:TypeId}{sz:Nat}{xs:List Value}{Q:Value ->Prop}(eF:0<sz)(hb:aK P f=true)
 (hc:∀ M',bG M M' ->Sl M' v sz xs ->ep P f args T M' [] [] (fun r _ _ _=>Q r) bj):
 ep P f args T M [] [(v,e,sz,xs)] (fun r _ _ R'=>Q r/\R'=[(v,e,sz,xs)]) bj:=by
 refine ⟨hb,fun w U hw=> ?_⟩
 obtain ⟨bs,hU,hi⟩:=hw
 obtain ⟨bQ,fg⟩:=hi.rows
 obtain ⟨o,rfl⟩:∃ o,bs=[o]:=by
  cases bs with
  | nil=>simp at bQ
  | cons o bs=>cases bs with
   | nil=>exact ⟨o,rfl⟩
   | cons _ _=>simp at bQ
 have hr:=fg 0 _ _ _ _ o rfl rfl
 obtain ⟨M1,bs1,Uh,he,hs⟩:=hi.freezeR eF
 have jK:bs1=[]:=by simpa using Uh.rows.1.symm
 subst jK
 have hen:Hp ⟨w,M1,bd []++([]:List (Option Nat)).filterMap id⟩ ⟨T,M1,[],[]⟩ w []:=Hp.enter (L1:=[]) (Lp:=[]) (L2:=[]) (R1:=[]) (Rp:=[]) (R2:=[]) (b1:=[]) (bp:=[]) (b2:=[]) Uh rfl rfl
 refine Calls.mono ((hc M1 he hs).2 w _ ⟨[],rfl,hen⟩) ?_
 intro en w' hq
 cases en with
 | returned r=>
  obtain ⟨M2,L2,R2,⟨⟨bs2,h2⟩,hk,hR⟩,hq⟩:=hq
  have hnU:∀ b,b∈U ->M b=none:=fun b hb=>(hi.apart b (by rw [hU] at hb;simpa [bd] using hb)).1
  refine ⟨fun k=>if k∈U then none else M2 k,[],[(v,e,sz,xs)],⟨⟨[o],?_⟩,rfl,rfl⟩,hq,rfl⟩
  exact
  {typ:=fun b t hu=>⟨(h2.typ b t hu).1,fun hb=>by simp at hb⟩
   holds:=fun b c hbc=>by
    have aaB:(if b∈U then none else M2 b)=some c:=hbc
    split at aaB
    ·cases aaB
    ·exact h2.holds b c aaB
   blk:=fun b cs hb=>by cases hb
   rows:=⟨rfl,fun i v' e' sz' xs' o' h3 h4=>by
    cases i with
    | zero=>
     simp only [List.getElem?_cons_zero,Option.some.injEq,Prod.mk.injEq] at h3 h4
     obtain ⟨rfl,rfl,rfl,rfl⟩:=h3
     subst h4
     rcases hr with hr | ⟨g,n,cap,junk,hv,hg,hn,Di,jo,ho⟩ | ⟨h0,_⟩ | ⟨h0,_⟩
     ·exact .inl hr
     ·refine .inr (.inl ⟨g,n,cap,junk,hv,?_,hn,Di,jo,ho⟩)
      rw [h2.old g (Array.getElem?_eq_some_iff.1 hg).1 (by simp [bd])]
      exact hg
     ·omega
     ·omega
    | succ i=>simp at h3⟩
   nodup:=hi.nodup
   apart:=fun b hb=>by
    have h5:=hi.apart b hb
    have hbU:b∈U:=by rw [hU];simpa [bd] using hb
    exact ⟨if_pos hbU,h5.2⟩
   os:=h2.os
   tape:=h2.tape
   output:=h2.output
   size:=h2.size
   old:=fun b hb _=>h2.old b hb (by simp [bd])
   mem:=fun b hb hn=>by
    show (if b∈U then none else M2 b)=M b
    rw [if_neg hn]
    exact (h2.mem b hb (by simp [bd])).trans (Uh.mem b hb hn)
   le:=fun b x hbx=>by
    show (if b∈U then none else M2 b)=some x
    have hbx:M b=some x:=hbx
    rw [if_neg (fun hn=>by rw [hnU b hn] at hbx;cases hbx)]
    exact h2.le b x (he b x hbx)}
 | panicked ch=>
  obtain ⟨_,_,_,_,hq⟩:=hq
  exact hq.elim
 | outgrown=>exact hq.elim
end Vc

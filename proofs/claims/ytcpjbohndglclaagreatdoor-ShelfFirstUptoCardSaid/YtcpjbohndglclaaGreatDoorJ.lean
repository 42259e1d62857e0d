import Derived.Test.YtcpjbohndglclaaGreatDoorI
import Derived.Test.YtcpjbohndglclaaGreatDoorE
import Derived.Test.YtcpjbohndglclaaGreatDoorF
set_option linter.all false
namespace Go.Proofs.YtcpjbohndglclaaGreatDoor
open Go Vc
set_option maxRecDepth 10000
variable {M:aR}
theorem NK {rels:List Rel}{be:Nat}{rv dv kv sv:Value}(hr:RS M (ig M) 14 rels rv)(hv:∀ r∈rels,r.view=false)(bu:rels.length<=1000)(hc:∀ r∈rels,r.cols.length<=1048576)(T:Tm):
 bU Tryz.prog 50 [.pointer (some ⟨be,0,none⟩)] T M [(be,[rv,dv,kv,sv])] [] (fun v M' L' _=>v=.int .i64 0/\L'=[(be,[rv,dv,.slice none 0 0,sv])]) aM:=by
 have uT:=hr
 obtain ⟨fp,a,c,rfl,cX,_,hg⟩:=ax (by decide) (fun _ _=>ii) hr
 refine az F50 rfl rfl ?_
 intro bj iC
 have nb:=bj.1
 simp +contextual only [go_sem,sevalprocAttr,aB nb]
 refine aF (vn uT (by omega) hc _) ?_
 rintro v M1 aW bD j3
 have nb1:=bD.1
 obtain ⟨_,ta,tc,rfl,_⟩:=ax (by decide) (fun _ _=>cQ) j3
 simp +contextual only [go_sem,aD,sevalprocAttr,aB nb1]
 refine aO rels.length 21 [(0,.pointer (some ⟨be,0,none⟩)),(19,.slice a rels.length c),(20,.int .i64 (rels.length:Int))] (fun i e h=>∃ N',aG T N'/\h=⟨N',M1,[(be,[.slice a rels.length c,dv,.slice none 0 0,sv])],[]⟩) 0 (by omega) (by simp only [aE,go_sem,sevalprocAttr]) (by simp only [go_sem,sevalprocAttr]) ⟨T,aG.rfl',rfl⟩ ?_
 rintro i e h hi aI ht ⟨N',km,rfl⟩
 simp only [aE] at aI
 by_cases aL:i<rels.length
 ·obtain ⟨b',o',cs',rfl,bP,eh⟩:=hg i rels[i] (gq aL)
  obtain ⟨ca,cn,s1,a1,n1,a2,n2,a3,n3,rfl,iQ,_⟩:=iz eh
  have y:=C7 (bP.ext aW)
  have ZN:=hv _ (gm aL)
  simp +contextual only [go_sem,aD,sevalprocAttr,aI,ht,aL,y,iQ,ZN]
  intro b5 T5 jz eg ko nq
  refine aS (al (aC ⟨rels.length - (i+1),by omega,rfl,i+1,by omega,rfl,?_,?_,T5,km.trans ko,rfl⟩))
  ·simp only [aE,aI,go_sem,sevalprocAttr]
  ·simp only [go_sem,sevalprocAttr,aA i (by omega)]
 ·have:i=rels.length:=by omega
  subst this
  simp +contextual only [go_sem,aD,sevalprocAttr,aI,ht,aL]
  exact aQ km rfl rfl ⟨rfl,rfl⟩
theorem vB {M:aR}:∀ {A B:LL},mj M (A++B) ->mj M A/\mj M B
 | [],_,h=>⟨trivial,h⟩
 | (_,_)::_,_,h=>⟨⟨h.1,(vB h.2).1⟩,(vB h.2).2⟩
def oI {α:Type}{el:TypeId}{sz:Nat}{r r':α ->List Value ->Prop}{M M':aR}{N:Tm}{l:List α}{lv:Value}{L:LL}(h:eo el sz r M N l lv L)(hr:∀ x cs,r x cs ->r' x cs)(hL:mj M' L)(hb:l.length*sz<=4398046511104):RS M' r' sz l lv:=by
 rcases h with ⟨rfl,rfl,rfl⟩ | ⟨g,cap,cs,junk,rfl,rfl,hN,fq,iY,hc,cX,_⟩
 ·exact bz
 ·refine ⟨hb,cs,.inr ⟨g,0,l.length,cap,rfl,cX,iY,?_⟩,dl hr fq⟩
  exact jJ hL.1 _ 0 (fun i v hv=>by
   rw [Nat.zero_add,List.getElem?_append_left (by exact (List.getElem?_eq_some_iff.1 hv).1)];exact hv)
def lT {M:aR}(r:Rel)(cs:List Value)(h:ig M r cs):∀ u∈cs,u.oneCell'=true:=by
 obtain ⟨c,p,h1,h2,rfl⟩:=h
 obtain ⟨_,a,n,rfl,_⟩:=ax (by decide) (fun _ _=>fZ) h1
 intro u hu
 rcases xY hu with hu | hu
 ·simp only [mn] at hu
  rcases hu with rfl | rfl | rfl<;>rfl
 ·exact yk h2 u hu
def QE {T2:Tm}{h:Sh}{b b':Nat}{cs cs':List Value}(h1:fW ⟨T2,fun _=>none,[(b,cs)],[]⟩ h)(h2:fW ⟨T2,fun _=>none,[(b',cs')],[]⟩ h):fW ⟨T2,fun _=>none,[(b,cs),(b',cs')],[]⟩ h:=by
 intro a v hv
 by_cases hb:a.block=b
 ·exact h1 a v (by simpa [Sh.cell,eE,hb] using hv)
 ·exact h2 a v (by simpa [Sh.cell,eE,hb] using hv)
def jy {T0 T:Tm}{M:aR}{b b':Nat}{cs cs':List Value}{L2:LL}{R:RR}(hb:M b=none)(A1:M b'=none)(cm:¬ b'=b/\¬ b=b')(L1:LL)(h1:bf b L1)(h2:bf b' L1):fW ⟨T0,fun _=>none,[(b,cs),(b',cs')],[]⟩ ⟨T,M,L1++(b,cs)::(b',cs')::L2,R⟩:=by
 refine QE (jX L1 hb h1) ?_
 have:=jX (T0:=T0) (T:=T) (L1++[(b,cs)]) (L2:=L2) (R:=R) (cs:=cs') A1 (show bf b' (L1++[(b,cs)]) by
  clear h1
  induction L1 with
  | nil=>exact ⟨cm,trivial⟩
  | cons p l ih=>obtain ⟨k,c⟩:=p;exact ⟨h2.1,ih h2.2⟩)
 rwa [List.append_assoc] at this
section
variable {α:Type} {el:TypeId} {sz:Nat} {r:α ->List Value ->Prop} {M:aR} {N:Tm} {l:List α} {lv:Value} {L:LL}
def fX {P:Program}{F:Fi}{s:List Vc.Item}{e:dx}{ds:List Deferred}{dd:Option Nat}{R:RR}{t:TypeId}{z:List Value}{b:Nat}{x:α}{cs:List Value}{LA:LL}(L0 L1 L2:LL)(hLA:LA=L0++(b,cs)::(L1++(L++L2)))(aka:bf b L0)(hu:P.underlying t=some (.slice el))(bN:dY P t=some (el,sz,z))(ce:kz P t=true)
 (h:eo el sz r M N l lv L) (hx:r x cs) (bu:cs.length=sz) (dB:∀ u∈cs,u.oneCell'=true) (hb:M b=none) (hl:l.length*sz+sz<=4398046511104) (dK:0<sz)
 (k:∀ N' lv' g cs',aG N N' ->bf g (L0++(b,cs)::(L1++L2)) ->eo el sz r M N' (l++[x]) lv' [(g,cs')] ->cA P F s (cI e dd lv') ds ⟨N',M,(g,cs')::(L0++(b,cs)::(L1++L2)),R⟩ ⟨⟩):om P F t t lv (.slice (some ⟨b,0,none⟩) 1 1) dd s e ds ⟨N,M,LA,R⟩ ⟨⟩:=by
 subst hLA
 have hs:∀ L2:LL,Srcs P t sz ⟨N,M,L0++(b,cs)::L2,R⟩ (.slice (some ⟨b,0,none⟩) 1 1) cs:=fun L2=> .slice _ 1 _ _ _ hu (cF L0 hb aka (by rw [bu,Nat.one_mul])) dB
 have fin:∀ (xs:List Value),RL r l xs ->xs.length=l.length*sz ->MV lv el sz xs ⟨N,M,L0++(b,cs)::(L1++(L++L2)),R⟩ (L0++(b,cs)::(L1++L2)) ->om P F t t lv (.slice (some ⟨b,0,none⟩) 1 1) dd s e ds ⟨N,M,L0++(b,cs)::(L1++(L++L2)),R⟩ ⟨⟩:=by
  intro xs fq iY zw
  refine Dm bN ce zw (hs _) (hs _) (by omega) (by omega) ?_
  intro N' g m c junk km hNg hMg uj hm hmc cX
  have DR:m=(l++[x]).length:=by
   rw [List.length_append];simp only [ln]
   rw [iY,bu] at hm
   exact Nat.eq_of_mul_eq_mul_right dK (by rw [Nat.add_mul];omega)
  subst DR
  exact k N' _ g _ km uj (.inr ⟨g,c,xs++cs,junk,rfl,rfl,hNg,cS fq ⟨cs,[],by simp,hx,rfl⟩,by rw [List.length_append,List.length_append,iY,bu,Nat.add_mul];simp,cX,hmc,hMg⟩)
 rcases h with ⟨rfl,rfl,rfl⟩ | ⟨g,cap,xs,junk,rfl,rfl,hN,fq,iY,hc,cX,_⟩
 ·exact fin [] rfl (by simp) (.inl ⟨rfl,rfl,by simp⟩)
 ·exact fin xs fq iY (.inr ⟨g,_,cap,junk,L0++(b,cs)::L1,L2,rfl,hN,by simp,by simp,iY,hc,cX⟩)
end
theorem kC {b:Nat}:∀ {A B:LL},bf b (A++B) ↔ bf b A/\bf b B
 | [],B=>by simp [bf]
 | (k,c)::A,B=>by simp only [List.cons_append,bf,kC (A:=A),and_assoc]
def iW (s:Stm):Rel:=⟨s.name,s.cols,false,pj⟩
set_option maxHeartbeats 1000000 in
def Cz {F:Fi}{k:List Vc.Item}{e:dx}{ds:List Deferred}{dd:Option Nat}{N:Tm}{Lr Ld:LL}{be sb so bx:Nat}{cx:List Value}{s:Stm}{sc:List Value}{rels:List Rel}{data:List (List Z)}{rv dv kv sv:Value}(bP:At M sb so sc)(hs:mD M s sc)
 (hr:eo 122 14 (ig M) M N rels rv Lr) (hd:eo 32 1 (RD M) M N data dv Ld) (bj:aJ M ((be,[rv,dv,kv,sv])::(Lr++(Ld++[(bx,cx)])))) (iC:iB ((be,[rv,dv,kv,sv])::(Lr++(Ld++[(bx,cx)]))))
 (hn:∀ x∈rels,x.name≠s.name) (hv:∀ x∈rels,x.view=false) (hc:∀ x∈rels,x.cols.length<=1048576) (jo:(s.cols.map (·.name)).Nodup) (cK:s.cols.length<=1000000) (zy:rels.length<16) (AR:data.length<8)
 (hk:∀ N' M' rv' dv' gr cr gd cd,aG N N' ->bm M M' ->eo 122 14 (ig M') M' N' (rels++[iW s]) rv' [(gr,cr)] ->eo 32 1 (RD M') M' N' (data++[[]]) dv' [(gd,cd)] ->aJ M' [(be,[rv',dv',.slice none 0 0,sv]),(gr,cr),(gd,cd),(bx,cx)] ->iB [(be,[rv',dv',.slice none 0 0,sv]),(gr,cr),(gd,cd),(bx,cx)] ->
  cA Tryz.prog F k (cI e dd (.int .i64 0)) ds ⟨N',M',[(be,[rv',dv',.slice none 0 0,sv]),(gr,cr),(gd,cd),(bx,cx)],[]⟩ ⟨⟩):
 dp Tryz.prog F 28 [.pointer (some ⟨be,0,none⟩),.pointer (some ⟨sb,so,none⟩)] dd k e ds ⟨N,M,(be,[rv,dv,kv,sv])::(Lr++(Ld++[(bx,cx)])),[]⟩ ⟨⟩:=by
 obtain ⟨ac,ad,ap,aq,ao,an,ar,ae,au,av,aw,rfl,hco,_⟩:=nM hs
 obtain ⟨y0,y1,y2,_⟩:=bP
 obtain ⟨ra,rc,rfl⟩:=di hr
 obtain ⟨da,dc,rfl⟩:=di hd
 have nb:=bj.1
 have ab:=iC.1
 have abx:¬ be=bx/\¬ bx=be:=(kC.1 (kC.1 ab).2).2.1
 refine Ah F28 rfl rfl ?_
 simp +contextual only [go_sem,sevalprocAttr]
 refine aT ?_
 simp +contextual only [go_sem,sevalprocAttr,y1,y2]
 intro b5 T5 jz eg ko nq
 refine ⟨dJ bm.rfl' bj eg,?_⟩
 refine cW F49.bd (fun M' he hL _=>yL (r:=iW s) hL.2.1 (oI hr (dV he) (vB hL.2.2).1 (by omega)) ⟨_,_,aH he (fun _ _ h=>h) hco,pH,rfl⟩ hn jo cK zy AR _) ?_
 simp +contextual only [go_sem,aD,sevalprocAttr]
 refine l8 (fun e' ds h=>ds=[]/\e' 0=.pointer (some ⟨be,0,none⟩)/\∃ N' rv' dv' gr cr gd cd L',aG T5 N'/\eo 122 14 (ig M) M N' (rels++[iW s]) rv' [(gr,cr)]/\eo 32 1 (RD M) M N' (data++[[]]) dv' [(gd,cd)]/\h=⟨N',M,L',[]⟩/\(be,[rv',dv',kv,sv])∈L'/\(gr,cr)∈L'/\(gd,cd)∈L'/\(bx,cx)∈L'/\gr≠be/\gd≠be/\gr≠gd/\gr≠bx/\gd≠bx) ?_ ?_
 ·intro S' fh
  refine eG ⟨T5,fun _=>none,[(b5,_),(be,_)],[]⟩ (jy jz nb ⟨eg.1.2,eg.1.1⟩ [] trivial trivial) ?_
  simp +contextual only [go_sem,sevalprocAttr,eg.1]
  have amP:=eg.1
  have ur:¬ be=b5/\¬ b5=be:=⟨eg.1.2,eg.1.1⟩
  have hR:ig M (iW s) [.string (bs s.name),.slice ac s.cols.length ad,.bool false,.int .i64 0,.int .i64 0,.int .i64 0,.int .i64 0,.int .i64 0,.string (bs []),.int .i64 0,.slice none 0 0,.slice none 0 0,.slice none 0 0,.slice none 0 0]:=⟨_,_,hco,pH,rfl⟩
  have hZ:RD M [] [.slice none 0 0]:=⟨_,rfl,bz⟩
  constructor
  ·intro b29 XB im
   refine ⟨jy jz nb ur [(b29,_)] (by simp [bf,im]) (by simp [bf,im]),?_⟩
   constructor
   ·refine Bt (L1:=[(b5,_),(be,_)]) (Tryz.underlying86) Ap zZ (x:=iW s) (ew ko hr) hR rfl (lT _ _ hR) XB (by omega) (by decide) ?_
    intro N4 lv' gr cr B4 eW rW
    simp only [bf,kC,nn] at eW
    obtain ⟨la,lc,rfl⟩:=di rW
    simp +contextual only [go_sem,sevalprocAttr]
    refine ⟨jy jz nb ur [(gr,_),(b29,_)] (by simp [bf,im,eW]) (by simp [bf,im,eW]),?_⟩
    intro b35 Sz iH
    refine ⟨jy jz nb ur [(b35,_),(gr,_),(b29,_)] (by simp [bf,im,eW,iH]) (by simp [bf,im,eW,iH]),?_⟩
    refine fX [] [(gr,_),(b29,_),(b5,_),(be,_)] [(bx,cx)] rfl trivial (Tryz.underlying87) wW wS (x:=([]:List Z)) (ew (ko.trans B4) hd) hZ rfl (by simp [Value.oneCell']) Sz (by omega) (by decide) ?_
    intro N5 dv' gd cd sO mh Cb
    simp only [bf,nn] at mh
    obtain ⟨wa,wc,rfl⟩:=di Cb
    simp +contextual only [go_sem,sevalprocAttr,im,eW,iH,mh,ur]
    refine ⟨jy jz nb ur [(gd,_),(b35,_),(gr,_),(b29,_)] (by simp [bf,im,eW,iH,mh]) (by simp [bf,im,eW,iH,mh]),?_⟩
    exact fh _ _ _ ⟨rfl,by simp only [go_sem,sevalprocAttr],N5,_,_,gr,cr,gd,cd,_,B4.trans sO,ew sO rW,Cb,rfl,by simp,by simp,by simp,by simp,by simp [eW],by simp [mh],by simp [mh],by simp [eW],by simp [mh]⟩
   ·intro b35 Sz iH
    refine ⟨jy jz nb ur [(b35,_),(b29,_)] (by simp [bf,im,iH]) (by simp [bf,im,iH]),?_⟩
    refine fX [(b35,_)] [(b5,_),(be,_)] (Ld++[(bx,cx)]) rfl (by simp [bf,iH]) (Tryz.underlying86) Ap zZ (x:=iW s) (ew ko hr) hR rfl (lT _ _ hR) XB (by omega) (by decide) ?_
    intro N4 lv' gr cr B4 eW rW
    simp only [bf,kC,nn] at eW
    obtain ⟨la,lc,rfl⟩:=di rW
    simp +contextual only [go_sem,sevalprocAttr]
    refine ⟨jy jz nb ur [(gr,_),(b35,_),(b29,_)] (by simp [bf,im,eW,iH]) (by simp [bf,im,eW,iH]),?_⟩
    refine fX [(gr,_)] [(b29,_),(b5,_),(be,_)] [(bx,cx)] rfl (by simp [bf,eW]) (Tryz.underlying87) wW wS (x:=([]:List Z)) (ew (ko.trans B4) hd) hZ rfl (by simp [Value.oneCell']) Sz (by omega) (by decide) ?_
    intro N5 dv' gd cd sO mh Cb
    simp only [bf,nn] at mh
    obtain ⟨wa,wc,rfl⟩:=di Cb
    simp +contextual only [go_sem,sevalprocAttr,im,eW,iH,mh,ur]
    exact ⟨jy jz nb ur [(gd,_),(gr,_),(b35,_),(b29,_)] (by simp [bf,im,eW,iH,mh]) (by simp [bf,im,eW,iH,mh]),fh _ _ _ ⟨rfl,by simp only [go_sem,sevalprocAttr],N5,_,_,gr,cr,gd,cd,_,B4.trans sO,ew sO rW,Cb,rfl,by simp,by simp,by simp,by simp,by simp [eW],by simp [mh],by simp [mh],by simp [eW],by simp [mh]⟩⟩
  ·intro b35 Sz iH
   refine ⟨jy jz nb ur [(b35,_)] (by simp [bf,iH]) (by simp [bf,iH]),?_⟩
   intro b29 XB im
   refine ⟨jy jz nb ur [(b29,_),(b35,_)] (by simp [bf,im,iH]) (by simp [bf,im,iH]),?_⟩
   refine fX [] [(b35,_),(b5,_),(be,_)] (Ld++[(bx,cx)]) rfl trivial (Tryz.underlying86) Ap zZ (x:=iW s) (ew ko hr) hR rfl (lT _ _ hR) XB (by omega) (by decide) ?_
   intro N4 lv' gr cr B4 eW rW
   simp only [bf,kC,nn] at eW
   obtain ⟨la,lc,rfl⟩:=di rW
   simp +contextual only [go_sem,sevalprocAttr]
   refine ⟨jy jz nb ur [(gr,_),(b29,_),(b35,_)] (by simp [bf,im,eW,iH]) (by simp [bf,im,eW,iH]),?_⟩
   refine fX [(gr,_),(b29,_)] [(b5,_),(be,_)] [(bx,cx)] rfl (by simp [bf,eW,im]) (Tryz.underlying87) wW wS (x:=([]:List Z)) (ew (ko.trans B4) hd) hZ rfl (by simp [Value.oneCell']) Sz (by omega) (by decide) ?_
   intro N5 dv' gd cd sO mh Cb
   simp only [bf,nn] at mh
   obtain ⟨wa,wc,rfl⟩:=di Cb
   simp +contextual only [go_sem,sevalprocAttr,im,eW,iH,mh,ur]
   exact ⟨jy jz nb ur [(gd,_),(gr,_),(b29,_),(b35,_)] (by simp [bf,im,eW,iH,mh]) (by simp [bf,im,eW,iH,mh]),fh _ _ _ ⟨rfl,by simp only [go_sem,sevalprocAttr],N5,_,_,gr,cr,gd,cd,_,B4.trans sO,ew sO rW,Cb,rfl,by simp,by simp,by simp,by simp,by simp [eW],by simp [mh],by simp [mh],by simp [eW],by simp [mh]⟩⟩
 rintro e' ds' h' ⟨rfl,e0,N',rv',dv',gr,cr,gd,cd,L',km,rW,Cb,rfl,m1,m2,m3,m4,n1,n2,n3,n4,n5⟩
 simp +contextual only [go_sem,sevalprocAttr,e0]
 refine cD (k:=fun h'=>h'=⟨N',M,[(be,[rv',dv',kv,sv]),(gr,cr),(gd,cd),(bx,cx)],[]⟩) (jK (L2:=[(be,[rv',dv',kv,sv]),(gr,cr),(gd,cd),(bx,cx)]) (by simp [m1,m2,m3,m4]) (by simp [aV,n3,n4,n5,Ne.symm n1,Ne.symm n2,abx]) (aC rfl)) ?_ F50.bd
 rintro h' rfl
 have g1:=jA rW
 have g2:=jA Cb
 have hnx:=(jM (jM bj.2)).1
 have FY:aJ M [(gr,cr),(gd,cd),(bx,cx)]:=⟨g1.1,g2.1,hnx,trivial⟩
 have hE:=gG FY
 refine kK [(be,[rv',dv',kv,sv])] [(gr,cr),(gd,cd),(bx,cx)] (Bm _) (NK (oI rW (dV hE) ⟨by simp [eM,aR.add],trivial⟩ (by rw [List.length_append];simp only [ln];omega)) (fun r xW=> ?_) (by rw [List.length_append];simp only [ln];omega) (fun r xW=> ?_) _) ?_
 ·rcases xY xW with h | h
  ·exact hv r h
  ·rw [List.mem_singleton.1 h];rfl
 ·rcases xY xW with h | h
  ·exact hc r h
  ·rw [List.mem_singleton.1 h];exact Nat.le_trans cK (by decide)
 rintro r M2 L2 bh lr aZ ⟨rfl,rfl⟩
 have vw:=lX FY bh
 simp +contextual only [go_sem,sevalprocAttr]
 exact hk _ _ _ _ _ _ _ _ (ko.trans km) vw (fC (dV vw) ⟨aZ.2.1,trivial⟩ rW) (fC (dD vw) ⟨aZ.2.2.1,trivial⟩ Cb) aZ ⟨⟨⟨Ne.symm n1,n1⟩,⟨Ne.symm n2,n2⟩,abx,trivial⟩,⟨⟨n3,Ne.symm n3⟩,⟨n4,Ne.symm n4⟩,trivial⟩,⟨⟨n5,Ne.symm n5⟩,trivial⟩,trivial,trivial⟩
mutual
def gEx:Ex ->Bool
 | .mk _ _ _ kids=>DI kids
def DI:List Ex ->Bool
 | []=>true
 | x::l=>(x.k !=0 && gEx x) && DI l
end
def aeO (l:List Ag):Bool:=l.all fun a=>a.k !=0 && gEx a.x
mutual
def gPl:Pl ->Bool
 | .mk _ _ x xs ags kids=>(gEx x && DI xs) && (aeO ags && Sk kids)
def Sk:List Pl ->Bool
 | []=>true
 | p::l=>(p.k !=0 && gPl p) && Sk l
end
section
variable {M2:aR} {Lp:LL}
theorem KC {M:aR}{x:Ex}{cs:List Value}(h:hY M x cs):cs[0]?=some (.int .i64 x.k):=by
 obtain ⟨s,rfl,_⟩:=iZ.1 h;rfl
mutual
theorem xE (hz:my M2 Lp):∀ (x:Ex) (cs:List Value),gEx x=true ->hY M2 x cs ->hY (ke M2 Lp) x cs
 | .mk k v c kids,cs,hg,⟨s,xs,h1,h2,h3,h4⟩=>⟨s,xs,h1,h2,Il hz (fun h0=>by
  cases kids with
  | nil=>exact absurd h4 h0
  | cons x l=>
   obtain ⟨cs,rest,rfl,h5,_⟩:=h4
   rw [gEx,DI] at hg
   simp only [Bool.and_eq_true,bne_iff_ne,ne_eq] at hg
   have:=KC h5
   exact ⟨0,.i64,x.k,by rw [List.getElem?_append_left (List.getElem?_eq_some_iff.1 this).1];exact this,hg.1.1⟩) h3,EJ hz kids xs hg h4⟩
theorem EJ (hz:my M2 Lp):∀ (l:List Ex) (xs:List Value),DI l=true ->Dc M2 l xs ->Dc (ke M2 Lp) l xs
 | [],_,_,h=>h
 | x::l,xs,hg,⟨cs,rest,h1,h2,h3⟩=>by
  rw [DI] at hg
  simp only [Bool.and_eq_true] at hg
  exact ⟨cs,rest,h1,xE hz x cs hg.1.2 h2,EJ hz l rest hg.2 h3⟩
end
theorem zf:∀ {l:List Ex},DI l=true ->∀ x∈l,x.k≠0/\gEx x=true
 | y::l,h,x,hx=>by
  rw [DI] at h
  simp only [Bool.and_eq_true,bne_iff_ne,ne_eq] at h
  rcases lQ hx with rfl | hx
  ·exact h.1
  ·exact zf h.2 x hx
def Wc (hz:my M2 Lp){l:List Ex}{v:Value}(hg:DI l=true)(h:RS M2 (hY M2) 6 l v):RS (ke M2 Lp) (hY (ke M2 Lp)) 6 l v:=
 uX hz (fun x hx cs h=>xE hz x cs (zf hg x hx).2 h) (fun x hx cs h=>⟨0,.i64,x.k,KC h,(zf hg x hx).1⟩) h
def Qb (hz:my M2 Lp){l:List Ag}{v:Value}(hg:aeO l=true)(h:RS M2 (AV M2) 7 l v):RS (ke M2 Lp) (AV (ke M2 Lp)) 7 l v:=by
 have hm:∀ a∈l,a.k≠0/\gEx a.x=true:=fun a ha=>by
  have:=List.all_eq_true.1 hg a ha
  simpa using this
 exact uX hz (fun a ha cs h=>by obtain ⟨c,h1,h2⟩:=h;exact ⟨c,xE hz a.x c (hm a ha).2 h1,h2⟩) (fun a ha cs h=>by obtain ⟨c,h1,rfl⟩:=h;exact ⟨0,.i64,a.k,rfl,(hm a ha).1⟩) h
theorem V8 {M:aR}{p:Pl}{cs:List Value}(h:gP M p cs):cs[0]?=some (.int .i64 p.k):=by
 obtain ⟨xc,xv,av,s,rfl,_⟩:=jV.1 h;rfl
mutual
theorem KH (hz:my M2 Lp):∀ (p:Pl) (cs:List Value),gPl p=true ->gP M2 p cs ->gP (ke M2 Lp) p cs
 | .mk k n x xs ags kids,cs,hg,⟨xc,xv,av,s,ys,h1,h2,h3,h4,h5,h6,h7⟩=>by
  rw [gPl] at hg
  simp only [Bool.and_eq_true] at hg
  refine ⟨xc,xv,av,s,ys,h1,xE hz x xc hg.1.1 h2,Wc hz hg.1.2 h3,Qb hz hg.2.1 h4,h5,Il hz (fun h0=> ?_) h6,EP hz kids ys hg.2.2 h7⟩
  cases kids with
  | nil=>exact absurd h7 h0
  | cons q l=>
   obtain ⟨cs,rest,rfl,h8,_⟩:=h7
   have xh:=hg.2.2
   rw [Sk] at xh
   simp only [Bool.and_eq_true,bne_iff_ne,ne_eq] at xh
   have:=V8 h8
   exact ⟨0,.i64,q.k,by rw [List.getElem?_append_left (List.getElem?_eq_some_iff.1 this).1];exact this,xh.1.1⟩
theorem EP (hz:my M2 Lp):∀ (l:List Pl) (xs:List Value),Sk l=true ->De M2 l xs ->De (ke M2 Lp) l xs
 | [],_,_,h=>h
 | p::l,xs,hg,⟨cs,rest,h1,h2,h3⟩=>by
  rw [Sk] at hg
  simp only [Bool.and_eq_true] at hg
  exact ⟨cs,rest,h1,KH hz p cs hg.1.2 h2,EP hz l rest hg.2 h3⟩
end
def Qd (hz:my M2 Lp){l:List Co}{v:Value}(hg:∀ c∈l,c.ty≠0)(h:RS M2 tF 2 l v):RS (ke M2 Lp) tF 2 l v:=
 uX hz (fun _ _ _ h=>h) (fun c hc cs h=>⟨1,.i64,c.ty,by obtain rfl:=tG h;rfl,hg c hc⟩) h
theorem Wb (hz:my M2 Lp){l:List (List Int)}{v:Value}(hg:∀ t∈l,∀ k∈t,k≠0)(hf:∀ b o n c,v=.slice (some ⟨b,o,none⟩) n c ->b∉aV Lp)(h:RS M2 (lZ M2) 1 l v):RS (ke M2 Lp) (lZ (ke M2 Lp)) 1 l v:=by
 obtain ⟨hb,xs,iR,zy⟩:=h
 refine ⟨hb,xs,?_,tI (fun t ht cs h=>by obtain ⟨s,h1,h2⟩:=h;exact ⟨s,h1,uX hz (fun _ _ _ h=>h) (fun k hk cs h=>⟨0,.i64,k,by unfold RI at h;subst h;rfl,hg t ht k hk⟩) h2⟩) zy⟩
 rcases iR with h | ⟨b,o,n,c,rfl,h2,h3,h4⟩
 ·exact .inl h
 ·refine .inr ⟨b,o,n,c,rfl,h2,h3,xD ?_ h4⟩
  show (if b∈aV Lp then none else M2 b)=_
  rw [if_neg (hf b o n c rfl)]
theorem E1 {M:aR}:∀ {L:LL} {b:Nat} {c:List Value},(aV L).Nodup ->(b,c)∈L ->eM M L b=some c
 | (k,x)::l,b,c,hn,h=>by
  simp only [aV,List.map_cons,List.nodup_cons] at hn
  show (if b=k then some x else eM M l b)=some c
  rcases lQ h with h | h
  ·injection h with h1 h2;subst h1 h2;rw [if_pos rfl]
  ·have fp:b≠k:=fun he=>hn.1 (by rw [<- he];exact List.mem_map.2 ⟨(b,c),h,rfl⟩)
   rw [if_neg fp,E1 hn.2 h]
def C4 (L:LL):Prop:=∀ b c,(b,c)∈L ->∀ u∈c,ni u
def Av {M:aR}(hn:(aV Lp).Nodup)(hz:C4 Lp)(he:bm (eM M Lp) M2):my M2 Lp:=fun b c h=>⟨he _ _ (E1 hn h),hz b c h⟩
end
section
variable {F:Fi} {k:List Vc.Item} {e:dx} {ds:List Deferred} {dd:Option Nat} {N:Tm} {M:aR} {L Lp:LL}
def Pd {rels:List Rel}{rv:Value}(hp:Db Lp L)(hn:(aV Lp).Nodup)(hz:C4 Lp)(bj:aJ M L)(hr:RS (eM M Lp) (ig (eM M Lp)) 14 rels rv)(bu:rels.length<=1048576)(eD:∀ r∈rels,r.cols.length<=1048576/\∀ c∈r.cols,c.ty≠0)
 (hk:∀ M' tv,bm M M' ->aJ M' L ->RS M' (lZ M') 1 (bO rels) tv ->cA Tryz.prog F k (cI e dd tv) ds ⟨N,M',L,[]⟩ ⟨⟩):dp Tryz.prog F 53 [rv] dd k e ds ⟨N,M,L,[]⟩ ⟨⟩:=by
 refine kK [] Lp hp (yJ hr bu (fun r h=>(eD r h).1) _) ?_
 rintro r M2 L2 bh lr aZ ⟨cH,hf⟩
 obtain rfl:L2=[]:=by simpa [aV] using lr
 refine hk _ _ (lX (sZ (nJ hp) bj) bh) aZ (Wb (Av hn hz bh) ?_ (sN hf) cH)
 intro t ht x hx
 unfold bO at ht
 obtain ⟨r',xW,rfl⟩:=List.mem_map.1 ht
 obtain ⟨c,hc,rfl⟩:=List.mem_map.1 hx
 exact (eD r' (List.mem_filter.1 xW).1).2 c hc
def G3 {rels:List Rel}{rv:Value}{q:Q}{qc:List Value}{w:Pl×List Co}(hp:Db Lp L)(hn:(aV Lp).Nodup)(hz:C4 Lp)(bj:aJ M L)(hr:RS (eM M Lp) (ig (eM M Lp)) 14 rels rv)(hq:RQ M q qc)(bu:rels.length<=1048576)(eD:∀ r∈rels,r.cols.length<=1048576)(ce:∀ s∈q.parts,OkSe s)
 (af9:q.parts.length<=q.ops.length+1) (tA:q.parts.length<=1048576) (XO:0<=q.limit ->q.order.length<=1048576/\∀ x∈q.order,GB x) (acu:∀ r t,jF rels q=.ok r ->fH (bO rels) r.1=.ok t ->t.length<=r.2.length) (hb:iN rels q=.ok w) (hgp:gPl w.1=true) (HV:∀ c∈w.2,c.ty≠0)
 (hk:∀ M' cs cv,bm M M' ->aJ M' L ->gP M' w.1 cs ->RS M' tF 2 w.2 cv ->cA Tryz.prog F k (cI e dd (.tuple ⟨[.agg ⟨cs⟩,cv,.int .i64 0]⟩)) ds ⟨N,M',L,[]⟩ ⟨⟩):dp Tryz.prog F 51 [rv,.agg ⟨qc⟩] dd k e ds ⟨N,M,L,[]⟩ ⟨⟩:=by
 have FY:=sZ (nJ hp) bj
 refine kK [] Lp hp (vo hr (Ia (gG FY) _ _ hq) bu eD ce af9 tA XO (fun e' he=> ?_) acu _) ?_
 ·unfold iN at hb;rw [he] at hb;cases hb
 rintro r M2 L2 bh lr aZ iP
 obtain rfl:L2=[]:=by simpa [aV] using lr
 unfold nA at iP
 rw [hb] at iP
 obtain ⟨cs,cv,rfl,h1,h2⟩:=iP
 have hs:=Av hn hz bh
 exact hk _ _ _ (lX FY bh) aZ (KH hs _ _ hgp h1) (Qd hs HV h2)
def ac1 {aY:List (List Int)}{p:Pl}{pc:List Value}{data:List (List Z)}{tv dv:Value}{c:List Int}{z0:List Z}(hp:Db Lp L)(hn:(aV Lp).Nodup)(hz:C4 Lp)(bj:aJ M L)(nG:RS M (lZ M) 1 aY tv)(tA:gP M p pc)(hd:RS (eM M Lp) (RD (eM M Lp)) 1 data dv)(rF:fH aY p=.ok c)(Zt:BS aY p data=.ok z0)(mm:wX p=true)(hg:mT z0)
 (hk:∀ N' M' bv zv,aG N N' ->bm M M' ->M' bv=none ->bf bv L ->aJ M' L ->RS M' (RZ M') 2 z0 zv ->cA Tryz.prog F k (cI e dd (.tuple ⟨[.pointer (some ⟨bv,0,none⟩),.int .i64 0]⟩)) ds ⟨N',M',(bv,iy tv pc dv zv)::L,[]⟩ ⟨⟩):dp Tryz.prog F 52 [tv,.agg ⟨pc⟩,dv] dd k e ds ⟨N,M,L,[]⟩ ⟨⟩:=by
 have alv:=tA
 obtain ⟨s1,a1,n1,a2,n2,a3,n3,rfl,ox,_⟩:=dj tA
 obtain ⟨_,da,dc,rfl,_⟩:=ax (by decide) (fun _ _=>gW) hd
 obtain ⟨_,ta,tc,rfl,_⟩:=ax (by decide) (fun _ _=>cQ) nG
 unfold O3 iy at*
 simp only [List.nil_append,List.cons_append] at*
 refine Ah F52 rfl rfl ?_
 simp +contextual only [go_sem,sevalprocAttr]
 intro b4 T4 eH em fE iJ
 refine dh F95.bd fun M1 aW h4 bD=> ?_
 have FY:=sZ (nJ hp) bD
 have hE:=gG FY
 refine kK [] Lp hp (WF (aH (aW.trans hE) (cO (aW.trans hE)) nG) (bA (aW.trans hE) _ _ alv) (aH (jY aW _) (dD (jY aW _)) hd) (fun e' he=>by rw [rF] at he;cases he) mm _) ?_
 rintro r M2 L2 bh lr aZ hv
 obtain rfl:L2=[]:=by simpa [aV] using lr
 rw [Zt] at hv
 obtain ⟨s,rfl,hs⟩:=hv
 have hs:=Dg (Av hn hz bh) hg hs
 obtain ⟨_,sa,sc,rfl,_⟩:=ax (by decide) (fun _ _=>bi) hs
 have vw:=lX FY bh
 have y:=jJ (vw _ _ h4) _ 0 (fun i v h=>by rw [Nat.zero_add];exact h)
 obtain ⟨y0,y1,y2,y3,y4,y5,y6,y7,y8,y9,y10,_⟩:=y
 simp +contextual only [go_sem,aD,sevalprocAttr,y0,y1,y2,y3,y4,y5,y6,y7,y8,y9,y10]
 intro bv T5 jz eg ko nq
 exact hk _ _ _ _ (fE.trans ko) (aW.trans vw) jz eg aZ hs
end
theorem H8 {α:Type}{r:α ->List Value ->Prop}{P:Value ->Prop}:∀ {l:List α} {xs:List Value},(∀ x∈l,∀ cs,r x cs ->∀ u∈cs,P u) ->RL r l xs ->∀ u∈xs,P u
 | [],_,_,h,u,hu=>by have h:_=[]:=h;rw [h] at hu;cases hu
 | x::l,_,hp,⟨cs,rest,h1,h2,h3⟩,u,hu=>by
  subst h1
  rcases xY hu with hu | hu
  ·exact hp x (by simp) cs h2 u hu
  ·exact H8 (fun y hy=>hp y (tC hy)) h3 u hu
theorem VH {M:aR}{r:Rel}{cs:List Value}(hp:r.plan=pj)(h:ig M r cs):∀ u∈cs,ni u:=by
 obtain ⟨c,p,h1,h2,rfl⟩:=h
 obtain ⟨_,a,n,rfl,_⟩:=ax (by decide) (fun _ _=>fZ) h1
 rw [hp] at h2
 obtain ⟨xc,xv,av,s,rfl,k1,k2,k3,k4⟩:=jV.1 h2
 obtain ⟨s2,rfl,k5⟩:=iZ.1 k1
 obtain ⟨_,a1,n1,rfl,_⟩:=ax (by decide) (fun _ _=>dS) k2
 obtain ⟨_,a2,n2,rfl,_⟩:=ax (by decide) (fun _ _=>mM) k3
 obtain ⟨_,a3,n3,rfl,_⟩:=ax (by decide) (fun _ _=>jx) k4
 obtain ⟨_,a4,n4,rfl,_⟩:=ax (by decide) (fun _ _=>dS) k5
 intro u hu
 simp only [nn,mn] at hu
 rcases hu with rfl | rfl | rfl | rfl | rfl | rfl | rfl | rfl | rfl | rfl | rfl | rfl | rfl | rfl<;>first | trivial | rfl
def vN {α:Type}{el:TypeId}{sz:Nat}{r:α ->List Value ->Prop}{M:aR}{N:Tm}{l:List α}{lv:Value}{L:LL}(h:eo el sz r M N l lv L)(hl:l≠[])(hb:l.length*sz<=4398046511104)(uT:∀ x cs,r x cs ->∃ v rest,cs=v::rest/\∀ k n,v≠ .int k n):∃ g cap cs junk,lv=.slice (some ⟨g,0,none⟩) l.length cap/\L=[(g,cs++junk)]/\Pfx cs junk/\RL r l cs/\
 ∀ (M':aR) (r':α ->List Value ->Prop),(∀ x cs,r x cs ->r' x cs) ->M' g=some cs ->RS M' r' sz l lv:=by
 rcases h with ⟨rfl,_⟩ | ⟨g,cap,cs,junk,rfl,rfl,hN,fq,iY,hc,cX,_⟩
 ·exact absurd rfl hl
 ·refine ⟨g,cap,cs,junk,rfl,rfl,?_,fq,fun M' r' xW hg=>⟨hb,cs,.inr ⟨g,0,l.length,cap,rfl,cX,iY,jJ hg _ 0 (fun i v hv=>by rw [Nat.zero_add];exact hv)⟩,dl xW fq⟩⟩
  cases l with
  | nil=>exact absurd rfl hl
  | cons x l=>
   obtain ⟨c,rest,rfl,h1,_⟩:=fq
   obtain ⟨v,r1,rfl,hv⟩:=uT x c h1
   exact .inr ⟨v,r1++rest,rfl,hv⟩
variable {M:aR}
def Ib (x:Rel)(cs:List Value)(h:ig M x cs):∃ v rest,cs=v::rest/\∀ k n,v≠ .int k n:=by
 obtain ⟨c,p,h1,h2,rfl⟩:=h;exact ⟨_,_,rfl,fun k n h=>by cases h⟩
def EH (x:List Z)(cs:List Value)(h:RD M x cs):∃ v rest,cs=v::rest/\∀ k n,v≠ .int k n:=by
 obtain ⟨v,rfl,h1⟩:=h
 obtain ⟨_,a,n,rfl,_⟩:=ax (by decide) (fun _ _=>bi) h1
 exact ⟨_,_,rfl,fun k n h=>by cases h⟩
def Y2 {z:List Z}{cs:List Value}(h:RD M z cs):∀ u∈cs,ni u:=by
 obtain ⟨v,rfl,h1⟩:=h
 obtain ⟨_,a,n,rfl,_⟩:=ax (by decide) (fun _ _=>bi) h1
 intro u hu
 rw [List.mem_singleton.1 hu];trivial
def jw (s:Stm)(w:Pl×List Co):Rel:=⟨s.name,w.2,true,w.1⟩
structure ViewOk (rels:List Rel) (data:List (List Z)) (s:Stm) (w:Pl×List Co) (z0:List Z):Prop where
 ok:∀ x∈s.q.parts,OkSe x
 par:s.q.parts.length<=s.q.ops.length+1
 parl:s.q.parts.length<=1048576
 ord:0<=s.q.limit ->s.q.order.length<=1048576/\∀ x∈s.q.order,GB x
 wid:∀ r t,jF rels s.q=.ok r ->fH (bO rels) r.1=.ok t ->t.length<=r.2.length
 bnd:iN rels s.q=.ok w
 gp:gPl w.1=true
 gc:∀ c∈w.2,c.ty≠0
 nm:∀ x∈rels,x.name≠s.name
 nd:(w.2.map (·.name)).Nodup
 cl:w.2.length<=1000000
 col:∃ c,fH (bO rels) w.1=.ok c
 ev:BS (bO rels) w.1 data=.ok z0
 rn:wX w.1=true
 gz:mT z0
def RPt (b:Nat)(cs:List Value):Prop:=cs=[.pointer (some ⟨b,0,none⟩)]
set_option maxHeartbeats 1000000 in
def Yq {F:Fi}{k:List Vc.Item}{e:dx}{ds:List Deferred}{dd:Option Nat}{N:Tm}{be sb so gr gd bx:Nat}{cr cd cx:List Value}{s:Stm}{sc:List Value}{rels:List Rel}{data:List (List Z)}{rv dv sv:Value}{w:Pl×List Co}{z0:List Z}(bP:At M sb so sc)(hs:mD M s sc)
 (hr:eo 122 14 (ig M) M N rels rv [(gr,cr)]) (hd:eo 32 1 (RD M) M N data dv [(gd,cd)]) (bj:aJ M [(be,[rv,dv,.slice none 0 0,sv]),(gr,cr),(gd,cd),(bx,cx)]) (iC:iB [(be,[rv,dv,.slice none 0 0,sv]),(gr,cr),(gd,cd),(bx,cx)]) (hcx:∀ u∈cx,ni u)
 (alF:rels≠[]) (akG:data≠[]) (tA:∀ x∈rels,x.plan=pj) (hc:∀ x∈rels,x.cols.length<=1048576/\∀ c∈x.cols,c.ty≠0) (zy:rels.length<16) (AR:data.length<8) (hv:ViewOk rels data s w z0) (sW:ni sv)
 (hk:∀ N' M' L' rv' kv' bv tv cs zv gr' cr' gk ck,aG N N' ->bm M M' ->eo 122 14 (ig M') M' N' (rels++[jw s w]) rv' [(gr',cr')] ->eo 127 1 RPt M' N' [bv] kv' [(gk,ck)] ->RS M' (lZ M') 1 (bO rels) tv ->gP M' w.1 cs ->RS M' (RZ M') 2 z0 zv ->aJ M' [(gr',cr'),(gk,ck),(bv,iy tv cs dv zv),(be,[rv',dv,kv',sv]),(gd,cd),(bx,cx)] ->(aV [(gr',cr'),(gk,ck),(bv,iy tv cs dv zv),(be,[rv',dv,kv',sv]),(gd,cd),(bx,cx)]).Nodup ->(∀ p∈[(gr',cr'),(gk,ck),(bv,iy tv cs dv zv),(be,[rv',dv,kv',sv]),(gd,cd),(bx,cx)],p∈L') ->
  cA Tryz.prog F k (cI e dd (.int .i64 0)) ds ⟨N',M',L',[]⟩ ⟨⟩):
 dp Tryz.prog F 29 [.pointer (some ⟨be,0,none⟩),.pointer (some ⟨sb,so,none⟩)] dd k e ds ⟨N,M,[(be,[rv,dv,.slice none 0 0,sv]),(gr,cr),(gd,cd),(bx,cx)],[]⟩ ⟨⟩:=by
 have tB:=hs
 obtain ⟨ac,ad,ap,aq,ao,an,ar,ae,au,av,aw,rfl,hco,hq,_⟩:=nM hs
 obtain ⟨y0,y1,y2,y3,y4,y5,y6,_⟩:=bP
 obtain ⟨_,rcap,csr,jr,rfl,hLr,LD,alD,cH⟩:=vN hr alF (by omega) Ib
 cases hLr
 obtain ⟨_,dcap,csd,jd,rfl,hLd,hpd,abL,uS⟩:=vN hd akG (by omega) EH
 cases hLd
 have zr:∀ u∈csr,ni u:=H8 (fun x hx cs h=>VH (tA x hx) h) alD
 have zd:∀ u∈csd,ni u:=H8 (fun x hx cs h=>Y2 h) abL
 obtain ⟨nb,nr,nd,nx,_⟩:=bj
 obtain ⟨ab,ar',axd,_⟩:=iC
 simp only [bf,and_true] at ab ar' axd
 refine Ah F29 rfl rfl ?_
 simp +contextual only [go_sem,sevalprocAttr]
 have zl:C4 [(be,[.slice (some ⟨gr,0,none⟩) rels.length rcap,.slice (some ⟨gd,0,none⟩) data.length dcap,.slice none 0 0,sv]),(gr,csr),(gd,csd),(bx,cx)]:=by
  intro b c PW
  simp only [List.mem_cons,Prod.mk.injEq,List.not_mem_nil,or_false] at PW
  rcases PW with ⟨rfl,rfl⟩ | ⟨rfl,rfl⟩ | ⟨rfl,rfl⟩ | ⟨rfl,rfl⟩
  ·intro u hu
   simp only [mn] at hu
   rcases hu with rfl | rfl | rfl | rfl<;>first | exact sW | trivial
  ·exact zr
  ·exact zd
  ·exact hcx
 have nk:(aV [(be,[.slice (some ⟨gr,0,none⟩) rels.length rcap,.slice (some ⟨gd,0,none⟩) data.length dcap,.slice none 0 0,sv]),(gr,csr),(gd,csd),(bx,cx)]).Nodup:=by simp [aV,ab,ar',axd]
 have pre:Db [(be,[.slice (some ⟨gr,0,none⟩) rels.length rcap,.slice (some ⟨gd,0,none⟩) data.length dcap,.slice none 0 0,sv]),(gr,csr),(gd,csd),(bx,cx)] [(be,[.slice (some ⟨gr,0,none⟩) rels.length rcap,.slice (some ⟨gd,0,none⟩) data.length dcap,.slice none 0 0,sv]),(gr,csr++jr),(gd,csd++jd),(bx,cx)]:=⟨rfl,⟨[],(List.append_nil _).symm,.inl rfl⟩,rfl,⟨jr,rfl,LD⟩,rfl,⟨jd,rfl,hpd⟩,rfl,⟨[],(List.append_nil _).symm,.inl rfl⟩,trivial⟩
 refine l8 (fun e' ds h=>ds=[]/\e' 0=.pointer (some ⟨be,0,none⟩)/\e' 1=.pointer (some ⟨sb,so,none⟩)/\∃ N' M' b5 cs cv,e' 5=.pointer (some ⟨b5,0,none⟩)/\e' 6=cv/\e' 7=.int .i64 0/\aG N N'/\bm M M'/\gP M' w.1 cs/\RS M' tF 2 w.2 cv/\h=⟨N',M',[(b5,cs),(be,[.slice (some ⟨gr,0,none⟩) rels.length rcap,.slice (some ⟨gd,0,none⟩) data.length dcap,.slice none 0 0,sv]),(gr,csr++jr),(gd,csd++jd),(bx,cx)],[]⟩/\aJ M' h.L/\(¬ b5=be/\¬ be=b5)/\(¬ b5=gr/\¬ gr=b5)/\(¬ b5=gd/\¬ gd=b5)/\(¬ b5=bx/\¬ bx=b5)) ?_ ?_
 ·intro S' fh
  refine aT ?_
  simp +contextual only [go_sem,sevalprocAttr,aB nb,y3,y4,y5,y6]
  constructor
  ·refine G3 pre nk zl ⟨nb,nr,nd,nx,trivial⟩ (cH _ _ (dV (gG ⟨nb,nr,nd,nx,trivial⟩)) (by simp [eM,aR.add,ab])) hq (by omega) (fun r h=>(hc r h).1) hv.ok hv.par hv.parl hv.ord hv.wid hv.bnd hv.gp hv.gc ?_
   intro M1 cs cv aW bD gC lz
   obtain ⟨c0,c1,c2,c3,c4,c5,c6,c7,c8,c9,c10,rfl,sT⟩:=cT gC
   obtain ⟨_,va,vc,rfl,_⟩:=ax (by decide) (fun _ _=>fZ) lz
   simp +contextual only [go_sem,sevalprocAttr,sT]
   refine ⟨dL aW bD,?_⟩
   intro b5 T5 jz eg ko nq
   refine ⟨dJ aW bD ⟨eg.1,eg.2.1,eg.2.2.1,eg.2.2.2,trivial⟩,?_⟩
   exact fh _ _ _ ⟨rfl,by simp only [go_sem,sevalprocAttr],by simp only [go_sem,sevalprocAttr],T5,M1,b5,_,_,by simp only [go_sem,sevalprocAttr],by simp only [go_sem,sevalprocAttr],by simp only [go_sem,sevalprocAttr],ko,aW,gC,lz,rfl,⟨jz,bD⟩,eg⟩
  ·intro b5 T5 jz eg ko nq
   have bS:aJ M [(b5,Ew),(be,[.slice (some ⟨gr,0,none⟩) rels.length rcap,.slice (some ⟨gd,0,none⟩) data.length dcap,.slice none 0 0,sv]),(gr,csr++jr),(gd,csd++jd),(bx,cx)]:=⟨jz,nb,nr,nd,nx,trivial⟩
   refine ⟨dJ bm.rfl' ⟨nb,nr,nd,nx,trivial⟩ ⟨eg.1,eg.2.1,eg.2.2.1,eg.2.2.2,trivial⟩,?_⟩
   have nk5:(aV ((b5,Ew)::[(be,[.slice (some ⟨gr,0,none⟩) rels.length rcap,.slice (some ⟨gd,0,none⟩) data.length dcap,.slice none 0 0,sv]),(gr,csr),(gd,csd),(bx,cx)])).Nodup:=by simp [aV,ab,ar',axd,eg]
   have zl5:C4 ((b5,Ew)::[(be,[.slice (some ⟨gr,0,none⟩) rels.length rcap,.slice (some ⟨gd,0,none⟩) data.length dcap,.slice none 0 0,sv]),(gr,csr),(gd,csd),(bx,cx)]):=by
    intro b c PW
    rcases lQ PW with h | h
    ·cases h
     intro u hu
     simp only [Ew,mn] at hu
     rcases hu with rfl | rfl | rfl | rfl | rfl | rfl | rfl | rfl | rfl | rfl | rfl<;>first | trivial | rfl
    ·exact zl b c h
   refine G3 (Lp:=(b5,Ew)::[(be,[.slice (some ⟨gr,0,none⟩) rels.length rcap,.slice (some ⟨gd,0,none⟩) data.length dcap,.slice none 0 0,sv]),(gr,csr),(gd,csd),(bx,cx)]) ⟨rfl,⟨[],(List.append_nil _).symm,.inl rfl⟩,pre⟩ nk5 zl5 bS (cH _ _ (dV (gG ⟨jz,nb,nr,nd,nx,trivial⟩)) (by simp [eM,aR.add,ab,eg])) hq (by omega) (fun r h=>(hc r h).1) hv.ok hv.par hv.parl hv.ord hv.wid hv.bnd hv.gp hv.gc ?_
   intro M1 cs cv aW bD gC lz
   obtain ⟨c0,c1,c2,c3,c4,c5,c6,c7,c8,c9,c10,rfl,sT⟩:=cT gC
   obtain ⟨_,va,vc,rfl,_⟩:=ax (by decide) (fun _ _=>fZ) lz
   simp +contextual only [go_sem,sevalprocAttr,sT]
   exact fh _ _ _ ⟨rfl,by simp only [go_sem,sevalprocAttr],by simp only [go_sem,sevalprocAttr],T5,M1,b5,_,_,by simp only [go_sem,sevalprocAttr],by simp only [go_sem,sevalprocAttr],by simp only [go_sem,sevalprocAttr],ko,aW,gC,lz,rfl,bD,eg⟩
 rintro e' ds' h' ⟨rfl,e0,e1,N1,M1,b5,cs,cv,e5,e6,e7,pz,aW,gC,lz,rfl,bD,eg⟩
 have Ov:=gC
 obtain ⟨c0,c1,c2,c3,c4,c5,c6,c7,c8,c9,c10,rfl,sT⟩:=cT gC
 obtain ⟨_,va,vc,rfl,_⟩:=ax (by decide) (fun _ _=>fZ) lz
 simp +contextual only [go_sem,aD,sevalprocAttr,e7]
 refine aT ?_
 have y1':=ay aW y1
 obtain ⟨n5,nb1,nr1,nd1,nx1,_⟩:=bD
 simp +contextual only [go_sem,sevalprocAttr,e0,e1,e5,e6,y1',aB n5,sT]
 intro b8 T8 pp eC nE sP
 have bD:aJ M1 [(b5,[c0,c1,c2,c3,c4,c5,c6,c7,c8,c9,c10]),(be,[.slice (some ⟨gr,0,none⟩) rels.length rcap,.slice (some ⟨gd,0,none⟩) data.length dcap,.slice none 0 0,sv]),(gr,csr++jr),(gd,csd++jd),(bx,cx)]:=⟨n5,nb1,nr1,nd1,nx1,trivial⟩
 refine ⟨dJ bm.rfl' bD ⟨eC.1,eC.2.1,eC.2.2.1,eC.2.2.2.1,eC.2.2.2.2,trivial⟩,?_⟩
 refine dh F49.bd fun M2 bh h8 aZ=> ?_
 refine dh F49.bd fun M3 bG h5 bC=> ?_
 have Xl:=bh.trans bG
 have abg:=aW.trans Xl
 replace h8:=bG _ _ h8
 refine cW F49.bd (fun M' he hL _=>yL (r:=jw s w) hL.1 (oI hr (dV (abg.trans he)) ⟨hL.2.1,trivial⟩ (by omega)) ⟨_,_,aH (Xl.trans he) (fun _ _ h=>h) lz,bA (Xl.trans he) _ _ Ov,rfl⟩ hv.nm hv.nd hv.cl zy AR _) ?_
 have x5:=jJ h5 _ 0 (fun i v h=>by rw [Nat.zero_add];exact h)
 have x8:=jJ h8 _ 0 (fun i v h=>by rw [Nat.zero_add];exact h)
 obtain ⟨p0,p1,p2,p3,p4,p5,p6,p7,p8,p9,p10,_⟩:=x5
 have q8:=C7 x8
 simp only [Nat.zero_add] at p0 p1 p2 p3 p4 p5 p6 p7 p8 p9 p10 q8
 obtain ⟨nb3,nr3,nd3,nx3,_⟩:=bC
 simp +contextual only [go_sem,aD,sevalprocAttr]
 refine aT ?_
 simp +contextual only [go_sem,sevalprocAttr,e0,e5,aB nb3,p0,p1,p2,p3,p4,p5,p6,p7,p8,p9,p10]
 refine Pd pre nk zl ⟨nb3,nr3,nd3,nx3,trivial⟩ (cH _ _ (dV (abg.trans (gG ⟨nb3,nr3,nd3,nx3,trivial⟩))) (by simp [eM,aR.add,ab])) (by omega) hc ?_
 intro M4 tv dz de nG
 obtain ⟨_,ta,tc,rfl,_⟩:=ax (by decide) (fun _ _=>cQ) nG
 obtain ⟨nb4,nr4,nd4,nx4,_⟩:=de
 simp +contextual only [go_sem,sevalprocAttr]
 refine ⟨dL dz ⟨nb4,nr4,nd4,nx4,trivial⟩,?_⟩
 have Xm:=Xl.trans dz
 have xe:=abg.trans dz
 obtain ⟨c,rF⟩:=hv.col
 refine ac1 pre nk zl ⟨nb4,nr4,nd4,nx4,trivial⟩ nG (bA Xm _ _ Ov) (uS _ _ (dD (xe.trans (gG ⟨nb4,nr4,nd4,nx4,trivial⟩))) (by simp [eM,aR.add,ab,ar'])) rF hv.ev hv.rn hv.gz ?_
 intro T5 M5 bv zv ko dN hbv lK bS A5
 have abh:=xe.trans dN
 simp only [bf,and_true] at lK
 simp +contextual only [go_sem,aD,sevalprocAttr]
 refine ⟨dJ (dz.trans dN) bS ⟨lK.1,lK.2.1,lK.2.2.1,lK.2.2.2,trivial⟩,?_⟩
 obtain ⟨nb5,nr5,nd5,nx5,_⟩:=bS
 have q8':=C7 ((x8.ext dz).ext dN)
 simp only [Nat.zero_add] at q8'
 have hRc:∀ {M':aR},bm M5 M' ->ig M' (jw s w) [st s.name,.slice va w.2.length vc,.bool true,c0,c1,c2,c3,c4,c5,c6,c7,c8,c9,c10]:=fun he=>⟨_,_,aH ((Xm.trans dN).trans he) (fun _ _ h=>h) lz,bA ((Xm.trans dN).trans he) _ _ Ov,rfl⟩
 have hR:=hRc bm.rfl'
 have hP:RPt bv [.pointer (some ⟨bv,0,none⟩)]:=rfl
 have hNr:=pz.trans (nE.trans ko)
 have XT:=ew hNr (fC (dV abh) (show aJ M5 [(gr,_)] from ⟨nr5,trivial⟩) hr)
 have hd5:=ew hNr (fC (dD abh) (show aJ M5 [(gd,_)] from ⟨nd5,trivial⟩) hd)
 refine l8 (fun e' ds h=>ds=[]/\∃ N' L' rv' kv' gr' cr' gk ck,aG T5 N'/\eo 122 14 (ig M5) M5 N' (rels++[jw s w]) rv' [(gr',cr')]/\eo 127 1 RPt M5 N' [bv] kv' [(gk,ck)]/\h=⟨N',M5,L',[]⟩/\(aV [(gr',cr'),(gk,ck),(bv,iy (.slice ta (bO rels).length tc) [c0,c1,c2,c3,c4,c5,c6,c7,c8,c9,c10] (.slice (some ⟨gd,0,none⟩) data.length dcap) zv),(be,[rv',.slice (some ⟨gd,0,none⟩) data.length dcap,kv',sv]),(gd,csd++jd),(bx,cx)]).Nodup/\(∀ p∈[(gr',cr'),(gk,ck),(bv,iy (.slice ta (bO rels).length tc) [c0,c1,c2,c3,c4,c5,c6,c7,c8,c9,c10] (.slice (some ⟨gd,0,none⟩) data.length dcap) zv),(be,[rv',.slice (some ⟨gd,0,none⟩) data.length dcap,kv',sv]),(gd,csd++jd),(bx,cx)],p∈L')) ?_ ?_
 rotate_left
 ·rintro e' ds' h' ⟨rfl,N',L',rv',kv',gr',cr',gk,ck,km,rW,ce,rfl,jo,pr⟩
  simp +contextual only [go_sem,sevalprocAttr]
  exact hk _ _ _ _ _ _ _ _ _ _ _ _ _ (hNr.trans km) abh rW ce (aH dN (cO dN) nG) (bA (Xm.trans dN) _ _ Ov) A5 ⟨(jA rW).1,(jA ce).1,hbv,nb5,nd5,nx5,trivial⟩ jo pr
 intro S' fh
 have sS:∀ {N':Tm} {L2:LL} (L1:LL),bf be L1 ->fW ⟨T5,M5,[(be,[.slice (some ⟨gr,0,none⟩) rels.length rcap,.slice (some ⟨gd,0,none⟩) data.length dcap,.slice none 0 0,sv])],[]⟩ ⟨N',M5,L1++(be,[.slice (some ⟨gr,0,none⟩) rels.length rcap,.slice (some ⟨gd,0,none⟩) data.length dcap,.slice none 0 0,sv])::L2,[]⟩:=fun L1 h=>eZ L1 bm.rfl' nb5 h
 refine eG ⟨T5,M5,[(be,[.slice (some ⟨gr,0,none⟩) rels.length rcap,.slice (some ⟨gd,0,none⟩) data.length dcap,.slice none 0 0,sv])],[]⟩ (sS [(bv,_)] ⟨⟨lK.1.2,lK.1.1⟩,trivial⟩) ?_
 simp +contextual only [go_sem,sevalprocAttr,e0,aB nb5,q8']
 constructor
 ·intro b64 XC mg
  refine ⟨sS [(b64,_),(bv,_)] (by simp [bf,lK,mg]),?_⟩
  constructor
  ·refine fX [] [(bv,_),(be,_)] [(gd,_),(bx,cx)] rfl trivial (Tryz.underlying86) Ap zZ (x:=jw s w) XT hR rfl (lT _ _ hR) XC (by omega) (by decide) ?_
   intro N6 lv' gr' cr' hN6 eW rW
   simp only [bf,nn] at eW
   obtain ⟨la,lc,rfl⟩:=di rW
   simp +contextual only [go_sem,sevalprocAttr]
   refine ⟨sS [(gr',_),(b64,_),(bv,_)] (by simp [bf,lK,mg,eW]),?_⟩
   intro b71 Jg ly
   refine ⟨sS [(b71,_),(gr',_),(b64,_),(bv,_)] (by simp [bf,lK,mg,eW,ly]),?_⟩
   refine fX [] [(gr',_),(b64,_),(bv,_),(be,_),(gd,_),(bx,cx)] [] rfl trivial (Tryz.underlying88) Mm L9 (x:=bv) (l:=[]) (L:=[]) (r:=RPt) (.inl ⟨rfl,rfl,rfl⟩) hP rfl (by simp [Value.oneCell']) Jg (by simp) (by decide) ?_
   intro N7 kv' gk ck Zh nS ce
   simp only [bf,nn] at nS
   obtain ⟨wa,wc,rfl⟩:=di ce
   simp +contextual only [go_sem,sevalprocAttr,lK,mg,eW,ly,nS]
   refine ⟨sS [(gk,_),(b71,_),(gr',_),(b64,_),(bv,_)] (by simp [bf,lK,mg,eW,ly,nS]),?_⟩
   exact fh _ _ _ ⟨rfl,N7,_,_,_,gr',cr',gk,ck,hN6.trans Zh,ew Zh rW,ce,rfl,by simp [aV,eW,nS,lK,ab,axd],by simp⟩
  ·intro b71 Jg ly
   refine ⟨sS [(b71,_),(b64,_),(bv,_)] (by simp [bf,lK,mg,ly]),?_⟩
   refine fX [(b71,_)] [(bv,_),(be,_)] [(gd,_),(bx,cx)] rfl (by simp [bf,ly]) (Tryz.underlying86) Ap zZ (x:=jw s w) XT hR rfl (lT _ _ hR) XC (by omega) (by decide) ?_
   intro N6 lv' gr' cr' hN6 eW rW
   simp only [bf,nn] at eW
   obtain ⟨la,lc,rfl⟩:=di rW
   simp +contextual only [go_sem,sevalprocAttr]
   refine ⟨sS [(gr',_),(b71,_),(b64,_),(bv,_)] (by simp [bf,lK,mg,eW,ly]),?_⟩
   refine fX [(gr',_)] [(b64,_),(bv,_),(be,_),(gd,_),(bx,cx)] [] rfl (by simp [bf,eW]) (Tryz.underlying88) Mm L9 (x:=bv) (l:=[]) (L:=[]) (r:=RPt) (.inl ⟨rfl,rfl,rfl⟩) hP rfl (by simp [Value.oneCell']) Jg (by simp) (by decide) ?_
   intro N7 kv' gk ck Zh nS ce
   simp only [bf,nn] at nS
   obtain ⟨wa,wc,rfl⟩:=di ce
   simp +contextual only [go_sem,sevalprocAttr,lK,mg,eW,ly,nS]
   refine ⟨sS [(gk,_),(gr',_),(b71,_),(b64,_),(bv,_)] (by simp [bf,lK,mg,eW,ly,nS]),?_⟩
   exact fh _ _ _ ⟨rfl,N7,_,_,_,gr',cr',gk,ck,hN6.trans Zh,ew Zh rW,ce,rfl,by simp [aV,eW,nS,lK,ab,axd],by simp⟩
 ·intro b71 Jg ly
  refine ⟨sS [(b71,_),(bv,_)] (by simp [bf,lK,ly]),?_⟩
  intro b64 XC mg
  refine ⟨sS [(b64,_),(b71,_),(bv,_)] (by simp [bf,lK,mg,ly]),?_⟩
  refine fX [] [(b71,_),(bv,_),(be,_)] [(gd,_),(bx,cx)] rfl trivial (Tryz.underlying86) Ap zZ (x:=jw s w) XT hR rfl (lT _ _ hR) XC (by omega) (by decide) ?_
  intro N6 lv' gr' cr' hN6 eW rW
  simp only [bf,nn] at eW
  obtain ⟨la,lc,rfl⟩:=di rW
  simp +contextual only [go_sem,sevalprocAttr]
  refine ⟨sS [(gr',_),(b64,_),(b71,_),(bv,_)] (by simp [bf,lK,mg,eW,ly]),?_⟩
  refine fX [(gr',_),(b64,_)] [(bv,_),(be,_),(gd,_),(bx,cx)] [] rfl (by simp [bf,eW,mg]) (Tryz.underlying88) Mm L9 (x:=bv) (l:=[]) (L:=[]) (r:=RPt) (.inl ⟨rfl,rfl,rfl⟩) hP rfl (by simp [Value.oneCell']) Jg (by simp) (by decide) ?_
  intro N7 kv' gk ck Zh nS ce
  simp only [bf,nn] at nS
  obtain ⟨wa,wc,rfl⟩:=di ce
  simp +contextual only [go_sem,sevalprocAttr,lK,mg,eW,ly,nS]
  refine ⟨sS [(gk,_),(gr',_),(b64,_),(b71,_),(bv,_)] (by simp [bf,lK,mg,eW,ly,nS]),?_⟩
  exact fh _ _ _ ⟨rfl,N7,_,_,_,gr',cr',gk,ck,hN6.trans Zh,ew Zh rW,ce,rfl,by simp [aV,eW,nS,lK,ab,axd],by simp⟩
variable {M:aR}
def aaT {l z:List Z}{lv:Value}(hl:RS M (RZ M) 2 l lv)(bu:l.length<=1600)(hw:∀ x∈l,jT x.row=0/\gF x.w=true)(hs:oC l=.ok z)(T:Tm):bU Tryz.prog 56 [lv] T M [] [] (fun v M' _ _=>∃ zv,v=.tuple ⟨[zv,.int .i64 0]⟩/\RS M' (RZ M') 2 z zv) aM:=by
 have un:=hl
 obtain ⟨fp,a,c,rfl,cX,_,hg⟩:=ax (by decide) (fun _ _=>bi) hl
 have xQ:¬ (1600:Int)<(l.length:Int):=by omega
 refine az F56 rfl rfl ?_
 intro bj _
 simp +contextual only [go_sem,aD,sevalprocAttr,xQ]
 refine aO l.length 12 [(0,.slice a l.length c),(10,.slice a l.length c),(11,.int .i64 (l.length:Int))] (fun i e h=>∃ N',aG T N'/\h=⟨N',M,[],[]⟩) 0 (by omega) (by simp only [aE,go_sem,sevalprocAttr]) (by simp only [go_sem,sevalprocAttr]) ⟨T,aG.rfl',rfl⟩ ?_
 rintro i e h hi aI ht ⟨N',km,rfl⟩
 simp only [aE] at aI
 by_cases aL:i<l.length
 ·obtain ⟨b',o',cs',rfl,bP,s,cH,rfl⟩:=hg i l[i] (gq aL)
  obtain ⟨y0,y1,_⟩:=bP
  obtain ⟨sa,sc,rfl⟩:=dH cH
  obtain ⟨h1,h2⟩:=hw _ (gm aL)
  simp +contextual only [go_sem,aD,sevalprocAttr,aI,ht,aL,y0,y1]
  intro b5 T5 jz ko nq
  refine aP (K8 cH _) ?_
  simp +contextual only [go_sem,aD,sevalprocAttr,h1,aB jz]
  refine aP (vq _ _) ?_
  simp +contextual only [go_sem,aD,sevalprocAttr,ht,h2]
  refine aS (al (aC ⟨l.length - (i+1),by omega,rfl,i+1,by omega,rfl,?_,?_,T5,km.trans ko,rfl⟩))
  ·simp only [aE,aI,go_sem,sevalprocAttr]
  ·simp only [go_sem,sevalprocAttr,aA i (by omega)]
 ·have:i=l.length:=by omega
  subst this
  simp +contextual only [go_sem,aD,sevalprocAttr,aI,ht,aL]
  have h8:∀ x∈l,x.row.length<=4294967296:=fun x hx=>by
   have:=(hw x hx).1
   unfold jT at this
   split at this
   ·cases this
   ·omega
  refine aF (vm un (by omega) h8 _) ?_
  rintro v M2 bh aZ hv
  rw [hs] at hv
  obtain ⟨s,rfl,h⟩:=hv
  simp +contextual only [go_sem,sevalprocAttr]
  exact ak km ⟨_,rfl,h⟩
variable {aY:List (List Int)}
theorem H9 {r:Rel}{cs:List Value}(h:ig M r cs):RL (ig M) [r] cs:=⟨cs,[],by simp,h,rfl⟩
set_option maxHeartbeats 1000000 in
def IH {be gd bv gk n sb so gr:Nat}{kc dcap rn rc:Nat}{junk:List Value}{p:Pl}{pc sc:List Value}{c:List Int}{D0 D1 m0 m1 N0 N1 z zo d d' rows rows':List Z}{rels:List Rel}{s:Stm}{sv tv dv rwv d0 d1:Value}(bP:At M sb so sc)(hs:mD M s sc)(cH:RS M (ig M) 14 rels (.slice (some ⟨gr,0,none⟩) rn rc))
 (hi:n<rels.length) (uq:rels[n].name=s.name) (cm:∀ (j:Nat) (h:j<rels.length),j<n ->rels[j].name≠s.name) (rY:∀ (j:Nat) (h:j<rels.length),j<=n ->rels[j].view=false) (bu:rels.length<=1000) (cK:rels[n].cols.length<=8) (Ox:∀ r∈s.rows,mS (rels[n].cols.map (·.ty)) r=0) (zy:s.rows.length<=1600) (hof:oC (s.rows.map fun r=>(⟨r,1⟩:Z))=.ok z)
 (hn:n=0/\m0=z/\m1=[]/\N1=D1\/n=1/\m0=[]/\m1=z/\N0=D0) (sW:ni sv)
 (nG:RS M (lZ M) 1 aY tv) (hp:gP M p pc) (h0:RS M (RZ M) 2 D0 d0) (h1:RS M (RZ M) 2 D1 d1) (hr:RS M (RZ M) 2 rows rwv) (Zx:aN M ⟨gk,0,none⟩=some (.pointer (some ⟨bv,0,none⟩)))
 (hd:RS (eM M [(be,oQ (.slice (some ⟨gr,0,none⟩) rn rc) gd dcap gk kc sv),(gd,[d0,d1])]) (RD (eM M [(be,oQ (.slice (some ⟨gr,0,none⟩) rn rc) gd dcap gk kc sv),(gd,[d0,d1])])) 1 [D0,D1] dv)
 (rF:fH aY p=.ok c) (VO:jj aY [D0,D1]=0) (ZE:jj aY [m0,m1]=0) (Zj:addM D0 m0=.ok N0) (PT:addM D1 m1=.ok N1) (j2:mL aY [D0,D1] [m0,m1] p zo d) (AR:d.length<=4294967296) (B6:∀ z∈d,z.row.length<=4294967296) (mp:oC d=.ok d') (bN:addM rows d'=.ok rows')
 (HT:mT N0) (lM:mT N1) (ul:mT rows') (T:Tm):
 bU Tryz.prog 30 [.pointer (some ⟨be,0,none⟩),.pointer (some ⟨sb,so,none⟩)] T M [(bv,iy tv pc dv rwv),(be,oQ (.slice (some ⟨gr,0,none⟩) rn rc) gd dcap gk kc sv),(gd,d0::d1::junk)] []
  (fun v M' L' _=>v=.int .i64 0/\∃ nv rv' w0 w1,L'=[(bv,iy tv pc nv rv'),(be,oQ (.slice (some ⟨gr,0,none⟩) rn rc) gd dcap gk kc sv),(gd,w0::w1::junk)]/\RS M' (RZ M') 2 N0 w0/\RS M' (RZ M') 2 N1 w1/\RS M' (RD M') 1 [N0,N1] nv/\RS M' (RZ M') 2 rows' rv') aM:=by
 obtain ⟨ac,ad,ap,aq,ao,an,ar,ae,au,av,aw,rfl,hco,hq,hrw,_⟩:=nM hs
 obtain ⟨y0,y1,y2,y3,y4,y5,y6,y7,_⟩:=bP
 obtain ⟨_,_,_,hx,_,_,hg⟩:=ax (by decide) (fun _ _=>ii) cH
 cases hx
 obtain ⟨_,_,tcs,hx,Xy,HZ⟩:=hg n rels[n] (gq hi)
 cases hx
 rw [Nat.zero_add] at Xy
 refine az F30 rfl rfl ?_
 intro bj iC
 simp +contextual only [go_sem,sevalprocAttr,y1]
 refine cW F54.bd (fun M' he hL _=>NZ hL.2.1 (aH he (dV he) cH) hi uq cm rY bu rfl (Xy.ext he) (dV he _ _ HZ) _) ?_
 obtain ⟨ca,cn,s1,a1,n1,a2,n2,a3,n3,rfl,iQ,hcc,_⟩:=iz HZ
 simp +contextual only [go_sem,aD,sevalprocAttr,iQ]
 intro b5 T5 jz eg ko nq b28 afj afa
 refine dh F53.bd fun M1 aW h28 bD=> ?_
 have hvn:=rY n hi (Nat.le_refl _)
 have htb:bO [rels[n]]=[rels[n].cols.map (·.ty)]:=by simp [bO,hvn]
 refine aF (vn (dE (fun _ _=>ii) h28 (H9 (dV aW _ _ HZ)) rfl (by simp)) (by simp) (fun r xW=>by rw [List.mem_singleton.1 xW];omega) _) ?_
 rintro v M2 bh aZ hv
 rw [htb] at hv
 have rD:=aW.trans bh
 obtain ⟨_,ta,tc,rfl,_⟩:=ax (by decide) (fun _ _=>cQ) hv
 obtain ⟨tbb,tbo,cv,rfl,m0',lz⟩:=tK hv (i:=0) (by simp)
 obtain ⟨_,cva,cvc,rfl,_⟩:=ax (by decide) (fun _ _=>cE) lz
 rw [Nat.add_zero] at m0'
 have y7':=ay rD y7
 obtain ⟨_,_,_,hx,_,_,akO⟩:=ax (by decide) (fun _ _=>tL) (aH rD (mN rD) hrw)
 cases hx
 simp +contextual only [go_sem,aD,sevalprocAttr,m0',y7']
 refine aO s.rows.length 37 [(0,.pointer (some ⟨be,0,none⟩)),(6,.int .i64 (n:Int)),(8,.slice cva (rels[n].cols.map (·.ty)).length cvc),(35,.slice au s.rows.length av),(36,.int .i64 (s.rows.length:Int))] (fun i e h=>∃ N' R' fv,aG T5 N'/\h=⟨N',M2,[(b5,[st rels[n].name,.slice ca rels[n].cols.length cn,.bool rels[n].view,.int .i64 rels[n].plan.k,.int .i64 rels[n].plan.n,.int .i64 rels[n].plan.x.k,.int .i64 rels[n].plan.x.v.k,.int .i64 rels[n].plan.x.v.n,st rels[n].plan.x.v.t,.int .i64 rels[n].plan.x.c,s1,.slice a1 rels[n].plan.xs.length n1,.slice a2 rels[n].plan.ags.length n2,.slice a3 rels[n].plan.kids.length n3]),(bv,iy tv pc dv rwv),(be,oQ (.slice (some ⟨gr,0,none⟩) rels.length rc) gd dcap gk kc sv),(gd,d0::d1::junk)],R'⟩/\e 9=fv/\kY 37 2 (RZ M2) [] R' fv ((s.rows.take i).map fun r=>(⟨r,1⟩:Z))) 0 (by omega) (by simp only [aE,go_sem,sevalprocAttr]) (by simp only [go_sem,sevalprocAttr]) ⟨T5,_,_,aG.rfl',rfl,by simp only [go_sem,sevalprocAttr],cV⟩ ?_
 rintro i e h HX aI ht ⟨N',R',fv,km,rfl,e9,bq⟩
 simp only [aE] at aI
 by_cases aL:i<s.rows.length
 ·obtain ⟨b',o',cs',rfl,akg,rs,Jq,rfl⟩:=akO i s.rows[i] (gq aL)
  have z0':=akg.1
  rw [Nat.mul_one] at z0'
  obtain ⟨sa,sc',rfl⟩:=dH Jq
  have hf:=Ox _ (gm aL)
  simp +contextual only [go_sem,aD,sevalprocAttr,aI,ht,aL,z0']
  refine aP (KS lz Jq _) ?_
  simp +contextual only [go_sem,aD,sevalprocAttr,hf,e9]
  intro b50 afk afb
  refine cB (Tryz.underlying32) ix iw (x:=⟨s.rows[i],1⟩) bq ⟨_,Jq,rfl⟩ (fun _ _=>bi) (gh (z:=⟨s.rows[i],1⟩) ⟨_,Jq,rfl⟩) afk (by rw [List.length_map,List.length_take];omega) (by decide) ?_
  intro fv' R2 bw
  have fQ:((s.rows.take i).map fun r=>(⟨r,1⟩:Z))++[⟨s.rows[i],1⟩]=(s.rows.take (i+1)).map fun r=>(⟨r,1⟩:Z):=by
   rw [<- List.take_append_getElem aL,List.map_append];rfl
  rw [fQ] at bw
  simp +contextual only [go_sem,sevalprocAttr,ht]
  refine aS (al (aC ⟨s.rows.length - (i+1),by omega,rfl,i+1,by omega,rfl,?_,?_,N',R2,fv',km,rfl,?_,bw⟩))
  ·simp only [aE,aI,go_sem,sevalprocAttr]
  ·simp only [go_sem,sevalprocAttr,aA i (by omega)]
  ·simp only [go_sem,sevalprocAttr]
 ·have:i=s.rows.length:=by omega
  subst this
  rw [List.take_length] at bq
  obtain ⟨fa,fc,rfl⟩:=eI bq
  simp +contextual only [go_sem,aD,sevalprocAttr,aI,ht,aL,e9]
  refine kJ F56.bd bq (by rw [List.length_map];omega) (by decide) aZ fun M3 bG bC XV=> ?_
  refine aF (aaT (aH bm.rfl' (eU bG) XV) (by rw [List.length_map];omega) (fun x hx=> ?_) hof _) ?_
  ·obtain ⟨r,xW,rfl⟩:=List.mem_map.1 hx
   exact ⟨qU (by rw [List.length_map];exact cK) (Ox r xW),rfl⟩
  rintro v M4 dz de ⟨zv,rfl,A5⟩
  obtain ⟨_,za,zc,rfl,_⟩:=ax (by decide) (fun _ _=>bi) A5
  have xe:=(rD.trans bG).trans dz
  simp +contextual only [go_sem,aD,sevalprocAttr,aI]
  refine dF [(b5,_)] (IF (rv:=.slice (some ⟨gr,0,none⟩) rels.length rc) hn ⟨trivial,fun k m h=>by cases h⟩ sW (aH xe (cO xe) nG) (bA xe _ _ hp) (cz xe h0) (cz xe h1) A5 (cz xe hr) (ay xe Zx) (aH (jY xe _) (dD (jY xe _)) hd) rF VO ZE Zj PT j2 AR B6 mp bN HT lM ul _) ?_ (fun _ _ _ _ _ _ h=>h.elim)
  rintro v M5 L5 dN hk5 bS ⟨rfl,nv,rv',w0,w1,rfl,k1,k2,k3,k4⟩
  simp +contextual only [go_sem,sevalprocAttr]
  exact al (aQ (ko.trans km) rfl rfl ⟨rfl,_,_,_,_,rfl,k1,k2,k3,k4⟩)
def KM (x:Ex):Prop:=∀ {M:aR} {b o b' o':Nat} {cs cs':List Value},At M b o cs ->hY M x cs ->At M b' o' cs' ->hY M x cs' ->∀ T,bU Tryz.prog 176 [.pointer (some ⟨b,o,none⟩),.pointer (some ⟨b',o',none⟩)] T M [] [] (fun r _ _ _=>r=.bool true) aM
def nj {M:aR}{b:Nat}{cs:List Value}(h:M b=some cs):At M b 0 cs:=jJ h _ 0 (fun i v h=>by rw [Nat.zero_add];exact h)
variable {M:aR}
theorem KW {g:FuncId}(hg:g=220\/g=175){x:Ex}(hx:KM x){cs cs':List Value}(h:hY M x cs)(h':hY M x cs')(T:Tm):bU Tryz.prog g [.agg ⟨cs⟩,.agg ⟨cs'⟩] T M [] [] (fun r _ _ _=>r=.bool true) aM:=by
 have h0:=h
 have h0':=h'
 obtain ⟨s,rfl,ks,hs⟩:=dG h
 obtain ⟨s',rfl,ks',zz⟩:=dG h'
 rcases hg with rfl | rfl
 ·refine az aeg rfl rfl ?_
  intro bj _
  simp +contextual only [go_sem,sevalprocAttr]
  intro b2 T2 dO dA ef b3 T3 gK cZ fU gB
  refine cW V2.bd (fun M' he hL _=>hx (nj hL.2.1) (cN he _ _ h0) (nj hL.1) (cN he _ _ h0') _) ?_
  simp +contextual only [go_sem,sevalprocAttr]
  exact al (al (ak (dA.trans fU) rfl))
 ·refine az aeb rfl rfl ?_
  intro bj _
  simp +contextual only [go_sem,sevalprocAttr]
  intro b2 T2 dO dA ef b3 T3 gK cZ fU gB
  refine cW V2.bd (fun M' he hL _=>hx (nj hL.2.1) (cN he _ _ h0) (nj hL.1) (cN he _ _ h0') _) ?_
  simp +contextual only [go_sem,sevalprocAttr]
  exact al (al (ak (dA.trans fU) rfl))
theorem Q6 {g:FuncId}{l:List Ex}{sv sv':Value}(HT:du Tryz.prog g=true)(SC:∀ x∈l,∀ cs cs',hY M x cs ->hY M x cs' ->∀ T,bU Tryz.prog g [.agg ⟨cs⟩,.agg ⟨cs'⟩] T M [] [] (fun r _ _ _=>r=.bool true) aM)
 (hs:RS M (hY M) 6 l sv) (zz:RS M (hY M) 6 l sv') (T:Tm):bU Tryz.prog 174 [sv,sv',.func (.func g) #[] #[]] T M [] [] (fun r _ _ _=>r=.bool true) aM:=by
 obtain ⟨fp,a,c,rfl,cX,_,hg⟩:=ax (by decide) (fun _ _=>dS) hs
 obtain ⟨_,a',c',rfl,afS,_,XH⟩:=ax (by decide) (fun _ _=>dS) zz
 refine az aiG rfl rfl ?_
 intro bj _
 simp +contextual only [go_sem,aD,sevalprocAttr]
 refine aO l.length 17 [(1,.slice a' l.length c'),(2,.func (.func g) #[] #[]),(15,.slice a l.length c),(16,.int .i64 (l.length:Int))] (fun i e h=>∃ N',aG T N'/\h=⟨N',M,[],[]⟩) 0 (by omega) (by simp only [aE,go_sem,sevalprocAttr]) (by simp only [go_sem,sevalprocAttr]) ⟨T,aG.rfl',rfl⟩ ?_
 rintro i e h hi aI ht ⟨N',km,rfl⟩
 simp only [aE] at aI
 by_cases aL:i<l.length
 ·obtain ⟨b',o',xs,rfl,bP,eh⟩:=hg i l[i] (gq aL)
  obtain ⟨b'',o'',xs',rfl,sQ,F1⟩:=XH i l[i] (gq aL)
  have hc:=SC _ (gm aL) xs xs' eh F1
  obtain ⟨s,rfl,kss,_⟩:=dG eh
  obtain ⟨s',rfl,kss',_⟩:=dG F1
  have y:=At6 bP
  have y':=At6 sQ
  simp +contextual only [go_sem,aD,sevalprocAttr,aI,ht,aL,y,y',kss,kss']
  intro b8 T8 pp nE sP b9 T9 qY gY uR pY
  refine aP (hc _) ?_
  simp +contextual only [go_sem,aD,sevalprocAttr,ht]
  refine aS (al (al (aC ⟨l.length - (i+1),by omega,rfl,i+1,by omega,rfl,?_,?_,T9,(km.trans nE).trans uR,rfl⟩)))
  ·simp only [aE,aI,go_sem,sevalprocAttr]
  ·simp only [go_sem,sevalprocAttr,aA i (by omega)]
 ·have:i=l.length:=by omega
  subst this
  simp +contextual only [go_sem,aD,sevalprocAttr,aI,ht,aL]
  exact ak km rfl
theorem Rx:∀ (sz:Nat) (x:Ex),SizeOf.sizeOf x<=sz ->KM x:=by
 intro sz
 induction sz with
 | zero=>intro x hx;cases x;simp at hx
 | succ sz ih=>
  intro x ed M b o b' o' cs cs' bP hx sQ zA T
  obtain ⟨s,rfl,ks,hs⟩:=dG hx
  obtain ⟨s',rfl,ks',zz⟩:=dG zA
  have y:=At6 bP
  have y':=At6 sQ
  refine az V2 rfl rfl ?_
  intro bj _
  simp +contextual only [go_sem,sevalprocAttr]
  refine aT ?_
  simp +contextual only [go_sem,sevalprocAttr,y,y',aa4]
  have hk:∀ y∈x.kids,KM y:=fun y hy=>ih y (by
   have h4:=List.sizeOf_lt_of_mem hy
   cases x with | mk k v c kids=>
   simp only [Ex.kids] at h4
   simp only [Ex.mk.sizeOf_spec] at ed
   omega)
  refine aP (Q6 aeg.bd (fun y hy cs cs' h h' T=>KW (.inl rfl) (hk y hy) h h' T) hs zz _) ?_
  simp +contextual only [go_sem,sevalprocAttr]
  exact ⟨fW.refl _,ak aG.rfl' rfl⟩
theorem aaL {g:FuncId}{l:List Ag}{sv sv':Value}(HT:du Tryz.prog g=true)(SC:∀ x∈l,∀ cs cs',AV M x cs ->AV M x cs' ->∀ T,bU Tryz.prog g [.agg ⟨cs⟩,.agg ⟨cs'⟩] T M [] [] (fun r _ _ _=>r=.bool true) aM)
 (hs:RS M (AV M) 7 l sv) (zz:RS M (AV M) 7 l sv') (T:Tm):bU Tryz.prog 177 [sv,sv',.func (.func g) #[] #[]] T M [] [] (fun r _ _ _=>r=.bool true) aM:=by
 obtain ⟨fp,a,c,rfl,cX,_,hg⟩:=ax (by decide) (fun _ _=>mM) hs
 obtain ⟨_,a',c',rfl,afS,_,XH⟩:=ax (by decide) (fun _ _=>mM) zz
 refine az aiH rfl rfl ?_
 intro bj _
 simp +contextual only [go_sem,aD,sevalprocAttr]
 refine aO l.length 17 [(1,.slice a' l.length c'),(2,.func (.func g) #[] #[]),(15,.slice a l.length c),(16,.int .i64 (l.length:Int))] (fun i e h=>∃ N',aG T N'/\h=⟨N',M,[],[]⟩) 0 (by omega) (by simp only [aE,go_sem,sevalprocAttr]) (by simp only [go_sem,sevalprocAttr]) ⟨T,aG.rfl',rfl⟩ ?_
 rintro i e h hi aI ht ⟨N',km,rfl⟩
 simp only [aE] at aI
 by_cases aL:i<l.length
 ·obtain ⟨b',o',xs,rfl,bP,eh⟩:=hg i l[i] (gq aL)
  obtain ⟨b'',o'',xs',rfl,sQ,F1⟩:=XH i l[i] (gq aL)
  have hc:=SC _ (gm aL) xs xs' eh F1
  obtain ⟨s,rfl,kss,_⟩:=pG eh
  obtain ⟨s',rfl,kss',_⟩:=pG F1
  have y:=At7 bP
  have y':=At7 sQ
  simp +contextual only [go_sem,aD,sevalprocAttr,aI,ht,aL,y,y',kss,kss']
  intro b8 T8 pp nE sP b9 T9 qY gY uR pY
  refine aP (hc _) ?_
  simp +contextual only [go_sem,aD,sevalprocAttr,ht]
  refine aS (al (al (aC ⟨l.length - (i+1),by omega,rfl,i+1,by omega,rfl,?_,?_,T9,(km.trans nE).trans uR,rfl⟩)))
  ·simp only [aE,aI,go_sem,sevalprocAttr]
  ·simp only [go_sem,sevalprocAttr,aA i (by omega)]
 ·have:i=l.length:=by omega
  subst this
  simp +contextual only [go_sem,aD,sevalprocAttr,aI,ht,aL]
  exact ak km rfl
theorem aaM {g:FuncId}{l:List Pl}{sv sv':Value}(HT:du Tryz.prog g=true)(SC:∀ x∈l,∀ cs cs',gP M x cs ->gP M x cs' ->∀ T,bU Tryz.prog g [.agg ⟨cs⟩,.agg ⟨cs'⟩] T M [] [] (fun r _ _ _=>r=.bool true) aM)
 (hs:RS M (gP M) 11 l sv) (zz:RS M (gP M) 11 l sv') (T:Tm):bU Tryz.prog 179 [sv,sv',.func (.func g) #[] #[]] T M [] [] (fun r _ _ _=>r=.bool true) aM:=by
 obtain ⟨fp,a,c,rfl,cX,_,hg⟩:=ax (by decide) (fun _ _=>jx) hs
 obtain ⟨_,a',c',rfl,afS,_,XH⟩:=ax (by decide) (fun _ _=>jx) zz
 refine az aiI rfl rfl ?_
 intro bj _
 simp +contextual only [go_sem,aD,sevalprocAttr]
 refine aO l.length 17 [(1,.slice a' l.length c'),(2,.func (.func g) #[] #[]),(15,.slice a l.length c),(16,.int .i64 (l.length:Int))] (fun i e h=>∃ N',aG T N'/\h=⟨N',M,[],[]⟩) 0 (by omega) (by simp only [aE,go_sem,sevalprocAttr]) (by simp only [go_sem,sevalprocAttr]) ⟨T,aG.rfl',rfl⟩ ?_
 rintro i e h hi aI ht ⟨N',km,rfl⟩
 simp only [aE] at aI
 by_cases aL:i<l.length
 ·obtain ⟨b',o',xs,rfl,bP,eh⟩:=hg i l[i] (gq aL)
  obtain ⟨b'',o'',xs',rfl,sQ,F1⟩:=XH i l[i] (gq aL)
  have hc:=SC _ (gm aL) xs xs' eh F1
  obtain ⟨s1,a1,n1,a2,n2,a3,n3,rfl,kss,_⟩:=dj eh
  obtain ⟨s1',a1',n1',a2',n2',a3',n3',rfl,kss',_⟩:=dj F1
  obtain ⟨p0,p1,p2,p3,p4,p5,p6,p7,p8,p9,p10,_⟩:=bP
  obtain ⟨q0,q1,q2,q3,q4,q5,q6,q7,q8,q9,q10,_⟩:=sQ
  unfold O3 at hc
  simp +contextual only [go_sem,aD,sevalprocAttr,aI,ht,aL,p0,p1,p2,p3,p4,p5,p6,p7,p8,p9,p10,q0,q1,q2,q3,q4,q5,q6,q7,q8,q9,q10,kss,kss']
  intro b8 T8 pp nE sP b9 T9 qY gY uR pY
  refine aP (hc _) ?_
  simp +contextual only [go_sem,aD,sevalprocAttr,ht]
  refine aS (al (al (aC ⟨l.length - (i+1),by omega,rfl,i+1,by omega,rfl,?_,?_,T9,(km.trans nE).trans uR,rfl⟩)))
  ·simp only [aE,aI,go_sem,sevalprocAttr]
  ·simp only [go_sem,sevalprocAttr,aA i (by omega)]
 ·have:i=l.length:=by omega
  subst this
  simp +contextual only [go_sem,aD,sevalprocAttr,aI,ht,aL]
  exact ak km rfl
def vR (x:Ex):KM x:=Rx _ x (Nat.le_refl _)
theorem Ri {l:List Ex}{sv sv':Value}(hs:RS M (hY M) 6 l sv)(zz:RS M (hY M) 6 l sv')(T:Tm):bU Tryz.prog 173 [sv,sv'] T M [] [] (fun r _ _ _=>r=.bool true) aM:=by
 refine az aiF rfl rfl ?_
 intro bj _
 simp +contextual only [go_sem,sevalprocAttr]
 refine aP (Q6 aeb.bd (fun y hy cs cs' h h' T=>KW (.inr rfl) (vR y) h h' T) hs zz _) ?_
 simp +contextual only [go_sem,sevalprocAttr]
 exact ak aG.rfl' rfl
theorem WR {a:Ag}{cs cs':List Value}(h:AV M a cs)(h':AV M a cs')(T:Tm):bU Tryz.prog 178 [.agg ⟨cs⟩,.agg ⟨cs'⟩] T M [] [] (fun r _ _ _=>r=.bool true) aM:=by
 obtain ⟨s,rfl,ks,hx⟩:=pG h
 obtain ⟨s',rfl,ks',zA⟩:=pG h'
 refine az aec rfl rfl ?_
 intro bj _
 simp +contextual only [go_sem,sevalprocAttr]
 intro b2 T2 dO dA ef b3 T3 gK cZ fU gB
 refine cW V2.bd (fun M' he hL _=>vR a.x (nj hL.2.1).2 (cN he _ _ hx) (nj hL.1).2 (cN he _ _ zA) _) ?_
 simp +contextual only [go_sem,sevalprocAttr]
 exact al (al (ak (dA.trans fU) rfl))
def QC (p:Pl):Prop:=∀ {M:aR} {b o b' o':Nat} {cs cs':List Value},At M b o cs ->gP M p cs ->At M b' o' cs' ->gP M p cs' ->∀ T,bU Tryz.prog 110 [.pointer (some ⟨b,o,none⟩),.pointer (some ⟨b',o',none⟩)] T M [] [] (fun r _ _ _=>r=.bool true) aM
theorem WS {p:Pl}(hp:QC p){cs cs':List Value}(h:gP M p cs)(h':gP M p cs')(T:Tm):bU Tryz.prog 180 [.agg ⟨cs⟩,.agg ⟨cs'⟩] T M [] [] (fun r _ _ _=>r=.bool true) aM:=by
 have h0:=h
 have h0':=h'
 obtain ⟨c0,c1,c2,c3,c4,c5,c6,c7,c8,c9,c10,rfl,hc⟩:=cT h
 obtain ⟨d0,d1,d2,d3,d4,d5,d6,d7,d8,d9,d10,rfl,hd⟩:=cT h'
 refine az aed rfl rfl ?_
 intro bj _
 simp +contextual only [go_sem,sevalprocAttr]
 intro b2 T2 dO dA ef b3 T3 gK cZ fU gB
 refine cW aai.bd (fun M' he hL _=>hp (nj hL.2.1) (bA he _ _ h0) (nj hL.1) (bA he _ _ h0') _) ?_
 simp +contextual only [go_sem,sevalprocAttr]
 exact al (al (ak (dA.trans fU) rfl))
def TT {p:Pl}{b o:Nat}{cs:List Value}(bP:At M b o cs)(h:gP M p cs):∃ xc,At M b (o+2) xc/\hY M p.x xc:=by
 obtain ⟨xc,xv,av,s,rfl,h,_⟩:=jV.1 h
 exact ⟨xc,(fF.1 (fF.1 bP).2).1,h⟩
theorem Rw:∀ (sz:Nat) (p:Pl),SizeOf.sizeOf p<=sz ->QC p:=by
 intro sz
 induction sz with
 | zero=>intro p hp;cases p;simp at hp
 | succ sz ih=>
  intro p ed M b o b' o' cs cs' bP hp sQ EC T
  obtain ⟨s1,a1,n1,a2,n2,a3,n3,rfl,ks,hx,fq,FO,mV⟩:=dj hp
  obtain ⟨s1',a1',n1',a2',n2',a3',n3',rfl,ks',zA,al3,ae8,abW⟩:=dj EC
  have uk:=bP
  have afg:=sQ
  obtain ⟨p0,p1,p2,p3,p4,p5,p6,p7,p8,p9,p10,_⟩:=bP
  obtain ⟨q0,q1,q2,q3,q4,q5,q6,q7,q8,q9,q10,_⟩:=sQ
  have hk:∀ y∈p.kids,QC y:=fun y hy=>ih y (by
   have h4:=List.sizeOf_lt_of_mem hy
   cases p with | mk k n x xs ags kids=>
   simp only [Pl.kids] at h4
   simp only [Pl.mk.sizeOf_spec] at ed
   omega)
  refine az aai rfl rfl ?_
  intro bj _
  simp +contextual only [go_sem,sevalprocAttr]
  refine aT ?_
  simp +contextual only [go_sem,sevalprocAttr,p0,p1,q0,q1]
  obtain ⟨xc,k1,k2⟩:=TT uk hp
  obtain ⟨xc',k1',k2'⟩:=TT afg EC
  refine aP (vR p.x k1 k2 k1' k2' _) ?_
  simp +contextual only [go_sem,sevalprocAttr,p8,q8]
  refine ⟨fW.refl _,aP (Ri fq al3 _) ?_⟩
  simp +contextual only [go_sem,sevalprocAttr,p9,q9]
  refine ⟨fW.refl _,aP (aaL aec.bd (fun y hy cs cs' h h' T=>WR h h' T) FO ae8 _) ?_⟩
  simp +contextual only [go_sem,sevalprocAttr,p10,q10]
  refine ⟨fW.refl _,aP (aaM aed.bd (fun y hy cs cs' h h' T=>WS (hk y hy) h h' T) mV abW _) ?_⟩
  simp +contextual only [go_sem,sevalprocAttr]
  exact ⟨fW.refl _,ak aG.rfl' rfl⟩
variable {M:aR}
theorem Rc {bv:Nat}{za:Option Addr}{zn zc:Nat}(h:aN M ⟨bv,13,none⟩=some (.slice za zn zc))(T:Tm):bU Tryz.prog 111 [.pointer (some ⟨bv,0,none⟩)] T M [] [] (fun r _ _ _=>r=.slice za zn zc) aM:=by
 refine az (bV mx Tryz.func111 (by kernel_rfl) (by kernel_rfl):FnF Tryz.prog 111 Tryz.f111 7 [] [.tmp 2]) rfl rfl ?_
 intro bj _
 simp +contextual only [go_sem,sevalprocAttr,h]
 exact ak aG.rfl' rfl
def Rt {rels:List Rel}{p:Pl}{pc:List Value}{be bv gk i kn kc:Nat}{rv dv sv:Value}{za:Option Addr}{zn zc:Nat}(sS:M be=some [rv,dv,.slice (some ⟨gk,0,none⟩) kn kc,sv])(cH:RS M (ig M) 14 rels rv)(hi:i<rels.length)(ZN:rels[i].view=true)(hpi:rels[i].plan=p)(vG:∀ (j:Nat) (h:j<rels.length),j<i ->rels[j].view=false)(bu:rels.length<=1000)
 (hp:gP M p pc) (VR:0<kn) (Zx:aN M ⟨gk,0,none⟩=some (.pointer (some ⟨bv,0,none⟩))) (hbv:aN M ⟨bv,13,none⟩=some (.slice za zn zc)) (T:Tm):bU Tryz.prog 61 [.pointer (some ⟨be,0,none⟩),.agg ⟨pc⟩] T M [] [] (fun r _ _ _=>r=.tuple ⟨[.slice za zn zc,.int .i64 0]⟩) aM:=by
 have k0:aN M ⟨be,0,none⟩=some rv:=by simp [aN,sS]
 have k2:aN M ⟨be,2,none⟩=some (.slice (some ⟨gk,0,none⟩) kn kc):=by simp [aN,sS]
 have xj:=hp
 obtain ⟨d0,d1,d2,d3,d4,d5,d6,d7,d8,d9,d10,rfl,hd⟩:=cT hp
 obtain ⟨fp,a,c',rfl,cX,_,hg⟩:=ax (by decide) (fun _ _=>ii) cH
 refine az F61 rfl rfl ?_
 intro bj _
 simp +contextual only [go_sem,sevalprocAttr]
 intro b3 T3 gK fU gB
 simp +contextual only [go_sem,aD,sevalprocAttr,k0]
 refine aO rels.length 14 [(0,.pointer (some ⟨be,0,none⟩)),(3,.pointer (some ⟨b3,0,none⟩)),(6,.int .i64 0),(12,.slice a rels.length c'),(13,.int .i64 (rels.length:Int))] (fun j e h=>j<=i/\∃ N',aG T3 N'/\h=⟨N',M,[(b3,[d0,d1,d2,d3,d4,d5,d6,d7,d8,d9,d10])],[]⟩) 0 (by omega) (by simp only [aE,go_sem,sevalprocAttr]) (by simp only [go_sem,sevalprocAttr]) ⟨by omega,T3,aG.rfl',rfl⟩ ?_
 rintro j e h hj aI ht ⟨xU,N',km,rfl⟩
 simp only [aE] at aI
 have aL:j<rels.length:=by omega
 obtain ⟨b',o',cs',rfl,bP,eh⟩:=hg j rels[j] (gq aL)
 have aqz:=eh
 obtain ⟨ca,cn,s1,a1,n1,a2,n2,a3,n3,rfl,iQ,_,tA⟩:=iz eh
 have y:=C7 bP
 by_cases zp:j=i
 ·subst zp
  simp +contextual only [go_sem,aD,sevalprocAttr,aI,ht,aL,y,iQ,ZN]
  intro b8 T8 pp eC nE sP
  rw [hpi] at tA
  unfold O3 at tA
  refine cW aai.bd (fun M' he hL _=>Rw _ p (Nat.le_refl _) (nj hL.1).2.2.2 (by rw [hpi];exact bA he _ _ tA) (nj hL.2.1) (bA he _ _ xj) _) ?_
  have ak4:(0:Int)<(kn:Int):=by omega
  simp +contextual only [go_sem,aD,sevalprocAttr,aI,k2,Zx,ak4]
  refine aP (Rc hbv _) ?_
  simp +contextual only [go_sem,sevalprocAttr]
  exact al (al (ak ((fU.trans km).trans nE) rfl))
 ·have j3:=vG j aL (by omega)
  simp +contextual only [go_sem,aD,sevalprocAttr,aI,ht,aL,y,iQ,j3]
  intro b8 T8 pp eC nE sP
  refine aS (al (aC ⟨rels.length - (j+1),by omega,rfl,j+1,by omega,rfl,?_,?_,by omega,T8,km.trans nE,rfl⟩))
  ·simp only [aE,aI,go_sem,sevalprocAttr]
  ·simp only [go_sem,sevalprocAttr,aA j (by omega)]
structure AskOk (rels:List Rel) (q:Q) (w:Pl×List Co):Prop where
 ok:∀ x∈q.parts,OkSe x
 par:q.parts.length<=q.ops.length+1
 parl:q.parts.length<=1048576
 ord:0<=q.limit ->q.order.length<=1048576/\∀ x∈q.order,GB x
 wid:∀ r t,jF rels q=.ok r ->fH (bO rels) r.1=.ok t ->t.length<=r.2.length
 bnd:iN rels q=.ok w
set_option maxHeartbeats 1000000 in
theorem RB {be bv gk sb so i kn kc atn:Nat}{s:Stm}{sc:List Value}{rels:List Rel}{rv dv:Value}{w:Pl×List Co}{za:Option Addr}{zn zc:Nat}(bP:At M sb so sc)(hs:mD M s sc)(cH:RS M (ig M) 14 rels rv)(bu:rels.length<=1000)(eD:∀ r∈rels,r.cols.length<=1048576)(hq:AskOk rels s.q w)(H2:w.2.length<=1000000)
 (hi:i<rels.length) (ZN:rels[i].view=true) (hpi:rels[i].plan=w.1) (vG:∀ (j:Nat) (h:j<rels.length),j<i ->rels[j].view=false) (VR:0<kn) (Zx:aN M ⟨gk,0,none⟩=some (.pointer (some ⟨bv,0,none⟩))) (hbv:aN M ⟨bv,13,none⟩=some (.slice za zn zc)) (T:Tm):
 bU Tryz.prog 32 [.pointer (some ⟨be,0,none⟩),.pointer (some ⟨sb,so,none⟩),.int .i64 (atn:Int)] T M [(be,[rv,dv,.slice (some ⟨gk,0,none⟩) kn kc,.slice none 0 0])] [] (fun v M' L' _=>v=.int .i64 0/\∃ b c,L'=[(be,[rv,dv,.slice (some ⟨gk,0,none⟩) kn kc,.slice (some ⟨b,0,none⟩) 1 c])]/\aN M' ⟨b,2,none⟩=some (.slice za zn zc)) aM:=by
 obtain ⟨ac,ad,ap,aq,ao,an,ar,ae,au,av,aw,rfl,hco,hrq,_⟩:=nM hs
 obtain ⟨y0,y1,y2,y3,y4,y5,y6,_⟩:=bP
 obtain ⟨_,ra,rc,rfl,_⟩:=ax (by decide) (fun _ _=>ii) cH
 have cm:∀ e',jF rels s.q=.error e' ->e'≠0:=fun e' he=>by have hb:=hq.bnd;unfold iN at hb;rw [he] at hb;cases hb
 refine az F32 rfl rfl ?_
 intro bj iC
 have nb:=bj.1
 simp +contextual only [go_sem,sevalprocAttr]
 refine l8 (fun e' ds h=>ds=[]/\e' 0=.pointer (some ⟨be,0,none⟩)/\e' 2=.int .i64 (atn:Int)/\∃ N' M' b7 cs cv,e' 7=.pointer (some ⟨b7,0,none⟩)/\e' 8=cv/\e' 9=.int .i64 0/\aG T N'/\bm M M'/\gP M' w.1 cs/\RS M' tF 2 w.2 cv/\h=⟨N',M',[(b7,cs),(be,[.slice ra rels.length rc,dv,.slice (some ⟨gk,0,none⟩) kn kc,.slice none 0 0])],[]⟩/\aJ M' h.L/\(¬ b7=be/\¬ be=b7)) ?_ ?_
 ·intro S' fh
  refine aT ?_
  simp +contextual only [go_sem,sevalprocAttr,aB nb,y3,y4,y5,y6]
  constructor
  ·refine aF (vo cH hrq (by omega) eD hq.ok hq.par hq.parl hq.ord cm hq.wid _) ?_
   intro r M1 aW bD iP
   unfold nA at iP
   rw [hq.bnd] at iP
   obtain ⟨cs,cv,rfl,gC,lz⟩:=iP
   obtain ⟨c0,c1,c2,c3,c4,c5,c6,c7,c8,c9,c10,rfl,sT⟩:=cT gC
   obtain ⟨_,va,vc,rfl,_⟩:=ax (by decide) (fun _ _=>fZ) lz
   simp +contextual only [go_sem,sevalprocAttr,sT]
   refine ⟨dL aW bD,?_⟩
   intro b7 T7 mU jD B5 Ja
   refine ⟨dJ aW bD ⟨jD,trivial⟩,?_⟩
   exact fh _ _ _ ⟨rfl,by simp only [go_sem,sevalprocAttr],by simp only [go_sem,sevalprocAttr],T7,M1,b7,_,_,by simp only [go_sem,sevalprocAttr],by simp only [go_sem,sevalprocAttr],by simp only [go_sem,sevalprocAttr],B5,aW,gC,lz,rfl,⟨mU,bD⟩,jD⟩
  ·intro b7 T7 mU jD B5 Ja
   refine ⟨dJ bm.rfl' ⟨nb,trivial⟩ ⟨jD,trivial⟩,?_⟩
   refine aF (vo cH hrq (by omega) eD hq.ok hq.par hq.parl hq.ord cm hq.wid _) ?_
   intro r M1 aW bD iP
   unfold nA at iP
   rw [hq.bnd] at iP
   obtain ⟨cs,cv,rfl,gC,lz⟩:=iP
   obtain ⟨c0,c1,c2,c3,c4,c5,c6,c7,c8,c9,c10,rfl,sT⟩:=cT gC
   obtain ⟨_,va,vc,rfl,_⟩:=ax (by decide) (fun _ _=>fZ) lz
   simp +contextual only [go_sem,sevalprocAttr,sT]
   exact fh _ _ _ ⟨rfl,by simp only [go_sem,sevalprocAttr],by simp only [go_sem,sevalprocAttr],T7,M1,b7,_,_,by simp only [go_sem,sevalprocAttr],by simp only [go_sem,sevalprocAttr],by simp only [go_sem,sevalprocAttr],B5,aW,gC,lz,rfl,bD,jD⟩
 rintro e' ds' h' ⟨rfl,e0,e2,N1,M1,b7,cs,cv,e7,e8,e9,pz,aW,gC,lz,rfl,bD,jD⟩
 have Ov:=gC
 obtain ⟨c0,c1,c2,c3,c4,c5,c6,c7,c8,c9,c10,rfl,sT⟩:=cT gC
 obtain ⟨_,va,vc,rfl,_,_,hcg⟩:=ax (by decide) (fun _ _=>fZ) lz
 obtain ⟨n7,nbe,_⟩:=bD
 simp +contextual only [go_sem,aD,sevalprocAttr,e0,e7,e9,aB n7]
 refine cW F61.bd (fun M' he hL _=>Rt hL.2.1 (aH (aW.trans he) (dV (aW.trans he)) cH) hi ZN hpi vG bu (bA he _ _ Ov) VR (ay (aW.trans he) Zx) (ay (aW.trans he) hbv) _) ?_
 simp +contextual only [go_sem,aD,sevalprocAttr,e8]
 refine aO w.2.length 41 [(0,.pointer (some ⟨be,0,none⟩)),(2,.int .i64 (atn:Int)),(10,.slice za zn zc),(39,.slice va w.2.length vc),(40,.int .i64 (w.2.length:Int))] (fun i e h=>∃ N' R' fv,aG N1 N'/\h=⟨N',M1,[(b7,[c0,c1,c2,c3,c4,c5,c6,c7,c8,c9,c10]),(be,[.slice ra rels.length rc,dv,.slice (some ⟨gk,0,none⟩) kn kc,.slice none 0 0])],R'⟩/\e 11=fv/\kY 9 1 rC [] R' fv ((w.2.take i).map (·.name))) 0 (by omega) (by simp only [aE,go_sem,sevalprocAttr,e0,e2]) (by simp only [go_sem,sevalprocAttr]) ⟨N1,_,_,aG.rfl',rfl,by simp only [go_sem,sevalprocAttr],cV⟩ ?_
 rintro j e h hj aI ht ⟨N',R',fv,km,rfl,e11,bq⟩
 simp only [aE] at aI
 by_cases aL:j<w.2.length
 ·obtain ⟨b',o',cs',rfl,Sw,eh⟩:=hcg j w.2[j] (gq aL)
  obtain rfl:=tG eh
  obtain ⟨z0,z1,_⟩:=Sw
  simp +contextual only [go_sem,aD,sevalprocAttr,aI,ht,aL,z0,z1,e11]
  intro b13 T13 Jc FP DK Sr b48 ako amO
  refine cB (Tryz.underlying62) G8 GE (x:=w.2[j].name) (cs:=[st w.2[j].name]) bq rfl (fun _ _=>fu) (by simp [Value.oneCell',st]) ako (by rw [List.length_map,List.length_take];omega) (by decide) ?_
  intro fv' R2 bw
  have fQ:(w.2.take j).map (·.name)++[w.2[j].name]=(w.2.take (j+1)).map (·.name):=by
   rw [<- List.take_append_getElem aL,List.map_append];rfl
  rw [fQ] at bw
  simp +contextual only [go_sem,sevalprocAttr,ht]
  refine aS (al (al (aC ⟨w.2.length - (j+1),by omega,rfl,j+1,by omega,rfl,?_,?_,T13,R2,fv',km.trans DK,rfl,?_,bw⟩)))
  ·simp only [aE,aI,go_sem,sevalprocAttr]
  ·simp only [go_sem,sevalprocAttr,aA j (by omega)]
  ·simp only [go_sem,sevalprocAttr]
 ·have:j=w.2.length:=by omega
  subst this
  obtain ⟨fa,fc,rfl⟩:=eI bq
  simp +contextual only [go_sem,aD,sevalprocAttr,aI,ht,aL,e11,aB nbe,jD]
  intro b60 Jf Lo
  refine fX [] [(b7,_),(be,_)] [] rfl trivial (Tryz.underlying47) ZV ZR (α:=List Value) (r:=fun x cs=>cs=x) (x:=[.int .i64 (atn:Int),.slice fa ((w.2.take w.2.length).map (·.name)).length fc,.slice za zn zc]) (l:=[]) (L:=[]) (.inl ⟨rfl,rfl,rfl⟩) rfl rfl (by simp [Value.oneCell']) Jf (by simp) (by decide) ?_
  intro N2 lv' g cs' I9 uj ec
  simp only [bf,nn] at uj
  rcases ec with ⟨h,_⟩ | ⟨g',cap,cs2,junk,rfl,hL,hNg,fq,iY,apG,pq,hMg⟩
  ·cases h
  cases hL
  obtain ⟨c1',c2',hce,rfl,hc3⟩:=fq
  obtain rfl:c2'=[]:=hc3
  subst hce
  simp +contextual only [go_sem,sevalprocAttr,jD,Lo,uj]
  refine bY (jK (L2:=[(g,[.int .i64 (atn:Int),.slice fa ((w.2.take w.2.length).map (·.name)).length fc,.slice za zn zc]++[]++junk),(be,[.slice ra rels.length rc,dv,.slice (some ⟨gk,0,none⟩) kn kc,.slice (some ⟨g,0,none⟩) 1 cap])]) (by simp) (by simp [aV,uj]) (aU fun he hg _=>aQ ((pz.trans km).trans I9) rfl rfl ⟨rfl,g,cap,rfl,?_⟩))
  simp only [aN,Option.isSome_none,Bool.false_eq_true,if_false]
  rw [hg];rfl
abbrev ZT:=List Z×List Z×List Z
def Kx (rels:List Rel)(aY:List (List Int))(p:Pl)(s:Stm)(A B:ZT):Prop:=∃ (n:Nat) (hi:n<rels.length) (m0 m1 z zo d d':List Z),
 rels[n].name=s.name/\(∀ (j:Nat) (h:j<rels.length),j<n ->rels[j].name≠s.name)/\(∀ (j:Nat) (h:j<rels.length),j<=n ->rels[j].view=false)/\rels[n].cols.length<=8/\(∀ r∈s.rows,mS (rels[n].cols.map (·.ty)) r=0)/\s.rows.length<=1600/\oC (s.rows.map fun r=>(⟨r,1⟩:Z))=.ok z/\
 (n=0/\m0=z/\m1=[]/\B.2.1=A.2.1\/n=1/\m0=[]/\m1=z/\B.1=A.1)/\jj aY [A.1,A.2.1]=0/\jj aY [m0,m1]=0/\addM A.1 m0=.ok B.1/\addM A.2.1 m1=.ok B.2.1/\mL aY [A.1,A.2.1] [m0,m1] p zo d/\d.length<=4294967296/\(∀ z∈d,z.row.length<=4294967296)/\oC d=.ok d'/\addM A.2.2 d'=.ok B.2.2/\mT B.1/\mT B.2.1/\mT B.2.2
def Ey:List Value:=[.int .i64 0,.int .i64 0]
def adX (M:aR)(be b3:Nat)(rels:List Rel)(aY:List (List Int))(p:Pl)(A:ZT)(L:LL):Prop:=∃ (gr rcap bv gk kc gd dcap:Nat) (d0 d1 tv dv zv:Value) (cs junk:List Value),
 RS M (ig M) 14 rels (.slice (some ⟨gr,0,none⟩) 3 rcap)/\aN M ⟨gk,0,none⟩=some (.pointer (some ⟨bv,0,none⟩))/\RS M (lZ M) 1 aY tv/\gP M p cs/\RS M (RZ M) 2 A.1 d0/\RS M (RZ M) 2 A.2.1 d1/\RS M (RZ M) 2 A.2.2 zv/\
 RS (eM M [(be,oQ (.slice (some ⟨gr,0,none⟩) 3 rcap) gd dcap gk kc (.slice none 0 0)),(gd,[d0,d1])]) (RD (eM M [(be,oQ (.slice (some ⟨gr,0,none⟩) 3 rcap) gd dcap gk kc (.slice none 0 0)),(gd,[d0,d1])])) 1 [A.1,A.2.1] dv/\
 L=[(bv,iy tv cs dv zv),(be,oQ (.slice (some ⟨gr,0,none⟩) 3 rcap) gd dcap gk kc (.slice none 0 0)),(gd,d0::d1::junk),(b3,Ey)]
def aas (T:Tm)(M:aR)(be b3:Nat)(s0 s1:Stm)(rels:List Rel)(p:Pl)(st:Nat ->ZT)(n i:Nat)(h:Sh):Prop:=∃ N' M' L',aG T N'/\bm M M'/\h=⟨N',M',L',[]⟩/\aJ M' L'/\iB L'/\
 (i=0 ->L'=[(be,[.slice none 0 0,.slice none 0 0,.slice none 0 0,.slice none 0 0]),(b3,Ey)])/\
 (i=1\/i=2 ->∃ rv dv gr cr gd cd,eo 122 14 (ig M') M' N' ([iW s0,iW s1].take i) rv [(gr,cr)]/\eo 32 1 (RD M') M' N' (([[],[]]:List (List Z)).take i) dv [(gd,cd)]/\L'=[(be,[rv,dv,.slice none 0 0,.slice none 0 0]),(gr,cr),(gd,cd),(b3,Ey)])/\
 (3<=i ->i<n ->adX M' be b3 rels (bO [iW s0,iW s1]) p (st (i - 3)) L')/\
 (i=n ->∃ rv dv kv zv b c,L'=[(be,[rv,dv,kv,.slice (some ⟨b,0,none⟩) 1 c]),(b3,Ey)]/\aN M' ⟨b,2,none⟩=some zv/\RS M' (RZ M') 2 (st (n - 4)).2.2 zv)
def TB {M:aR}{b:Nat}{v:Value}{r:List Value}(h:M b=some (v::r)):aN M ⟨b,0,none⟩=some v:=by simp [aN,h]
variable {M:aR}
set_option maxHeartbeats 2000000 in
def Rb {s0 s1 s2 sh:Stm}{ins:List Stm}{lv:Value}{w w':Pl×List Co}{z0:List Z}{st:Nat ->ZT}(hG:eS M)(hl:RS M (mD M) 16 (s0::s1::s2::(ins++[sh])) lv)(hw:(kS (s0::s1::s2::(ins++[sh]))).1=0)
 (k0:s0.k=1) (k1:s1.k=1) (k2:s2.k=2) (ki:∀ s∈ins,s.k=3) (ks:sh.k=5) (Jl:ins.length<=100)
 (ab3:s0.name≠s1.name) (ab4:(s0.cols.map (·.name)).Nodup) (vF:(s1.cols.map (·.name)).Nodup) (EA:s0.cols.length<=8/\∀ c∈s0.cols,c.ty≠0) (Ls:s1.cols.length<=8/\∀ c∈s1.cols,c.ty≠0)
 (hv:ViewOk [iW s0,iW s1] [[],[]] s2 w z0) (acp:st 0=([],[],z0)) (abU:∀ (j:Nat) (h:j<ins.length),Kx [iW s0,iW s1,jw s2 w] (bO [iW s0,iW s1]) w.1 ins[j] (st j) (st (j+1)))
 (hq:AskOk [iW s0,iW s1,jw s2 w] sh.q w') (H2:w'.2.length<=1000000) (XZ:w.1=w'.1) (T:Tm):
 bU Tryz.prog 12 [lv] T M [] [] (fun v M' _ _=>∃ b c zv,v=.tuple ⟨[.slice (some ⟨b,0,none⟩) 1 c,.agg ⟨[.int .i64 0,.int .i64 0]⟩]⟩/\aN M' ⟨b,2,none⟩=some zv/\RS M' (RZ M') 2 (st ins.length).2.2 zv) aM:=by
 obtain ⟨l,cX⟩:∃ l,l=s0::s1::s2::(ins++[sh]):=⟨_,rfl⟩
 rw [<- cX] at hl hw
 have hll:l.length=ins.length+4:=by rw [cX];simp
 have un:=hl
 obtain ⟨fp,la,lc,rfl,aqf,_,hg⟩:=ax (by decide) (fun _ _=>gb) hl
 refine az F12 rfl rfl ?_
 intro bj _
 simp +contextual only [go_sem,sevalprocAttr]
 intro b3 T3 gK fU gB
 refine aP (Fq hG un _) ?_
 simp +contextual only [go_sem,aD,sevalprocAttr,Xg,hw]
 intro b4 T4 eH em fE iJ
 intro be Te sS afd hTe apd
 have hT0:=(fU.trans fE).trans hTe
 refine bR l.length 19 [(0,.slice la l.length lc),(3,.pointer (some ⟨b3,0,none⟩)),(5,.pointer (some ⟨be,0,none⟩)),(18,.int .i64 (l.length:Int))] (fun i e h=>aas T M be b3 s0 s1 [iW s0,iW s1,jw s2 w] w.1 st l.length i h) 0 (by omega) (by simp only [aE,go_sem,sevalprocAttr]) (by simp only [go_sem,sevalprocAttr])
  (jK (L2:=[(be,[.slice none 0 0,.slice none 0 0,.slice none 0 0,.slice none 0 0]),(b3,Ey)]) (by simp [Ey]) (by simp [aV,afd]) (aC ⟨Te,M,_,hT0,bm.rfl',rfl,⟨sS,gK,trivial⟩,⟨⟨afd.2,trivial⟩,trivial,trivial⟩,fun _=>rfl,fun h=>by omega,fun h=>by omega,fun h=>by omega⟩)) ?_
 rintro i e h hi aI ht ⟨N1,M1,L1,pz,aW,rfl,bD,vy,p0,p1,p2,p3⟩
 simp only [aE] at aI
 by_cases aL:i<l.length
 rotate_left
 ·have:i=l.length:=by omega
  subst this
  obtain ⟨rv,dv,kv,zv,b,c,rfl,dO,A5⟩:=p3 rfl
  obtain ⟨nbe,nb3,_⟩:=bD
  obtain ⟨⟨akw,_⟩,_⟩:=vy
  have hn4:l.length - 4=ins.length:=by omega
  rw [hn4] at A5
  unfold Ey
  simp +contextual only [go_sem,aD,sevalprocAttr,aI,ht,aL,aB nbe,aB nb3,akw]
  exact al (al (ak pz ⟨b,c,zv,rfl,dO,A5⟩))
 obtain ⟨b',o',sc,rfl,bP,S4⟩:=hg i l[i] (gq aL)
 obtain ⟨ac,ad,ap,aq,ao,an,ar,ae,au,av,aw,OF,_⟩:=nM S4
 have hy:aN M ⟨b',o'+i*16,none⟩=some (.int .i64 l[i].k):=by
  have:=bP;rw [OF] at this;exact this.1
 have P2:=ay aW hy
 have kq:i=0\/i=1\/i=2\/(3<=i/\i+1<l.length)\/i+1=l.length:=by omega
 rcases kq with h0 | h0 | h0 | h0 | h0
 ·have e0:l[i]=s0:=by subst h0;subst cX;rfl
  rw [e0] at S4 hy P2
  obtain rfl:=p0 h0
  simp +contextual only [go_sem,aD,sevalprocAttr,aI,ht,aL,P2,k0]
  refine Cz (Lr:=[]) (Ld:=[]) (bP.ext aW) (eY aW _ _ S4) (rels:=[]) (data:=[]) (.inl ⟨rfl,rfl,rfl⟩) (.inl ⟨rfl,rfl,rfl⟩) bD vy (fun x hx=>by cases hx) (fun x hx=>by cases hx) (fun x hx=>by cases hx) ab4 (by omega) (by decide) (by decide) ?_
  intro N2 M2 rv dv gr cr gd cd I9 bh rW Cb aZ fz
  simp +contextual only [go_sem,aD,sevalprocAttr,ht]
  refine aS (aC ⟨l.length - (i+1),by omega,rfl,i+1,by omega,rfl,?_,?_,N2,M2,_,pz.trans I9,aW.trans bh,rfl,aZ,fz,fun h=>by omega,fun _=>⟨rv,dv,gr,cr,gd,cd,by rw [h0];exact rW,by rw [h0];exact Cb,rfl⟩,fun h=>by omega,fun h=>by omega⟩)
  ·simp only [aE,aI,go_sem,sevalprocAttr]
  ·simp only [go_sem,sevalprocAttr,aA i (by omega)]
 ·have e0:l[i]=s1:=by subst h0;subst cX;rfl
  rw [e0] at S4 hy P2
  obtain ⟨rv,dv,gr,cr,gd,cd,rW,Cb,rfl⟩:=p1 (.inl h0)
  rw [h0] at rW Cb
  simp +contextual only [go_sem,aD,sevalprocAttr,aI,ht,aL,P2,k1]
  refine Cz (Lr:=[(gr,cr)]) (Ld:=[(gd,cd)]) (bP.ext aW) (eY aW _ _ S4) rW Cb bD vy (fun x hx=>by rw [List.mem_singleton.1 hx];exact ab3) (fun x hx=>by rw [List.mem_singleton.1 hx];rfl) (fun x hx=>by rw [List.mem_singleton.1 hx];show s0.cols.length<=_;omega) vF (by omega) (by simp) (by simp) ?_
  intro N2 M2 rv' dv' gr' cr' gd' cd' I9 bh XN alk aZ fz
  simp +contextual only [go_sem,aD,sevalprocAttr,ht]
  refine aS (aC ⟨l.length - (i+1),by omega,rfl,i+1,by omega,rfl,?_,?_,N2,M2,_,pz.trans I9,aW.trans bh,rfl,aZ,fz,fun h=>by omega,fun _=>⟨rv',dv',gr',cr',gd',cd',by rw [h0];exact XN,by rw [h0];exact alk,rfl⟩,fun h=>by omega,fun h=>by omega⟩)
  ·simp only [aE,aI,go_sem,sevalprocAttr]
  ·simp only [go_sem,sevalprocAttr,aA i (by omega)]
 ·have e0:l[i]=s2:=by subst h0;subst cX;rfl
  rw [e0] at S4 hy P2
  obtain ⟨rv,dv,gr,cr,gd,cd,rW,Cb,rfl⟩:=p1 (.inr h0)
  rw [h0] at rW Cb
  simp +contextual only [go_sem,aD,sevalprocAttr,aI,ht,aL,P2,k2]
  refine Yq (w:=w) (z0:=z0) (bP.ext aW) (eY aW _ _ S4) rW Cb bD vy (by intro u hu;simp only [Ey,mn] at hu;rcases hu with rfl | rfl<;>rfl) (by simp) (by simp) (by intro x hx;simp at hx;rcases hx with rfl | rfl<;>rfl) (by intro x hx;simp at hx;rcases hx with rfl | rfl;exact ⟨Nat.le_trans EA.1 (by decide),EA.2⟩;exact ⟨Nat.le_trans Ls.1 (by decide),Ls.2⟩) (by simp) (by simp) hv trivial ?_
  intro N2 M2 L2 rv' kv' bv tv cs zv gr' cr' gk ck I9 bh XN ce nG gC A5 aZ jo pr
  simp +contextual only [go_sem,aD,sevalprocAttr,ht]
  obtain ⟨_,dcap,csd,jd,rfl,hLd,hpd,abL,uS⟩:=vN Cb (by simp) (by simp) EH
  cases hLd
  obtain ⟨dc0,_,rfl,⟨d0,rfl,Zr⟩,dc1,_,rfl,⟨d1,rfl,pB⟩,H3⟩:=abL
  obtain rfl:=H3
  rcases ce with ⟨h,_⟩ | ⟨_,kcap,_,kj,rfl,hLk,_,⟨_,_,rfl,hpt,lr⟩,_⟩
  ·cases h
  cases hLk
  unfold RPt at hpt
  subst hpt
  obtain ⟨rcap,ns⟩:∃ rcap,rv'=.slice (some ⟨gr',0,none⟩) 3 rcap:=by
   rcases XN with ⟨h,_⟩ | ⟨_,rcap,_,_,rfl,hL,_⟩
   ·simp at h
   ·cases hL;exact ⟨rcap,rfl⟩
  subst ns
  refine aS (jK pr jo (aU fun zk g1 A3=>aU fun pC g2 pt=> ?_))
  have he:=zk.trans pC
  have FN:=bh.trans he
  refine aC ⟨l.length - (i+1),by omega,rfl,i+1,by omega,rfl,?_,?_,N2,_,_,pz.trans I9,aW.trans FN,rfl,pt,nN (List.nodup_cons.1 (List.nodup_cons.1 jo).2).2,fun h=>by omega,fun h=>by omega,fun _ _=> ?_,fun h=>by omega⟩
  ·simp only [aE,aI,go_sem,sevalprocAttr]
  ·simp only [go_sem,sevalprocAttr,aA i (by omega)]
  ·rw [show i+1 - 3=0 by omega,acp]
   have hbg:¬ be=gd:=by simp [aV] at jo;exact jo.2.2.2.1.1
   exact ⟨gr',rcap,bv,gk,kcap,gd,dcap,d0,d1,tv,_,zv,cs,jd,oI XN (dV he) ⟨pC _ _ g1,trivial⟩ (by simp),TB g2,aH he (cO he) nG,bA he _ _ gC,cz FN Zr,cz FN pB,cz he A5,uS _ _ (dD (FN.trans (gG ⟨pt.2.1,pt.2.2.1,trivial⟩))) (by simp [eM,aR.add,Ne.symm (show be≠gd from hbg)]),rfl⟩
 ·have hj:i - 3<ins.length:=by omega
  have e0:l[i]=ins[i - 3]:=by
   have h1:l[i]?=some ins[i - 3]:=by
    subst cX
    obtain ⟨j,rfl⟩:∃ j,i=j+3:=⟨i - 3,by omega⟩
    show (ins++[sh])[j]?=some ins[j+3 - 3]
    rw [List.getElem?_append_left (by omega)]
    exact gq _
   rw [gq aL] at h1
   injection h1
  have FV:=ki _ (gm hj)
  rw [e0] at S4 hy P2
  obtain ⟨gr,rcap,bv,gk,kc,gd,dcap,d0,d1,tv,dv,zv,cs,junk,q1,q2,q3,q4,q5,q6,q7,q8,rfl⟩:=p2 h0.1 aL
  obtain ⟨n,hn,m0,m1,z,zo,d,d',r1,r2,r3,r4,r5,r6,r7,r8,r9,r10,r11,r12,r13,r14,r15,r16,r17,r18,r19,r20⟩:=abU (i - 3) hj
  obtain ⟨c,rF⟩:=hv.col
  obtain ⟨a1,a2,a3,_⟩:=vy
  simp only [bf,and_true] at a1 a2 a3
  simp +contextual only [go_sem,aD,sevalprocAttr,aI,ht,aL,P2,FV]
  refine cD (k:=fun h'=>h'=⟨N1,M1,[(b3,Ey),(bv,iy tv cs dv zv),(be,oQ (.slice (some ⟨gr,0,none⟩) 3 rcap) gd dcap gk kc (.slice none 0 0)),(gd,d0::d1::junk)],[]⟩) (jK (L2:=[(b3,Ey),(bv,iy tv cs dv zv),(be,oQ (.slice (some ⟨gr,0,none⟩) 3 rcap) gd dcap gk kc (.slice none 0 0)),(gd,d0::d1::junk)]) (by simp) (by simp [aV,a1,a2,a3]) (aC rfl)) ?_ F30.bd
  rintro h' rfl
  refine dF [(b3,Ey)] (IH (sv:=.slice none 0 0) (bP.ext aW) (eY aW _ _ S4) q1 hn r1 r2 r3 (by simp) r4 r5 r6 r7 r8 trivial q3 q4 q5 q6 q7 q2 q8 rF r9 r10 r11 r12 r13 r14 r15 r16 r17 r18 r19 r20 _) ?_ (fun _ _ _ _ _ _ h=>h.elim)
  rintro v M2 L2 bh lr aZ ⟨rfl,nv,rv',w0,w1,rfl,t1,t2,t3,t4⟩
  simp +contextual only [go_sem,aD,sevalprocAttr,ht]
  have hnx:aJ M2 [(bv,iy tv cs nv rv'),(be,oQ (.slice (some ⟨gr,0,none⟩) 3 rcap) gd dcap gk kc (.slice none 0 0)),(gd,w0::w1::junk),(b3,Ey)]:=⟨aZ.2.1,aZ.2.2.1,aZ.2.2.2.1,aZ.1,trivial⟩
  refine aS (jK (L2:=[(bv,iy tv cs nv rv'),(be,oQ (.slice (some ⟨gr,0,none⟩) 3 rcap) gd dcap gk kc (.slice none 0 0)),(gd,w0::w1::junk),(b3,Ey)]) (by simp) (by simp [aV,a1,a2,a3]) (aC ⟨l.length - (i+1),by omega,rfl,i+1,by omega,rfl,?_,?_,N1,M2,_,pz,aW.trans bh,rfl,hnx,nN (by simp [aV,a1,a2,a3]),fun h=>by omega,fun h=>by omega,fun _ _=> ?_,fun h=>by omega⟩))
  ·simp only [aE,aI,go_sem,sevalprocAttr]
  ·simp only [go_sem,sevalprocAttr,aA i (by omega)]
  ·rw [show i+1 - 3=i - 3+1 by omega]
   have hE:=gG (M:=M2) (Lp:=[(be,oQ (.slice (some ⟨gr,0,none⟩) 3 rcap) gd dcap gk kc (.slice none 0 0)),(gd,[w0,w1])]) ⟨hnx.2.1,hnx.2.2.1,trivial⟩
   exact ⟨gr,rcap,bv,gk,kc,gd,dcap,w0,w1,tv,nv,rv',cs,junk,aH bh (dV bh) q1,ay bh q2,aH bh (cO bh) q3,bA bh _ _ q4,t1,t2,t4,aH hE (dD hE) t3,rfl⟩
 ·have e0:l[i]=sh:=by
   have h1:l[i]?=some sh:=by
    subst cX
    obtain ⟨j,rfl⟩:∃ j,i=j+3:=⟨i - 3,by omega⟩
    show (ins++[sh])[j]?=some sh
    rw [List.getElem?_append_right (by omega),show j - ins.length=0 by omega];rfl
   rw [gq aL] at h1
   injection h1
  rw [e0] at S4 hy P2
  obtain ⟨gr,rcap,bv,gk,kc,gd,dcap,d0,d1,tv,dv,zv,cs,junk,q1,q2,q3,q4,q5,q6,q7,q8,rfl⟩:=p2 (by omega) aL
  obtain ⟨a1,a2,a3,_⟩:=vy
  simp only [bf,and_true] at a1 a2 a3
  obtain ⟨_,za,zc,rfl,_⟩:=ax (by decide) (fun _ _=>bi) q7
  obtain ⟨c0,c1,c2,c3,c4,c5,c6,c7,c8,c9,c10,rfl,_⟩:=cT q4
  unfold oQ iy at*
  simp only [nn] at*
  simp +contextual only [go_sem,aD,sevalprocAttr,aI,ht,aL,P2,ks]
  refine cD (k:=fun h'=>∃ M2,bm M1 M2/\M2 bv=some [tv,c0,c1,c2,c3,c4,c5,c6,c7,c8,c9,c10,dv,.slice za (st (i - 3)).2.2.length zc]/\aJ M2 [(b3,Ey),(be,[.slice (some ⟨gr,0,none⟩) 3 rcap,.slice (some ⟨gd,0,none⟩) 2 dcap,.slice (some ⟨gk,0,none⟩) 1 kc,.slice none 0 0])]/\h'=⟨N1,M2,[(b3,Ey),(be,[.slice (some ⟨gr,0,none⟩) 3 rcap,.slice (some ⟨gd,0,none⟩) 2 dcap,.slice (some ⟨gk,0,none⟩) 1 kc,.slice none 0 0])],[]⟩)
   (jK (L2:=[(bv,[tv,c0,c1,c2,c3,c4,c5,c6,c7,c8,c9,c10,dv,.slice za (st (i - 3)).2.2.length zc]),(b3,Ey),(be,[.slice (some ⟨gr,0,none⟩) 3 rcap,.slice (some ⟨gd,0,none⟩) 2 dcap,.slice (some ⟨gk,0,none⟩) 1 kc,.slice none 0 0])]) (by simp) (by simp [aV,a1,a2]) (aU fun he g1 A3=>aC ⟨_,he,g1,A3,rfl⟩)) ?_ F32.bd
  rintro h' ⟨M2,bh,hbv,pt,rfl⟩
  have rD:=aW.trans bh
  have alU:aN M2 ⟨bv,13,none⟩=some (.slice za (st (i - 3)).2.2.length zc):=by simp [aN,hbv]
  have vG:∀ (j:Nat) (h:j<[iW s0,iW s1,jw s2 w].length),j<2 ->[iW s0,iW s1,jw s2 w][j].view=false:=by
   intro j hj hj2
   have:j=0\/j=1:=by omega
   rcases this with rfl | rfl<;>rfl
  refine dF [(b3,Ey)] (RB (i:=2) (bv:=bv) (bP.ext rD) (eY rD _ _ S4) (aH bh (dV bh) q1) (by simp) (by intro x hx;simp at hx;rcases hx with rfl | rfl | rfl;exact Nat.le_trans EA.1 (by decide);exact Nat.le_trans Ls.1 (by decide);exact Nat.le_trans hv.cl (by decide)) hq H2 (by simp) rfl XZ vG (by decide) (ay bh q2) alU _) ?_ (fun _ _ _ _ _ _ h=>h.elim)
  rintro v M3 L3 bG FV bC ⟨rfl,b,c,rfl,dO⟩
  simp +contextual only [go_sem,aD,sevalprocAttr,ht]
  refine aS (jK (L2:=[(be,[.slice (some ⟨gr,0,none⟩) 3 rcap,.slice (some ⟨gd,0,none⟩) 2 dcap,.slice (some ⟨gk,0,none⟩) 1 kc,.slice (some ⟨b,0,none⟩) 1 c]),(b3,Ey)]) (by simp) (by simp [aV,a2]) (aC ⟨l.length - (i+1),by omega,rfl,i+1,by omega,rfl,?_,?_,N1,M3,_,pz,rD.trans bG,rfl,⟨bC.2.1,bC.1,trivial⟩,nN (by simp [aV,a2]),fun h=>by omega,fun h=>by omega,fun _ _=>by omega,fun _=>⟨_,_,_,_,b,c,rfl,dO,?_⟩⟩))
  ·simp only [aE,aI,go_sem,sevalprocAttr]
  ·simp only [go_sem,sevalprocAttr,aA i (by omega)]
  ·rw [show l.length - 4=i - 3 by omega]
   exact cz (bh.trans bG) q7
def aaJ:Code ->List Value
 | .region _ ops _=>ops.toList.flatMap fun o=>match o.op with
  | .build _ ps=>ps.toList.map fun x=>ev (fun _=>undef) x.2
  | _=>[]
 | .seq a b=>aaJ a++aaJ b
 | _=>[]
def JW:List Value ->List (Bs×Bs)
 | .string a:: .string b::l=>(a.data.toList,b.data.toList)::JW l
 | _=>[]
noncomputable def aaE:List Value:=match Tryz.f18.body with
 | some c=>aaJ c
 | none=>[]
noncomputable def Im:List (Bs×Bs):=JW aaE
def EN (x:Bs×Bs)(cs:List Value):Prop:=cs=[st x.1,st x.2]
theorem yj {x:Bs×Bs}{cs:List Value}(h:EN x cs):cs.length=2:=by unfold EN at h;subst h;rfl
theorem KP (a:ByteArray):bs a.data.toList=a:=by cases a;rfl
def Z0:List Value ->Bool
 | .string _:: .string _::l=>Z0 l
 | []=>true
 | _=>false
theorem EK:∀ (l:List Value),Z0 l=true ->RL EN (JW l) l
 | [],_=>rfl
 | .string a:: .string b::l,h=>⟨[.string a,.string b],l,rfl,by unfold EN st;rw [KP,KP],EK l h⟩
def zP (name:Bs):List (Bs×Bs) ->Option (Nat×Bs)
 | []=>none
 | x::l=>if x.1=name then some (0,x.2) else (zP name l).map fun y=>(y.1+1,y.2)
theorem zQ {name:Bs}:∀ {l:List (Bs×Bs)} {i:Nat} {t:Bs},zP name l=some (i,t) ->∃ h:i<l.length,l[i]=(name,t)/\∀ (j:Nat) (hj:j<l.length),j<i ->l[j].1≠name
 | x::l,i,t,h=>by
  rw [zP] at h
  split at h
  ·rename_i hx
   cases h
   exact ⟨by simp,by rw [<- hx];rfl,fun j _ hj=>by omega⟩
  ·rename_i hx
   obtain ⟨⟨k,u⟩,h1,h2⟩:=Option.map_eq_some_iff.1 h
   cases h2
   obtain ⟨g1,g2,g3⟩:=zQ h1
   refine ⟨by simp;omega,by simpa using g2,fun j hj SM=> ?_⟩
   cases j with
   | zero=>exact hx
   | succ j=>exact g3 j (by simpa using hj) (by omega)
variable {M:aR}
theorem WO (T:Tm):bU Tryz.prog 18 [] T M [] [] (fun v M' _ _=>RS M' EN 2 Im v) aM:=by
 refine az F18 rfl rfl ?_
 intro bj _
 simp +contextual only [go_sem,sevalprocAttr]
 intro b hb
 refine aU fun he h1 _=>ak aG.rfl' (dE (fun _ _=>yj) (cs:=aaE) ?_ (EK aaE (by kernel_rfl)) (by kernel_rfl) (by decide))
 rw [h1]
 exact congrArg some (by kernel_rfl)
def RG {n t name:Bs}{b:Nat}(hb:M b=some [st name])(T:Tm):bU Tryz.prog 20 [.agg ⟨[st n,st t]⟩,.pointer (some ⟨b,0,none⟩)] T M [] [] (fun v _ _ _=>v=.bool (decide (n=name))) aM:=by
 have k0:aN M ⟨b,0,none⟩=some (st name):=by simp [aN,hb]
 refine az F20 rfl rfl ?_
 intro bj _
 simp +contextual only [go_sem,sevalprocAttr]
 intro b2 T2 dO dA ef
 simp +contextual only [go_sem,sevalprocAttr,k0]
 exact al (ak dA (by simp))
def NF {l:List (Bs×Bs)}{lv:Value}{name:Bs}{b i:Nat}(hr:RS M EN 2 l lv)(hb:M b=some [st name])(hi:i<l.length)(hn:l[i].1=name)(cm:∀ (j:Nat) (hj:j<l.length),j<i ->l[j].1≠name)(T:Tm):bU Tryz.prog 19 [lv,.func (.func 20) #[] #[.pointer (some ⟨b,0,none⟩)]] T M [] [] (fun v _ _ _=>v=.int .i64 (i:Int)) aM:=by
 obtain ⟨fp,a,c,rfl,cX,_,hg⟩:=ax (by decide) (fun _ _=>yj) hr
 refine az F19 rfl rfl ?_
 intro bj _
 simp +contextual only [go_sem,aD,sevalprocAttr]
 refine aO l.length 8 [(0,.slice a l.length c),(1,.func (.func 20) #[] #[.pointer (some ⟨b,0,none⟩)]),(7,.int .i64 (l.length:Int))] (fun j e h=>j<=i/\h=⟨T,M,[],[]⟩) 0 (by omega) (by simp only [aE,go_sem,sevalprocAttr]) (by simp only [go_sem,sevalprocAttr]) ⟨by omega,rfl⟩ ?_
 rintro j e h hj aI ht ⟨xU,rfl⟩
 simp only [aE] at aI
 have aL:j<l.length:=by omega
 obtain ⟨b',o',cs',rfl,bP,eh⟩:=hg j l[j] (gq aL)
 unfold EN at eh
 subst eh
 obtain ⟨y0,y1,_⟩:=bP
 simp +contextual only [go_sem,aD,sevalprocAttr,aI,ht,aL,y0,y1]
 refine aP (RG hb T) ?_
 by_cases zp:j=i
 ·subst zp
  simp +contextual only [go_sem,aD,sevalprocAttr,hn]
  exact ak aG.rfl' rfl
 ·have:=cm j aL (by omega)
  simp +contextual only [go_sem,aD,sevalprocAttr,ht,this]
  refine bT aL ?_ ?_ ⟨by omega,rfl⟩
  ·simp only [aE,aI,go_sem,sevalprocAttr]
  ·simp only [go_sem,sevalprocAttr,aA j (by omega)]
theorem Re {name t:Bs}{i:Nat}(h:zP name Im=some (i,t))(T:Tm):bU Tryz.prog 10 [st name] T M [] [] (fun v _ _ _=>v=.tuple ⟨[st t,.int .i64 0]⟩) aM:=by
 obtain ⟨hi,h1,h2⟩:=zQ h
 refine az F10 rfl rfl ?_
 intro bj _
 simp +contextual only [go_sem,sevalprocAttr]
 intro b1 T1 fO cY gu
 refine aF (WO _) ?_
 rintro v M1 aW bD hv
 have rX:=hv
 obtain ⟨_,a,c,rfl,_,_,hg⟩:=ax (by decide) (fun _ _=>yj) hv
 obtain ⟨b',o',cs',rfl,bP,eh⟩:=hg i Im[i] (gq hi)
 unfold EN at eh
 subst eh
 rw [h1] at bP
 obtain ⟨y0,y1,_⟩:=bP
 have wJ:(i:Int)<(Im.length:Int):=by omega
 simp +contextual only [go_sem,sevalprocAttr]
 refine cW F19.bd (fun M' he hL _=>NF (aH he (fun _ _ h=>h) rX) hL.1 hi (by rw [h1]) h2 _) ?_
 simp +contextual only [go_sem,aD,sevalprocAttr,wJ,y1]
 exact al (ak cY rfl)
variable {M:aR}
def iK (n:Int):V:=if n<0 then ⟨1,0,[]⟩ else ⟨3,n,[]⟩
def W3 {l:List Int}{lv:Value}(h:RS M RI 1 l lv)(hl:l.length<=1000000)(T:Tm):bU Tryz.prog 34 [lv] T M [] [] (fun v M' _ _=>RS M' RV 3 (l.map iK) v) aM:=by
 obtain ⟨fp,a,c,rfl,cX,_,hg⟩:=ax (by decide) (fun _ _=>cE) h
 refine az F34 rfl rfl ?_
 intro bj _
 simp +contextual only [go_sem,aD,sevalprocAttr]
 refine aO l.length 9 [(7,.slice a l.length c),(8,.int .i64 (l.length:Int))] (fun i e h=>∃ N' R' fv,aG T N'/\h=⟨N',M,[],R'⟩/\e 3=fv/\kY 27 3 RV [] R' fv ((l.take i).map iK)) 0 (by omega) (by simp only [aE,go_sem,sevalprocAttr]) (by simp only [go_sem,sevalprocAttr]) ⟨T,_,_,aG.rfl',rfl,by simp only [go_sem,sevalprocAttr],cV⟩ ?_
 rintro i e h hi aI ht ⟨N',R',fv,km,rfl,e3,bq⟩
 simp only [aE] at aI
 by_cases aL:i<l.length
 ·obtain ⟨b',o',cs',rfl,bP,eh⟩:=hg i l[i] (gq aL)
  unfold RI at eh
  subst eh
  have y0:=bP.1
  rw [Nat.mul_one] at y0
  have fQ:(l.take i).map iK++[iK l[i]]=(l.take (i+1)).map iK:=by
   rw [<- List.take_append_getElem aL,List.map_append];rfl
  simp +contextual only [go_sem,aD,sevalprocAttr,aI,ht,aL,y0]
  intro b6 T6 pA ug DL
  by_cases hn:l[i]<0
  ·have hv:iK l[i]=⟨1,0,[]⟩:=if_pos hn
   rw [hv] at fQ
   simp +contextual only [go_sem,sevalprocAttr,hn,e3]
   intro b20 sR il
   refine cB (Tryz.underlying29) Ao zY (x:=(⟨1,0,[]⟩:V)) bq rfl (fun _ _ h=>by unfold RV at h;subst h;rfl) (xG (v:=⟨1,0,[]⟩) rfl) sR (by rw [List.length_map,List.length_take];omega) (by decide) ?_
   intro fv' R2 bw
   rw [fQ] at bw
   simp +contextual only [go_sem,sevalprocAttr,ht]
   refine aS (al (al (aC ⟨l.length - (i+1),by omega,rfl,i+1,by omega,rfl,?_,?_,T6,R2,fv',km.trans ug,rfl,?_,bw⟩)))
   ·simp only [aE,aI,go_sem,sevalprocAttr]
   ·simp only [go_sem,sevalprocAttr,aA i (by omega)]
   ·simp only [go_sem,sevalprocAttr]
  ·have hv:iK l[i]=⟨3,l[i],[]⟩:=if_neg hn
   rw [hv] at fQ
   simp +contextual only [go_sem,sevalprocAttr,hn,e3]
   intro b20 sR il
   refine cB (Tryz.underlying29) Ao zY (x:=(⟨3,l[i],[]⟩:V)) bq rfl (fun _ _ h=>by unfold RV at h;subst h;rfl) (xG (v:=⟨3,l[i],[]⟩) rfl) sR (by rw [List.length_map,List.length_take];omega) (by decide) ?_
   intro fv' R2 bw
   rw [fQ] at bw
   simp +contextual only [go_sem,sevalprocAttr,ht]
   refine aS (al (al (aC ⟨l.length - (i+1),by omega,rfl,i+1,by omega,rfl,?_,?_,T6,R2,fv',km.trans ug,rfl,?_,bw⟩)))
   ·simp only [aE,aI,go_sem,sevalprocAttr]
   ·simp only [go_sem,sevalprocAttr,aA i (by omega)]
   ·simp only [go_sem,sevalprocAttr]
 ·have:i=l.length:=by omega
  subst this
  rw [List.take_length] at bq
  simp +contextual only [go_sem,aD,sevalprocAttr,aI,ht,aL,e3]
  exact ct bq (by rw [List.length_map];omega) (by decide) trivial fun M2 bh _ cH=>ak km cH
def zI (name:Bs)(rows:List (List V)):Stm:=⟨3,name,[],⟨[],[],[],0⟩,rows,false,lq⟩
def gL (name:Bs)(l:List (List Int)):List Stm:=if l=[] then [] else [zI name (l.map fun r=>r.map iK)]
def stC (name:Bs)(fv:Value):List Value:=[.int .i64 3,st name,.slice none 0 0,.slice none 0 0,.slice none 0 0,.slice none 0 0,.int .i64 0,fv,.bool false,.int .i64 0,.int .i64 0,.int .i64 0,st [],st [],st [],.slice none 0 0]
theorem yM {l:List (List Int)}{lv:Value}{name:Bs}(h:RS M (lZ M) 1 l lv)(hl:l.length<=1000000)(hr:∀ r∈l,r.length<=1000000)(T:Tm):bU Tryz.prog 14 [st name,lv] T M [] [] (fun v M' _ _=>RS M' (mD M') 16 (gL name l) v) aM:=by
 obtain ⟨fp,a,c,rfl,cX,_,hg⟩:=ax (by decide) (fun _ _=>cQ) h
 refine az F14 rfl rfl ?_
 intro bj _
 simp +contextual only [go_sem,aD,sevalprocAttr]
 intro b5 T5 jz ko nq
 refine aO l.length 12 [(1,.slice a l.length c),(5,.pointer (some ⟨b5,0,none⟩)),(10,.slice a l.length c),(11,.int .i64 (l.length:Int))] (fun i e h=>∃ N' M' R' fv,aG T N'/\bm M M'/\M' b5=none/\h=⟨N',M',[(b5,stC name fv)],R'⟩/\kY 29 1 (MZ M') [] R' fv ((l.take i).map fun r=>r.map iK)) 0 (by omega) (by simp only [aE,go_sem,sevalprocAttr]) (by simp only [go_sem,sevalprocAttr]) ⟨T5,M,_,_,ko,bm.rfl',jz,rfl,cV⟩ ?_
 rintro i e h hi aI ht ⟨N',M1,R',fv,km,aW,fO,rfl,bq⟩
 simp only [aE] at aI
 obtain ⟨fa,fc,rfl⟩:=eI bq
 unfold stC
 by_cases aL:i<l.length
 ·obtain ⟨b',o',cs',rfl,bP,rv,rfl,eh⟩:=hg i l[i] (gq aL)
  have y0:=(bP.ext aW).1
  rw [Nat.mul_one] at y0
  simp +contextual only [go_sem,aD,sevalprocAttr,aI,ht,aL,y0]
  refine aT ?_
  simp +contextual only [go_sem,sevalprocAttr,aI,aB fO]
  refine aF (W3 (aH aW (fun _ _ h=>h) eh) (hr _ (gm aL)) _) ?_
  rintro v M2 bh aZ hv
  obtain ⟨_,va,vc,rfl,_⟩:=ax (by decide) (fun _ _ h=>by unfold RV at h;subst h;rfl) hv
  simp +contextual only [go_sem,sevalprocAttr]
  refine ⟨dL bh aZ,?_⟩
  intro b20 sR il
  refine ⟨dJ bh aZ ⟨il,trivial⟩,?_⟩
  have fQ:((l.take i).map fun r=>r.map iK)++[l[i].map iK]=(l.take (i+1)).map fun r=>r.map iK:=by
   rw [<- List.take_append_getElem aL,List.map_append];rfl
  refine cB (Tryz.underlying24) G6 GC (x:=l[i].map iK) (fY (mN bh) bq) ⟨_,hv,rfl⟩ (fun _ _=>tL) (by simp [Value.oneCell']) sR (by rw [List.length_map,List.length_take];omega) (by decide) ?_
  intro fv' R2 bw
  rw [fQ] at bw
  obtain ⟨ga,gc,rfl⟩:=eI bw
  simp +contextual only [go_sem,sevalprocAttr,aI,ht,il]
  refine aS (al (aC ⟨l.length - (i+1),by omega,rfl,i+1,by omega,rfl,?_,?_,N',M2,R2,_,km,aW.trans bh,aZ.1,rfl,bw⟩))
  ·simp only [aE,aI,go_sem,sevalprocAttr]
  ·simp only [go_sem,sevalprocAttr,aA i (by omega)]
 ·have:i=l.length:=by omega
  subst this
  rw [List.take_length] at bq
  by_cases h0:l=[]
  ·subst h0
   simp +contextual only [go_sem,aD,sevalprocAttr,aI,ht]
   exact bY (al (ak km (by rw [gL,if_pos rfl];exact bz)))
  ·have un:¬ (l.length:Int)=0:=fun h=>h0 (List.length_eq_zero_iff.1 (by omega))
   simp +contextual only [go_sem,aD,sevalprocAttr,aI,ht,aL,un,aB fO]
   intro b28 afj afa
   refine ct bq (by rw [List.length_map];omega) (by decide) ⟨afj,fO,trivial⟩ fun M2 bh aZ cH=>aU fun he h1 _=>al (ak km ?_)
   rw [gL,if_neg h0]
   refine dE (fun _ _=>gb) h1 ⟨_,[],(List.append_nil _).symm,?_,rfl⟩ rfl (by simp)
   exact ⟨_,_,_,_,bz,⟨_,_,_,bz,bz,bz,rfl⟩,aH he (mN (bh.trans he)) cH,kX,by rw [List.take_length];rfl⟩
theorem NB {M:aR}(n:Nat)(hn:n<=1073741824)(T:Tm):
 PN Tryz.prog 33 [.slice none 0 0,.int .i64 (n:Nat)] T M [] [] 1 (fun v _ _ R'=>∃ a c,v=.slice a 0 c/\R'=[(v,60,16,[])]) aM:=by
 refine l6 F33 rfl rfl ?_
 intro bj _
 have h0:¬ ((n:Int)<0):=by omega
 by_cases hz:n=0
 ·subst hz
  simp +contextual only [go_sem,aD,sevalprocAttr, -Int.reduceAdd, -Int.reduceSub, -Int.reduceMul]
  exact eF (aQ aG.rfl' rfl rfl ⟨none,0,rfl,rfl⟩)
 ·have hp:0<n:=by omega
  have EC:(0:Int)<(n:Int):=by omega
  have hw:IntKind.i64.wrap (n:Int)=(n:Int):=bJ (by omega) (by omega)
  have Jw:IntKind.i64.wrap (0 - 0)=0:=by decide
  have EF:IntKind.i64.wrap ((n:Int) - IntKind.i64.wrap (0 - 0))=(n:Int):=by rw [Jw,Int.sub_zero];exact hw
  have xg:kG none 0 0 16=none:=rfl
  simp +contextual only [go_sem,aD,sevalprocAttr, -Int.reduceAdd, -Int.reduceSub, -Int.reduceMul,h0]
  rw [EF,if_pos EC,xg]
  refine yt (ik:=.i64) Mk L7 Tryz.underlying3 hp (by omega) ?_
  intro a c zs pD cX
  simp +contextual only [go_sem,sevalprocAttr, -Int.reduceAdd, -Int.reduceSub, -Int.reduceMul]
  have Zo:kG a c 0 16=a:=by
   unfold kG
   cases a<;>simp [Addr.add]
  rw [Zo]
  exact oG (by decide) (aQ aG.rfl' rfl rfl ⟨a,c,rfl,rfl⟩)
def Ff {M:aR}{ls:List (List Stm)}{sv:Value}(hs:RS M (fun l cs=>∃ v,cs=[v]/\RS M (mD M) 16 l v) 1 ls sv)(bu:ls.length<=64)(hl:∀ l∈ls,l.length<=16777216)(T:Tm):
 bU Tryz.prog 13 [sv] T M [] [] (fun v M' _ _=>RS M' (mD M') 16 ls.flatten v) aM:=by
 obtain ⟨fp,a,c,rfl,cX,_,hg⟩:=ax (by decide) (by rintro _ _ ⟨_,rfl,_⟩;rfl) hs
 obtain ⟨B,hB⟩:∃ B:Nat,B=16777216:=⟨_,rfl⟩
 rw [<- hB] at hl
 have Gd:∀ i,(ls.take i).flatten.length<=i*B:=by
  intro i
  induction i with
  | zero=>simp
  | succ i ih=>
   rw [Nat.succ_mul]
   by_cases hi:i<ls.length
   ·rw [<- List.take_append_getElem hi,List.flatten_append,List.length_append]
    have:=hl ls[i] (gm hi)
    simp only [List.flatten_cons,List.flatten_nil,List.append_nil]
    omega
   ·rw [List.take_of_length_le (by omega)]
    rw [List.take_of_length_le (by omega)] at ih
    omega
 have mp:∀ i,i<=ls.length ->(ls.take i).flatten.length<=1073741824:=by
  intro i hi
  refine Nat.le_trans (Gd i) ?_
  rw [hB]
  exact Nat.le_trans (Nat.mul_le_mul_right _ (show i<=64 by omega)) (by decide)
 refine az F13 rfl rfl ?_
 intro bj _
 simp +contextual only [go_sem,aD,sevalprocAttr, -Int.reduceAdd, -Int.reduceSub, -Int.reduceMul]
 refine aO ls.length 11 [(0,.slice a ls.length c),(9,.slice a ls.length c),(10,.int .i64 (ls.length:Int))] (fun i e h=>h=⟨T,M,[],[]⟩/\e 3=.int .i64 ((ls.take i).flatten.length:Int)) 0 (by omega) (by simp only [aE,go_sem,sevalprocAttr, -Int.reduceAdd, -Int.reduceSub, -Int.reduceMul]) (by simp only [go_sem,sevalprocAttr, -Int.reduceAdd, -Int.reduceSub, -Int.reduceMul]) ⟨rfl,by simp only [go_sem,sevalprocAttr, -Int.reduceAdd, -Int.reduceSub, -Int.reduceMul];simp⟩ ?_
 rintro i e h hi aI ht ⟨rfl,e3⟩
 simp only [aE] at aI
 have VU:=mp i hi
 by_cases aL:i<ls.length
 ·obtain ⟨b',o',cs',rfl,bP,v,rfl,ns⟩:=hg i ls[i] (gq aL)
  obtain ⟨_,va,vc,rfl,_⟩:=ax (by decide) (fun _ _=>gb) ns
  have x0:=xC bP
  rw [Nat.mul_one] at x0
  have eP:(ls.take (i+1)).flatten.length=(ls.take i).flatten.length+ls[i].length:=by
   rw [<- List.take_append_getElem aL,List.flatten_append,List.length_append];simp
  have Gb:=mp (i+1) aL
  have hw:IntKind.i64.wrap (((ls.take i).flatten.length:Int)+(ls[i].length:Int))=((ls.take (i+1)).flatten.length:Int):=by
   have h1:((ls.take i).flatten.length:Int)+(ls[i].length:Int)=((ls.take (i+1)).flatten.length:Int):=by omega
   rw [h1,bJ (by omega) (by omega)]
  have ZF:¬ (((ls.take (i+1)).flatten.length:Int)<0):=by omega
  simp +contextual only [go_sem,aD,sevalprocAttr, -Int.reduceAdd, -Int.reduceSub, -Int.reduceMul,aI,ht,aL,x0,e3,hw,ZF]
  refine aS (aC ⟨ls.length - (i+1),by omega,rfl,i+1,by omega,rfl,?_,?_,rfl,?_⟩)
  ·simp only [aE,aI,go_sem,sevalprocAttr, -Int.reduceAdd, -Int.reduceSub, -Int.reduceMul]
  ·simp only [go_sem,sevalprocAttr, -Int.reduceAdd, -Int.reduceSub, -Int.reduceMul,aA i (by omega)]
  ·simp only [go_sem,sevalprocAttr, -Int.reduceAdd, -Int.reduceSub, -Int.reduceMul]
 ·have:i=ls.length:=by omega
  subst this
  rw [List.take_length] at e3 VU
  simp +contextual only [go_sem,aD,sevalprocAttr, -Int.reduceAdd, -Int.reduceSub, -Int.reduceMul,aI,ht,aL,e3]
  refine oq (NB ls.flatten.length VU T) ?_ (fun _ _ _ _ h=>h.elim)
  rintro v M2 row bh aZ ⟨ga,gc,rfl,bN⟩
  simp only [List.cons.injEq,and_true] at bN
  subst bN
  simp +contextual only [go_sem,aD,sevalprocAttr, -Int.reduceAdd, -Int.reduceSub, -Int.reduceMul,aI]
  refine aO ls.length 27 [(0,.slice a ls.length c),(25,.slice a ls.length c),(26,.int .i64 (ls.length:Int))] (fun i e h=>∃ R fv,h=⟨T,M2,[],R⟩/\e 6=fv/\kY 60 16 (mD M2) [] R fv (ls.take i).flatten) 0 (by omega) (by simp only [aE,aI,go_sem,sevalprocAttr, -Int.reduceAdd, -Int.reduceSub, -Int.reduceMul]) (by simp only [go_sem,sevalprocAttr, -Int.reduceAdd, -Int.reduceSub, -Int.reduceMul]) ⟨[(.slice ga 0 gc,60,16,[])],.slice ga 0 gc,rfl,by simp only [go_sem,sevalprocAttr, -Int.reduceAdd, -Int.reduceSub, -Int.reduceMul],by rw [List.take_zero];exact .inr ⟨ga,gc,[],rfl,rfl,rfl⟩⟩ ?_
  clear aI ht e3 aL hi e
  rintro i e h hi aI ht ⟨R1,fv,rfl,e6,bq⟩
  simp only [aE] at aI
  have S1:=mp i hi
  by_cases aL:i<ls.length
  ·obtain ⟨b',o',cs',rfl,bP,v,rfl,ns⟩:=hg i ls[i] (gq aL)
   obtain ⟨_,va,vc,rfl,_⟩:=ax (by decide) (fun _ _=>gb) ns
   have x0:=xC (bP.ext bh)
   rw [Nat.mul_one] at x0
   have eP:(ls.take (i+1)).flatten=(ls.take i).flatten++ls[i]:=by
    rw [<- List.take_append_getElem aL,List.flatten_append];simp
   have Gb:=mp (i+1) aL
   obtain ⟨ys,H4,xn,xl⟩:=gE (P:=Tryz.prog) Tryz.underlying42 (fun _ _=>gb) (fun _ _ h=>Bn h) (aH bh (eY bh) ns)
   simp +contextual only [go_sem,aD,sevalprocAttr, -Int.reduceAdd, -Int.reduceSub, -Int.reduceMul,aI,ht,aL,x0,e6]
   refine pN Mk L7 bq xn (fun _=>xl _ _ _) (fun _ _=>gb) (by rw [eP,List.length_append] at Gb;omega) (by decide) ?_
   intro fv' R' bw
   rw [<- eP] at bw
   simp +contextual only [go_sem,sevalprocAttr, -Int.reduceAdd, -Int.reduceSub, -Int.reduceMul,ht]
   refine aS (aC ⟨ls.length - (i+1),by omega,rfl,i+1,by omega,rfl,?_,?_,R',fv',rfl,?_,bw⟩)
   ·simp only [aE,aI,go_sem,sevalprocAttr, -Int.reduceAdd, -Int.reduceSub, -Int.reduceMul]
   ·simp only [go_sem,sevalprocAttr, -Int.reduceAdd, -Int.reduceSub, -Int.reduceMul,aA i (by omega)]
   ·simp only [go_sem,sevalprocAttr, -Int.reduceAdd, -Int.reduceSub, -Int.reduceMul]
  ·have:i=ls.length:=by omega
   subst this
   rw [List.take_length] at bq S1
   simp +contextual only [go_sem,aD,sevalprocAttr, -Int.reduceAdd, -Int.reduceSub, -Int.reduceMul,aI,ht,aL,e6]
   exact ct bq (by omega) (by decide) aZ fun M3 bG bC cH=>ak aG.rfl' (aH bm.rfl' (eY bG) cH)
def Ux:Bs:=List.append [99,114,101,97,116,101,32,116,97,98,108,101,32,115,97,108,101,32,40,32,119,104,111,32,105,110,116,32,44,32,119,104,97,116,32,105,110,116,32,44,32,110,32,105,110,116,32,41,32,59,32,99,114,101,97,116] [101,32,116,97,98,108,101,32,112,101,114,115,111,110,32,40,32,105,100,32,105,110,116,32,44,32,98,111,115,115,32,105,110,116,32,41,32,59,32,99,114,101,97,116,101,32,118,105,101,119,32,118,32,97,115,32]
theorem Yz:List.append [99,114,101,97,116,101,32,116,97,98,108,101,32,115,97,108,101,32,40,32,119,104,111,32,105,110,116,32,44,32,119,104,97,116,32,105,110,116,32,44,32,110,32,105,110,116,32,41,32,59,32,99,114,101,97,116] [101,32,116,97,98,108,101,32,112,101,114,115,111,110,32,40,32,105,100,32,105,110,116,32,44,32,98,111,115,115,32,105,110,116,32,41,32,59,32,99,114,101,97,116,101,32,118,105,101,119,32,118,32,97,115,32]=Ux:=rfl
def Hc:Ux.length=112:=by decide
def MF (t:Bs):Bs:=Ux++(t++[32,59])
def UE:Bs:=[115,104,111,119,32,115,101,108,101,99,116,32,42,32,102,114,111,109,32,118,32,59]
def gV:Bs:=[115,97,108,101]
def gD:Bs:=[112,101,114,115,111,110]
variable {M:aR}
set_option maxHeartbeats 2000000 in
def WE {name t:Bs}{i:Nat}{a a2:Int}{s0 s1 s2 sh:Stm}{w w':Pl×List Co}{z0:List Z}{stt:Nat ->ZT}{sales people:List (List Int)}{lv pv:Value}(hT:zP name Im=some (i,t))(hR:mY (MF t)=([s0,s1,s2],0,a))(hR2:mY UE=([sh],0,a2))(DS:t.length<=1000)
 (hs:RS M (lZ M) 1 sales lv) (hp:RS M (lZ M) 1 people pv) (iR:sales.length<=1000000) (xl:∀ r∈sales,r.length<=1000000) (tA:people.length<=1000000) (LD:∀ r∈people,r.length<=1000000) (hG:eS M)
 (hw:(kS (s0::s1::s2::((gL gV sales++gL gD people)++[sh]))).1=0)
 (k0:s0.k=1) (k1:s1.k=1) (k2:s2.k=2) (ks:sh.k=5)
 (ab3:s0.name≠s1.name) (ab4:(s0.cols.map (·.name)).Nodup) (vF:(s1.cols.map (·.name)).Nodup) (EA:s0.cols.length<=8/\∀ c∈s0.cols,c.ty≠0) (Ls:s1.cols.length<=8/\∀ c∈s1.cols,c.ty≠0)
 (hv:ViewOk [iW s0,iW s1] [[],[]] s2 w z0) (acp:stt 0=([],[],z0)) (abU:∀ (j:Nat) (h:j<(gL gV sales++gL gD people).length),Kx [iW s0,iW s1,jw s2 w] (bO [iW s0,iW s1]) w.1 (gL gV sales++gL gD people)[j] (stt j) (stt (j+1)))
 (hq:AskOk [iW s0,iW s1,jw s2 w] sh.q w') (H2:w'.2.length<=1000000) (XZ:w.1=w'.1) (T:Tm):
 bU Tryz.prog 7 [st name,lv,pv] T M [] [] (fun v M' _ _=>∃ zv,v=.tuple ⟨[zv,.int .i64 0]⟩/\RS M' (RZ M') 2 (stt (gL gV sales++gL gD people).length).2.2 zv) aM:=by
 obtain ⟨_,la,lc,rfl,_⟩:=ax (by decide) (fun _ _=>cQ) hs
 obtain ⟨_,pa,pc,rfl,_⟩:=ax (by decide) (fun _ _=>cQ) hp
 have e0:112+t.length<=9223372036854775807:=by omega
 have e1:(Ux++t).length<=9223372036854775805:=by rw [List.length_append,Hc];omega
 refine az F7 rfl rfl ?_
 intro bj _
 simp +contextual only [go_sem,sevalprocAttr]
 refine aF (Re hT _) ?_
 rintro v M1 aW bD rfl
 simp only [Yz]
 simp +contextual only [go_sem,aD,sevalprocAttr,Hc,e0,e1,vi]
 refine aF (KT _ (hG.ext aW) _) ?_
 rintro v M2 bh aZ ⟨qv,rfl,hq0⟩
 rw [show Ux++(t++[32,59])=MF t from rfl,hR] at hq0 ⊢
 obtain ⟨_,qa,qc,rfl,_⟩:=ax (by decide) (fun _ _=>gb) hq0
 simp +contextual only [go_sem,aD,sevalprocAttr,Xg]
 intro b11 T11 aki Xn ae5
 refine aF (KT _ ((hG.ext aW).ext bh) _) ?_
 rintro v M3 bG bC ⟨rv,rfl,uT⟩
 rw [show ([115,104,111,119,32,115,101,108,101,99,116,32,42,32,102,114,111,109,32,118,32,59]:Bs)=UE from rfl,hR2] at uT ⊢
 obtain ⟨_,ra,rc,rfl,_⟩:=ax (by decide) (fun _ _=>gb) uT
 simp only [aJ,and_true] at bC
 simp +contextual only [go_sem,aD,sevalprocAttr,Xg,aB bC]
 have Sn:=aW.trans (bh.trans bG)
 refine aF (yM (name:=gV) (aH Sn (cO Sn) hs) iR xl _) ?_
 rintro v M4 dz de hv4
 obtain ⟨_,va4,vc4,rfl,_⟩:=ax (by decide) (fun _ _=>gb) hv4
 simp +contextual only [go_sem,sevalprocAttr]
 have I8:=Sn.trans dz
 refine aF (yM (name:=gD) (aH I8 (cO I8) hp) tA LD _) ?_
 rintro v M5 dN bS hv5
 obtain ⟨_,va5,vc5,rfl,_⟩:=ax (by decide) (fun _ _=>gb) hv5
 simp only [aJ,and_true] at bS
 simp +contextual only [go_sem,sevalprocAttr]
 intro b50 afk afb
 refine dh F13.bd fun M6 eO pA bW=> ?_
 have h4:=aH (dN.trans eO) (eY (dN.trans eO)) hv4
 have h5:=aH eO (eY eO) hv5
 have hMq:=bG.trans (dz.trans (dN.trans eO))
 have hMr:=dz.trans (dN.trans eO)
 refine aF (Ff (ls:=[[s0,s1,s2],gL gV sales,gL gD people,[sh]]) (dE (fun _ _=>by rintro ⟨_,rfl,_⟩;rfl) pA ⟨_,_,rfl,⟨_,rfl,aH hMq (eY hMq) hq0⟩,_,_,rfl,⟨_,rfl,h4⟩,_,_,rfl,⟨_,rfl,h5⟩,_,[],rfl,⟨_,rfl,aH hMr (eY hMr) uT⟩,rfl⟩ rfl (by simp)) (by simp) ?_ _) ?_
 ·have hI:∀ (n:Bs) (l:List (List Int)),(gL n l).length<=16777216:=by
   intro n l;unfold gL;split<;>simp
  intro l hl
  simp only [mn] at hl
  rcases hl with rfl | rfl | rfl | rfl
  ·simp
  ·exact hI _ _
  ·exact hI _ _
  ·simp
 rintro v M7 qX mI hv7
 simp only [aJ,and_true] at mI
 rw [show [[s0,s1,s2],gL gV sales,gL gD people,[sh]].flatten=s0::s1::s2::((gL gV sales++gL gD people)++[sh]) by simp] at hv7
 have Jl:(gL gV sales++gL gD people).length<=100:=by
  rw [List.length_append];unfold gL;split<;>split<;>simp
 have hik:∀ s∈gL gV sales++gL gD people,s.k=3:=by
  intro s hs
  rcases xY hs with h | h<;> · unfold gL at h;split at h<;>simp at h<;>subst h<;>rfl
 obtain ⟨l,hl⟩:∃ l,l=s0::s1::s2::((gL gV sales++gL gD people)++[sh]):=⟨_,rfl⟩
 rw [<- hl] at hv7
 obtain ⟨_,va7,vc7,rfl,_⟩:=ax (by decide) (fun _ _=>gb) hv7
 simp +contextual only [go_sem,sevalprocAttr]
 refine aF (Rb ((hG.ext I8).ext (dN.trans (eO.trans qX))) (hl ▸ hv7) hw k0 k1 k2 hik ks Jl ab3 ab4 vF EA Ls hv acp abU hq H2 XZ _) ?_
 rintro v M8 vx oW ⟨b,c,zv,rfl,hbz,hz⟩
 simp only [aJ,and_true] at oW
 simp +contextual only [go_sem,aD,sevalprocAttr,aB oW,hbz]
 exact al (ak (Xn) ⟨zv,rfl,hz⟩)
variable {M:aR}
def D5 (v:V):Prop:=1<=v.k/\v.k<=4
def PK {v:V}(h:eR v=0):D5 v:=by
 unfold eR at h
 unfold D5
 split at h
 ·omega
 split at h
 ·omega
 split at h
 ·omega
 split at h
 ·omega
 ·cases h
theorem Gm:∀ (s t:Bs),Op.bytesLess s t=decide (kb s t<0)
 | [],[]=>by simp [Op.bytesLess,kb,Lib.compareBytes]
 | [],_::_=>by simp [Op.bytesLess,kb,Lib.compareBytes]
 | _::_,[]=>by simp [Op.bytesLess,kb,Lib.compareBytes]
 | a::s,b::t=>by
  have ih:=Gm s t
  unfold kb at ih ⊢
  rw [Op.bytesLess,Lib.compareBytes,ih]
  by_cases h1:a<b
  ·simp [h1]
  ·by_cases h2:b<a
   ·have:¬ a=b:=by rintro rfl;exact h1 h2
    simp [h1,h2,this]
   ·have:a=b:=UInt8.le_antisymm (UInt8.not_lt.1 h2) (UInt8.not_lt.1 h1)
    subst this
    simp [h1]
theorem vl:∀ (s:Bs),kb s s=0
 | []=>rfl
 | a::s=>by unfold kb Lib.compareBytes;have:=vl s;unfold kb at this;simp [this]
theorem E9:∀ (s t:Bs),kb s t= -1\/kb s t=0\/kb s t=1
 | [],[]=> .inr (.inl rfl)
 | [],_::_=> .inl rfl
 | _::_,[]=> .inr (.inr rfl)
 | a::s,b::t=>by
  unfold kb
  rw [Lib.compareBytes]
  split
  ·exact .inl rfl
  split
  ·exact .inr (.inr rfl)
  ·exact E9 s t
set_option maxHeartbeats 2000000 in
def NG (a b:V)(ha:D5 a)(hb:D5 b)(T:Tm):bU Tryz.prog 112 [.agg ⟨a.cs⟩,.agg ⟨b.cs⟩] T M [] [] (fun r _ _ _=>r=.int .i64 (pQ a b)) aM:=by
 obtain ⟨S,hS⟩:∃ S,S=pQ a b:=⟨_,rfl⟩
 rw [<- hS]
 obtain ⟨k,n,t⟩:=a
 obtain ⟨k2,n2,t2⟩:=b
 have hk:k=1\/k=2\/k=3\/k=4:=by unfold D5 at ha;simp only at ha;omega
 have vk:∀ (k n:Int) (t:Bs),(bQ ⟨k,n,t⟩).k=k:=fun k n t=>by
  unfold bQ;simp only;split; · rename_i h;exact h.symm
  split<;>simp [*]
 unfold pQ at hS
 rw [vk,vk] at hS
 by_cases aL:k<k2
 ·have hS:S= -1:=by rw [hS];unfold kg fx;rw [if_pos aL];rfl
  refine az C9 rfl rfl ?_
  intro bj _
  simp +contextual only [go_sem,aD,sevalprocAttr,V.cs,aL]
  intro b1 T1 fO cY gu b2 T2 dO fz dA ef
  exact ak (cY.trans dA) (cR hS.symm)
 by_cases DN:k2<k
 ·have hS:S=1:=by rw [hS];unfold kg fx;rw [if_neg aL,if_pos DN];rfl
  refine az C9 rfl rfl ?_
  intro bj _
  simp +contextual only [go_sem,aD,sevalprocAttr,V.cs,aL,DN]
  intro b1 T1 fO cY gu b2 T2 dO fz dA ef
  exact ak (cY.trans dA) (cR hS.symm)
 have:k2=k:=by omega
 subst this
 have hS:S=kg (fx (bQ ⟨k2,n,t⟩).n (bQ ⟨k2,n2,t2⟩).n) (kb (bQ ⟨k2,n,t⟩).t (bQ ⟨k2,n2,t2⟩).t):=by
  rw [hS];unfold kg fx;rw [if_neg aL,if_neg aL];rfl
 have num:k2=2\/k2=3 ->S=fx n n2:=by
  rintro (rfl | rfl)
  all_goals
   rw [hS]
   show kg (fx n n2) (kb [] [])=_
   rw [vl];unfold kg;split
   ·rfl
   ·rename_i h;omega
 rcases hk with rfl | rfl | rfl | rfl
 ·have hS:S=0:=by rw [hS];rfl
  refine az C9 rfl rfl ?_
  intro bj _
  simp +contextual only [go_sem,aD,sevalprocAttr,V.cs]
  intro b1 T1 fO cY gu b2 T2 dO fz dA ef
  exact ak (cY.trans dA) (cR hS.symm)
 iterate 2
  have hS:=num (by decide)
  unfold fx at hS
  by_cases h1:n<n2
  ·rw [if_pos h1] at hS
   refine az C9 rfl rfl ?_
   intro bj _
   simp +contextual only [go_sem,aD,sevalprocAttr,V.cs,h1]
   intro b1 T1 fO cY gu b2 T2 dO fz dA ef
   exact ak (cY.trans dA) (cR hS.symm)
  by_cases h2:n2<n
  ·rw [if_neg h1,if_pos h2] at hS
   refine az C9 rfl rfl ?_
   intro bj _
   simp +contextual only [go_sem,aD,sevalprocAttr,V.cs,h1,h2]
   intro b1 T1 fO cY gu b2 T2 dO fz dA ef
   exact ak (cY.trans dA) (cR hS.symm)
  ·rw [if_neg h1,if_neg h2] at hS
   refine az C9 rfl rfl ?_
   intro bj _
   simp +contextual only [go_sem,aD,sevalprocAttr,V.cs,h1,h2]
   intro b1 T1 fO cY gu b2 T2 dO fz dA ef
   exact ak (cY.trans dA) (cR hS.symm)
 ·have hS:S=kb t t2:=by
   rw [hS]
   show kg (fx 0 0) (kb t t2)=_
   rfl
  have hl:=Gm t t2
  rcases E9 t t2 with h | h | h
  ·rw [h] at hl hS
   have hl:Op.bytesLess t t2=true:=hl
   refine az C9 rfl rfl ?_
   intro bj _
   simp +contextual only [go_sem,aD,sevalprocAttr,V.cs,hl]
   intro b1 T1 fO cY gu b2 T2 dO fz dA ef
   exact ak (cY.trans dA) (cR hS.symm)
  ·have he:=Dq h
   subst he
   rw [h] at hl hS
   have hl:Op.bytesLess t t=false:=hl
   refine az C9 rfl rfl ?_
   intro bj _
   simp +contextual only [go_sem,aD,sevalprocAttr,V.cs,hl]
   intro b1 T1 fO cY gu b2 T2 dO fz dA ef
   exact ak (cY.trans dA) (cR hS.symm)
  ·have he:¬ t=t2:=by
    rintro rfl
    rw [vl] at h;cases h
   rw [h] at hl hS
   have hl:Op.bytesLess t t2=false:=hl
   refine az C9 rfl rfl ?_
   intro bj _
   have hb:(t==t2)=false:=by simp [he]
   simp +contextual only [go_sem,aD,sevalprocAttr,V.cs,hl,hb]
   intro b1 T1 fO cY gu b2 T2 dO fz dA ef
   exact ak (cY.trans dA) (cR hS.symm)
variable {M:aR}
def KV (w:Int)(T:Tm):bU Tryz.prog 16 [.int .i64 w] T M [] [] (fun r _ _ _=>r=.bool (decide (w< -1000000) || decide (w>1000000))) aM:=by
 refine az F16 rfl rfl ?_
 intro bj _
 simp +contextual only [go_sem,sevalprocAttr]
 exact ak aG.rfl' (by simp)
theorem Rh (v:V)(hv:D5 v)(T:Tm):bU Tryz.prog 113 [.agg ⟨[.int .i64 v.k,.int .i64 v.n,st v.t]⟩] T M [] [] (fun r _ _ _=>r=.agg ⟨(bQ v).cs⟩) aM:=by
 obtain ⟨k,n,t⟩:=v
 have hk:k=1\/k=2\/k=3\/k=4:=by unfold D5 at hv;simp only at hv;omega
 refine az ah1 rfl rfl ?_
 intro bj _
 rcases hk with rfl | rfl | rfl | rfl
 all_goals
  simp +contextual only [go_sem,aD,sevalprocAttr]
  intro b1 T1 fO cY gu b2 T2 dO fz dA ef b3 T3 gK cZ fU gB
  exact ak ((cY.trans dA).trans fU) rfl
theorem WL {l:List V}{lv:Value}(h:RS M RV 3 l lv)(hl:l.length<=8)(hw:∀ v∈l,eR v=0)(T:Tm):bU Tryz.prog 15 [lv] T M [] [] (fun r _ _ _=>r=.int .i64 0) aM:=by
 obtain ⟨fp,a,c,rfl,cX,_,hg⟩:=ax (by decide) (fun _ _=>eK) h
 refine az F15 rfl rfl ?_
 intro bj _
 have h8:¬ ((l.length:Int)>8):=by omega
 simp +contextual only [go_sem,aD,sevalprocAttr,h8]
 refine aO l.length 11 [(9,.slice a l.length c),(10,.int .i64 (l.length:Int))] (fun i e h=>∃ N',aG T N'/\h=⟨N',M,[],[]⟩) 0 (by omega) (by simp only [aE,go_sem,sevalprocAttr]) (by simp only [go_sem,sevalprocAttr]) ⟨T,aG.rfl',rfl⟩ ?_
 rintro i e h hi aI ht ⟨N1,pz,rfl⟩
 simp only [aE] at aI
 by_cases aL:i<l.length
 ·obtain ⟨b',o',cs',rfl,bP,eh⟩:=hg i l[i] (gq aL)
  unfold RV V.cs at eh
  subst eh
  obtain ⟨y0,y1,y2,_⟩:=bP
  have Jw:=hw _ (gm aL)
  simp +contextual only [go_sem,aD,sevalprocAttr,aI,ht,aL,y0,y1,y2]
  intro b4 T4 eH fE iJ
  refine aP (AZ l[i] _ _) ?_
  rw [Jw]
  simp +contextual only [go_sem,aD,sevalprocAttr,ht]
  refine aS (bM (aC ⟨l.length - (i+1),by omega,rfl,i+1,by omega,rfl,?_,?_,T4,pz.trans fE,rfl⟩))
  ·simp only [aE,aI,go_sem,sevalprocAttr]
  ·simp only [go_sem,sevalprocAttr,aA i (by omega)]
 ·have:i=l.length:=by omega
  subst this
  simp +contextual only [go_sem,aD,sevalprocAttr,aI,ht,aL]
  exact ak pz rfl
theorem WH {l:List Z}{lv:Value}(h:RS M (RZ M) 2 l lv)(hl:l.length<=400)(hw:∀ z∈l,¬ (z.w< -1000000)/\¬ (z.w>1000000))(T:Tm):bU Tryz.prog 37 [lv] T M [] [] (fun r _ _ _=>r=.tuple ⟨[lv,.int .i64 0]⟩) aM:=by
 obtain ⟨fp,a,c,rfl,cX,_,hg⟩:=ax (by decide) (fun _ _=>bi) h
 refine az F37 rfl rfl ?_
 intro bj _
 simp +contextual only [go_sem,aD,sevalprocAttr]
 refine aO l.length 8 [(0,.slice a l.length c),(6,.slice a l.length c),(7,.int .i64 (l.length:Int))] (fun i e h=>∃ N',aG T N'/\h=⟨N',M,[],[]⟩) 0 (by omega) (by simp only [aE,go_sem,sevalprocAttr]) (by simp only [go_sem,sevalprocAttr]) ⟨T,aG.rfl',rfl⟩ ?_
 rintro i e h hi aI ht ⟨N1,pz,rfl⟩
 simp only [aE] at aI
 by_cases aL:i<l.length
 ·obtain ⟨b',o',cs',rfl,bP,v,ns,rfl⟩:=hg i l[i] (gq aL)
  obtain ⟨_,va,vc,rfl,_⟩:=ax (by decide) (fun _ _=>eK) ns
  obtain ⟨y0,y1,_⟩:=bP
  obtain ⟨w1,w2⟩:=hw _ (gm aL)
  simp +contextual only [go_sem,aD,sevalprocAttr,aI,ht,aL,y0,y1]
  intro b5 T5 jz ko nq
  refine aP (KV _ _) ?_
  simp +contextual only [go_sem,aD,sevalprocAttr,ht,w1,w2]
  refine aS (bM (aC ⟨l.length - (i+1),by omega,rfl,i+1,by omega,rfl,?_,?_,T5,pz.trans ko,rfl⟩))
  ·simp only [aE,aI,go_sem,sevalprocAttr]
  ·simp only [go_sem,sevalprocAttr,aA i (by omega)]
 ·have:i=l.length:=by omega
  subst this
  have h4:¬ ((l.length:Int)>400):=by omega
  simp +contextual only [go_sem,aD,sevalprocAttr,aI,ht,aL,h4]
  exact ak pz rfl
variable {M:aR}
def Fp {a b:List V}{av bv:Value}(ha:RS M RV 3 a av)(hb:RS M RV 3 b bv)(oa:∀ v∈a,D5 v)(ob:∀ v∈b,D5 v)(T:Tm):bU Tryz.prog 62 [av,bv] T M [] [] (fun r _ _ _=>r=.int .i64 (cC a b)) aM:=by
 obtain ⟨fp,a1,c1,rfl,cX,_,hg⟩:=ax (by decide) (fun _ _=>eK) ha
 obtain ⟨Ou,a2,c2,rfl,pq,_,xh⟩:=ax (by decide) (fun _ _=>eK) hb
 refine az F62 rfl rfl ?_
 intro bj _
 simp +contextual only [go_sem,aD,sevalprocAttr]
 refine aO a.length 5 [(0,.slice a1 a.length c1),(1,.slice a2 b.length c2)] (fun i e h=>h=⟨T,M,[],[]⟩/\i<=b.length/\cC (a.drop i) (b.drop i)=cC a b) 0 (by omega) (by simp only [aE,go_sem,sevalprocAttr]) (by simp only [go_sem,sevalprocAttr]) ⟨rfl,by omega,rfl⟩ ?_
 rintro i e h hi aI ht ⟨rfl,hib,am⟩
 simp only [aE] at aI
 by_cases aL:i<a.length
 ·obtain ⟨b1,o1,cs1,rfl,zj,DT⟩:=hg i a[i] (gq aL)
  have hda:a.drop i=a[i]::a.drop (i+1):=dq aL
  unfold RV V.cs at DT;subst DT
  obtain ⟨y0,y1,y2,_⟩:=zj
  rw [hda] at am
  have hia:¬ (i:Int)=(a.length:Int):=by omega
  by_cases sS:i=b.length
  ·subst sS
   rw [List.drop_length,cC] at am
   simp +contextual only [go_sem,aD,sevalprocAttr,aI,ht,hia]
   exact ak aG.rfl' (cR am)
  ·have ZC:i<b.length:=by omega
   obtain ⟨b2,o2,cs2,rfl,oU,zB⟩:=xh i b[i] (gq ZC)
   have hdb:b.drop i=b[i]::b.drop (i+1):=dq ZC
   unfold RV V.cs at zB;subst zB
   obtain ⟨z0,z1,z2,_⟩:=oU
   rw [hdb,cC] at am
   have akQ:¬ (i:Int)=(b.length:Int):=by omega
   simp +contextual only [go_sem,aD,sevalprocAttr,aI,ht,hia,akQ]
   refine aT ?_
   simp +contextual only [go_sem,sevalprocAttr,aI,ht,aL,ZC,y0,y1,y2,z0,z1,z2]
   refine aP (NG a[i] b[i] (oa _ (gm aL)) (ob _ (gm ZC)) _) ?_
   by_cases h0:pQ a[i] b[i]=0
   ·rw [h0] at am ⊢
    simp +contextual only [go_sem,aD,sevalprocAttr,ht]
    refine aS (aC ⟨a.length - (i+1),by omega,rfl,i+1,by omega,rfl,?_,?_,rfl,by omega,am⟩)
    ·simp only [aE,aI,go_sem,sevalprocAttr]
    ·simp only [go_sem,sevalprocAttr,aA i (by omega)]
   ·simp +contextual only [go_sem,aD,sevalprocAttr,h0]
    refine ak aG.rfl' (cR ?_)
    rw [<- am,kg,if_pos h0]
 ·have:i=a.length:=by omega
  subst this
  rw [List.drop_length] at am
  by_cases sS:a.length=b.length
  ·have XE:(a.length:Int)=(b.length:Int):=by omega
   rw [sS,List.drop_length] at am
   simp +contextual only [go_sem,aD,sevalprocAttr,aI,ht,XE]
   exact ak aG.rfl' (cR am)
  ·have XE:¬ (a.length:Int)=(b.length:Int):=by omega
   have hdb:b.drop a.length=b[a.length]'(by omega)::b.drop (a.length+1):=dq (by omega)
   rw [hdb] at am
   simp +contextual only [go_sem,aD,sevalprocAttr,aI,ht,XE]
   exact ak aG.rfl' (cR am)
def rJ (r:List V)(w:Int):List Z ->List Z
 | []=>if w=0 then [] else [⟨r.map bQ,w⟩]
 | x::B=>if cC x.row r=0 then (if IntKind.i64.wrap (w+x.w)=0 then B else ⟨r.map bQ,IntKind.i64.wrap (w+x.w)⟩::B) else if w=0 then x::B else ⟨r.map bQ,w⟩::x::B
def qu (r:List V)(w:Int):List Z ->List Z
 | []=>rJ r w []
 | x::z=>if cC x.row r<0 then x::qu r w z else rJ r w (x::z)
theorem Ec {r:List V}{w:Int}:∀ {z:List Z} {k:Nat},k<=z.length ->(∀ (j:Nat) (h:j<z.length),j<k ->cC z[j].row r<0) ->(∀ h:k<z.length,¬ cC z[k].row r<0) ->qu r w z=z.take k++rJ r w (z.drop k)
 | [],k,hk,_,_=>by simp [qu]
 | x::z,0,hk,_,h=>by rw [qu,if_neg (show ¬ cC x.row r<0 from h (by simp))];rfl
 | x::z,k+1,hk,h1,h2=>by
  rw [qu,if_pos (show cC x.row r<0 from h1 0 (by simp) (by omega)),Ec (k:=k) (by simpa using hk) (fun j h hj=>h1 (j+1) (by simpa using h) (by omega)) (fun h=>h2 (by simpa using h))]
  rfl
def yF {l:List V}{lv:Value}(h:RS M RV 3 l lv)(hl:l.length<=1000000)(ok:∀ v∈l,D5 v)(T:Tm):bU Tryz.prog 63 [lv] T M [] [] (fun v M' _ _=>RS M' RV 3 (l.map bQ) v) aM:=by
 obtain ⟨fp,a,c,rfl,cX,_,hg⟩:=ax (by decide) (fun _ _=>eK) h
 refine az F63 rfl rfl ?_
 intro bj _
 simp +contextual only [go_sem,aD,sevalprocAttr]
 refine aO l.length 8 [(6,.slice a l.length c),(7,.int .i64 (l.length:Int))] (fun i e h=>∃ N' R' fv,aG T N'/\h=⟨N',M,[],R'⟩/\e 3=fv/\kY 27 3 RV [] R' fv ((l.take i).map bQ)) 0 (by omega) (by simp only [aE,go_sem,sevalprocAttr]) (by simp only [go_sem,sevalprocAttr]) ⟨T,_,_,aG.rfl',rfl,by simp only [go_sem,sevalprocAttr],cV⟩ ?_
 rintro i e h hi aI ht ⟨N',R',fv,km,rfl,e3,bq⟩
 simp only [aE] at aI
 by_cases aL:i<l.length
 ·obtain ⟨b',o',cs',rfl,bP,eh⟩:=hg i l[i] (gq aL)
  unfold RV V.cs at eh
  subst eh
  obtain ⟨y0,y1,y2,_⟩:=bP
  have fQ:(l.take i).map bQ++[bQ l[i]]=(l.take (i+1)).map bQ:=by
   rw [<- List.take_append_getElem aL,List.map_append];rfl
  simp +contextual only [go_sem,aD,sevalprocAttr,aI,ht,aL,y0,y1,y2]
  intro b5 T5 jz ko nq
  refine aP (Rh l[i] (ok _ (gm aL)) _) ?_
  simp +contextual only [go_sem,sevalprocAttr,e3,V.cs]
  intro b20 sR il
  refine cB (Tryz.underlying29) Ao zY (x:=bQ l[i]) bq rfl (fun _ _ h=>by unfold RV at h;subst h;rfl) (xG (v:=bQ l[i]) rfl) sR (by rw [List.length_map,List.length_take];omega) (by decide) ?_
  intro fv' R2 bw
  rw [fQ] at bw
  simp +contextual only [go_sem,sevalprocAttr,ht]
  refine aS (al (al (aC ⟨l.length - (i+1),by omega,rfl,i+1,by omega,rfl,?_,?_,T5,R2,fv',km.trans ko,rfl,?_,bw⟩)))
  ·simp only [aE,aI,go_sem,sevalprocAttr]
  ·simp only [go_sem,sevalprocAttr,aA i (by omega)]
  ·simp only [go_sem,sevalprocAttr]
 ·have:i=l.length:=by omega
  subst this
  rw [List.take_length] at bq
  simp +contextual only [go_sem,aD,sevalprocAttr,aI,ht,aL,e3]
  exact ct bq (by rw [List.length_map];omega) (by decide) trivial fun M2 bh _ cH=>ak km cH
variable {M:aR}
def gI {α:Type}{el:TypeId}{sz:Nat}{r:α ->List Value ->Prop}{R0 R:RR}{fv:Value}{acc l:List α}{P:Program}{F:Fi}{s:List Vc.Item}{e:dx}{ds:List Deferred}{dd:Option Nat}{T:Tm}{L:LL}{t:TypeId}{z ys:List Value}{y:Value}(bN:dY P t=some (el,sz,z))(ce:kz P t=true)
 (h:AT el sz r R0 R fv acc) (xn:RL r l ys) (hs:∀ R,Srcs P t sz ⟨T,M,L,R⟩ y ys) (bu:∀ x cs,r x cs ->cs.length=sz) (hl:acc.length*sz+l.length*sz<=4398046511104) (dK:0<sz)
 (k:∀ fv' R',AT el sz r R0 R' fv' (acc++l) ->cA P F s (cI e dd fv') ds ⟨T,M,L,R'⟩ ⟨⟩):om P F t t fv y dd s e ds ⟨T,M,L,R⟩ ⟨⟩:=by
 have H4:=eJ bu xn
 have conv:∀ {fv' R'},kY el sz r R0 R' fv' (acc++l) ->AT el sz r R0 R' fv' (acc++l):=by
  rintro fv' R' (⟨h1,h2,h3⟩ | h)
  ·exact .inl ⟨h1,h3,.inl h2⟩
  ·exact .inr h
 rcases h with ⟨rfl,rfl,rfl | ⟨b,rfl⟩⟩ | ⟨a,c,xs,h1,h2,h3⟩
 ·exact pN bN ce cV xn hs bu hl dK fun fv' R' h'=>k fv' R' (conv h')
 ·by_cases hz:l=[]
  ·subst hz
   have:ys=[]:=List.length_eq_zero_iff.1 (by rw [H4];simp)
   subst this
   exact pO bN ce (hs _) (Nat.le_refl _) (k _ _ (.inl ⟨rfl,rfl,.inr ⟨b,rfl⟩⟩))
  ·have hlp:0<l.length:=List.length_pos_iff.2 hz
   have hyp:0<ys.length:=by rw [H4];exact Nat.mul_pos hlp dK
   refine ld (n:=0) (xs:=[]) bN ce (hs _) (by rw [Nat.zero_mul];rfl) hyp (by simp only [List.length_nil] at hl ⊢;omega) ?_
   intro ra rm rc jl
   have:rm=l.length:=by
    rw [H4] at jl
    refine Nat.eq_of_mul_eq_mul_right dK ?_
    simpa using jl
   subst this
   refine k _ _ (.inr ⟨ra,rc,ys,?_,by simpa using xn,?_⟩)
   ·simp
   ·simp
 ·exact pN bN ce (.inr ⟨a,c,xs,h1,h2,h3⟩) xn hs bu hl dK fun fv' R' h'=>k fv' R' (conv h')
set_option maxHeartbeats 2000000 in
def WK {z:List Z}{r:List V}{zv rv:Value}{w:Int}(hz:RS M (RZ M) 2 z zv)(hr:RS M RV 3 r rv)(hl:z.length<=1000000)(zy:r.length<=1000000)(oz:∀ x∈z,∀ v∈x.row,D5 v)(ok:∀ v∈r,D5 v)(T:Tm):bU Tryz.prog 36 [zv,rv,.int .i64 w] T M [] [] (fun v M' _ _=>RS M' (RZ M') 2 (qu r w z) v) aM:=by
 have uU:=hz
 have uT:=hr
 obtain ⟨fp,a,c,rfl,cX,wH,hg⟩:=ax (by decide) (fun _ _=>bi) hz
 obtain ⟨_,ra,rc,rfl,_⟩:=ax (by decide) (fun _ _=>eK) hr
 refine az F36 rfl rfl ?_
 intro bj _
 simp +contextual only [go_sem,aD,sevalprocAttr]
 refine aO z.length 7 [(0,.slice a z.length c),(1,.slice ra r.length rc),(2,.int .i64 w)] (fun i e h=>h=⟨T,M,[],[]⟩/\∀ (j:Nat) (h:j<z.length),j<i ->cC z[j].row r<0) 0 (by omega) (by simp only [aE,go_sem,sevalprocAttr]) (by simp only [go_sem,sevalprocAttr]) ⟨rfl,fun j h hj=>by omega⟩ ?_
 rintro i e h hi aI ht ⟨rfl,HY⟩
 simp only [aE] at aI
 have hic:i<=c:=by omega
 have uu:=yl (by decide) (fun _ _=>bi) uU hi
 obtain ⟨ys,H4,xn,xl⟩:=gE (P:=Tryz.prog) Tryz.underlying32 (fun _ _=>bi) (fun _ _ h=>gh h) uu
 by_cases aL:i<z.length
 ·obtain ⟨b',o',cs',rfl,bP,v,ns,rfl⟩:=hg i z[i] (gq aL)
  obtain ⟨_,va,vc,rfl,_⟩:=ax (by decide) (fun _ _=>eK) ns
  obtain ⟨y0,y1,_⟩:=bP
  simp +contextual only [go_sem,sevalprocAttr,aI,ht,aL,y0]
  refine aP (Fp ns uT (oz _ (gm aL)) ok _) ?_
  by_cases h0:cC z[i].row r<0
  ·simp +contextual only [go_sem,aD,sevalprocAttr,ht,h0]
   refine bT aL ?_ ?_ ⟨rfl,?_⟩
   ·simp only [aE,aI,go_sem,sevalprocAttr]
   ·simp only [go_sem,sevalprocAttr,aA i (by omega)]
   ·intro j h hj
    by_cases xU:j=i
    ·subst xU;exact h0
    ·exact HY j h (by omega)
  ·simp +contextual only [go_sem,aD,sevalprocAttr,aI,ht,h0]
   intro b25 akl
   rw [if_pos hic,DE]
   simp +contextual only [go_sem,sevalprocAttr]
   refine gI ix iw (R0:=[]) (acc:=[]) (.inl ⟨rfl,rfl,.inr ⟨b25,rfl⟩⟩) xn (fun _=>xl _ _ _) (fun _ _=>bi) (by rw [List.length_take];simp only [List.length_nil];omega) (by decide) ?_
   intro fv R1 bq
   rw [List.nil_append] at bq
   obtain ⟨fa,fc,rfl⟩:=eT bq
   simp +contextual only [go_sem,sevalprocAttr,aI,ht,aL,y0]
   refine aP (Fp ns uT (oz _ (gm aL)) ok _) ?_
   have qg:=Ec (r:=r) (w:=w) hi HY (fun _=>h0)
   have B6:z.drop i=z[i]::z.drop (i+1):=dq aL
   rw [B6,rJ] at qg
   have hwk:IntKind.i64.wrap ((i:Int)+1)=((i+1:Nat):Int):=aA i (by omega)
   by_cases h1:cC z[i].row r=0
   ·rw [if_pos h1] at qg
    simp +contextual only [go_sem,aD,sevalprocAttr,aI,ht,aL,h1,y1]
    by_cases h2:IntKind.i64.wrap (w+z[i].w)=0
    ·rw [if_pos h2] at qg ⊢
     rw [hwk,Int.toNat_natCast,if_pos (show (0:Int)<=((i+1:Nat):Int)/\((i+1:Nat):Int)<=(z.length:Int)/\z.length<=c from ⟨by omega,by omega,cX⟩)]
     obtain ⟨zs,pD,rH,H5⟩:=gE (P:=Tryz.prog) Tryz.underlying32 (fun _ _=>bi) (fun _ _ h=>gh h) (lY (by decide) (fun _ _=>bi) uU (show i+1<=z.length by omega))
     simp +contextual only [go_sem,sevalprocAttr]
     refine gI ix iw bq rH (fun _=>H5 _ _ _) (fun _ _=>bi) (by simp only [List.length_take,List.length_drop];omega) (by decide) ?_
     intro fv2 R2 fB
     obtain ⟨ga,gc,rfl⟩:=eT fB
     simp +contextual only [go_sem,sevalprocAttr]
     refine bM (iM fB (by simp only [List.length_append,List.length_take,List.length_drop];omega) (by decide) trivial fun M3 bG _ cH=>ak aG.rfl' ?_)
     rw [qg];exact aH bm.rfl' (eU bG) cH
    ·rw [if_neg h2] at qg ⊢
     refine aF (yF uT zy ok _) ?_
     rintro v M2 bh aZ hv
     obtain ⟨_,va2,vc2,rfl,_⟩:=ax (by decide) (fun _ _=>eK) hv
     simp +contextual only [go_sem,sevalprocAttr]
     intro b60 Jf Lo
     refine yq (Tryz.underlying32) ix iw (x:=(⟨r.map bQ,IntKind.i64.wrap (w+z[i].w)⟩:Z)) (qH (eU bh) bq) ⟨_,hv,rfl⟩ (fun _ _=>bi) (by simp [Value.oneCell']) Jf (by rw [List.length_take];omega) (by decide) ?_
     intro fv1 R3 wI
     obtain ⟨PT,Ls,rfl⟩:=eT wI
     simp +contextual only [go_sem,sevalprocAttr,aI]
     rw [hwk,Int.toNat_natCast,if_pos (show (0:Int)<=((i+1:Nat):Int)/\((i+1:Nat):Int)<=(z.length:Int)/\z.length<=c from ⟨by omega,by omega,cX⟩)]
     obtain ⟨zs,pD,rH,H5⟩:=gE (P:=Tryz.prog) Tryz.underlying32 (fun _ _=>bi) (fun _ _ h=>gh h) (cz bh<| lY (by decide) (fun _ _=>bi) uU (show i+1<=z.length by omega))
     simp +contextual only [go_sem,sevalprocAttr]
     refine gI ix iw wI rH (fun _=>H5 _ _ _) (fun _ _=>bi) (by simp only [List.length_append,List.length_take,List.length_drop,ln];omega) (by decide) ?_
     intro fv2 R2 fB
     obtain ⟨ga,gc,rfl⟩:=eT fB
     simp +contextual only [go_sem,sevalprocAttr]
     refine bM (iM fB (by simp only [List.length_append,List.length_take,List.length_drop,ln];omega) (by decide) trivial fun M3 bG _ cH=>ak aG.rfl' ?_)
     rw [qg];simpa using aH bm.rfl' (eU bG) cH
   ·rw [if_neg h1] at qg
    by_cases h2:w=0
    ·rw [if_pos h2,<- B6] at qg
     simp +contextual only [go_sem,aD,sevalprocAttr,aI,ht,h1,h2]
     rw [if_pos (show i<=z.length/\z.length<=c from ⟨by omega,cX⟩)]
     obtain ⟨zs,pD,rH,H5⟩:=gE (P:=Tryz.prog) Tryz.underlying32 (fun _ _=>bi) (fun _ _ h=>gh h) (lY (by decide) (fun _ _=>bi) uU (show i<=z.length by omega))
     simp +contextual only [go_sem,sevalprocAttr]
     refine gI ix iw bq rH (fun _=>H5 _ _ _) (fun _ _=>bi) (by simp only [List.length_take,List.length_drop];omega) (by decide) ?_
     intro fv2 R2 fB
     obtain ⟨ga,gc,rfl⟩:=eT fB
     simp +contextual only [go_sem,sevalprocAttr]
     refine bM (iM fB (by simp only [List.length_append,List.length_take,List.length_drop];omega) (by decide) trivial fun M3 bG _ cH=>ak aG.rfl' ?_)
     rw [qg];exact aH bm.rfl' (eU bG) cH
    ·rw [if_neg h2,<- B6] at qg
     simp +contextual only [go_sem,aD,sevalprocAttr,aI,h1,h2]
     refine aF (yF uT zy ok _) ?_
     rintro v M2 bh aZ hv
     obtain ⟨_,va2,vc2,rfl,_⟩:=ax (by decide) (fun _ _=>eK) hv
     simp +contextual only [go_sem,sevalprocAttr,aI]
     intro b60 Jf Lo
     refine yq (Tryz.underlying32) ix iw (x:=(⟨r.map bQ,w⟩:Z)) (qH (eU bh) bq) ⟨_,hv,rfl⟩ (fun _ _=>bi) (by simp [Value.oneCell']) Jf (by rw [List.length_take];omega) (by decide) ?_
     intro fv1 R3 wI
     obtain ⟨PT,Ls,rfl⟩:=eT wI
     simp +contextual only [go_sem,sevalprocAttr,aI,ht]
     rw [if_pos (show i<=z.length/\z.length<=c from ⟨by omega,cX⟩)]
     obtain ⟨zs,pD,rH,H5⟩:=gE (P:=Tryz.prog) Tryz.underlying32 (fun _ _=>bi) (fun _ _ h=>gh h) (cz bh<| lY (by decide) (fun _ _=>bi) uU (show i<=z.length by omega))
     simp +contextual only [go_sem,sevalprocAttr]
     refine gI ix iw wI rH (fun _=>H5 _ _ _) (fun _ _=>bi) (by simp only [List.length_append,List.length_take,List.length_drop,ln];omega) (by decide) ?_
     intro fv2 R2 fB
     obtain ⟨ga,gc,rfl⟩:=eT fB
     simp +contextual only [go_sem,sevalprocAttr]
     refine bM (iM fB (by simp only [List.length_append,List.length_take,List.length_drop,ln];omega) (by decide) trivial fun M3 bG _ cH=>ak aG.rfl' ?_)
     rw [qg];simpa using aH bm.rfl' (eU bG) cH
 ·have:i=z.length:=by omega
  subst this
  have qg:=Ec (r:=r) (w:=w) hi HY (fun h=>absurd h (by omega))
  rw [List.drop_length,rJ] at qg
  simp +contextual only [go_sem,aD,sevalprocAttr,aI,ht,aL]
  intro b25 akl
  rw [if_pos hic,DE]
  simp +contextual only [go_sem,sevalprocAttr]
  refine gI ix iw (R0:=[]) (acc:=[]) (.inl ⟨rfl,rfl,.inr ⟨b25,rfl⟩⟩) xn (fun _=>xl _ _ _) (fun _ _=>bi) (by rw [List.length_take];simp only [List.length_nil];omega) (by decide) ?_
  intro fv R1 bq
  rw [List.nil_append] at bq
  obtain ⟨fa,fc,rfl⟩:=eT bq
  have AR:z.drop z.length=[]:=List.drop_length
  by_cases h2:w=0
  ·rw [if_pos h2] at qg
   simp +contextual only [go_sem,aD,sevalprocAttr,aI,ht,aL,h2]
   rw [if_pos cX]
   obtain ⟨zs,pD,rH,H5⟩:=gE (P:=Tryz.prog) Tryz.underlying32 (fun _ _=>bi) (fun _ _ h=>gh h) (lY (by decide) (fun _ _=>bi) uU (show z.length<=z.length by omega))
   simp +contextual only [go_sem,sevalprocAttr]
   refine gI ix iw bq rH (fun _=>H5 _ _ _) (fun _ _=>bi) (by simp only [List.length_take,List.length_drop];omega) (by decide) ?_
   intro fv2 R2 fB
   obtain ⟨ga,gc,rfl⟩:=eT fB
   simp +contextual only [go_sem,sevalprocAttr]
   refine bM (iM fB (by simp only [List.length_append,List.length_take,List.length_drop];omega) (by decide) trivial fun M3 bG _ cH=>ak aG.rfl' ?_)
   rw [qg];simpa using aH bm.rfl' (eU bG) cH
  ·rw [if_neg h2] at qg
   simp +contextual only [go_sem,aD,sevalprocAttr,aI,ht,aL,h2]
   refine aF (yF uT zy ok _) ?_
   rintro v M2 bh aZ hv
   obtain ⟨_,va2,vc2,rfl,_⟩:=ax (by decide) (fun _ _=>eK) hv
   simp +contextual only [go_sem,sevalprocAttr,aI]
   intro b60 Jf Lo
   refine yq (Tryz.underlying32) ix iw (x:=(⟨r.map bQ,w⟩:Z)) (qH (eU bh) bq) ⟨_,hv,rfl⟩ (fun _ _=>bi) (by simp [Value.oneCell']) Jf (by rw [List.length_take];omega) (by decide) ?_
   intro fv1 R3 wI
   obtain ⟨PT,Ls,rfl⟩:=eT wI
   simp +contextual only [go_sem,sevalprocAttr,aI,ht]
   rw [if_pos cX]
   obtain ⟨zs,pD,rH,H5⟩:=gE (P:=Tryz.prog) Tryz.underlying32 (fun _ _=>bi) (fun _ _ h=>gh h) (cz bh<| lY (by decide) (fun _ _=>bi) uU (show z.length<=z.length by omega))
   simp +contextual only [go_sem,sevalprocAttr]
   refine gI ix iw wI rH (fun _=>H5 _ _ _) (fun _ _=>bi) (by simp only [List.length_append,List.length_take,List.length_drop,ln];omega) (by decide) ?_
   intro fv2 R2 fB
   obtain ⟨ga,gc,rfl⟩:=eT fB
   simp +contextual only [go_sem,sevalprocAttr]
   refine bM (iM fB (by simp only [List.length_append,List.length_take,List.length_drop,ln];omega) (by decide) trivial fun M3 bG _ cH=>ak aG.rfl' ?_)
   rw [qg];simpa using aH bm.rfl' (eU bG) cH
variable {M:aR}
def nB (l:List Z):List Z:=l.foldl (fun z x=>qu x.row x.w z) []
def vW (l:List Z)(x:Z):nB (l++[x])=qu x.row x.w (nB l):=by simp [nB,List.foldl_append]
def Yc {v:V}(h:D5 v):D5 (bQ v):=by
 unfold D5 bQ at*
 split
 ·exact ⟨Int.le_refl 1,by show (1:Int)<=4;decide⟩
 split
 ·exact ⟨by show (1:Int)<=4;decide,Int.le_refl 4⟩
 ·exact h
theorem Gw {r:List V}{w:Int}:∀ {z:List Z} {y:Z},y∈rJ r w z ->y∈z\/y.row=r.map bQ
 | [],y,h=>by
  rw [rJ] at h
  split at h
  ·cases h
  ·simp at h;subst h;exact .inr rfl
 | x::B,y,h=>by
  rw [rJ] at h
  split at h
  ·split at h
   ·exact .inl (by simp [h])
   ·rcases lQ h with rfl | h
    ·exact .inr rfl
    ·exact .inl (by simp [h])
  ·split at h
   ·exact .inl h
   ·rcases lQ h with rfl | h
    ·exact .inr rfl
    ·exact .inl h
theorem Ad {r:List V}{w:Int}:∀ {z:List Z} {y:Z},y∈qu r w z ->y∈z\/y.row=r.map bQ
 | [],y,h=>Gw h
 | x::z,y,h=>by
  rw [qu] at h
  split at h
  ·rcases lQ h with rfl | h
   ·exact .inl (by simp)
   ·exact (Ad h).imp (fun h=>by simp [h]) id
  ·exact Gw h
theorem Gv (r:List V)(w:Int):∀ (z:List Z),(rJ r w z).length<=z.length+1
 | []=>by rw [rJ];split<;>simp
 | x::B=>by rw [rJ];split<;>split<;>simp only [List.length_cons]<;>omega
theorem GR (r:List V)(w:Int):∀ (z:List Z),(qu r w z).length<=z.length+1
 | []=>Gv r w []
 | x::z=>by
  rw [qu]
  split
  ·have:=GR r w z;simp;omega
  ·exact Gv r w (x::z)
theorem CK:∀ (n:Nat) (l:List Z),l.length=n ->(∀ z∈l,∀ v∈z.row,D5 v) ->(nB l).length<=n/\∀ z∈nB l,∀ v∈z.row,D5 v
 | 0,l,h,_=>by rw [List.length_eq_zero_iff.1 h];exact ⟨Nat.le_refl _,fun z hz=>by cases hz⟩
 | n+1,l,h,ok=>by
  obtain ⟨l',x,rfl⟩:∃ l' x,l=l'++[x]:=by
   rcases List.eq_nil_or_concat l with h0 | ⟨l',x,h0⟩
   ·subst h0;simp at h
   ·exact ⟨l',x,by simpa using h0⟩
  obtain ⟨h1,h2⟩:=CK n l' (by simpa using h) (fun z hz=>ok z (by simp [hz]))
  rw [vW]
  refine ⟨Nat.le_trans (GR _ _ _) (by omega),fun z hz v hv=> ?_⟩
  rcases Ad hz with h3 | h3
  ·exact h2 z h3 v hv
  ·rw [h3] at hv
   obtain ⟨u,hu,rfl⟩:=List.mem_map.1 hv
   exact Yc (ok x (by simp) u hu)
def WM {l:List Z}{lv:Value}(h:RS M (RZ M) 2 l lv)(hl:l.length<=400)(ok:∀ z∈l,∀ v∈z.row,D5 v)(zy:∀ z∈l,z.row.length<=1000000)(hw:∀ z∈nB l,¬ (z.w< -1000000)/\¬ (z.w>1000000))(T:Tm):bU Tryz.prog 17 [lv] T M [] [] (fun r M' _ _=>∃ v,r=.tuple ⟨[v,.int .i64 0]⟩/\RS M' (RZ M') 2 (nB l) v) aM:=by
 obtain ⟨fp,a,c,rfl,cX,_,hg⟩:=ax (by decide) (fun _ _=>bi) h
 have Ca:∀ i,(nB (l.take i)).length<=400/\∀ z∈nB (l.take i),∀ v∈z.row,D5 v:=fun i=>by
  obtain ⟨h1,h2⟩:=CK _ (l.take i) rfl (fun z hz=>ok z (List.mem_of_mem_take hz))
  exact ⟨Nat.le_trans h1 (by rw [List.length_take];omega),h2⟩
 refine az F17 rfl rfl ?_
 intro bj _
 simp +contextual only [go_sem,aD,sevalprocAttr]
 refine aO l.length 9 [(7,.slice a l.length c),(8,.int .i64 (l.length:Int))] (fun i e h=>∃ N' M' zv,aG T N'/\bm M M'/\h=⟨N',M',[],[]⟩/\e 4=zv/\RS M' (RZ M') 2 (nB (l.take i)) zv) 0 (by omega) (by simp only [aE,go_sem,sevalprocAttr]) (by simp only [go_sem,sevalprocAttr]) ⟨T,M,_,aG.rfl',bm.rfl',rfl,by simp only [go_sem,sevalprocAttr],bz⟩ ?_
 rintro i e h hi aI ht ⟨N1,M1,zv,pz,aW,rfl,e4,hz⟩
 simp only [aE] at aI
 by_cases aL:i<l.length
 ·obtain ⟨b',o',cs',rfl,bP,v,ns,rfl⟩:=hg i l[i] (gq aL)
  obtain ⟨_,va,vc,rfl,_⟩:=ax (by decide) (fun _ _=>eK) ns
  obtain ⟨y0,y1,_⟩:=bP.ext aW
  have fQ:qu l[i].row l[i].w (nB (l.take i))=nB (l.take (i+1)):=by
   rw [<- vW,List.take_append_getElem aL]
  simp +contextual only [go_sem,aD,sevalprocAttr,aI,ht,aL,y0,y1]
  intro b6 T6 pA ug DL
  rw [e4]
  refine aF (WK hz (aH aW (fun _ _ h=>h) ns) (Nat.le_trans (Ca i).1 (by decide)) (zy _ (gm aL)) (Ca i).2 (ok _ (gm aL)) _) ?_
  rintro v2 M2 bh aZ nu
  rw [fQ] at nu
  simp +contextual only [go_sem,sevalprocAttr,ht]
  refine aS (bM (aC ⟨l.length - (i+1),by omega,rfl,i+1,by omega,rfl,?_,?_,T6,M2,v2,pz.trans ug,aW.trans bh,rfl,?_,nu⟩))
  ·simp only [aE,aI,go_sem,sevalprocAttr]
  ·simp only [go_sem,sevalprocAttr,aA i (by omega)]
  ·simp only [go_sem,sevalprocAttr]
 ·have:i=l.length:=by omega
  subst this
  have VQ:=Ca l.length
  rw [List.take_length] at hz VQ
  simp +contextual only [go_sem,aD,sevalprocAttr,aI,ht,aL,e4]
  refine aP (WH hz VQ.1 hw _) ?_
  simp +contextual only [go_sem,sevalprocAttr]
  exact ak pz ⟨zv,rfl,hz⟩
def aaS {l:List Z}{lv:Value}(h:RS M (RZ M) 2 l lv)(hl:l.length<=400)(bN:∀ z∈l,z.row.length<=8/\∀ v∈z.row,eR v=0)(hb:∀ z∈l,¬ (z.w< -1000000)/\¬ (z.w>1000000))(hw:∀ z∈nB l,¬ (z.w< -1000000)/\¬ (z.w>1000000))(T:Tm):bU Tryz.prog 8 [lv] T M [] [] (fun r M' _ _=>∃ v,r=.tuple ⟨[v,.int .i64 0]⟩/\RS M' (RZ M') 2 (nB l) v) aM:=by
 have h0:=h
 obtain ⟨fp,a,c,rfl,cX,_,hg⟩:=ax (by decide) (fun _ _=>bi) h
 have xQ:¬ ((l.length:Int)>1600):=by omega
 refine az F8 rfl rfl ?_
 intro bj _
 simp +contextual only [go_sem,aD,sevalprocAttr,xQ]
 refine aO l.length 12 [(0,.slice a l.length c),(10,.slice a l.length c),(11,.int .i64 (l.length:Int))] (fun i e h=>∃ N',aG T N'/\h=⟨N',M,[],[]⟩) 0 (by omega) (by simp only [aE,go_sem,sevalprocAttr]) (by simp only [go_sem,sevalprocAttr]) ⟨T,aG.rfl',rfl⟩ ?_
 rintro i e h hi aI ht ⟨N1,pz,rfl⟩
 simp only [aE] at aI
 by_cases aL:i<l.length
 ·obtain ⟨b',o',cs',rfl,bP,v,ns,rfl⟩:=hg i l[i] (gq aL)
  obtain ⟨_,va,vc,rfl,_⟩:=ax (by decide) (fun _ _=>eK) ns
  obtain ⟨y0,y1,_⟩:=bP
  obtain ⟨r1,r2⟩:=bN _ (gm aL)
  obtain ⟨w1,w2⟩:=hb _ (gm aL)
  simp +contextual only [go_sem,aD,sevalprocAttr,aI,ht,aL,y0,y1]
  intro b5 T5 jz ko nq
  refine aP (WL ns r1 r2 _) ?_
  simp +contextual only [go_sem,aD,sevalprocAttr,aB jz]
  refine aP (KV _ _) ?_
  simp +contextual only [go_sem,aD,sevalprocAttr,ht,w1,w2]
  refine aS (bM (aC ⟨l.length - (i+1),by omega,rfl,i+1,by omega,rfl,?_,?_,T5,pz.trans ko,rfl⟩))
  ·simp only [aE,aI,go_sem,sevalprocAttr]
  ·simp only [go_sem,sevalprocAttr,aA i (by omega)]
 ·have:i=l.length:=by omega
  subst this
  simp +contextual only [go_sem,aD,sevalprocAttr,aI,ht,aL]
  refine aF (WM h0 hl (fun z hz v hv=>PK ((bN z hz).2 v hv)) (fun z hz=>Nat.le_trans (bN z hz).1 (by decide)) hw _) ?_
  rintro v M2 bh aZ ⟨sv,rfl,hs⟩
  simp +contextual only [go_sem,sevalprocAttr]
  exact ak pz ⟨sv,rfl,hs⟩
variable {M:aR}
def VZ (name:Bs)(sales people:List (List Int))(out:List Z):Prop:=∀ (M:aR) (lv pv:Value),eS M ->RS M (lZ M) 1 sales lv ->RS M (lZ M) 1 people pv ->∀ T,bU Tryz.prog 7 [st name,lv,pv] T M [] [] (fun v M' _ _=>∃ zv,v=.tuple ⟨[zv,.int .i64 0]⟩/\RS M' (RZ M') 2 out zv) aM
def n8 (r:List V):Z:=⟨r,1⟩
theorem RC {name:Bs}{sales people:List (List Int)}{out:List Z}{eB:List (List V)}{lv pv wv:Value}(hA:VZ name sales people out)(hG:eS M)(hs:RS M (lZ M) 1 sales lv)(hp:RS M (lZ M) 1 people pv)(hw:RS M (MZ M) 1 eB wv)
 (hl:eB.length<=400) (bN:∀ r∈eB,r.length<=8/\∀ v∈r,eR v=0) (Ox:∀ z∈out,¬ (z.w< -1000000)/\¬ (z.w>1000000)) (ho:nB (eB.map n8)=out) (T:Tm):
 bU Tryz.prog 6 [st name,lv,pv,wv] T M [] [] (fun v _ _ _=>v=.bool true) aM:=by
 obtain ⟨_,la,lc,rfl,_⟩:=ax (by decide) (fun _ _=>cQ) hs
 obtain ⟨_,pa,pc,rfl,_⟩:=ax (by decide) (fun _ _=>cQ) hp
 obtain ⟨fp,a,c,rfl,cX,_,hg⟩:=ax (by decide) (fun _ _=>tL) hw
 refine az F6 rfl rfl ?_
 intro bj _
 simp +contextual only [go_sem,sevalprocAttr]
 refine aF (hA M _ _ hG hs hp _) ?_
 rintro v M1 aW bD ⟨zv,rfl,hz⟩
 obtain ⟨_,za,zc,rfl,_⟩:=ax (by decide) (fun _ _=>bi) hz
 simp +contextual only [go_sem,aD,sevalprocAttr]
 refine aO eB.length 25 [(9,.slice za out.length zc),(10,.int .i64 0),(23,.slice a eB.length c),(24,.int .i64 (eB.length:Int))] (fun i e h=>∃ N' R' fv,aG T N'/\h=⟨N',M1,[],R'⟩/\e 11=fv/\kY 37 2 (RZ M1) [] R' fv ((eB.take i).map n8)) 0 (by omega) (by simp only [aE,go_sem,sevalprocAttr]) (by simp only [go_sem,sevalprocAttr]) ⟨T,_,_,aG.rfl',rfl,by simp only [go_sem,sevalprocAttr],cV⟩ ?_
 rintro i e h hi aI ht ⟨N',R',fv,km,rfl,e3,bq⟩
 simp only [aE] at aI
 by_cases aL:i<eB.length
 ·obtain ⟨b',o',cs',rfl,bP,rv,eh,rfl⟩:=hg i eB[i] (gq aL)
  obtain ⟨_,ra,rc,rfl,_⟩:=ax (by decide) (fun _ _=>eK) eh
  have y0:=(bP.ext aW).1
  rw [Nat.mul_one] at y0
  have fQ:(eB.take i).map n8++[n8 eB[i]]=(eB.take (i+1)).map n8:=by
   rw [<- List.take_append_getElem aL,List.map_append];rfl
  simp +contextual only [go_sem,aD,sevalprocAttr,aI,ht,aL,y0,e3]
  intro b20 sR
  refine cB (Tryz.underlying32) ix iw (x:=n8 eB[i]) bq ⟨_,aH aW (fun _ _ h=>h) eh,rfl⟩ (fun _ _=>bi) (by simp [Value.oneCell']) sR (by rw [List.length_map,List.length_take];omega) (by decide) ?_
  intro fv' R2 bw
  rw [fQ] at bw
  simp +contextual only [go_sem,sevalprocAttr,ht]
  refine aS (al (aC ⟨eB.length - (i+1),by omega,rfl,i+1,by omega,rfl,?_,?_,N',R2,fv',km,rfl,?_,bw⟩))
  ·simp only [aE,aI,go_sem,sevalprocAttr]
  ·simp only [go_sem,sevalprocAttr,aA i (by omega)]
  ·simp only [go_sem,sevalprocAttr]
 ·have:i=eB.length:=by omega
  subst this
  rw [List.take_length] at bq
  obtain ⟨fa,fc,rfl⟩:=eI bq
  simp +contextual only [go_sem,aD,sevalprocAttr,aI,ht,aL,e3]
  refine cD (k:=fun h'=>∃ M2,bm M1 M2/\RS M2 (RZ M2) 2 (eB.map n8) (.slice fa (eB.map n8).length fc)/\h'=⟨N',M2,[],[]⟩) (ct bq (by rw [List.length_map];omega) (by decide) trivial fun M2 bh _ cH=>aC ⟨M2,bh,aH bm.rfl' (eU bh) cH,rfl⟩) ?_ F8.bd
  rintro h' ⟨M2,bh,cH,rfl⟩
  refine aF (aaS cH (by rw [List.length_map];exact hl) ?_ ?_ (by rw [ho];exact Ox) _) ?_
  ·intro z hz
   obtain ⟨r,hr,rfl⟩:=List.mem_map.1 hz
   exact bN r hr
  ·intro z hz
   obtain ⟨r,hr,rfl⟩:=List.mem_map.1 hz
   unfold n8;simp
  rintro v M3 bG bC ⟨sv,rfl,sW⟩
  rw [ho] at sW
  obtain ⟨_,sa,sc,rfl,_⟩:=ax (by decide) (fun _ _=>bi) sW
  simp +contextual only [go_sem,sevalprocAttr,aI]
  refine aP (Rd (cz (bh.trans bG) hz) sW _) ?_
  simp +contextual only [go_sem,sevalprocAttr]
  exact ak km rfl
theorem Rn (n:Int)(T:Tm):bU Tryz.prog 5 [.int .i64 n] T M [] [] (fun v _ _ _=>v=.agg ⟨[.int .i64 3,.int .i64 n,st []]⟩) aM:=by
 refine az F5 rfl rfl ?_
 intro bj _
 simp +contextual only [go_sem,sevalprocAttr]
 intro b1 T1 fO cY gu
 exact ak cY rfl
variable {M:aR}
def lw (l:List (List Int))(w:Nat):Prop:=l.length<=15/\∀ r∈l,r.length=w/\∀ n∈r,0<=n/\n<=1000000
def Rr {l:List (List Int)}{lv:Value}{w:Nat}(h:RS M (lZ M) 1 l lv)(T:Tm):bU Tryz.prog 4 [lv,.int .i64 (w:Int)] T M [] [] (fun v _ _ _=>∃ b,v=.bool b/\(b=true ->lw l w)) aM:=by
 obtain ⟨fp,a,c,rfl,cX,_,hg⟩:=ax (by decide) (fun _ _=>cQ) h
 refine az F4 rfl rfl ?_
 intro bj _
 simp +contextual only [go_sem,aD,sevalprocAttr]
 by_cases xd:(l.length:Int)>15
 ·have abc:(15:Int)<(l.length:Int):=xd
  simp +contextual only [go_sem,sevalprocAttr,abc]
  exact ak aG.rfl' ⟨false,rfl,fun h=>by cases h⟩
 have abc:¬ (15:Int)<(l.length:Int):=xd
 simp +contextual only [go_sem,sevalprocAttr,abc]
 refine aO l.length 14 [(1,.int .i64 (w:Int)),(12,.slice a l.length c),(13,.int .i64 (l.length:Int))] (fun i e h=>h=⟨T,M,[],[]⟩/\∀ r∈l.take i,r.length=w/\∀ n∈r,0<=n/\n<=1000000) 0 (by omega) (by simp only [aE,go_sem,sevalprocAttr]) (by simp only [go_sem,sevalprocAttr]) ⟨rfl,fun r hr=>by cases hr⟩ ?_
 rintro i e h hi aI ht ⟨rfl,ce⟩
 simp only [aE] at aI
 by_cases aL:i<l.length
 ·obtain ⟨b',o',cs',rfl,bP,rv,rfl,eh⟩:=hg i l[i] (gq aL)
  obtain ⟨_,ra,rc,rfl,_,_,ul⟩:=ax (by decide) (fun _ _=>cE) eh
  have y0:=bP.1
  rw [Nat.mul_one] at y0
  by_cases H2:l[i].length=w
  rotate_left
  ·have al0:¬ (l[i].length:Int)=(w:Int):=by omega
   simp +contextual only [go_sem,aD,sevalprocAttr,aI,ht,aL,y0,al0]
   exact ak aG.rfl' ⟨false,rfl,fun h=>by cases h⟩
  simp +contextual only [go_sem,aD,sevalprocAttr,aI,ht,aL,y0,H2]
  refine aO w 24 [(1,.int .i64 (w:Int)),(12,.slice (some ⟨b',o',none⟩) l.length c),(13,.int .i64 (l.length:Int)),(14,.int .i64 (i:Int)),(22,.slice ra w rc),(23,.int .i64 (w:Int))] (fun j e h=>h=⟨T,M,[],[]⟩/\∀ n∈l[i].take j,0<=n/\n<=1000000) 0 (by omega) (by simp only [aE,go_sem,sevalprocAttr,aI,ht,and_self]) (by simp only [go_sem,sevalprocAttr]) ⟨rfl,fun r hr=>by cases hr⟩ ?_
  clear aI ht e
  rintro j e h hj aI ht ⟨rfl,ab8⟩
  simp only [aE] at aI
  by_cases xV:j<w
  ·have AS:j<l[i].length:=by omega
   obtain ⟨pb,po,pcs,rfl,abt,j3⟩:=ul j l[i][j] (gq AS)
   unfold RI at j3
   subst j3
   have z0:=abt.1
   rw [Nat.mul_one] at z0
   by_cases hb:0<=l[i][j]/\l[i][j]<=1000000
   ·have fO:¬ l[i][j]<0:=by omega
    have dO:¬ 1000000<l[i][j]:=by omega
    simp +contextual only [go_sem,aD,sevalprocAttr,aI,ht,xV,z0,fO,dO]
    refine bT xV ?_ ?_ ⟨rfl,?_⟩
    ·simp only [aE,aI,go_sem,sevalprocAttr,and_self]
    ·simp only [go_sem,sevalprocAttr,aA j (by omega)]
    ·intro n hn
     rw [<- List.take_append_getElem AS] at hn
     rcases xY hn with hn | hn
     ·exact ab8 n hn
     ·rw [List.mem_singleton.1 hn];exact hb
   ·by_cases fO:l[i][j]<0
    ·simp +contextual only [go_sem,aD,sevalprocAttr,aI,ht,xV,z0,fO]
     exact ak aG.rfl' ⟨false,rfl,fun h=>by cases h⟩
    ·have dO:1000000<l[i][j]:=by omega
     simp +contextual only [go_sem,aD,sevalprocAttr,aI,ht,xV,z0,fO,dO]
     exact ak aG.rfl' ⟨false,rfl,fun h=>by cases h⟩
  ·have:j=w:=by omega
   subst this
   simp +contextual only [go_sem,aD,sevalprocAttr,aI,ht,xV]
   refine bT aL ?_ ?_ ⟨rfl,?_⟩
   ·simp only [aE,aI,go_sem,sevalprocAttr,and_self]
   ·simp only [go_sem,sevalprocAttr,aA i (by omega)]
   ·intro r hr
    rw [<- List.take_append_getElem aL] at hr
    rcases xY hr with hr | hr
    ·exact ce r hr
    ·rw [List.mem_singleton.1 hr]
     rw [List.take_of_length_le (by omega)] at ab8
     exact ⟨H2,ab8⟩
 ·have:i=l.length:=by omega
  subst this
  rw [List.take_length] at ce
  simp +contextual only [go_sem,aD,sevalprocAttr,aI,ht,aL]
  exact ak aG.rfl' ⟨true,rfl,fun _=>⟨by omega,ce⟩⟩
variable {M:aR}
def jZ (k:Nat)(r:List Int):Int:=r[k]?.getD 0
variable {M:aR}
def Y9 (name:Bs)(sales people:List (List Int))(eB:List (List V)):Prop:=∃ out,VZ name sales people out/\(∀ z∈out,¬ (z.w< -1000000)/\¬ (z.w>1000000))/\nB (eB.map n8)=out
def nV (n:Int):V:=⟨3,n,[]⟩
def KQ {sales:List (List Int)}{w k:Nat}(hr:lw sales w)(hk:k<w){r:List Int}(h:r∈sales):0<=jZ k r/\jZ k r<=1000000:=by
 obtain ⟨h1,h2⟩:=hr.2 r h
 have rV:k<r.length:=by omega
 unfold jZ
 rw [gq rV]
 exact h2 _ (gm rV)
def sd {n:Int}(h:0<=n/\n<=1000000):eR (nV n)=0:=by
 have h1:¬ (n>1000000000000000\/n< -1000000000000000):=by omega
 show (if (3:Int)=1 then (0:Int) else if (3:Int)=2 then _ else if (3:Int)=3 then (if n>1000000000000000\/n< -1000000000000000 then 3 else 0) else _)=0
 rw [if_neg (by decide),if_neg (by decide),if_pos rfl,if_neg h1]
def Nu (v:V):pQ v (bQ v)=0:=by
 have h:=z8.self v
 unfold pQ at h ⊢
 rw [rz]
 exact h
theorem te:∀ (r:List V),cC r (r.map bQ)=0
 | []=>rfl
 | v::r=>by rw [List.map_cons,cC,Nu,kg,if_neg (by simp)];exact te r
def nh (q:List V)(x:Z)(l:List Z):wt q (x::l)=(if x.row=q then x.w else 0)+wt q l:=by rw [wt]
def Vu {n:Int}(h:n.natAbs<4611686018427387904):IntKind.i64.wrap n=n:=bJ (by omega) (by omega)
theorem Cj {r:List V}{w:Int}:∀ {z:List Z},lf z ->(∀ y∈z.head?,¬ cC y.row r<0) ->dt z+w.natAbs<4611686018427387904 ->
 lf (rJ r w z)/\(∀ q,wt q (rJ r w z)=wt q z+if r.map bQ=q then w else 0)/\dt (rJ r w z)<=dt z+w.natAbs
 | [],hc,_,ha=>by
  rw [rJ]
  by_cases h:w=0
  ·rw [if_pos h]
   exact ⟨hc,fun q=>by rw [h];split<;>simp,by omega⟩
  ·rw [if_neg h]
   refine ⟨⟨List.pairwise_singleton _ _,fun y hy=> ?_⟩,fun q=>by rw [nh];simp [wt],by simp [dt]⟩
   rw [List.mem_singleton.1 hy]
   exact ⟨h,by simp [List.map_map,Function.comp_def,rz]⟩
 | x::B,hc,hh,ha=>by
  have hx:=hc.2 x (by simp)
  have aL:=List.pairwise_cons.1 hc.1
  have Xr:dt (x::B)=x.w.natAbs+dt B:=by rw [dt]
  have XD:(r.map bQ).map bQ=r.map bQ:=by simp [List.map_map,Function.comp_def,rz]
  have hnn:¬ cC x.row r<0:=hh x (by simp)
  rw [Xr] at ha ⊢
  rw [rJ]
  by_cases h0:cC x.row r=0
  ·have he:x.row=r.map bQ:=by rw [<- hx.2];exact uE h0
   have hw:IntKind.i64.wrap (w+x.w)=w+x.w:=Vu (by omega)
   rw [if_pos h0,hw]
   by_cases h1:w+x.w=0
   ·rw [if_pos h1]
    refine ⟨l5 hc,fun q=> ?_,by omega⟩
    rw [nh,he]
    split<;>omega
   ·rw [if_neg h1]
    refine ⟨⟨List.pairwise_cons.2 ⟨fun y hy=>by show cC (r.map bQ) y.row<0;rw [<- he];exact aL.1 y hy,aL.2⟩,fun y hy=> ?_⟩,fun q=> ?_,by simp only [dt];omega⟩
    ·rcases lQ hy with rfl | hy
     ·exact ⟨h1,XD⟩
     ·exact hc.2 y (by simp [hy])
    ·rw [nh,nh,he]
     simp only
     split<;>omega
  ·rw [if_neg h0]
   by_cases h1:w=0
   ·rw [if_pos h1]
    exact ⟨hc,fun q=>by rw [h1];split<;>simp,by rw [Xr];omega⟩
   ·rw [if_neg h1]
    have eh:cC r x.row<0:=by have:=ey.neg r x.row;have:=ey.neg x.row r;omega
    have Zn:cC (r.map bQ) x.row<0:=ey.le_lt (by have:=(ey.sym (x:=r) (y:=r.map bQ)).1 (te r);omega) eh
    refine ⟨⟨List.pairwise_cons.2 ⟨fun y hy=> ?_,hc.1⟩,fun y hy=> ?_⟩,fun q=> ?_,by simp only [dt];omega⟩
    ·rcases lQ hy with rfl | hy
     ·exact Zn
     ·exact ey.lt_le Zn (by have:=aL.1 y hy;omega)
    ·rcases lQ hy with rfl | hy
     ·exact ⟨h1,XD⟩
     ·exact hc.2 y hy
    ·rw [nh]
     simp only
     omega
theorem Cw {r:List V}{w:Int}:∀ {z:List Z},lf z ->dt z+w.natAbs<4611686018427387904 ->
 lf (qu r w z)/\(∀ q,wt q (qu r w z)=wt q z+if r.map bQ=q then w else 0)/\dt (qu r w z)<=dt z+w.natAbs
 | [],hc,ha=>Cj hc (fun y hy=>by cases hy) ha
 | x::z,hc,ha=>by
  rw [qu]
  by_cases h0:cC x.row r<0
  ·rw [if_pos h0]
   have Xr:dt (x::z)=x.w.natAbs+dt z:=by rw [dt]
   rw [Xr] at ha ⊢
   obtain ⟨h1,h2,h3⟩:=Cw (l5 hc) (z:=z) (r:=r) (w:=w) (by omega)
   refine ⟨⟨List.pairwise_cons.2 ⟨fun y hy=> ?_,h1.1⟩,fun y hy=> ?_⟩,fun q=> ?_,by simp only [dt];omega⟩
   ·rcases Ad hy with hy | hy
    ·exact (List.pairwise_cons.1 hc.1).1 y hy
    ·rw [hy]
     exact ey.lt_le h0 (by rw [te];exact Int.le_refl 0)
   ·rcases lQ hy with rfl | hy
    ·exact hc.2 _ (by simp)
    ·exact h1.2 y hy
   ·rw [nh,nh,h2];omega
  ·rw [if_neg h0]
   exact Cj hc (fun y hy=>by simp at hy;subst hy;exact h0) ha
theorem CL:∀ (n:Nat) (l:List Z),l.length=n ->dt l<4611686018427387904 ->lf (nB l)/\(∀ q,wt q (nB l)=wt q (l.map fG))/\dt (nB l)<=dt l
 | 0,l,h,_=>by rw [List.length_eq_zero_iff.1 h];exact ⟨⟨List.Pairwise.nil,fun z hz=>by cases hz⟩,fun q=>rfl,Nat.le_refl _⟩
 | n+1,l,h,ha=>by
  obtain ⟨l',x,rfl⟩:∃ l' x,l=l'++[x]:=by
   rcases List.eq_nil_or_concat l with h0 | ⟨l',x,h0⟩
   ·subst h0;simp at h
   ·exact ⟨l',x,by simpa using h0⟩
  have hx:dt [x]=x.w.natAbs:=by simp [dt]
  rw [pK,hx] at ha ⊢
  obtain ⟨h1,h2,h3⟩:=CL n l' (by simpa using h) (by omega)
  obtain ⟨g1,g2,g3⟩:=Cw (r:=x.row) (w:=x.w) h1 (by omega)
  rw [vW]
  refine ⟨g1,fun q=> ?_,by omega⟩
  rw [g2,h2,List.map_append,rB,List.map_singleton,nh]
  simp only [wt,Int.add_zero]
  rfl
def YG {l out:List Z}(hc:lf out)(ha:dt l<4611686018427387904)(h:∀ q,wt q (l.map fG)=wt q out):nB l=out:=by
 obtain ⟨h1,h2,_⟩:=CL _ l rfl ha
 exact lU h1 hc fun q=>by rw [h2,h]
def agM:List Co:=[⟨[119,104,111],3⟩,⟨[119,104,97,116],3⟩,⟨[110],3⟩]
def Ye:List Co:=[⟨[105,100],3⟩,⟨[98,111,115,115],3⟩]
def s0C:Stm:=⟨1,gV,agM,⟨[],[],[],0⟩,[],false,lq⟩
def s1C:Stm:=⟨1,gD,Ye,⟨[],[],[],0⟩,[],false,lq⟩
def sx (q:Q):Stm:=⟨2,[118],[],q,[],false,lq⟩
def Vy (n:Bs):X:=.mk 2 ⟨0,0,[]⟩ [] n []
def soS (n:Bs):So:=⟨1,n,[],lq⟩
def ZZ:Se:=⟨false,true,[],[soS [118]],false,false,lq,lq,[]⟩
def AA:Stm:=⟨5,[],[],⟨[ZZ],[],[], -1⟩,[],false,lq⟩
theorem Pf:mY UE=([AA],0,0):=by kernel_rfl
def eQ:List Rel:=[iW s0C,iW s1C]
def R8 (i:Int):Ex:=.mk 2 C5 i []
def tg:Pl:=.mk 1 0 dR [] [] []
def YV (rels:List Rel)(q:Q):Bool:=match jF rels q with
 | .ok r=>match fH (bO rels) r.1 with
  | .ok t=>decide (t.length<=r.2.length)
  | .error _=>true
 | .error _=>true
def MJ {rels:List Rel}{q:Q}(h:YV rels q=true):∀ r t,jF rels q=.ok r ->fH (bO rels) r.1=.ok t ->t.length<=r.2.length:=by
 intro r t h1 h2
 unfold YV at h
 rw [h1] at h
 simp only [h2] at h
 exact of_decide_eq_true h
def MP (n:Bs):GB (Vy n):=⟨rfl,fun h=>absurd h (by decide),trivial⟩
theorem UF:OkSe ZZ where
 src:=by decide
 on:=fun j x h hj=>by
  obtain ⟨j,rfl⟩:∃ k,j=k+1:=⟨j - 1,by omega⟩
  cases h
 wh:=fun h=>by cases h
 grp:=⟨by decide,fun x hx=>by cases hx⟩
 its:=fun h=>by cases h
 hv:=fun h=>by cases h
 cnt:=fun h=>by cases h
theorem Vo {q:Q}{w:Pl×List Co}(ok:∀ x∈q.parts,OkSe x)(par:q.parts.length<=q.ops.length+1)(parl:q.parts.length<=1048576)(ord:0<=q.limit ->q.order.length<=1048576/\∀ x∈q.order,GB x)(hw:YV eQ q=true)(hb:iN eQ q=.ok w)(gp:gPl w.1=true)(gc:∀ c∈w.2,c.ty≠0)(nd:(w.2.map (·.name)).Nodup)(cl:w.2.length<=1000000)(col:∃ c,fH (bO eQ) w.1=.ok c)(ev:BS (bO eQ) w.1 [[],[]]=.ok [])(rn:wX w.1=true):ViewOk eQ [[],[]] (sx q) w [] where
 ok:=ok
 par:=par
 parl:=parl
 ord:=ord
 wid:=MJ hw
 bnd:=hb
 gp:=gp
 gc:=gc
 nm:=fun x hx=>by
  simp only [eQ,mn] at hx
  rcases hx with rfl | rfl
  ·show gV≠[118];decide
  ·show gD≠[118];decide
 nd:=nd
 cl:=cl
 col:=col
 ev:=ev
 rn:=rn
 gz:=fun x hx=>by cases hx
theorem aaG {s:Stm}{w:Pl×List Co}(hw:YV (eQ++[jw s w]) AA.q=true)(hb:iN (eQ++[jw s w]) AA.q=.ok w):AskOk (eQ++[jw s w]) AA.q w where
 ok:=fun x hx=>by rw [List.mem_singleton.1 hx];exact UF
 par:=by show 1<=0+1;decide
 parl:=by show 1<=1048576;decide
 ord:=fun h=>absurd h (by show ¬ (0:Int)<= -1;decide)
 wid:=MJ hw
 bnd:=hb
def Tf (n:Int):Prop:=0<=n/\n<=1000000
def sq (row:List V):Prop:=∃ a b c,Tf a/\Tf b/\Tf c/\row=[nV a,nV b,nV c]
def VX (r:List Int):Z:=⟨r.map iK,1⟩
def rA {n:Int}(h:0<=n):iK n=nV n:=if_neg (by omega)
def ji (n:Int):bQ (nV n)=nV n:=by unfold bQ nV;simp
theorem Au {sales:List (List Int)}(hr:lw sales 3){r:List Int}(h:r∈sales):∃ a b c,Tf a/\Tf b/\Tf c/\r=[a,b,c]:=by
 obtain ⟨h1,h2⟩:=hr.2 r h
 match r,h1,h2 with
 | [a,b,c],_,h2=>exact ⟨a,b,c,h2 a (by simp),h2 b (by simp),h2 c (by simp),rfl⟩
def ye {a b c:Int}(ha:Tf a)(hb:Tf b)(hc:Tf c):(VX [a,b,c]).row=[nV a,nV b,nV c]:=by
 unfold VX
 simp only [List.map_cons,List.map_nil,rA ha.1,rA hb.1,rA hc.1]
def tf {row:List V}(h:sq row):mS [3,3,3] row=0:=by
 obtain ⟨a,b,c,ha,hb,hc,rfl⟩:=h
 unfold mS
 rw [if_neg (by simp)]
 simp only [tZ,sd ha,sd hb,sd hc,o6]
 simp [nV]
theorem Bq:∀ (l:List (List Int)),dt (l.map VX)=l.length
 | []=>rfl
 | x::l=>by rw [List.map_cons,dt,Bq l];simp [VX];omega
def Uv {sales:List (List Int)}(hr:lw sales 3):∃ z,oC (sales.map VX)=.ok z/\Fine sq 15 z/\∀ q,wt q z=wt q ((sales.map VX).map fG):=by
 have xd:=hr.1
 refine AC (by rw [List.length_map];omega) (by rw [Bq];exact xd) (by decide) fun x hx=> ?_
 obtain ⟨r,hm,rfl⟩:=List.mem_map.1 hx
 obtain ⟨a,b,c,ha,hb,hc,rfl⟩:=Au hr hm
 rw [ye ha hb hc]
 exact ⟨a,b,c,ha,hb,hc,by simp [ji]⟩
def yn {P:List V ->Prop}{N:Nat}{z:List Z}(h:Fine P N z)(hN:N<=15)(hP:∀ r,P r ->jT r=0):addM [] z=.ok z:=by
 have hl:=h.len
 have hid:=qP h.bare
 obtain ⟨z',h1,h2,h3⟩:=AC (P:=fun _=>True) (N:=N) (l:=z) (by omega) h.abs (by omega) (fun _ _=>trivial)
 have:z'=z:=lU h2.can h.can fun r=>by rw [h3,hid]
 subst this
 unfold addM
 rw [h.wrong (by omega) hP]
 rw [if_pos (by rfl),List.nil_append]
 exact h1
def Wt:addM [] []=.ok []:=yn (P:=fun _=>False) Fine.nil (Nat.zero_le _) (fun _ h=>h.elim)
def Ke {row:List V}(h:sq row):jT row=0:=qU (by decide) (tf h)
theorem Ph {z:List Z}(h:Fine sq 15 z):jj (bO eQ) [z,[]]=0:=by
 have h1:iE [3,3,3] z=0:=h.input (by decide) (by decide) fun r hr=>tf hr
 have h2:iE [3,3] []=0:=by rfl
 show jj [[3,3,3],[3,3]] [z,[]]=0
 unfold jj
 rw [if_pos (by simp),wB,h1,o6,wB,h2,o6]
 rfl
def BY {P:List V ->Prop}{N:Nat}{z:List Z}(h:Fine P N z)(hP:∀ r,P r ->∀ v∈r,v.k≠0):mT z:=fun x hx=>⟨(h.can.2 x hx).1,hP _ (h.row x hx)⟩
def Yy {row:List V}(h:sq row):∀ v∈row,v.k≠0:=by
 obtain ⟨a,b,c,_,_,_,rfl⟩:=h
 intro v hv
 simp only [mn] at hv
 rcases hv with rfl | rfl | rfl<;> · show (3:Int)≠0;decide
def Tz (xs:List Ex):Pl:=.mk 3 0 dR xs [] [tg]
def JO (z:List Z):mL (bO eQ) [[],[]] [z,[]] tg [] z:=JP (n:=0) (show 0<2 by decide) (show 0<2 by decide)
def Hb {row:List V}(h:sq row):row.length<=8/\jN row:=by
 obtain ⟨a,b,c,_,_,_,rfl⟩:=h
 refine ⟨by simp,fun v hv=> ?_⟩
 simp only [mn] at hv
 rcases hv with rfl | rfl | rfl<;> · rw [ji];show ([]:Bs).length<=_;exact Nat.zero_le _
def TE {xs:List Ex}{z:List Z}(hz:Fine sq 15 z)(hx:∀ x∈xs,nw x)(hx8:xs.length<=8)(dB:se (Tz xs) [[3,3,3]] [[]]=.ok []):mL (bO eQ) [[],[]] [z,[]] (Tz xs) [] (dZ (lh xs z)):=by
 have hc:fH (bO eQ) tg=.ok [3,3,3]:=by kernel_rfl
 have hk:gj (bO eQ) tg=[3,3,3]:=by unfold gj;rw [hc]
 refine K2 (zs:=[[]]) (ds:=[z]) (by show (3:Int)≠1;decide) rfl (by show 1<=2;decide) (by show 1<=1;decide) (fun h=>absurd h.1 (by show ¬ (4:Int)<=3;decide)) rfl rfl ?_ ?_ ?_ ?_
 ·intro q hq
  rw [List.mem_singleton.1 (show q∈[tg] from hq),hk,hc]
 ·intro i h
  have hi:i=0:=by have:i<1:=h;omega
  subst hi
  exact JO z
 ·show se (Tz xs) [gj (bO eQ) tg] [[]]=.ok []
  rw [hk];exact dB
 ·show tE (Tz xs) [gj (bO eQ) tg] [[]] [z] _
  exact Iy (is:=[z]) rfl (Nat.le_refl 1) hx (fun x hx=>Hb (hz.row x hx)) hx8 (Nat.le_trans hz.len (by decide))
def UO {P:List V ->Prop}{N:Nat}{z:List Z}(h:Fine P N z)(hN:N<=15):oC z=.ok z:=by
 have hl:=h.len
 obtain ⟨z',h1,h2,h3⟩:=AC (P:=fun _=>True) (N:=N) (l:=z) (by omega) h.abs (by omega) (fun _ _=>trivial)
 have:z'=z:=lU h2.can h.can fun r=>by rw [h3,qP h.bare]
 rw [h1,this]
theorem EZ (xs:List Ex):∀ (z:List Z),dt (lh xs z)=dt z
 | []=>rfl
 | x::z=>by show (x.w.natAbs+dt (lh xs z))=_;rw [EZ xs z,dt]
def acz {sales:List (List Int)}{s2:Stm}{w:Pl×List Co}{z d:List Z}{P:List V ->Prop}(hr:lw sales 3)(hz:oC (sales.map VX)=.ok z)(hf:Fine sq 15 z)(hn:mL (bO eQ) [[],[]] [z,[]] w.1 [] d)(hd:Fine P 15 d)(hP:∀ r,P r ->jT r=0/\r.length<=8/\∀ v∈r,v.k≠0):
 Kx (eQ++[jw s2 w]) (bO eQ) w.1 (zI gV (sales.map fun r=>r.map iK)) ([],[],[]) (z,[],d):=by
 refine ⟨0,by simp [eQ],z,[],z,[],d,d,rfl,fun j h hj=>absurd hj (by omega),?_,by show 3<=8;decide,?_,?_,?_,.inl ⟨rfl,rfl,rfl,rfl⟩,by kernel_rfl,Ph hf,yn hf (by decide) fun r h=>Ke h,Wt,hn,Nat.le_trans hd.len (by decide),fun x hx=>Nat.le_trans (hP _ (hd.row x hx)).2.1 (by decide),UO hd (by decide),yn hd (by decide) fun r h=>(hP r h).1,BY hf fun r h=>Yy h,(fun x hx=>by cases hx),BY hd fun r h=>(hP r h).2.2⟩
 ·intro j h hj
  have:j=0:=by omega
  subst this
  rfl
 ·intro row bN
  obtain ⟨r,hm,rfl⟩:=List.mem_map.1 bN
  obtain ⟨a,b,c,ha,hb,hc,rfl⟩:=Au hr hm
  exact tf ⟨a,b,c,ha,hb,hc,ye ha hb hc⟩
 ·show (sales.map fun r=>r.map iK).length<=1600
  rw [List.length_map];have:=hr.1;omega
 ·show oC ((sales.map fun r=>r.map iK).map fun r=>(⟨r,1⟩:Z))=_
  rw [List.map_map];exact hz
theorem HL:∀ (l:List Stm) (i:Nat),(∀ s∈l,mA s=0) ->(tu i l).1=0
 | [],_,_=>rfl
 | s::l,i,h=>by
  rw [tu,if_neg (by rw [h s (by simp)];simp)]
  exact HL l (i+1) fun x hx=>h x (by simp [hx])
def Vv {l:List Stm}(hl:l.length<=60)(h:∀ s∈l,mA s=0):(kS l).1=0:=by
 unfold kS
 rw [if_neg (by omega)]
 exact HL l 0 h
theorem agN:mA s0C=0:=by kernel_rfl
theorem agO:mA s1C=0:=by kernel_rfl
theorem UJ:mA AA=0:=by kernel_rfl
def aev {name t:Bs}{q:Q}{w:Pl×List Co}{z d:List Z}{P:List V ->Prop}{sales:List (List Int)}(hT:(zP name Im).map (·.2)=some t)(hR:mY (MF t)=([s0C,s1C,sx q],0,0))(DS:t.length<=1000)(hr:lw sales 3)(hsq:mA (sx q)=0)(VU:sales≠[] ->mA (zI gV (sales.map fun r=>r.map iK))=0)
 (hv:ViewOk eQ [[],[]] (sx q) w []) (ha:AskOk (eQ++[jw (sx q) w]) AA.q w) (H2:w.2.length<=1000000)
 (hI:Kx (eQ++[jw (sx q) w]) (bO eQ) w.1 (zI gV (sales.map fun r=>r.map iK)) ([],[],[]) (z,[],d)) (h0:sales=[] ->d=[]):VZ name sales [] d:=by
 intro M lv pv hG hs hp T
 obtain ⟨⟨i,t'⟩,cY,dA⟩:=Option.map_eq_some_iff.1 hT
 cases dA
 have Jl:gL gV sales++gL gD []=gL gV sales:=by rw [gL,gL,if_pos rfl,List.append_nil]
 have Jm:=hr.1
 refine (WE (stt:=fun j=>if j=0 then ([],[],[]) else (z,[],d)) (w':=w) cY hR Pf DS hs hp (by omega) (fun r hm=>by have:=(hr.2 r hm).1;omega) (by simp) (fun r hm=>by cases hm) hG ?_ rfl rfl rfl rfl (by decide) (by decide) (by decide) ⟨by decide,by decide⟩ ⟨by decide,by decide⟩ hv rfl ?_ ha H2 rfl T).mono ?_ (fun _ _ _ _ _ _ _ h=>h)
 ·rw [Jl]
  refine Vv ?_ ?_
  ·unfold gL;split<;>simp
  ·intro s hs
   simp only [List.mem_cons,List.mem_append,List.not_mem_nil,or_false] at hs
   rcases hs with rfl | rfl | rfl | hs | rfl
   ·exact agN
   ·exact agO
   ·exact hsq
   ·unfold gL at hs
    split at hs
    ·cases hs
    ·rename_i cm
     rw [List.mem_singleton.1 hs]
     exact VU cm
   ·exact UJ
 ·intro j h
  by_cases cm:sales=[]
  ·subst cm;simp [gL] at h
  ·have gZ:gL gV sales++gL gD []=[zI gV (sales.map fun r=>r.map iK)]:=by rw [Jl,gL,if_neg cm]
   have hj:j=0:=by rw [gZ] at h;simpa using h
   subst hj
   simp only [gZ,List.getElem_cons_zero]
   exact hI
 ·rintro v M' L' R' _ _ _ ⟨zv,rfl,A5⟩
  refine ⟨zv,rfl,?_⟩
  by_cases cm:sales=[]
  ·subst cm
   rw [h0 rfl]
   exact A5
  ·have gZ:gL gV sales++gL gD []=[zI gV (sales.map fun r=>r.map iK)]:=by rw [Jl,gL,if_neg cm]
   rw [gZ] at A5
   exact A5
def Q0 (g:List V ->List V)(q:List V):List (List Int) ->Int
 | []=>0
 | r::l=>(if g (r.map iK)=q then 1 else 0)+Q0 g q l
def acE {sales:List (List Int)}{z:List Z}{xs:List Ex}(q:List V)(hr:lw sales 3)(hz:∀ q,wt q z=wt q ((sales.map VX).map fG)):wt q ((lh xs z).map fG)=Q0 (fun row=>(dw xs row).map bQ) q sales:=by
 have h1:(lh xs z).map fG=z.map fun x=>⟨(dw xs x.row).map bQ,x.w⟩:=by
  unfold lh;rw [List.map_map];rfl
 rw [h1,Vw (fun row=>(dw xs row).map bQ),UN hz]
 have hb:(sales.map VX).map fG=sales.map VX:=qP fun x hx=>by
  obtain ⟨r,hm,rfl⟩:=List.mem_map.1 hx
  obtain ⟨a,b,c,ha,hb,hc,rfl⟩:=Au hr hm
  rw [ye ha hb hc]
  simp [ji]
 rw [hb]
 clear hb h1 hz hr
 induction sales with
 | nil=>rfl
 | cons r l ih=>
  rw [List.map_cons,lk,ih,Q0]
  show (if (dw xs (r.map iK)).map bQ=q then (1:Int) else 0)*1+_=_
  rw [Int.mul_one]
theorem Up:∀ (l:List (List V)),(∀ r∈l,sq r) ->si l=0
 | [],_=>rfl
 | r::l,h=>by
  obtain ⟨a,b,c,ha,hb,hc,rfl⟩:=h r (by simp)
  rw [si,if_neg (by simp),Up l fun x hx=>h x (by simp [hx])]
  simp only [CY,sd ha,sd hb,sd hc]
  rfl
theorem YC {sales:List (List Int)}(hr:lw sales 3)(cm:sales≠[]):mA (zI gV (sales.map fun r=>r.map iK))=0:=by
 have hl:=hr.1
 have hp:=List.length_pos_iff.2 cm
 have bN:si (sales.map fun r=>r.map iK)=0:=Up _ fun row bN=>by
  obtain ⟨r,hm,rfl⟩:=List.mem_map.1 bN
  obtain ⟨a,b,c,ha,hb,hc,rfl⟩:=Au hr hm
  exact ⟨a,b,c,ha,hb,hc,ye ha hb hc⟩
 have FZ:hX [gV]=0:=by kernel_rfl
 have bu:¬ (((sales.map fun r=>r.map iK).length:Int)<1\/400<((sales.map fun r=>r.map iK).length:Int)):=by rw [List.length_map];omega
 show (if (3:Int)<1\/(5:Int)<3 then (1:Int) else if (3:Int)=5 then _ else wT (hX [gV]) (if (3:Int)=2 then _ else if (3:Int)=1 then _ else if (3:Int)=3 then (if ((sales.map fun r=>r.map iK).length:Int)<1\/400<((sales.map fun r=>r.map iK).length:Int) then 5 else si (sales.map fun r=>r.map iK)) else _))=0
 rw [if_neg (by decide),if_neg (by decide),if_neg (by decide),if_neg (by decide),if_pos rfl,if_neg bu,bN,FZ]
 rfl
def DF {i:Int}(h:0<=i):nw (R8 i):=⟨⟨by decide,by decide⟩,fun h=>absurd h (by decide),fun _=>h,rfl,trivial⟩
def Xf {P:List V ->Prop}{d:List Z}(h:Fine P 15 d):∀ z∈d,¬ (z.w< -1000000)/\¬ (z.w>1000000):=fun z hz=>by
 have h1:=tN hz
 have h2:=h.abs
 omega
theorem Bp:∀ (l:List (List V)),dt (l.map n8)=l.length
 | []=>rfl
 | x::l=>by rw [List.map_cons,dt,Bp l];simp [n8];omega
def TA (xs:List Ex)(z:List Z):(lh xs z).length=z.length:=List.length_map _
def Wx (x y:List Int):Bool:=decide (jZ 2 x<jZ 2 y) || (decide (jZ 2 x=jZ 2 y) && decide (jZ 0 x<jZ 0 y))
def lI {x y:List Int}:Wx x y=true ↔ jZ 2 x<jZ 2 y\/jZ 2 x=jZ 2 y/\jZ 0 x<jZ 0 y:=by
 unfold Wx;simp
def nO (l:List (List Int))(i:Nat):Nat:=(List.range i).foldl (fun b i=>if Wx (l.getD i []) (l.getD b []) then i else b) 0
theorem sD (l:List (List Int))(i:Nat):nO l (i+1)=if Wx (l.getD i []) (l.getD (nO l i) []) then i else nO l i:=by
 unfold nO;rw [List.range_succ,List.foldl_append];rfl
theorem pP {l:List (List Int)}(h:l≠[]):∀ i,i<=l.length ->nO l i<l.length
 | 0,_=>List.length_pos_iff.2 h
 | i+1,hi=>by
  rw [sD]
  split
  ·omega
  ·exact pP h i (by omega)
theorem Bv {l:List (List Int)}:∀ i,∀ j<i,Wx (l.getD j []) (l.getD (nO l i) [])=false
 | 0,j,h=>by omega
 | i+1,j,h=>by
  have ih:=Bv (l:=l) i
  rw [sD]
  split
  ·rename_i hb
   by_cases hj:j=i
   ·subst hj
    rw [Bool.eq_false_iff];intro h2
    have:=lI.1 h2;omega
   ·have h1:=ih j (by omega)
    rw [Bool.eq_false_iff] at h1 ⊢
    intro h2
    refine h1 (lI.2 ?_)
    have:=lI.1 h2
    have:=lI.1 hb
    omega
  ·rename_i hb
   by_cases hj:j=i
   ·subst hj;simpa using hb
   ·exact ih j (by omega)
def fT (r:List Int):List V:=[nV (jZ 0 r),nV (jZ 2 r)]
def mP (l:List (List Int))(b:Nat):List (List Int):=l.take b++l.drop (b+1)
def pick:Nat ->List (List Int) ->List (List V)
 | 0,_=>[]
 | k+1,l=>if l=[] then [] else fT (l.getD (nO l l.length) [])::pick k (mP l (nO l l.length))
def cnt (q:List V):List (List Int) ->Int
 | []=>0
 | r::l=>(if fT r=q then 1 else 0)+cnt q l
theorem Dr (q:List V):∀ (a b:List (List Int)),cnt q (a++b)=cnt q a+cnt q b
 | [],b=>by simp [cnt]
 | x::a,b=>by rw [List.cons_append,cnt,cnt,Dr q a b];omega
theorem xI (q:List V):∀ (l:List (List Int)),0<=cnt q l/\(cnt q l≠0 ->∃ r∈l,fT r=q)
 | []=>⟨Int.le_refl 0,fun h=>absurd rfl h⟩
 | r::l=>by
  obtain ⟨h1,h2⟩:=xI q l
  rw [cnt]
  by_cases h:fT r=q
  ·rw [if_pos h];exact ⟨by omega,fun _=>⟨r,by simp,h⟩⟩
  ·rw [if_neg h,Int.zero_add];exact ⟨h1,fun h3=>by obtain ⟨x,hx,h4⟩:=h2 h3;exact ⟨x,by simp [hx],h4⟩⟩
theorem Ds {r:List Int}:∀ {l:List (List Int)},r∈l ->0<cnt (fT r) l
 | x::l,h=>by
  rw [cnt]
  have h0:=(xI (fT r) l).1
  rcases lQ h with rfl | h
  ·rw [if_pos rfl];omega
  ·have:=Ds h;split<;>omega
def UI {l:List (List Int)}{b:Nat}(hb:b<l.length):l=l.take b++l.getD b []::l.drop (b+1):=by
 rw [List.getD_eq_getElem?_getD,gq hb]
 simp
def Nv (q:List V){l:List (List Int)}{b:Nat}(hb:b<l.length):cnt q (mP l b)=cnt q l - if fT (l.getD b [])=q then 1 else 0:=by
 have h:=congrArg (cnt q) (UI hb)
 rw [Dr,cnt] at h
 unfold mP
 rw [Dr];omega
def jt:List Ex:=[R8 1,R8 0]
def QZ (a b:Int):pQ (nV a) (nV b)=fx a b:=by
 unfold pQ
 rw [ji,ji]
 show kg (fx 3 3) (kg (fx a b) (kb [] []))=_
 rw [show kb [] []=0 from by decide]
 unfold kg fx
 by_cases h1:a<b
 ·simp [h1]
 ·by_cases h2:b<a<;>simp [h1,h2]
def Bf (row:List V):Prop:=∃ a c,Tf a/\Tf c/\row=[nV a,nV c]
def cfF {x y:Z}{a c a' c':Int}(hx:x.row=[nV a,nV c])(hy:y.row=[nV a',nV c']):wx jt x y=kg (fx c c') (kg (fx a a') 0):=by
 have h:∀ (a c:Int),dw jt [nV a,nV c]=[nV c,nV a]:=fun a c=>by
  show [bQ (nV c),bQ (nV a)]=_
  rw [ji,ji]
 unfold wx
 rw [hx,hy,h,h,cC,cC,cC,QZ,QZ]
def aaI {x y:Z}{a c a' c':Int}(hx:x.row=[nV a,nV c])(hy:y.row=[nV a',nV c']):wx jt x y<0 ↔ c<c'\/c=c'/\a<a':=by
 rw [cfF hx hy]
 unfold kg fx
 by_cases h1:c<c'<;>by_cases h2:c'<c<;>by_cases h3:a<a'<;>by_cases h4:a'<a<;>simp [h1,h2,h3,h4]<;>omega
def zM (r:Z)(l:List Z):List Z:=if r.w=1 then l else ⟨r.row,r.w - 1⟩::l
def CN {r:Z}{l:List Z}{k:Int}(h:0<k):eA k (r::l)=⟨r.row,if k<r.w then k else r.w⟩::eA (IntKind.i64.wrap (k - if k<r.w then k else r.w)) l:=by rw [eA,if_pos h]
def Po (q:List V){r:Z}{l:List Z}(hr:0<r.w){k:Nat}(hk:k<=1000):wt q (eA ((k:Int)+1) (r::l))=(if r.row=q then 1 else 0)+wt q (eA (k:Int) (zM r l)):=by
 have wr:∀ n:Int, -2000<=n ->n<=2000 ->IntKind.i64.wrap n=n:=fun n h1 h2=>bJ (by omega) (by omega)
 rw [CN (by omega)]
 unfold zM
 by_cases h1:r.w=1
 ·have h2:¬ (k:Int)+1<r.w:=by omega
  rw [if_pos h1,if_neg h2,h1,wr _ (by omega) (by omega),show (k:Int)+1 - 1=k by omega,wt]
 ·rw [if_neg h1]
  by_cases h0:k=0
  ·subst h0
   have h2:((0:Nat):Int)+1<r.w:=by omega
   rw [if_pos h2,wr _ (by omega) (by omega),show (((0:Nat):Int)+1 - (((0:Nat):Int)+1))=0 by omega,uL,wt,show ((0:Nat):Int)=0 from rfl,uL]
   simp [wt]
  ·rw [CN (r:=⟨r.row,r.w - 1⟩) (by omega)]
   dsimp only
   by_cases h2:(k:Int)+1<r.w
   ·have h3:(k:Int)<r.w - 1:=by omega
    rw [if_pos h2,if_pos h3,wr _ (by omega) (by omega),wr _ (by omega) (by omega),wt,wt,show (k:Int)+1 - ((k:Int)+1)=0 by omega,show (k:Int) - k=0 by omega]
    dsimp only
    split<;>omega
   ·have h3:¬ (k:Int)<r.w - 1:=by omega
    rw [if_neg h2,if_neg h3,wr _ (by omega) (by omega),wr _ (by omega) (by omega),wt,wt,show (k:Int)+1 - r.w=(k:Int) - (r.w - 1) by omega]
    dsimp only
    split<;>omega
structure SortF (l:List Z):Prop where
 ord:l.Pairwise fun x y=>wx jt x y<0
 row:∀ z∈l,Bf z.row
 pos:∀ z∈l,0<z.w
def SortF.less {r:Z}{l:List Z}(h:SortF (r::l)):SortF (zM r l):=by
 have hp:=List.pairwise_cons.1 h.ord
 have ht:SortF l:=⟨hp.2,fun z hz=>h.row z (by simp [hz]),fun z hz=>h.pos z (by simp [hz])⟩
 unfold zM
 split
 ·exact ht
 ·rename_i h1
  have h0:=h.pos r (by simp)
  refine ⟨List.pairwise_cons.2 ⟨fun y hy=>hp.1 y hy,hp.2⟩,fun z hz=> ?_,fun z hz=> ?_⟩
  ·rcases lQ hz with rfl | hz
   ·exact h.row r (by simp)
   ·exact ht.row z hz
  ·rcases lQ hz with rfl | hz
   ·show 0<r.w - 1;omega
   ·exact ht.pos z hz
def YX (q:List V)(r:Z)(l:List Z):wt q (zM r l)=wt q (r::l) - if r.row=q then 1 else 0:=by
 unfold zM
 split
 ·rename_i h;rw [wt,h];split<;>omega
 ·rw [wt,wt];dsimp only;split<;>omega
def qF {l:List Z}(h:∀ z∈l,0<z.w){q:List V}:0<=wt q l/\(wt q l≠0 ->∃ z∈l,z.row=q):=by
 induction l with
 | nil=>exact ⟨Int.le_refl 0,fun h=>absurd rfl h⟩
 | cons x l ih=>
  obtain ⟨h1,h2⟩:=ih fun z hz=>h z (by simp [hz])
  have hx:=h x (by simp)
  rw [wt]
  by_cases he:x.row=q
  ·rw [if_pos he];exact ⟨by omega,fun _=>⟨x,by simp,he⟩⟩
  ·rw [if_neg he,Int.zero_add];exact ⟨h1,fun h3=>by obtain ⟨z,hz,h4⟩:=h2 h3;exact ⟨z,by simp [hz],h4⟩⟩
theorem Cs (q:List V):∀ (k:Nat) (l:List Z) (rest:List (List Int)),k<=1000 ->SortF l ->(∀ q,wt q l=cnt q rest) ->wt q (eA (k:Int) l)=wt q ((pick k rest).map n8)
 | 0,l,rest,_,_,_=>by rw [show ((0:Nat):Int)=0 from rfl,uL];rfl
 | k+1,[],rest,_,_,h=>by
  have hr:rest=[]:=by
   rcases rest with _ | ⟨r,rest⟩
   ·rfl
   ·have:=Ds (r:=r) (l:=r::rest) (by simp)
    rw [<- h] at this;simp [wt] at this
  rw [hr,pick,if_pos rfl,eA];rfl
 | k+1,r::l,rest,hk,hs,h=>by
  have uT:=hs.pos r (by simp)
  have cm:rest≠[]:=by
   rintro rfl
   have h1:=h r.row
   rw [wt,if_pos rfl,cnt] at h1
   have:=(qF (q:=r.row) fun z hz=>hs.pos z (by simp [hz]):0<=wt r.row l/\_).1
   omega
  have hb:=pP cm rest.length (Nat.le_refl _)
  obtain ⟨b,xS⟩:∃ b,b=nO rest rest.length:=⟨_,rfl⟩
  rw [<- xS] at hb
  have gl:∀ i,i<rest.length ->rest.getD i []∈rest:=fun i hi=>by
   rw [List.getD_eq_getElem?_getD,gq hi];exact gm hi
  -- the head is the least
  have Zy:fT (rest.getD b [])=r.row:=by
   have h1:0<cnt (fT (rest.getD b [])) rest:=Ds (gl b hb)
   rw [<- h] at h1
   obtain ⟨z,hz,H5⟩:=(qF (q:=fT (rest.getD b [])) hs.pos).2 (by omega)
   rcases lQ hz with rfl | hz
   ·exact H5.symm
   ·exfalso
    have aL:=(List.pairwise_cons.1 hs.ord).1 z hz
    obtain ⟨a,c,ha,hc,Jq⟩:=hs.row r (by simp)
    rw [aaI Jq H5] at aL
    have h2:0<wt r.row (r::l):=by
     have:=(qF (q:=r.row) fun z hz=>hs.pos z (by simp [hz]):0<=wt r.row l/\_).1
     rw [wt,if_pos rfl];omega
    rw [h] at h2
    obtain ⟨x,hx,VV⟩:=(xI r.row rest).2 (by omega)
    obtain ⟨j,hj,hxj⟩:=List.getElem_of_mem hx
    have hm:=Bv (l:=rest) rest.length j hj
    rw [<- xS,List.getD_eq_getElem?_getD (i:=j),gq hj,Option.getD_some,hxj] at hm
    rw [Bool.eq_false_iff] at hm
    refine hm (lI.2 ?_)
    rw [Jq] at VV
    simp only [fT,nV,List.cons.injEq,V.mk.injEq,true_and,and_true] at VV
    omega
  rw [pick,if_neg cm,<- xS,List.map_cons,Zy]
  have hw:wt q (n8 r.row::(pick k (mP rest b)).map n8)=(if r.row=q then 1 else 0)+wt q ((pick k (mP rest b)).map n8):=by rw [wt];rfl
  rw [hw,show (((k+1:Nat):Int))=(k:Int)+1 by omega,Po q uT (by omega),Cs q k (zM r l) (mP rest b) (by omega) hs.less fun q=>by rw [YX,h,Nv q hb,Zy]]
end Go.Proofs.YtcpjbohndglclaaGreatDoor

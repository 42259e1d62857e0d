import Derived.Test.YtmeeifechggoeaaGreatDoorI
import Derived.Test.YtmeeifechggoeaaGreatDoorE
import Derived.Test.YtmeeifechggoeaaGreatDoorF
import Derived.Test.YtmeeifechggoeaaGreatDoorH
import Derived.Test.YtmeeifechggoeaaGreatDoorC
set_option linter.all false
namespace Go.Proofs.YtmeeifechggoeaaGreatDoor
open Go Vc
set_option maxRecDepth 10000
variable {M:aS}
theorem TF {bv:Nat}{za:Option Addr}{zn zc:Nat}(h:aN M ⟨bv,13,none⟩=some (.slice za zn zc))(T:Tm):bV Tryz.prog 112 [.pointer (some ⟨bv,0,none⟩)] T M [] [] (fun r _ _ _=>r=.slice za zn zc) aM:=by
 refine az (bS mx Tryz.func112 (by kernel_rfl) (by kernel_rfl):FnF Tryz.prog 112 Tryz.f112 7 [] [.tmp 2]) rfl rfl ?_
 intro bi _
 simp +contextual only [go_sem,sevalprocAttr,h]
 exact ak aF.rfl' rfl
theorem PE {rels:List Rel}{p:Pl}{pc:List Value}{be bv gk i kn kc:Nat}{rv dv sv:Value}{za:Option Addr}{zn zc:Nat}(sq:M be=some [rv,dv,.slice (some ⟨gk,0,none⟩) kn kc,sv])(cG:RS M (gU M) 14 rels rv)(hi:i<rels.length)(ZC:rels[i].view=true)(hpi:rels[i].plan=p)(uD:∀ (j:Nat) (h:j<rels.length),j<i ->rels[j].view=false)(bq:rels.length<=1000)
 (hp:gR M p pc) (Vr:0<kn) (Y3:aN M ⟨gk,0,none⟩=some (.pointer (some ⟨bv,0,none⟩))) (hbv:aN M ⟨bv,13,none⟩=some (.slice za zn zc)) (T:Tm):bV Tryz.prog 62 [.pointer (some ⟨be,0,none⟩),.agg ⟨pc⟩] T M [] [] (fun r _ _ _=>r=.tuple ⟨[.slice za zn zc,.int .i64 0]⟩) aM:=by
 have k0:aN M ⟨be,0,none⟩=some rv:=by simp [aN,sq]
 have k2:aN M ⟨be,2,none⟩=some (.slice (some ⟨gk,0,none⟩) kn kc):=by simp [aN,sq]
 have Ar:=hp
 obtain ⟨d0,d1,d2,d3,d4,d5,d6,d7,d8,d9,d10,rfl,hd⟩:=cO hp
 obtain ⟨eZ,a,c',rfl,di,_,hg⟩:=ax (by decide) (fun _ _=>gV) cG
 refine az F62 rfl rfl ?_
 intro bi _
 simp +contextual only [go_sem,sevalprocAttr]
 intro b3 T3 ii fV gD
 simp +contextual only [go_sem,aD,sevalprocAttr,k0]
 refine aO rels.length 14 [(0,.pointer (some ⟨be,0,none⟩)),(3,.pointer (some ⟨b3,0,none⟩)),(6,.int .i64 0),(12,.slice a rels.length c'),(13,.int .i64 (rels.length:Int))] (fun j e h=>j<=i/\∃ N',aF T3 N'/\h=⟨N',M,[(b3,[d0,d1,d2,d3,d4,d5,d6,d7,d8,d9,d10])],[]⟩) 0 (by omega) (by simp only [aE,go_sem,sevalprocAttr]) (by simp only [go_sem,sevalprocAttr]) ⟨by omega,T3,aF.rfl',rfl⟩ ?_
 rintro j e h hj aG ht ⟨xi,N',jW,rfl⟩
 simp only [aE] at aG
 have aL:j<rels.length:=by omega
 obtain ⟨b',o',cs',rfl,bQ,dV⟩:=hg j rels[j] (gq aL)
 have aoW:=dV
 obtain ⟨ca,cn,s1,a1,n1,a2,n2,a3,n3,rfl,iX,_,s9⟩:=hF dV
 have y:=CP bQ
 by_cases wO:j=i
 ·subst wO
  simp +contextual only [go_sem,aD,sevalprocAttr,aG,ht,aL,y,iX,ZC]
  intro b8 T8 px eB ni sH
  rw [hpi] at s9
  unfold OG at s9
  refine cT acD.bd (fun M' he hL _=>P5 _ p (Nat.le_refl _) (nf hL.1).2.2.2 (by rw [hpi];exact bA he _ _ s9) (nf hL.2.1) (bA he _ _ Ar) _) ?_
  have ahl:(0:Int)<(kn:Int):=by omega
  simp +contextual only [go_sem,aD,sevalprocAttr,aG,k2,Y3,ahl]
  refine aP (TF hbv _) ?_
  simp +contextual only [go_sem,sevalprocAttr]
  exact al (al (ak ((fV.trans jW).trans ni) rfl))
 ·have k9:=uD j aL (by omega)
  simp +contextual only [go_sem,aD,sevalprocAttr,aG,ht,aL,y,iX,k9]
  intro b8 T8 px eB ni sH
  refine aR (al (aB ⟨rels.length - (j+1),by omega,rfl,j+1,by omega,rfl,?_,?_,by omega,T8,jW.trans ni,rfl⟩))
  ·simp only [aE,aG,go_sem,sevalprocAttr]
  ·simp only [go_sem,sevalprocAttr,aA j (by omega)]
structure AskOk (rels:List Rel) (q:Q) (w:Pl×List Co):Prop where
 ok:∀ x∈q.parts,OkSe x
 par:q.parts.length<=q.ops.length+1
 parl:q.parts.length<=1048576
 ord:0<=q.limit ->q.order.length<=1048576/\∀ x∈q.order,D6 x
 wid:∀ r t,jp rels q=.ok r ->fq (bN rels) r.1=.ok t ->t.length<=r.2.length
 bnd:il rels q=.ok w
set_option maxHeartbeats 1000000 in
theorem PU {be bv gk sb so i kn kc atn:Nat}{s:Stm}{sc:List Value}{rels:List Rel}{rv dv:Value}{w:Pl×List Co}{za:Option Addr}{zn zc:Nat}(bQ:At M sb so sc)(hs:my M s sc)(cG:RS M (gU M) 14 rels rv)(bq:rels.length<=1000)(eC:∀ r∈rels,r.cols.length<=1048576)(hq:AskOk rels s.q w)(AJ:w.2.length<=1000000)
 (hi:i<rels.length) (ZC:rels[i].view=true) (hpi:rels[i].plan=w.1) (uD:∀ (j:Nat) (h:j<rels.length),j<i ->rels[j].view=false) (Vr:0<kn) (Y3:aN M ⟨gk,0,none⟩=some (.pointer (some ⟨bv,0,none⟩))) (hbv:aN M ⟨bv,13,none⟩=some (.slice za zn zc)) (T:Tm):
 bV Tryz.prog 33 [.pointer (some ⟨be,0,none⟩),.pointer (some ⟨sb,so,none⟩),.int .i64 (atn:Int)] T M [(be,[rv,dv,.slice (some ⟨gk,0,none⟩) kn kc,.slice none 0 0])] [] (fun v M' L' _=>v=.int .i64 0/\∃ b c,L'=[(be,[rv,dv,.slice (some ⟨gk,0,none⟩) kn kc,.slice (some ⟨b,0,none⟩) 1 c])]/\aN M' ⟨b,2,none⟩=some (.slice za zn zc)) aM:=by
 obtain ⟨ac,ad,ap,aq,ao,an,ar,ae,au,av,aw,rfl,hco,hrq,_⟩:=nQ hs
 obtain ⟨y0,y1,y2,y3,y4,y5,y6,_⟩:=bQ
 obtain ⟨_,ra,rc,rfl,_⟩:=ax (by decide) (fun _ _=>gV) cG
 have cu:∀ e',jp rels s.q=.error e' ->e'≠0:=fun e' he=>by have hb:=hq.bnd;unfold il at hb;rw [he] at hb;cases hb
 refine az F33 rfl rfl ?_
 intro bi im
 have nb:=bi.1
 simp +contextual only [go_sem,sevalprocAttr]
 refine l5 (fun e' ds h=>ds=[]/\e' 0=.pointer (some ⟨be,0,none⟩)/\e' 2=.int .i64 (atn:Int)/\∃ N' M' b7 cs cv,e' 7=.pointer (some ⟨b7,0,none⟩)/\e' 8=cv/\e' 9=.int .i64 0/\aF T N'/\bm M M'/\gR M' w.1 cs/\RS M' ua 2 w.2 cv/\h=⟨N',M',[(b7,cs),(be,[.slice ra rels.length rc,dv,.slice (some ⟨gk,0,none⟩) kn kc,.slice none 0 0])],[]⟩/\aJ M' h.L/\(¬ b7=be/\¬ be=b7)) ?_ ?_
 ·intro S' eY
  refine aX ?_
  simp +contextual only [go_sem,sevalprocAttr,aC nb,y3,y4,y5,y6]
  constructor
  ·refine aI (vm cG hrq (by omega) eC hq.ok hq.par hq.parl hq.ord cu hq.wid _) ?_
   intro r M1 aV bG iC
   unfold mV at iC
   rw [hq.bnd] at iC
   obtain ⟨cs,cv,rfl,fS,lk⟩:=iC
   obtain ⟨c0,c1,c2,c3,c4,c5,c6,c7,c8,c9,c10,rfl,wA⟩:=cO fS
   obtain ⟨_,va,vc,rfl,_⟩:=ax (by decide) (fun _ _=>fQ) lk
   simp +contextual only [go_sem,sevalprocAttr,wA]
   refine ⟨fu aV bG,?_⟩
   intro b7 T7 mN jv BB Ja
   refine ⟨dK aV bG ⟨jv,trivial⟩,?_⟩
   exact eY _ _ _ ⟨rfl,by simp only [go_sem,sevalprocAttr],by simp only [go_sem,sevalprocAttr],T7,M1,b7,_,_,by simp only [go_sem,sevalprocAttr],by simp only [go_sem,sevalprocAttr],by simp only [go_sem,sevalprocAttr],BB,aV,fS,lk,rfl,⟨mN,bG⟩,jv⟩
  ·intro b7 T7 mN jv BB Ja
   refine ⟨dK bm.rfl' ⟨nb,trivial⟩ ⟨jv,trivial⟩,?_⟩
   refine aI (vm cG hrq (by omega) eC hq.ok hq.par hq.parl hq.ord cu hq.wid _) ?_
   intro r M1 aV bG iC
   unfold mV at iC
   rw [hq.bnd] at iC
   obtain ⟨cs,cv,rfl,fS,lk⟩:=iC
   obtain ⟨c0,c1,c2,c3,c4,c5,c6,c7,c8,c9,c10,rfl,wA⟩:=cO fS
   obtain ⟨_,va,vc,rfl,_⟩:=ax (by decide) (fun _ _=>fQ) lk
   simp +contextual only [go_sem,sevalprocAttr,wA]
   exact eY _ _ _ ⟨rfl,by simp only [go_sem,sevalprocAttr],by simp only [go_sem,sevalprocAttr],T7,M1,b7,_,_,by simp only [go_sem,sevalprocAttr],by simp only [go_sem,sevalprocAttr],by simp only [go_sem,sevalprocAttr],BB,aV,fS,lk,rfl,bG,jv⟩
 rintro e' ds' h' ⟨rfl,e0,e2,N1,M1,b7,cs,cv,e7,e8,e9,pw,aV,fS,lk,rfl,bG,jv⟩
 have Mo:=fS
 obtain ⟨c0,c1,c2,c3,c4,c5,c6,c7,c8,c9,c10,rfl,wA⟩:=cO fS
 obtain ⟨_,va,vc,rfl,_,_,hcg⟩:=ax (by decide) (fun _ _=>fQ) lk
 obtain ⟨n7,nbe,_⟩:=bG
 simp +contextual only [go_sem,aD,sevalprocAttr,e0,e7,e9,aC n7]
 refine cT F62.bd (fun M' he hL _=>PE hL.2.1 (aH (aV.trans he) (dP (aV.trans he)) cG) hi ZC hpi uD bq (bA he _ _ Mo) Vr (ay (aV.trans he) Y3) (ay (aV.trans he) hbv) _) ?_
 simp +contextual only [go_sem,aD,sevalprocAttr,e8]
 refine aO w.2.length 41 [(0,.pointer (some ⟨be,0,none⟩)),(2,.int .i64 (atn:Int)),(10,.slice za zn zc),(39,.slice va w.2.length vc),(40,.int .i64 (w.2.length:Int))] (fun i e h=>∃ N' R' fv,aF N1 N'/\h=⟨N',M1,[(b7,[c0,c1,c2,c3,c4,c5,c6,c7,c8,c9,c10]),(be,[.slice ra rels.length rc,dv,.slice (some ⟨gk,0,none⟩) kn kc,.slice none 0 0])],R'⟩/\e 11=fv/\kT 9 1 rj [] R' fv ((w.2.take i).map (·.name))) 0 (by omega) (by simp only [aE,go_sem,sevalprocAttr,e0,e2]) (by simp only [go_sem,sevalprocAttr]) ⟨N1,_,_,aF.rfl',rfl,by simp only [go_sem,sevalprocAttr],cV⟩ ?_
 rintro j e h hj aG ht ⟨N',R',fv,jW,rfl,e11,bj⟩
 simp only [aE] at aG
 by_cases aL:j<w.2.length
 ·obtain ⟨b',o',cs',rfl,UF,dV⟩:=hcg j w.2[j] (gq aL)
  obtain rfl:=un dV
  obtain ⟨z0,z1,_⟩:=UF
  simp +contextual only [go_sem,aD,sevalprocAttr,aG,ht,aL,z0,z1,e11]
  intro b13 T13 OM FO DH TK b48 ajg aml
  refine cA (Tryz.underlying63) G3 Ep (x:=w.2[j].name) (cs:=[st w.2[j].name]) bj rfl (fun _ _=>ff) (by simp [Value.oneCell',st]) ajg (by rw [List.length_map,List.length_take];omega) (by decide) ?_
  intro fv' R2 bz
  have dY:(w.2.take j).map (·.name)++[w.2[j].name]=(w.2.take (j+1)).map (·.name):=by
   rw [<- List.take_append_getElem aL,List.map_append];rfl
  rw [dY] at bz
  simp +contextual only [go_sem,sevalprocAttr,ht]
  refine aR (al (al (aB ⟨w.2.length - (j+1),by omega,rfl,j+1,by omega,rfl,?_,?_,T13,R2,fv',jW.trans DH,rfl,?_,bz⟩)))
  ·simp only [aE,aG,go_sem,sevalprocAttr]
  ·simp only [go_sem,sevalprocAttr,aA j (by omega)]
  ·simp only [go_sem,sevalprocAttr]
 ·have:j=w.2.length:=by omega
  subst this
  obtain ⟨fa,fc,rfl⟩:=eI bj
  simp +contextual only [go_sem,aD,sevalprocAttr,aG,ht,aL,e11,aC nbe,jv]
  intro b60 JC KE
  refine fN [] [(b7,_),(be,_)] [] rfl trivial (Tryz.underlying48) Y8 Zv (α:=List Value) (r:=fun x cs=>cs=x) (x:=[.int .i64 (atn:Int),.slice fa ((w.2.take w.2.length).map (·.name)).length fc,.slice za zn zc]) (l:=[]) (L:=[]) (.inl ⟨rfl,rfl,rfl⟩) rfl rfl (by simp [Value.oneCell']) JC (by simp) (by decide) ?_
  intro N2 lv' g cs' AK uT dZ
  simp only [bf,nn] at uT
  rcases dZ with ⟨h,_⟩ | ⟨g',cap,cs2,junk,rfl,hL,hNg,fM,iH,apf,ph,hMg⟩
  ·cases h
  cases hL
  obtain ⟨c1',c2',hce,rfl,hc3⟩:=fM
  obtain rfl:c2'=[]:=hc3
  subst hce
  simp +contextual only [go_sem,sevalprocAttr,jv,KE,uT]
  refine bW (jE (L2:=[(g,[.int .i64 (atn:Int),.slice fa ((w.2.take w.2.length).map (·.name)).length fc,.slice za zn zc]++[]++junk),(be,[.slice ra rels.length rc,dv,.slice (some ⟨gk,0,none⟩) kn kc,.slice (some ⟨g,0,none⟩) 1 cap])]) (by simp) (by simp [aY,uT]) (aT fun he hg _=>aQ ((pw.trans jW).trans AK) rfl rfl ⟨rfl,g,cap,rfl,?_⟩))
  simp only [aN,Option.isSome_none,Bool.false_eq_true,if_false]
  rw [hg];rfl
abbrev ZT:=List Z×List Z×List Z
def Kl (rels:List Rel)(aW:List (List Int))(p:Pl)(s:Stm)(A B:ZT):Prop:=∃ (n:Nat) (hi:n<rels.length) (m0 m1 z zo d d':List Z),
 rels[n].name=s.name/\(∀ (j:Nat) (h:j<rels.length),j<n ->rels[j].name≠s.name)/\(∀ (j:Nat) (h:j<rels.length),j<=n ->rels[j].view=false)/\rels[n].cols.length<=8/\(∀ r∈s.rows,mf (rels[n].cols.map (·.ty)) r=0)/\s.rows.length<=1600/\ou (s.rows.map fun r=>(⟨r,1⟩:Z))=.ok z/\
 (n=0/\m0=z/\m1=[]/\B.2.1=A.2.1\/n=1/\m0=[]/\m1=z/\B.1=A.1)/\iU aW [A.1,A.2.1]=0/\iU aW [m0,m1]=0/\addM A.1 m0=.ok B.1/\addM A.2.1 m1=.ok B.2.1/\mj aW [A.1,A.2.1] [m0,m1] p zo d/\d.length<=4294967296/\(∀ z∈d,z.row.length<=4294967296)/\ou d=.ok d'/\addM A.2.2 d'=.ok B.2.2/\mO B.1/\mO B.2.1/\mO B.2.2
def D4:List Value:=[.int .i64 0,.int .i64 0]
def adP (M:aS)(be b3:Nat)(rels:List Rel)(aW:List (List Int))(p:Pl)(A:ZT)(L:LL):Prop:=∃ (gr rcap bv gk kc gd dcap:Nat) (d0 d1 tv dv zv:Value) (cs junk:List Value),
 RS M (gU M) 14 rels (.slice (some ⟨gr,0,none⟩) 3 rcap)/\aN M ⟨gk,0,none⟩=some (.pointer (some ⟨bv,0,none⟩))/\RS M (ms M) 1 aW tv/\gR M p cs/\RS M (RZ M) 2 A.1 d0/\RS M (RZ M) 2 A.2.1 d1/\RS M (RZ M) 2 A.2.2 zv/\
 RS (fk M [(be,oX (.slice (some ⟨gr,0,none⟩) 3 rcap) gd dcap gk kc (.slice none 0 0)),(gd,[d0,d1])]) (RD (fk M [(be,oX (.slice (some ⟨gr,0,none⟩) 3 rcap) gd dcap gk kc (.slice none 0 0)),(gd,[d0,d1])])) 1 [A.1,A.2.1] dv/\
 L=[(bv,gW tv cs dv zv),(be,oX (.slice (some ⟨gr,0,none⟩) 3 rcap) gd dcap gk kc (.slice none 0 0)),(gd,d0::d1::junk),(b3,D4)]
def ZV (T:Tm)(M:aS)(be b3:Nat)(s0 s1:Stm)(rels:List Rel)(p:Pl)(st:Nat ->ZT)(n i:Nat)(h:Sh):Prop:=∃ N' M' L',aF T N'/\bm M M'/\h=⟨N',M',L',[]⟩/\aJ M' L'/\hY L'/\
 (i=0 ->L'=[(be,[.slice none 0 0,.slice none 0 0,.slice none 0 0,.slice none 0 0]),(b3,D4)])/\
 (i=1\/i=2 ->∃ rv dv gr cr gd cd,dW 123 14 (gU M') M' N' ([iy s0,iy s1].take i) rv [(gr,cr)]/\dW 33 1 (RD M') M' N' (([[],[]]:List (List Z)).take i) dv [(gd,cd)]/\L'=[(be,[rv,dv,.slice none 0 0,.slice none 0 0]),(gr,cr),(gd,cd),(b3,D4)])/\
 (3<=i ->i<n ->adP M' be b3 rels (bN [iy s0,iy s1]) p (st (i - 3)) L')/\
 (i=n ->∃ rv dv kv zv b c,L'=[(be,[rv,dv,kv,.slice (some ⟨b,0,none⟩) 1 c]),(b3,D4)]/\aN M' ⟨b,2,none⟩=some zv/\RS M' (RZ M') 2 (st (n - 4)).2.2 zv)
theorem QG {M:aS}{b:Nat}{v:Value}{r:List Value}(h:M b=some (v::r)):aN M ⟨b,0,none⟩=some v:=by simp [aN,h]
variable {M:aS}
set_option maxHeartbeats 2000000 in
theorem Qx {s0 s1 s2 sh:Stm}{ins:List Stm}{lv:Value}{w w':Pl×List Co}{z0:List Z}{st:Nat ->ZT}(hG:eQ M)(hl:RS M (my M) 16 (s0::s1::s2::(ins++[sh])) lv)(hw:(kJ (s0::s1::s2::(ins++[sh]))).1=0)
 (k0:s0.k=1) (k1:s1.k=1) (k2:s2.k=2) (ki:∀ s∈ins,s.k=3) (ks:sh.k=5) (D5:ins.length<=100)
 (Z4:s0.name≠s1.name) (abP:(s0.cols.map (·.name)).Nodup) (vo:(s1.cols.map (·.name)).Nodup) (EI:s0.cols.length<=8/\∀ c∈s0.cols,c.ty≠0) (Vl:s1.cols.length<=8/\∀ c∈s1.cols,c.ty≠0)
 (hv:ViewOk [iy s0,iy s1] [[],[]] s2 w z0) (ab2:st 0=([],[],z0)) (abG:∀ (j:Nat) (h:j<ins.length),Kl [iy s0,iy s1,iT s2 w] (bN [iy s0,iy s1]) w.1 ins[j] (st j) (st (j+1)))
 (hq:AskOk [iy s0,iy s1,iT s2 w] sh.q w') (AJ:w'.2.length<=1000000) (hww:w.1=w'.1) (T:Tm):
 bV Tryz.prog 13 [lv] T M [] [] (fun v M' _ _=>∃ b c zv,v=.tuple ⟨[.slice (some ⟨b,0,none⟩) 1 c,.agg ⟨[.int .i64 0,.int .i64 0]⟩]⟩/\aN M' ⟨b,2,none⟩=some zv/\RS M' (RZ M') 2 (st ins.length).2.2 zv) aM:=by
 obtain ⟨l,di⟩:∃ l,l=s0::s1::s2::(ins++[sh]):=⟨_,rfl⟩
 rw [<- di] at hl hw
 have hll:l.length=ins.length+4:=by rw [di];simp
 have AI:=hl
 obtain ⟨eZ,la,lc,rfl,anx,_,hg⟩:=ax (by decide) (fun _ _=>fP) hl
 refine az F13 rfl rfl ?_
 intro bi _
 simp +contextual only [go_sem,sevalprocAttr]
 intro b3 T3 ii fV gD
 refine aP (En hG AI _) ?_
 simp +contextual only [go_sem,aD,sevalprocAttr,X3,hw]
 intro b4 T4 eN eE fG iI
 intro be Te sq agc hTe aog
 have hT0:=(fV.trans fG).trans hTe
 refine bY l.length 19 [(0,.slice la l.length lc),(3,.pointer (some ⟨b3,0,none⟩)),(5,.pointer (some ⟨be,0,none⟩)),(18,.int .i64 (l.length:Int))] (fun i e h=>ZV T M be b3 s0 s1 [iy s0,iy s1,iT s2 w] w.1 st l.length i h) 0 (by omega) (by simp only [aE,go_sem,sevalprocAttr]) (by simp only [go_sem,sevalprocAttr])
  (jE (L2:=[(be,[.slice none 0 0,.slice none 0 0,.slice none 0 0,.slice none 0 0]),(b3,D4)]) (by simp [D4]) (by simp [aY,agc]) (aB ⟨Te,M,_,hT0,bm.rfl',rfl,⟨sq,ii,trivial⟩,⟨⟨agc.2,trivial⟩,trivial,trivial⟩,fun _=>rfl,fun h=>by omega,fun h=>by omega,fun h=>by omega⟩)) ?_
 rintro i e h hi aG ht ⟨N1,M1,L1,pw,aV,rfl,bG,vu,p0,p1,p2,p3⟩
 simp only [aE] at aG
 by_cases aL:i<l.length
 rotate_left
 ·have:i=l.length:=by omega
  subst this
  obtain ⟨rv,dv,kv,zv,b,c,rfl,dN,AB⟩:=p3 rfl
  obtain ⟨nbe,nb3,_⟩:=bG
  obtain ⟨⟨akG,_⟩,_⟩:=vu
  have hn4:l.length - 4=ins.length:=by omega
  rw [hn4] at AB
  unfold D4
  simp +contextual only [go_sem,aD,sevalprocAttr,aG,ht,aL,aC nbe,aC nb3,akG]
  exact al (al (ak pw ⟨b,c,zv,rfl,dN,AB⟩))
 obtain ⟨b',o',sc,rfl,bQ,Ro⟩:=hg i l[i] (gq aL)
 obtain ⟨ac,ad,ap,aq,ao,an,ar,ae,au,av,aw,NC,_⟩:=nQ Ro
 have hy:aN M ⟨b',o'+i*16,none⟩=some (.int .i64 l[i].k):=by
  have:=bQ;rw [NC] at this;exact this.1
 have U6:=ay aV hy
 have kh:i=0\/i=1\/i=2\/(3<=i/\i+1<l.length)\/i+1=l.length:=by omega
 rcases kh with h0 | h0 | h0 | h0 | h0
 ·have e0:l[i]=s0:=by subst h0;subst di;rfl
  rw [e0] at Ro hy U6
  obtain rfl:=p0 h0
  simp +contextual only [go_sem,aD,sevalprocAttr,aG,ht,aL,U6,k0]
  refine AX (Lr:=[]) (Ld:=[]) (bQ.ext aV) (eT aV _ _ Ro) (rels:=[]) (data:=[]) (.inl ⟨rfl,rfl,rfl⟩) (.inl ⟨rfl,rfl,rfl⟩) bG vu (fun x hx=>by cases hx) (fun x hx=>by cases hx) (fun x hx=>by cases hx) abP (by omega) (by decide) (by decide) ?_
  intro N2 M2 rv dv gr cr gd cd AK bh rC Bi aZ fh
  simp +contextual only [go_sem,aD,sevalprocAttr,ht]
  refine aR (aB ⟨l.length - (i+1),by omega,rfl,i+1,by omega,rfl,?_,?_,N2,M2,_,pw.trans AK,aV.trans bh,rfl,aZ,fh,fun h=>by omega,fun _=>⟨rv,dv,gr,cr,gd,cd,by rw [h0];exact rC,by rw [h0];exact Bi,rfl⟩,fun h=>by omega,fun h=>by omega⟩)
  ·simp only [aE,aG,go_sem,sevalprocAttr]
  ·simp only [go_sem,sevalprocAttr,aA i (by omega)]
 ·have e0:l[i]=s1:=by subst h0;subst di;rfl
  rw [e0] at Ro hy U6
  obtain ⟨rv,dv,gr,cr,gd,cd,rC,Bi,rfl⟩:=p1 (.inl h0)
  rw [h0] at rC Bi
  simp +contextual only [go_sem,aD,sevalprocAttr,aG,ht,aL,U6,k1]
  refine AX (Lr:=[(gr,cr)]) (Ld:=[(gd,cd)]) (bQ.ext aV) (eT aV _ _ Ro) rC Bi bG vu (fun x hx=>by rw [List.mem_singleton.1 hx];exact Z4) (fun x hx=>by rw [List.mem_singleton.1 hx];rfl) (fun x hx=>by rw [List.mem_singleton.1 hx];show s0.cols.length<=_;omega) vo (by omega) (by simp) (by simp) ?_
  intro N2 M2 rv' dv' gr' cr' gd' cd' AK bh Ye ajQ aZ fh
  simp +contextual only [go_sem,aD,sevalprocAttr,ht]
  refine aR (aB ⟨l.length - (i+1),by omega,rfl,i+1,by omega,rfl,?_,?_,N2,M2,_,pw.trans AK,aV.trans bh,rfl,aZ,fh,fun h=>by omega,fun _=>⟨rv',dv',gr',cr',gd',cd',by rw [h0];exact Ye,by rw [h0];exact ajQ,rfl⟩,fun h=>by omega,fun h=>by omega⟩)
  ·simp only [aE,aG,go_sem,sevalprocAttr]
  ·simp only [go_sem,sevalprocAttr,aA i (by omega)]
 ·have e0:l[i]=s2:=by subst h0;subst di;rfl
  rw [e0] at Ro hy U6
  obtain ⟨rv,dv,gr,cr,gd,cd,rC,Bi,rfl⟩:=p1 (.inr h0)
  rw [h0] at rC Bi
  simp +contextual only [go_sem,aD,sevalprocAttr,aG,ht,aL,U6,k2]
  refine VF (w:=w) (z0:=z0) (bQ.ext aV) (eT aV _ _ Ro) rC Bi bG vu (by intro u hu;simp only [D4,mn] at hu;rcases hu with rfl | rfl<;>rfl) (by simp) (by simp) (by intro x hx;simp at hx;rcases hx with rfl | rfl<;>rfl) (by intro x hx;simp at hx;rcases hx with rfl | rfl;exact ⟨Nat.le_trans EI.1 (by decide),EI.2⟩;exact ⟨Nat.le_trans Vl.1 (by decide),Vl.2⟩) (by simp) (by simp) hv trivial ?_
  intro N2 M2 L2 rv' kv' bv tv cs zv gr' cr' gk ck AK bh Ye cB nl fS AB aZ jj mQ
  simp +contextual only [go_sem,aD,sevalprocAttr,ht]
  obtain ⟨_,dcap,csd,jd,rfl,hLd,hpd,abR,uw⟩:=uL Bi (by simp) (by simp) Ge
  cases hLd
  obtain ⟨dc0,_,rfl,⟨d0,rfl,hd0⟩,dc1,_,rfl,⟨d1,rfl,w9⟩,Hr⟩:=abR
  obtain rfl:=Hr
  rcases cB with ⟨h,_⟩ | ⟨_,kcap,_,kj,rfl,hLk,_,⟨_,_,rfl,hpt,lh⟩,_⟩
  ·cases h
  cases hLk
  unfold RPt at hpt
  subst hpt
  obtain ⟨rcap,mP⟩:∃ rcap,rv'=.slice (some ⟨gr',0,none⟩) 3 rcap:=by
   rcases Ye with ⟨h,_⟩ | ⟨_,rcap,_,_,rfl,hL,_⟩
   ·simp at h
   ·cases hL;exact ⟨rcap,rfl⟩
  subst mP
  refine aR (jE mQ jj (aT fun xP g1 Bl=>aT fun pu g2 pi=> ?_))
  have he:=xP.trans pu
  have Ap:=bh.trans he
  refine aB ⟨l.length - (i+1),by omega,rfl,i+1,by omega,rfl,?_,?_,N2,_,_,pw.trans AK,aV.trans Ap,rfl,pi,nW (List.nodup_cons.1 (List.nodup_cons.1 jj).2).2,fun h=>by omega,fun h=>by omega,fun _ _=> ?_,fun h=>by omega⟩
  ·simp only [aE,aG,go_sem,sevalprocAttr]
  ·simp only [go_sem,sevalprocAttr,aA i (by omega)]
  ·rw [show i+1 - 3=0 by omega,ab2]
   have hbg:¬ be=gd:=by simp [aY] at jj;exact jj.2.2.2.1.1
   exact ⟨gr',rcap,bv,gk,kcap,gd,dcap,d0,d1,tv,_,zv,cs,jd,oT Ye (dP he) ⟨pu _ _ g1,trivial⟩ (by simp),QG g2,aH he (cW he) nl,bA he _ _ fS,cR Ap hd0,cR Ap w9,cR he AB,uw _ _ (dz (Ap.trans (gY ⟨pi.2.1,pi.2.2.1,trivial⟩))) (by simp [fk,aS.add,Ne.symm (show be≠gd from hbg)]),rfl⟩
 ·have hj:i - 3<ins.length:=by omega
  have e0:l[i]=ins[i - 3]:=by
   have h1:l[i]?=some ins[i - 3]:=by
    subst di
    obtain ⟨j,rfl⟩:∃ j,i=j+3:=⟨i - 3,by omega⟩
    show (ins++[sh])[j]?=some ins[j+3 - 3]
    rw [List.getElem?_append_left (by omega)]
    exact gq _
   rw [gq aL] at h1
   injection h1
  have HL:=ki _ (gm hj)
  rw [e0] at Ro hy U6
  obtain ⟨gr,rcap,bv,gk,kc,gd,dcap,d0,d1,tv,dv,zv,cs,junk,q1,q2,q3,q4,q5,q6,q7,q8,rfl⟩:=p2 h0.1 aL
  obtain ⟨n,hn,m0,m1,z,zo,d,d',r1,r2,r3,r4,r5,r6,r7,r8,r9,r10,r11,r12,r13,r14,r15,r16,r17,r18,r19,r20⟩:=abG (i - 3) hj
  obtain ⟨c,rk⟩:=hv.col
  obtain ⟨a1,a2,a3,_⟩:=vu
  simp only [bf,and_true] at a1 a2 a3
  simp +contextual only [go_sem,aD,sevalprocAttr,aG,ht,aL,U6,HL]
  refine cL (k:=fun h'=>h'=⟨N1,M1,[(b3,D4),(bv,gW tv cs dv zv),(be,oX (.slice (some ⟨gr,0,none⟩) 3 rcap) gd dcap gk kc (.slice none 0 0)),(gd,d0::d1::junk)],[]⟩) (jE (L2:=[(b3,D4),(bv,gW tv cs dv zv),(be,oX (.slice (some ⟨gr,0,none⟩) 3 rcap) gd dcap gk kc (.slice none 0 0)),(gd,d0::d1::junk)]) (by simp) (by simp [aY,a1,a2,a3]) (aB rfl)) ?_ F31.bd
  rintro h' rfl
  refine dC [(b3,D4)] (Iz (sv:=.slice none 0 0) (bQ.ext aV) (eT aV _ _ Ro) q1 hn r1 r2 r3 (by simp) r4 r5 r6 r7 r8 trivial q3 q4 q5 q6 q7 q2 q8 rk r9 r10 r11 r12 r13 r14 r15 r16 r17 r18 r19 r20 _) ?_ (fun _ _ _ _ _ _ h=>h.elim)
  rintro v M2 L2 bh lh aZ ⟨rfl,nv,rv',w0,w1,rfl,t1,t2,t3,t4⟩
  simp +contextual only [go_sem,aD,sevalprocAttr,ht]
  have hnx:aJ M2 [(bv,gW tv cs nv rv'),(be,oX (.slice (some ⟨gr,0,none⟩) 3 rcap) gd dcap gk kc (.slice none 0 0)),(gd,w0::w1::junk),(b3,D4)]:=⟨aZ.2.1,aZ.2.2.1,aZ.2.2.2.1,aZ.1,trivial⟩
  refine aR (jE (L2:=[(bv,gW tv cs nv rv'),(be,oX (.slice (some ⟨gr,0,none⟩) 3 rcap) gd dcap gk kc (.slice none 0 0)),(gd,w0::w1::junk),(b3,D4)]) (by simp) (by simp [aY,a1,a2,a3]) (aB ⟨l.length - (i+1),by omega,rfl,i+1,by omega,rfl,?_,?_,N1,M2,_,pw,aV.trans bh,rfl,hnx,nW (by simp [aY,a1,a2,a3]),fun h=>by omega,fun h=>by omega,fun _ _=> ?_,fun h=>by omega⟩))
  ·simp only [aE,aG,go_sem,sevalprocAttr]
  ·simp only [go_sem,sevalprocAttr,aA i (by omega)]
  ·rw [show i+1 - 3=i - 3+1 by omega]
   have hE:=gY (M:=M2) (Lp:=[(be,oX (.slice (some ⟨gr,0,none⟩) 3 rcap) gd dcap gk kc (.slice none 0 0)),(gd,[w0,w1])]) ⟨hnx.2.1,hnx.2.2.1,trivial⟩
   exact ⟨gr,rcap,bv,gk,kc,gd,dcap,w0,w1,tv,nv,rv',cs,junk,aH bh (dP bh) q1,ay bh q2,aH bh (cW bh) q3,bA bh _ _ q4,t1,t2,t4,aH hE (dz hE) t3,rfl⟩
 ·have e0:l[i]=sh:=by
   have h1:l[i]?=some sh:=by
    subst di
    obtain ⟨j,rfl⟩:∃ j,i=j+3:=⟨i - 3,by omega⟩
    show (ins++[sh])[j]?=some sh
    rw [List.getElem?_append_right (by omega),show j - ins.length=0 by omega];rfl
   rw [gq aL] at h1
   injection h1
  rw [e0] at Ro hy U6
  obtain ⟨gr,rcap,bv,gk,kc,gd,dcap,d0,d1,tv,dv,zv,cs,junk,q1,q2,q3,q4,q5,q6,q7,q8,rfl⟩:=p2 (by omega) aL
  obtain ⟨a1,a2,a3,_⟩:=vu
  simp only [bf,and_true] at a1 a2 a3
  obtain ⟨_,za,zc,rfl,_⟩:=ax (by decide) (fun _ _=>br) q7
  obtain ⟨c0,c1,c2,c3,c4,c5,c6,c7,c8,c9,c10,rfl,_⟩:=cO q4
  unfold oX gW at*
  simp only [nn] at*
  simp +contextual only [go_sem,aD,sevalprocAttr,aG,ht,aL,U6,ks]
  refine cL (k:=fun h'=>∃ M2,bm M1 M2/\M2 bv=some [tv,c0,c1,c2,c3,c4,c5,c6,c7,c8,c9,c10,dv,.slice za (st (i - 3)).2.2.length zc]/\aJ M2 [(b3,D4),(be,[.slice (some ⟨gr,0,none⟩) 3 rcap,.slice (some ⟨gd,0,none⟩) 2 dcap,.slice (some ⟨gk,0,none⟩) 1 kc,.slice none 0 0])]/\h'=⟨N1,M2,[(b3,D4),(be,[.slice (some ⟨gr,0,none⟩) 3 rcap,.slice (some ⟨gd,0,none⟩) 2 dcap,.slice (some ⟨gk,0,none⟩) 1 kc,.slice none 0 0])],[]⟩)
   (jE (L2:=[(bv,[tv,c0,c1,c2,c3,c4,c5,c6,c7,c8,c9,c10,dv,.slice za (st (i - 3)).2.2.length zc]),(b3,D4),(be,[.slice (some ⟨gr,0,none⟩) 3 rcap,.slice (some ⟨gd,0,none⟩) 2 dcap,.slice (some ⟨gk,0,none⟩) 1 kc,.slice none 0 0])]) (by simp) (by simp [aY,a1,a2]) (aT fun he g1 Bl=>aB ⟨_,he,g1,Bl,rfl⟩)) ?_ F33.bd
  rintro h' ⟨M2,bh,hbv,pi,rfl⟩
  have ry:=aV.trans bh
  have aiv:aN M2 ⟨bv,13,none⟩=some (.slice za (st (i - 3)).2.2.length zc):=by simp [aN,hbv]
  have uD:∀ (j:Nat) (h:j<[iy s0,iy s1,iT s2 w].length),j<2 ->[iy s0,iy s1,iT s2 w][j].view=false:=by
   intro j hj hj2
   have:j=0\/j=1:=by omega
   rcases this with rfl | rfl<;>rfl
  refine dC [(b3,D4)] (PU (i:=2) (bv:=bv) (bQ.ext ry) (eT ry _ _ Ro) (aH bh (dP bh) q1) (by simp) (by intro x hx;simp at hx;rcases hx with rfl | rfl | rfl;exact Nat.le_trans EI.1 (by decide);exact Nat.le_trans Vl.1 (by decide);exact Nat.le_trans hv.cl (by decide)) hq AJ (by simp) rfl hww uD (by decide) (ay bh q2) aiv _) ?_ (fun _ _ _ _ _ _ h=>h.elim)
  rintro v M3 L3 bE HL bB ⟨rfl,b,c,rfl,dN⟩
  simp +contextual only [go_sem,aD,sevalprocAttr,ht]
  refine aR (jE (L2:=[(be,[.slice (some ⟨gr,0,none⟩) 3 rcap,.slice (some ⟨gd,0,none⟩) 2 dcap,.slice (some ⟨gk,0,none⟩) 1 kc,.slice (some ⟨b,0,none⟩) 1 c]),(b3,D4)]) (by simp) (by simp [aY,a2]) (aB ⟨l.length - (i+1),by omega,rfl,i+1,by omega,rfl,?_,?_,N1,M3,_,pw,ry.trans bE,rfl,⟨bB.2.1,bB.1,trivial⟩,nW (by simp [aY,a2]),fun h=>by omega,fun h=>by omega,fun _ _=>by omega,fun _=>⟨_,_,_,_,b,c,rfl,dN,?_⟩⟩))
  ·simp only [aE,aG,go_sem,sevalprocAttr]
  ·simp only [go_sem,sevalprocAttr,aA i (by omega)]
  ·rw [show l.length - 4=i - 3 by omega]
   exact cR (bh.trans bE) q7
def acl:Code ->List Value
 | .region _ ops _=>ops.toList.flatMap fun o=>match o.op with
  | .build _ ps=>ps.toList.map fun x=>ev (fun _=>undef) x.2
  | _=>[]
 | .seq a b=>acl a++acl b
 | _=>[]
def Jr:List Value ->List (Bs×Bs)
 | .string a:: .string b::l=>(a.data.toList,b.data.toList)::Jr l
 | _=>[]
noncomputable def abQ:List Value:=match Tryz.f19.body with
 | some c=>acl c
 | none=>[]
noncomputable def FZ:List (Bs×Bs):=Jr abQ
def G5 (x:Bs×Bs)(cs:List Value):Prop:=cs=[st x.1,st x.2]
theorem zZ {x:Bs×Bs}{cs:List Value}(h:G5 x cs):cs.length=2:=by unfold G5 at h;subst h;rfl
theorem Kg (a:ByteArray):bs a.data.toList=a:=by cases a;rfl
def Zm:List Value ->Bool
 | .string _:: .string _::l=>Zm l
 | []=>true
 | _=>false
theorem Fy:∀ (l:List Value),Zm l=true ->RL G5 (Jr l) l
 | [],_=>rfl
 | .string a:: .string b::l,h=>⟨[.string a,.string b],l,rfl,by unfold G5 st;rw [Kg,Kg],Fy l h⟩
def wg (name:Bs):List (Bs×Bs) ->Option (Nat×Bs)
 | []=>none
 | x::l=>if x.1=name then some (0,x.2) else (wg name l).map fun y=>(y.1+1,y.2)
theorem zF {name:Bs}:∀ {l:List (Bs×Bs)} {i:Nat} {t:Bs},wg name l=some (i,t) ->∃ h:i<l.length,l[i]=(name,t)/\∀ (j:Nat) (hj:j<l.length),j<i ->l[j].1≠name
 | x::l,i,t,h=>by
  rw [wg] at h
  split at h
  ·rename_i hx
   cases h
   exact ⟨by simp,by rw [<- hx];rfl,fun j _ hj=>by omega⟩
  ·rename_i hx
   obtain ⟨⟨k,u⟩,h1,h2⟩:=Option.map_eq_some_iff.1 h
   cases h2
   obtain ⟨g1,g2,g3⟩:=zF h1
   refine ⟨by simp;omega,by simpa using g2,fun j hj Sm=> ?_⟩
   cases j with
   | zero=>exact hx
   | succ j=>exact g3 j (by simpa using hj) (by omega)
variable {M:aS}
theorem WZ (T:Tm):bV Tryz.prog 19 [] T M [] [] (fun v M' _ _=>RS M' G5 2 FZ v) aM:=by
 refine az F19 rfl rfl ?_
 intro bi _
 simp +contextual only [go_sem,sevalprocAttr]
 intro b hb
 refine aT fun he h1 _=>ak aF.rfl' (dB (fun _ _=>zZ) (cs:=abQ) ?_ (Fy abQ (by kernel_rfl)) (by kernel_rfl) (by decide))
 rw [h1]
 exact congrArg some (by kernel_rfl)
theorem Uq {n t name:Bs}{b:Nat}(hb:M b=some [st name])(T:Tm):bV Tryz.prog 21 [.agg ⟨[st n,st t]⟩,.pointer (some ⟨b,0,none⟩)] T M [] [] (fun v _ _ _=>v=.bool (decide (n=name))) aM:=by
 have k0:aN M ⟨b,0,none⟩=some (st name):=by simp [aN,hb]
 refine az F21 rfl rfl ?_
 intro bi _
 simp +contextual only [go_sem,sevalprocAttr]
 intro b2 T2 dN dy ei
 simp +contextual only [go_sem,sevalprocAttr,k0]
 exact al (ak dy (by simp))
theorem ND {l:List (Bs×Bs)}{lv:Value}{name:Bs}{b i:Nat}(hr:RS M G5 2 l lv)(hb:M b=some [st name])(hi:i<l.length)(hn:l[i].1=name)(cu:∀ (j:Nat) (hj:j<l.length),j<i ->l[j].1≠name)(T:Tm):bV Tryz.prog 20 [lv,.func (.func 21) #[] #[.pointer (some ⟨b,0,none⟩)]] T M [] [] (fun v _ _ _=>v=.int .i64 (i:Int)) aM:=by
 obtain ⟨eZ,a,c,rfl,di,_,hg⟩:=ax (by decide) (fun _ _=>zZ) hr
 refine az F20 rfl rfl ?_
 intro bi _
 simp +contextual only [go_sem,aD,sevalprocAttr]
 refine aO l.length 8 [(0,.slice a l.length c),(1,.func (.func 21) #[] #[.pointer (some ⟨b,0,none⟩)]),(7,.int .i64 (l.length:Int))] (fun j e h=>j<=i/\h=⟨T,M,[],[]⟩) 0 (by omega) (by simp only [aE,go_sem,sevalprocAttr]) (by simp only [go_sem,sevalprocAttr]) ⟨by omega,rfl⟩ ?_
 rintro j e h hj aG ht ⟨xi,rfl⟩
 simp only [aE] at aG
 have aL:j<l.length:=by omega
 obtain ⟨b',o',cs',rfl,bQ,dV⟩:=hg j l[j] (gq aL)
 unfold G5 at dV
 subst dV
 obtain ⟨y0,y1,_⟩:=bQ
 simp +contextual only [go_sem,aD,sevalprocAttr,aG,ht,aL,y0,y1]
 refine aP (Uq hb T) ?_
 by_cases wO:j=i
 ·subst wO
  simp +contextual only [go_sem,aD,sevalprocAttr,hn]
  exact ak aF.rfl' rfl
 ·have:=cu j aL (by omega)
  simp +contextual only [go_sem,aD,sevalprocAttr,ht,this]
  refine ce aL ?_ ?_ ⟨by omega,rfl⟩
  ·simp only [aE,aG,go_sem,sevalprocAttr]
  ·simp only [go_sem,sevalprocAttr,aA j (by omega)]
theorem UI {name t:Bs}{i:Nat}(h:wg name FZ=some (i,t))(T:Tm):bV Tryz.prog 11 [st name] T M [] [] (fun v _ _ _=>v=.tuple ⟨[st t,.int .i64 0]⟩) aM:=by
 obtain ⟨hi,h1,h2⟩:=zF h
 refine az F11 rfl rfl ?_
 intro bi _
 simp +contextual only [go_sem,sevalprocAttr]
 intro b1 T1 fx dh fT
 refine aI (WZ _) ?_
 rintro v M1 aV bG hv
 have wE:=hv
 obtain ⟨_,a,c,rfl,_,_,hg⟩:=ax (by decide) (fun _ _=>zZ) hv
 obtain ⟨b',o',cs',rfl,bQ,dV⟩:=hg i FZ[i] (gq hi)
 unfold G5 at dV
 subst dV
 rw [h1] at bQ
 obtain ⟨y0,y1,_⟩:=bQ
 have vW:(i:Int)<(FZ.length:Int):=by omega
 simp +contextual only [go_sem,sevalprocAttr]
 refine cT F20.bd (fun M' he hL _=>ND (aH he (fun _ _ h=>h) wE) hL.1 hi (by rw [h1]) h2 _) ?_
 simp +contextual only [go_sem,aD,sevalprocAttr,vW,y1]
 exact al (ak dh rfl)
variable {M:aS}
def gN (n:Int):V:=if n<0 then ⟨1,0,[]⟩ else ⟨3,n,[]⟩
theorem Wb {l:List Int}{lv:Value}(h:RS M RI 1 l lv)(hl:l.length<=1000000)(T:Tm):bV Tryz.prog 35 [lv] T M [] [] (fun v M' _ _=>RS M' RV 3 (l.map gN) v) aM:=by
 obtain ⟨eZ,a,c,rfl,di,_,hg⟩:=ax (by decide) (fun _ _=>ct) h
 refine az F35 rfl rfl ?_
 intro bi _
 simp +contextual only [go_sem,aD,sevalprocAttr]
 refine aO l.length 9 [(7,.slice a l.length c),(8,.int .i64 (l.length:Int))] (fun i e h=>∃ N' R' fv,aF T N'/\h=⟨N',M,[],R'⟩/\e 3=fv/\kT 28 3 RV [] R' fv ((l.take i).map gN)) 0 (by omega) (by simp only [aE,go_sem,sevalprocAttr]) (by simp only [go_sem,sevalprocAttr]) ⟨T,_,_,aF.rfl',rfl,by simp only [go_sem,sevalprocAttr],cV⟩ ?_
 rintro i e h hi aG ht ⟨N',R',fv,jW,rfl,e3,bj⟩
 simp only [aE] at aG
 by_cases aL:i<l.length
 ·obtain ⟨b',o',cs',rfl,bQ,dV⟩:=hg i l[i] (gq aL)
  unfold RI at dV
  subst dV
  have y0:=bQ.1
  rw [Nat.mul_one] at y0
  have dY:(l.take i).map gN++[gN l[i]]=(l.take (i+1)).map gN:=by
   rw [<- List.take_append_getElem aL,List.map_append];rfl
  simp +contextual only [go_sem,aD,sevalprocAttr,aG,ht,aL,y0]
  intro b6 T6 pt um CO
  by_cases hn:l[i]<0
  ·have hv:gN l[i]=⟨1,0,[]⟩:=if_pos hn
   rw [hv] at dY
   simp +contextual only [go_sem,sevalprocAttr,hn,e3]
   intro b20 sk gX
   refine cA (Tryz.underlying30) zG yP (x:=(⟨1,0,[]⟩:V)) bj rfl (fun _ _ h=>by unfold RV at h;subst h;rfl) (xj (v:=⟨1,0,[]⟩) rfl) sk (by rw [List.length_map,List.length_take];omega) (by decide) ?_
   intro fv' R2 bz
   rw [dY] at bz
   simp +contextual only [go_sem,sevalprocAttr,ht]
   refine aR (al (al (aB ⟨l.length - (i+1),by omega,rfl,i+1,by omega,rfl,?_,?_,T6,R2,fv',jW.trans um,rfl,?_,bz⟩)))
   ·simp only [aE,aG,go_sem,sevalprocAttr]
   ·simp only [go_sem,sevalprocAttr,aA i (by omega)]
   ·simp only [go_sem,sevalprocAttr]
  ·have hv:gN l[i]=⟨3,l[i],[]⟩:=if_neg hn
   rw [hv] at dY
   simp +contextual only [go_sem,sevalprocAttr,hn,e3]
   intro b20 sk gX
   refine cA (Tryz.underlying30) zG yP (x:=(⟨3,l[i],[]⟩:V)) bj rfl (fun _ _ h=>by unfold RV at h;subst h;rfl) (xj (v:=⟨3,l[i],[]⟩) rfl) sk (by rw [List.length_map,List.length_take];omega) (by decide) ?_
   intro fv' R2 bz
   rw [dY] at bz
   simp +contextual only [go_sem,sevalprocAttr,ht]
   refine aR (al (al (aB ⟨l.length - (i+1),by omega,rfl,i+1,by omega,rfl,?_,?_,T6,R2,fv',jW.trans um,rfl,?_,bz⟩)))
   ·simp only [aE,aG,go_sem,sevalprocAttr]
   ·simp only [go_sem,sevalprocAttr,aA i (by omega)]
   ·simp only [go_sem,sevalprocAttr]
 ·have:i=l.length:=by omega
  subst this
  rw [List.take_length] at bj
  simp +contextual only [go_sem,aD,sevalprocAttr,aG,ht,aL,e3]
  exact cz bj (by rw [List.length_map];omega) (by decide) trivial fun M2 bh _ cG=>ak jW cG
def yk (name:Bs)(rows:List (List V)):Stm:=⟨3,name,[],⟨[],[],[],0⟩,rows,false,jZ⟩
def gy (name:Bs)(l:List (List Int)):List Stm:=if l=[] then [] else [yk name (l.map fun r=>r.map gN)]
def stC (name:Bs)(fv:Value):List Value:=[.int .i64 3,st name,.slice none 0 0,.slice none 0 0,.slice none 0 0,.slice none 0 0,.int .i64 0,fv,.bool false,.int .i64 0,.int .i64 0,.int .i64 0,st [],st [],st [],.slice none 0 0]
theorem zH {l:List (List Int)}{lv:Value}{name:Bs}(h:RS M (ms M) 1 l lv)(hl:l.length<=1000000)(hr:∀ r∈l,r.length<=1000000)(T:Tm):bV Tryz.prog 15 [st name,lv] T M [] [] (fun v M' _ _=>RS M' (my M') 16 (gy name l) v) aM:=by
 obtain ⟨eZ,a,c,rfl,di,_,hg⟩:=ax (by decide) (fun _ _=>dE) h
 refine az F15 rfl rfl ?_
 intro bi _
 simp +contextual only [go_sem,aD,sevalprocAttr]
 intro b5 T5 j6 lG oQ
 refine aO l.length 12 [(1,.slice a l.length c),(5,.pointer (some ⟨b5,0,none⟩)),(10,.slice a l.length c),(11,.int .i64 (l.length:Int))] (fun i e h=>∃ N' M' R' fv,aF T N'/\bm M M'/\M' b5=none/\h=⟨N',M',[(b5,stC name fv)],R'⟩/\kT 30 1 (Hv M') [] R' fv ((l.take i).map fun r=>r.map gN)) 0 (by omega) (by simp only [aE,go_sem,sevalprocAttr]) (by simp only [go_sem,sevalprocAttr]) ⟨T5,M,_,_,lG,bm.rfl',j6,rfl,cV⟩ ?_
 rintro i e h hi aG ht ⟨N',M1,R',fv,jW,aV,fx,rfl,bj⟩
 simp only [aE] at aG
 obtain ⟨fa,fc,rfl⟩:=eI bj
 unfold stC
 by_cases aL:i<l.length
 ·obtain ⟨b',o',cs',rfl,bQ,rv,rfl,dV⟩:=hg i l[i] (gq aL)
  have y0:=(bQ.ext aV).1
  rw [Nat.mul_one] at y0
  simp +contextual only [go_sem,aD,sevalprocAttr,aG,ht,aL,y0]
  refine aX ?_
  simp +contextual only [go_sem,sevalprocAttr,aG,aC fx]
  refine aI (Wb (aH aV (fun _ _ h=>h) dV) (hr _ (gm aL)) _) ?_
  rintro v M2 bh aZ hv
  obtain ⟨_,va,vc,rfl,_⟩:=ax (by decide) (fun _ _ h=>by unfold RV at h;subst h;rfl) hv
  simp +contextual only [go_sem,sevalprocAttr]
  refine ⟨fu bh aZ,?_⟩
  intro b20 sk gX
  refine ⟨dK bh aZ ⟨gX,trivial⟩,?_⟩
  have dY:((l.take i).map fun r=>r.map gN)++[l[i].map gN]=(l.take (i+1)).map fun r=>r.map gN:=by
   rw [<- List.take_append_getElem aL,List.map_append];rfl
  refine cA (Tryz.underlying24) yh Aj (x:=l[i].map gN) (ey (iP bh) bj) ⟨_,hv,rfl⟩ (fun _ _=>mF) (by simp [Value.oneCell']) sk (by rw [List.length_map,List.length_take];omega) (by decide) ?_
  intro fv' R2 bz
  rw [dY] at bz
  obtain ⟨ga,gc,rfl⟩:=eI bz
  simp +contextual only [go_sem,sevalprocAttr,aG,ht,gX]
  refine aR (al (aB ⟨l.length - (i+1),by omega,rfl,i+1,by omega,rfl,?_,?_,N',M2,R2,_,jW,aV.trans bh,aZ.1,rfl,bz⟩))
  ·simp only [aE,aG,go_sem,sevalprocAttr]
  ·simp only [go_sem,sevalprocAttr,aA i (by omega)]
 ·have:i=l.length:=by omega
  subst this
  rw [List.take_length] at bj
  by_cases h0:l=[]
  ·subst h0
   simp +contextual only [go_sem,aD,sevalprocAttr,aG,ht]
   exact bW (al (ak jW (by rw [gy,if_pos rfl];exact bu)))
  ·have AI:¬ (l.length:Int)=0:=fun h=>h0 (List.length_eq_zero_iff.1 (by omega))
   simp +contextual only [go_sem,aD,sevalprocAttr,aG,ht,aL,AI,aC fx]
   intro b28 af4 adn
   refine cz bj (by rw [List.length_map];omega) (by decide) ⟨af4,fx,trivial⟩ fun M2 bh aZ cG=>aT fun he h1 _=>al (ak jW ?_)
   rw [gy,if_neg h0]
   refine dB (fun _ _=>fP) h1 ⟨_,[],(List.append_nil _).symm,?_,rfl⟩ rfl (by simp)
   exact ⟨_,_,_,_,bu,⟨_,_,_,bu,bu,bu,rfl⟩,aH he (iP (bh.trans he)) cG,kP,by rw [List.take_length];rfl⟩
theorem Ov {M:aS}(n:Nat)(hn:n<=1073741824)(T:Tm):
 Vn Tryz.prog 34 [.slice none 0 0,.int .i64 (n:Nat)] T M [] [] 1 (fun v _ _ R'=>∃ a c,v=.slice a 0 c/\R'=[(v,61,16,[])]) aM:=by
 refine ny F34 rfl rfl ?_
 intro bi _
 have h0:¬ ((n:Int)<0):=by omega
 by_cases hz:n=0
 ·subst hz
  simp +contextual only [go_sem,aD,sevalprocAttr, -Int.reduceAdd, -Int.reduceSub, -Int.reduceMul]
  exact eF (aQ aF.rfl' rfl rfl ⟨none,0,rfl,rfl⟩)
 ·have hp:0<n:=by omega
  have DY:(0:Int)<(n:Int):=by omega
  have hw:IntKind.i64.wrap (n:Int)=(n:Int):=bH (by omega) (by omega)
  have HF:IntKind.i64.wrap (0 - 0)=0:=by decide
  have FG:IntKind.i64.wrap ((n:Int) - IntKind.i64.wrap (0 - 0))=(n:Int):=by rw [HF,Int.sub_zero];exact hw
  have wN:kF none 0 0 16=none:=rfl
  simp +contextual only [go_sem,aD,sevalprocAttr, -Int.reduceAdd, -Int.reduceSub, -Int.reduceMul,h0]
  rw [FG,if_pos DY,wN]
  refine yx (ik:=.i64) KA K9 Tryz.underlying3 hp (by omega) ?_
  intro a c zs qh di
  simp +contextual only [go_sem,sevalprocAttr, -Int.reduceAdd, -Int.reduceSub, -Int.reduceMul]
  have YF:kF a c 0 16=a:=by
   unfold kF
   cases a<;>simp [Addr.add]
  rw [YF]
  exact oU (by decide) (aQ aF.rfl' rfl rfl ⟨a,c,rfl,rfl⟩)
theorem Gm {M:aS}{ls:List (List Stm)}{sv:Value}(hs:RS M (fun l cs=>∃ v,cs=[v]/\RS M (my M) 16 l v) 1 ls sv)(bq:ls.length<=64)(hl:∀ l∈ls,l.length<=16777216)(T:Tm):
 bV Tryz.prog 14 [sv] T M [] [] (fun v M' _ _=>RS M' (my M') 16 ls.flatten v) aM:=by
 obtain ⟨eZ,a,c,rfl,di,_,hg⟩:=ax (by decide) (by rintro _ _ ⟨_,rfl,_⟩;rfl) hs
 obtain ⟨B,hB⟩:∃ B:Nat,B=16777216:=⟨_,rfl⟩
 rw [<- hB] at hl
 have GN:∀ i,(ls.take i).flatten.length<=i*B:=by
  intro i
  induction i with
  | zero=>simp
  | succ i ih=>
   rw [Nat.succ_mul]
   by_cases hi:i<ls.length
   ·rw [<- List.take_append_getElem hi,List.flatten_append,List.length_append]
    have:=hl ls[i] (gm hi)
    simp only [List.flatten_cons,List.flatten_nil,List.append_nil]
    omega
   ·rw [List.take_of_length_le (by omega)]
    rw [List.take_of_length_le (by omega)] at ih
    omega
 have mq:∀ i,i<=ls.length ->(ls.take i).flatten.length<=1073741824:=by
  intro i hi
  refine Nat.le_trans (GN i) ?_
  rw [hB]
  exact Nat.le_trans (Nat.mul_le_mul_right _ (show i<=64 by omega)) (by decide)
 refine az F14 rfl rfl ?_
 intro bi _
 simp +contextual only [go_sem,aD,sevalprocAttr, -Int.reduceAdd, -Int.reduceSub, -Int.reduceMul]
 refine aO ls.length 11 [(0,.slice a ls.length c),(9,.slice a ls.length c),(10,.int .i64 (ls.length:Int))] (fun i e h=>h=⟨T,M,[],[]⟩/\e 3=.int .i64 ((ls.take i).flatten.length:Int)) 0 (by omega) (by simp only [aE,go_sem,sevalprocAttr, -Int.reduceAdd, -Int.reduceSub, -Int.reduceMul]) (by simp only [go_sem,sevalprocAttr, -Int.reduceAdd, -Int.reduceSub, -Int.reduceMul]) ⟨rfl,by simp only [go_sem,sevalprocAttr, -Int.reduceAdd, -Int.reduceSub, -Int.reduceMul];simp⟩ ?_
 rintro i e h hi aG ht ⟨rfl,e3⟩
 simp only [aE] at aG
 have Vj:=mq i hi
 by_cases aL:i<ls.length
 ·obtain ⟨b',o',cs',rfl,bQ,v,rfl,mP⟩:=hg i ls[i] (gq aL)
  obtain ⟨_,va,vc,rfl,_⟩:=ax (by decide) (fun _ _=>fP) mP
  have x0:=xG bQ
  rw [Nat.mul_one] at x0
  have gF:(ls.take (i+1)).flatten.length=(ls.take i).flatten.length+ls[i].length:=by
   rw [<- List.take_append_getElem aL,List.flatten_append,List.length_append];simp
  have G8:=mq (i+1) aL
  have hw:IntKind.i64.wrap (((ls.take i).flatten.length:Int)+(ls[i].length:Int))=((ls.take (i+1)).flatten.length:Int):=by
   have h1:((ls.take i).flatten.length:Int)+(ls[i].length:Int)=((ls.take (i+1)).flatten.length:Int):=by omega
   rw [h1,bH (by omega) (by omega)]
  have YW:¬ (((ls.take (i+1)).flatten.length:Int)<0):=by omega
  simp +contextual only [go_sem,aD,sevalprocAttr, -Int.reduceAdd, -Int.reduceSub, -Int.reduceMul,aG,ht,aL,x0,e3,hw,YW]
  refine aR (aB ⟨ls.length - (i+1),by omega,rfl,i+1,by omega,rfl,?_,?_,rfl,?_⟩)
  ·simp only [aE,aG,go_sem,sevalprocAttr, -Int.reduceAdd, -Int.reduceSub, -Int.reduceMul]
  ·simp only [go_sem,sevalprocAttr, -Int.reduceAdd, -Int.reduceSub, -Int.reduceMul,aA i (by omega)]
  ·simp only [go_sem,sevalprocAttr, -Int.reduceAdd, -Int.reduceSub, -Int.reduceMul]
 ·have:i=ls.length:=by omega
  subst this
  rw [List.take_length] at e3 Vj
  simp +contextual only [go_sem,aD,sevalprocAttr, -Int.reduceAdd, -Int.reduceSub, -Int.reduceMul,aG,ht,aL,e3]
  refine lM (Ov ls.flatten.length Vj T) ?_ (fun _ _ _ _ h=>h.elim)
  rintro v M2 row bh aZ ⟨ga,gc,rfl,bP⟩
  simp only [List.cons.injEq,and_true] at bP
  subst bP
  simp +contextual only [go_sem,aD,sevalprocAttr, -Int.reduceAdd, -Int.reduceSub, -Int.reduceMul,aG]
  refine aO ls.length 27 [(0,.slice a ls.length c),(25,.slice a ls.length c),(26,.int .i64 (ls.length:Int))] (fun i e h=>∃ R fv,h=⟨T,M2,[],R⟩/\e 6=fv/\kT 61 16 (my M2) [] R fv (ls.take i).flatten) 0 (by omega) (by simp only [aE,aG,go_sem,sevalprocAttr, -Int.reduceAdd, -Int.reduceSub, -Int.reduceMul]) (by simp only [go_sem,sevalprocAttr, -Int.reduceAdd, -Int.reduceSub, -Int.reduceMul]) ⟨[(.slice ga 0 gc,61,16,[])],.slice ga 0 gc,rfl,by simp only [go_sem,sevalprocAttr, -Int.reduceAdd, -Int.reduceSub, -Int.reduceMul],by rw [List.take_zero];exact .inr ⟨ga,gc,[],rfl,rfl,rfl⟩⟩ ?_
  clear aG ht e3 aL hi e
  rintro i e h hi aG ht ⟨R1,fv,rfl,e6,bj⟩
  simp only [aE] at aG
  have Tz:=mq i hi
  by_cases aL:i<ls.length
  ·obtain ⟨b',o',cs',rfl,bQ,v,rfl,mP⟩:=hg i ls[i] (gq aL)
   obtain ⟨_,va,vc,rfl,_⟩:=ax (by decide) (fun _ _=>fP) mP
   have x0:=xG (bQ.ext bh)
   rw [Nat.mul_one] at x0
   have gF:(ls.take (i+1)).flatten=(ls.take i).flatten++ls[i]:=by
    rw [<- List.take_append_getElem aL,List.flatten_append];simp
   have G8:=mq (i+1) aL
   obtain ⟨ys,J1,AA,Aw⟩:=jn (P:=Tryz.prog) Tryz.underlying43 (fun _ _=>fP) (fun _ _ h=>B5 h) (aH bh (eT bh) mP)
   simp +contextual only [go_sem,aD,sevalprocAttr, -Int.reduceAdd, -Int.reduceSub, -Int.reduceMul,aG,ht,aL,x0,e6]
   refine pU KA K9 bj AA (fun _=>Aw _ _ _) (fun _ _=>fP) (by rw [gF,List.length_append] at G8;omega) (by decide) ?_
   intro fv' R' bz
   rw [<- gF] at bz
   simp +contextual only [go_sem,sevalprocAttr, -Int.reduceAdd, -Int.reduceSub, -Int.reduceMul,ht]
   refine aR (aB ⟨ls.length - (i+1),by omega,rfl,i+1,by omega,rfl,?_,?_,R',fv',rfl,?_,bz⟩)
   ·simp only [aE,aG,go_sem,sevalprocAttr, -Int.reduceAdd, -Int.reduceSub, -Int.reduceMul]
   ·simp only [go_sem,sevalprocAttr, -Int.reduceAdd, -Int.reduceSub, -Int.reduceMul,aA i (by omega)]
   ·simp only [go_sem,sevalprocAttr, -Int.reduceAdd, -Int.reduceSub, -Int.reduceMul]
  ·have:i=ls.length:=by omega
   subst this
   rw [List.take_length] at bj Tz
   simp +contextual only [go_sem,aD,sevalprocAttr, -Int.reduceAdd, -Int.reduceSub, -Int.reduceMul,aG,ht,aL,e6]
   exact cz bj (by omega) (by decide) aZ fun M3 bE bB cG=>ak aF.rfl' (aH bm.rfl' (eT bE) cG)
def UA:Bs:=List.append [99,114,101,97,116,101,32,116,97,98,108,101,32,115,97,108,101,32,40,32,119,104,111,32,105,110,116,32,44,32,119,104,97,116,32,105,110,116,32,44,32,110,32,105,110,116,32,41,32,59,32,99,114,101,97,116] [101,32,116,97,98,108,101,32,112,101,114,115,111,110,32,40,32,105,100,32,105,110,116,32,44,32,98,111,115,115,32,105,110,116,32,41,32,59,32,99,114,101,97,116,101,32,118,105,101,119,32,118,32,97,115,32]
theorem Xh:List.append [99,114,101,97,116,101,32,116,97,98,108,101,32,115,97,108,101,32,40,32,119,104,111,32,105,110,116,32,44,32,119,104,97,116,32,105,110,116,32,44,32,110,32,105,110,116,32,41,32,59,32,99,114,101,97,116] [101,32,116,97,98,108,101,32,112,101,114,115,111,110,32,40,32,105,100,32,105,110,116,32,44,32,98,111,115,115,32,105,110,116,32,41,32,59,32,99,114,101,97,116,101,32,118,105,101,119,32,118,32,97,115,32]=UA:=rfl
theorem Ew:UA.length=112:=by decide
def GZ (t:Bs):Bs:=UA++(t++[32,59])
def PH:Bs:=[115,104,111,119,32,115,101,108,101,99,116,32,42,32,102,114,111,109,32,118,32,59]
def gj:Bs:=[115,97,108,101]
def gb:Bs:=[112,101,114,115,111,110]
variable {M:aS}
set_option maxHeartbeats 2000000 in
theorem XU {name t:Bs}{i:Nat}{a a2:Int}{s0 s1 s2 sh:Stm}{w w':Pl×List Co}{z0:List Z}{stt:Nat ->ZT}{sales people:List (List Int)}{lv pv:Value}(hT:wg name FZ=some (i,t))(hR:mr (GZ t)=([s0,s1,s2],0,a))(hR2:mr PH=([sh],0,a2))(Dc:t.length<=1000)
 (hs:RS M (ms M) 1 sales lv) (hp:RS M (ms M) 1 people pv) (iG:sales.length<=1000000) (Aw:∀ r∈sales,r.length<=1000000) (s9:people.length<=1000000) (J7:∀ r∈people,r.length<=1000000) (hG:eQ M)
 (hw:(kJ (s0::s1::s2::((gy gj sales++gy gb people)++[sh]))).1=0)
 (k0:s0.k=1) (k1:s1.k=1) (k2:s2.k=2) (ks:sh.k=5)
 (Z4:s0.name≠s1.name) (abP:(s0.cols.map (·.name)).Nodup) (vo:(s1.cols.map (·.name)).Nodup) (EI:s0.cols.length<=8/\∀ c∈s0.cols,c.ty≠0) (Vl:s1.cols.length<=8/\∀ c∈s1.cols,c.ty≠0)
 (hv:ViewOk [iy s0,iy s1] [[],[]] s2 w z0) (ab2:stt 0=([],[],z0)) (abG:∀ (j:Nat) (h:j<(gy gj sales++gy gb people).length),Kl [iy s0,iy s1,iT s2 w] (bN [iy s0,iy s1]) w.1 (gy gj sales++gy gb people)[j] (stt j) (stt (j+1)))
 (hq:AskOk [iy s0,iy s1,iT s2 w] sh.q w') (AJ:w'.2.length<=1000000) (hww:w.1=w'.1) (T:Tm):
 bV Tryz.prog 8 [st name,lv,pv] T M [] [] (fun v M' _ _=>∃ zv,v=.tuple ⟨[zv,.int .i64 0]⟩/\RS M' (RZ M') 2 (stt (gy gj sales++gy gb people).length).2.2 zv) aM:=by
 obtain ⟨_,la,lc,rfl,_⟩:=ax (by decide) (fun _ _=>dE) hs
 obtain ⟨_,pa,pc,rfl,_⟩:=ax (by decide) (fun _ _=>dE) hp
 have e0:112+t.length<=9223372036854775807:=by omega
 have e1:(UA++t).length<=9223372036854775805:=by rw [List.length_append,Ew];omega
 refine az F8 rfl rfl ?_
 intro bi _
 simp +contextual only [go_sem,sevalprocAttr]
 refine aI (UI hT _) ?_
 rintro v M1 aV bG rfl
 simp only [Xh]
 simp +contextual only [go_sem,aD,sevalprocAttr,Ew,e0,e1,uU]
 refine aI (KJ _ (hG.ext aV) _) ?_
 rintro v M2 bh aZ ⟨qv,rfl,hq0⟩
 rw [show UA++(t++[32,59])=GZ t from rfl,hR] at hq0 ⊢
 obtain ⟨_,qa,qc,rfl,_⟩:=ax (by decide) (fun _ _=>fP) hq0
 simp +contextual only [go_sem,aD,sevalprocAttr,X3]
 intro b11 T11 ajE WV aeL
 refine aI (KJ _ ((hG.ext aV).ext bh) _) ?_
 rintro v M3 bE bB ⟨rv,rfl,rL⟩
 rw [show ([115,104,111,119,32,115,101,108,101,99,116,32,42,32,102,114,111,109,32,118,32,59]:Bs)=PH from rfl,hR2] at rL ⊢
 obtain ⟨_,ra,rc,rfl,_⟩:=ax (by decide) (fun _ _=>fP) rL
 simp only [aJ,and_true] at bB
 simp +contextual only [go_sem,aD,sevalprocAttr,X3,aC bB]
 have Ra:=aV.trans (bh.trans bE)
 refine aI (zH (name:=gj) (aH Ra (cW Ra) hs) iG Aw _) ?_
 rintro v M4 dD de hv4
 obtain ⟨_,va4,vc4,rfl,_⟩:=ax (by decide) (fun _ _=>fP) hv4
 simp +contextual only [go_sem,sevalprocAttr]
 have Ih:=Ra.trans dD
 refine aI (zH (name:=gb) (aH Ih (cW Ih) hp) s9 J7 _) ?_
 rintro v M5 dJ bR hv5
 obtain ⟨_,va5,vc5,rfl,_⟩:=ax (by decide) (fun _ _=>fP) hv5
 simp only [aJ,and_true] at bR
 simp +contextual only [go_sem,sevalprocAttr]
 intro b50 aga ad1
 refine cZ F14.bd fun M6 eP pt bU=> ?_
 have h4:=aH (dJ.trans eP) (eT (dJ.trans eP)) hv4
 have h5:=aH eP (eT eP) hv5
 have hMq:=bE.trans (dD.trans (dJ.trans eP))
 have hMr:=dD.trans (dJ.trans eP)
 refine aI (Gm (ls:=[[s0,s1,s2],gy gj sales,gy gb people,[sh]]) (dB (fun _ _=>by rintro ⟨_,rfl,_⟩;rfl) pt ⟨_,_,rfl,⟨_,rfl,aH hMq (eT hMq) hq0⟩,_,_,rfl,⟨_,rfl,h4⟩,_,_,rfl,⟨_,rfl,h5⟩,_,[],rfl,⟨_,rfl,aH hMr (eT hMr) rL⟩,rfl⟩ rfl (by simp)) (by simp) ?_ _) ?_
 ·have hI:∀ (n:Bs) (l:List (List Int)),(gy n l).length<=16777216:=by
   intro n l;unfold gy;split<;>simp
  intro l hl
  simp only [mn] at hl
  rcases hl with rfl | rfl | rfl | rfl
  ·simp
  ·exact hI _ _
  ·exact hI _ _
  ·simp
 rintro v M7 qN mw hv7
 simp only [aJ,and_true] at mw
 rw [show [[s0,s1,s2],gy gj sales,gy gb people,[sh]].flatten=s0::s1::s2::((gy gj sales++gy gb people)++[sh]) by simp] at hv7
 have D5:(gy gj sales++gy gb people).length<=100:=by
  rw [List.length_append];unfold gy;split<;>split<;>simp
 have hik:∀ s∈gy gj sales++gy gb people,s.k=3:=by
  intro s hs
  rcases wZ hs with h | h<;> · unfold gy at h;split at h<;>simp at h<;>subst h<;>rfl
 obtain ⟨l,hl⟩:∃ l,l=s0::s1::s2::((gy gj sales++gy gb people)++[sh]):=⟨_,rfl⟩
 rw [<- hl] at hv7
 obtain ⟨_,va7,vc7,rfl,_⟩:=ax (by decide) (fun _ _=>fP) hv7
 simp +contextual only [go_sem,sevalprocAttr]
 refine aI (Qx ((hG.ext Ih).ext (dJ.trans (eP.trans qN))) (hl ▸ hv7) hw k0 k1 k2 hik ks D5 Z4 abP vo EI Vl hv ab2 abG hq AJ hww _) ?_
 rintro v M8 vz oD ⟨b,c,zv,rfl,hbz,hz⟩
 simp only [aJ,and_true] at oD
 simp +contextual only [go_sem,aD,sevalprocAttr,aC oD,hbz]
 exact al (ak (WV) ⟨zv,rfl,hz⟩)
variable {M:aS}
def CH (v:V):Prop:=1<=v.k/\v.k<=4
theorem MK {v:V}(h:eO v=0):CH v:=by
 unfold eO at h
 unfold CH
 split at h
 ·omega
 split at h
 ·omega
 split at h
 ·omega
 split at h
 ·omega
 ·cases h
theorem Em:∀ (s t:Bs),Op.bytesLess s t=decide (kA s t<0)
 | [],[]=>by simp [Op.bytesLess,kA,Lib.compareBytes]
 | [],_::_=>by simp [Op.bytesLess,kA,Lib.compareBytes]
 | _::_,[]=>by simp [Op.bytesLess,kA,Lib.compareBytes]
 | a::s,b::t=>by
  have ih:=Em s t
  unfold kA at ih ⊢
  rw [Op.bytesLess,Lib.compareBytes,ih]
  by_cases h1:a<b
  ·simp [h1]
  ·by_cases h2:b<a
   ·have:¬ a=b:=by rintro rfl;exact h1 h2
    simp [h1,h2,this]
   ·have:a=b:=UInt8.le_antisymm (UInt8.not_lt.1 h2) (UInt8.not_lt.1 h1)
    subst this
    simp [h1]
theorem qG:∀ (s:Bs),kA s s=0
 | []=>rfl
 | a::s=>by unfold kA Lib.compareBytes;have:=qG s;unfold kA at this;simp [this]
theorem Fo:∀ (s t:Bs),kA s t= -1\/kA s t=0\/kA s t=1
 | [],[]=> .inr (.inl rfl)
 | [],_::_=> .inl rfl
 | _::_,[]=> .inr (.inr rfl)
 | a::s,b::t=>by
  unfold kA
  rw [Lib.compareBytes]
  split
  ·exact .inl rfl
  split
  ·exact .inr (.inr rfl)
  ·exact Fo s t
set_option maxHeartbeats 2000000 in
theorem Ow (a b:V)(ha:CH a)(hb:CH b)(T:Tm):bV Tryz.prog 113 [.agg ⟨a.cs⟩,.agg ⟨b.cs⟩] T M [] [] (fun r _ _ _=>r=.int .i64 (pT a b)) aM:=by
 obtain ⟨S,hS⟩:∃ S,S=pT a b:=⟨_,rfl⟩
 rw [<- hS]
 obtain ⟨k,n,t⟩:=a
 obtain ⟨k2,n2,t2⟩:=b
 have hk:k=1\/k=2\/k=3\/k=4:=by unfold CH at ha;simp only at ha;omega
 have vk:∀ (k n:Int) (t:Bs),(bJ ⟨k,n,t⟩).k=k:=fun k n t=>by
  unfold bJ;simp only;split; · rename_i h;exact h.symm
  split<;>simp [*]
 unfold pT at hS
 rw [vk,vk] at hS
 by_cases aL:k<k2
 ·have hS:S= -1:=by rw [hS];unfold kM fW;rw [if_pos aL];rfl
  refine az CT rfl rfl ?_
  intro bi _
  simp +contextual only [go_sem,aD,sevalprocAttr,V.cs,aL]
  intro b1 T1 fx dh fT b2 T2 dN fh dy ei
  exact ak (dh.trans dy) (cN hS.symm)
 by_cases AC:k2<k
 ·have hS:S=1:=by rw [hS];unfold kM fW;rw [if_neg aL,if_pos AC];rfl
  refine az CT rfl rfl ?_
  intro bi _
  simp +contextual only [go_sem,aD,sevalprocAttr,V.cs,aL,AC]
  intro b1 T1 fx dh fT b2 T2 dN fh dy ei
  exact ak (dh.trans dy) (cN hS.symm)
 have:k2=k:=by omega
 subst this
 have hS:S=kM (fW (bJ ⟨k2,n,t⟩).n (bJ ⟨k2,n2,t2⟩).n) (kA (bJ ⟨k2,n,t⟩).t (bJ ⟨k2,n2,t2⟩).t):=by
  rw [hS];unfold kM fW;rw [if_neg aL,if_neg aL];rfl
 have num:k2=2\/k2=3 ->S=fW n n2:=by
  rintro (rfl | rfl)
  all_goals
   rw [hS]
   show kM (fW n n2) (kA [] [])=_
   rw [qG];unfold kM;split
   ·rfl
   ·rename_i h;omega
 rcases hk with rfl | rfl | rfl | rfl
 ·have hS:S=0:=by rw [hS];rfl
  refine az CT rfl rfl ?_
  intro bi _
  simp +contextual only [go_sem,aD,sevalprocAttr,V.cs]
  intro b1 T1 fx dh fT b2 T2 dN fh dy ei
  exact ak (dh.trans dy) (cN hS.symm)
 iterate 2
  have hS:=num (by decide)
  unfold fW at hS
  by_cases h1:n<n2
  ·rw [if_pos h1] at hS
   refine az CT rfl rfl ?_
   intro bi _
   simp +contextual only [go_sem,aD,sevalprocAttr,V.cs,h1]
   intro b1 T1 fx dh fT b2 T2 dN fh dy ei
   exact ak (dh.trans dy) (cN hS.symm)
  by_cases h2:n2<n
  ·rw [if_neg h1,if_pos h2] at hS
   refine az CT rfl rfl ?_
   intro bi _
   simp +contextual only [go_sem,aD,sevalprocAttr,V.cs,h1,h2]
   intro b1 T1 fx dh fT b2 T2 dN fh dy ei
   exact ak (dh.trans dy) (cN hS.symm)
  ·rw [if_neg h1,if_neg h2] at hS
   refine az CT rfl rfl ?_
   intro bi _
   simp +contextual only [go_sem,aD,sevalprocAttr,V.cs,h1,h2]
   intro b1 T1 fx dh fT b2 T2 dN fh dy ei
   exact ak (dh.trans dy) (cN hS.symm)
 ·have hS:S=kA t t2:=by
   rw [hS]
   show kM (fW 0 0) (kA t t2)=_
   rfl
  have hl:=Em t t2
  rcases Fo t t2 with h | h | h
  ·rw [h] at hl hS
   have hl:Op.bytesLess t t2=true:=hl
   refine az CT rfl rfl ?_
   intro bi _
   simp +contextual only [go_sem,aD,sevalprocAttr,V.cs,hl]
   intro b1 T1 fx dh fT b2 T2 dN fh dy ei
   exact ak (dh.trans dy) (cN hS.symm)
  ·have he:=C6 h
   subst he
   rw [h] at hl hS
   have hl:Op.bytesLess t t=false:=hl
   refine az CT rfl rfl ?_
   intro bi _
   simp +contextual only [go_sem,aD,sevalprocAttr,V.cs,hl]
   intro b1 T1 fx dh fT b2 T2 dN fh dy ei
   exact ak (dh.trans dy) (cN hS.symm)
  ·have he:¬ t=t2:=by
    rintro rfl
    rw [qG] at h;cases h
   rw [h] at hl hS
   have hl:Op.bytesLess t t2=false:=hl
   refine az CT rfl rfl ?_
   intro bi _
   have hb:(t==t2)=false:=by simp [he]
   simp +contextual only [go_sem,aD,sevalprocAttr,V.cs,hl,hb]
   intro b1 T1 fx dh fT b2 T2 dN fh dy ei
   exact ak (dh.trans dy) (cN hS.symm)
variable {M:aS}
theorem J9 (w:Int)(T:Tm):bV Tryz.prog 17 [.int .i64 w] T M [] [] (fun r _ _ _=>r=.bool (decide (w< -1000000) || decide (w>1000000))) aM:=by
 refine az F17 rfl rfl ?_
 intro bi _
 simp +contextual only [go_sem,sevalprocAttr]
 exact ak aF.rfl' (by simp)
theorem RK (v:V)(hv:CH v)(T:Tm):bV Tryz.prog 114 [.agg ⟨[.int .i64 v.k,.int .i64 v.n,st v.t]⟩] T M [] [] (fun r _ _ _=>r=.agg ⟨(bJ v).cs⟩) aM:=by
 obtain ⟨k,n,t⟩:=v
 have hk:k=1\/k=2\/k=3\/k=4:=by unfold CH at hv;simp only at hv;omega
 refine az akP rfl rfl ?_
 intro bi _
 rcases hk with rfl | rfl | rfl | rfl
 all_goals
  simp +contextual only [go_sem,aD,sevalprocAttr]
  intro b1 T1 fx dh fT b2 T2 dN fh dy ei b3 T3 ii df fV gD
  exact ak ((dh.trans dy).trans fV) rfl
theorem Yz {l:List V}{lv:Value}(h:RS M RV 3 l lv)(hl:l.length<=8)(hw:∀ v∈l,eO v=0)(T:Tm):bV Tryz.prog 16 [lv] T M [] [] (fun r _ _ _=>r=.int .i64 0) aM:=by
 obtain ⟨eZ,a,c,rfl,di,_,hg⟩:=ax (by decide) (fun _ _=>eM) h
 refine az F16 rfl rfl ?_
 intro bi _
 have h8:¬ ((l.length:Int)>8):=by omega
 simp +contextual only [go_sem,aD,sevalprocAttr,h8]
 refine aO l.length 11 [(9,.slice a l.length c),(10,.int .i64 (l.length:Int))] (fun i e h=>∃ N',aF T N'/\h=⟨N',M,[],[]⟩) 0 (by omega) (by simp only [aE,go_sem,sevalprocAttr]) (by simp only [go_sem,sevalprocAttr]) ⟨T,aF.rfl',rfl⟩ ?_
 rintro i e h hi aG ht ⟨N1,pw,rfl⟩
 simp only [aE] at aG
 by_cases aL:i<l.length
 ·obtain ⟨b',o',cs',rfl,bQ,dV⟩:=hg i l[i] (gq aL)
  unfold RV V.cs at dV
  subst dV
  obtain ⟨y0,y1,y2,_⟩:=bQ
  have HF:=hw _ (gm aL)
  simp +contextual only [go_sem,aD,sevalprocAttr,aG,ht,aL,y0,y1,y2]
  intro b4 T4 eN fG iI
  refine aP (AO l[i] _ _) ?_
  rw [HF]
  simp +contextual only [go_sem,aD,sevalprocAttr,ht]
  refine aR (bM (aB ⟨l.length - (i+1),by omega,rfl,i+1,by omega,rfl,?_,?_,T4,pw.trans fG,rfl⟩))
  ·simp only [aE,aG,go_sem,sevalprocAttr]
  ·simp only [go_sem,sevalprocAttr,aA i (by omega)]
 ·have:i=l.length:=by omega
  subst this
  simp +contextual only [go_sem,aD,sevalprocAttr,aG,ht,aL]
  exact ak pw rfl
theorem XD {l:List Z}{lv:Value}(h:RS M (RZ M) 2 l lv)(hl:l.length<=400)(hw:∀ z∈l,¬ (z.w< -1000000)/\¬ (z.w>1000000))(T:Tm):bV Tryz.prog 38 [lv] T M [] [] (fun r _ _ _=>r=.tuple ⟨[lv,.int .i64 0]⟩) aM:=by
 obtain ⟨eZ,a,c,rfl,di,_,hg⟩:=ax (by decide) (fun _ _=>br) h
 refine az F38 rfl rfl ?_
 intro bi _
 simp +contextual only [go_sem,aD,sevalprocAttr]
 refine aO l.length 8 [(0,.slice a l.length c),(6,.slice a l.length c),(7,.int .i64 (l.length:Int))] (fun i e h=>∃ N',aF T N'/\h=⟨N',M,[],[]⟩) 0 (by omega) (by simp only [aE,go_sem,sevalprocAttr]) (by simp only [go_sem,sevalprocAttr]) ⟨T,aF.rfl',rfl⟩ ?_
 rintro i e h hi aG ht ⟨N1,pw,rfl⟩
 simp only [aE] at aG
 by_cases aL:i<l.length
 ·obtain ⟨b',o',cs',rfl,bQ,v,mP,rfl⟩:=hg i l[i] (gq aL)
  obtain ⟨_,va,vc,rfl,_⟩:=ax (by decide) (fun _ _=>eM) mP
  obtain ⟨y0,y1,_⟩:=bQ
  obtain ⟨w1,w2⟩:=hw _ (gm aL)
  simp +contextual only [go_sem,aD,sevalprocAttr,aG,ht,aL,y0,y1]
  intro b5 T5 j6 lG oQ
  refine aP (J9 _ _) ?_
  simp +contextual only [go_sem,aD,sevalprocAttr,ht,w1,w2]
  refine aR (bM (aB ⟨l.length - (i+1),by omega,rfl,i+1,by omega,rfl,?_,?_,T5,pw.trans lG,rfl⟩))
  ·simp only [aE,aG,go_sem,sevalprocAttr]
  ·simp only [go_sem,sevalprocAttr,aA i (by omega)]
 ·have:i=l.length:=by omega
  subst this
  have h4:¬ ((l.length:Int)>400):=by omega
  simp +contextual only [go_sem,aD,sevalprocAttr,aG,ht,aL,h4]
  exact ak pw rfl
variable {M:aS}
theorem Et {a b:List V}{av bv:Value}(ha:RS M RV 3 a av)(hb:RS M RV 3 b bv)(oa:∀ v∈a,CH v)(ob:∀ v∈b,CH v)(T:Tm):bV Tryz.prog 63 [av,bv] T M [] [] (fun r _ _ _=>r=.int .i64 (bO a b)) aM:=by
 obtain ⟨eZ,a1,c1,rfl,di,_,hg⟩:=ax (by decide) (fun _ _=>eM) ha
 obtain ⟨Of,a2,c2,rfl,ph,_,xb⟩:=ax (by decide) (fun _ _=>eM) hb
 refine az F63 rfl rfl ?_
 intro bi _
 simp +contextual only [go_sem,aD,sevalprocAttr]
 refine aO a.length 5 [(0,.slice a1 a.length c1),(1,.slice a2 b.length c2)] (fun i e h=>h=⟨T,M,[],[]⟩/\i<=b.length/\bO (a.drop i) (b.drop i)=bO a b) 0 (by omega) (by simp only [aE,go_sem,sevalprocAttr]) (by simp only [go_sem,sevalprocAttr]) ⟨rfl,by omega,rfl⟩ ?_
 rintro i e h hi aG ht ⟨rfl,U8,am⟩
 simp only [aE] at aG
 by_cases aL:i<a.length
 ·obtain ⟨b1,o1,cs1,rfl,xO,Dj⟩:=hg i a[i] (gq aL)
  have hda:a.drop i=a[i]::a.drop (i+1):=dq aL
  unfold RV V.cs at Dj;subst Dj
  obtain ⟨y0,y1,y2,_⟩:=xO
  rw [hda] at am
  have hia:¬ (i:Int)=(a.length:Int):=by omega
  by_cases sq:i=b.length
  ·subst sq
   rw [List.drop_length,bO] at am
   simp +contextual only [go_sem,aD,sevalprocAttr,aG,ht,hia]
   exact ak aF.rfl' (cN am)
  ·have ZF:i<b.length:=by omega
   obtain ⟨b2,o2,cs2,rfl,oK,Ad⟩:=xb i b[i] (gq ZF)
   have hdb:b.drop i=b[i]::b.drop (i+1):=dq ZF
   unfold RV V.cs at Ad;subst Ad
   obtain ⟨z0,z1,z2,_⟩:=oK
   rw [hdb,bO] at am
   have ah6:¬ (i:Int)=(b.length:Int):=by omega
   simp +contextual only [go_sem,aD,sevalprocAttr,aG,ht,hia,ah6]
   refine aX ?_
   simp +contextual only [go_sem,sevalprocAttr,aG,ht,aL,ZF,y0,y1,y2,z0,z1,z2]
   refine aP (Ow a[i] b[i] (oa _ (gm aL)) (ob _ (gm ZF)) _) ?_
   by_cases h0:pT a[i] b[i]=0
   ·rw [h0] at am ⊢
    simp +contextual only [go_sem,aD,sevalprocAttr,ht]
    refine aR (aB ⟨a.length - (i+1),by omega,rfl,i+1,by omega,rfl,?_,?_,rfl,by omega,am⟩)
    ·simp only [aE,aG,go_sem,sevalprocAttr]
    ·simp only [go_sem,sevalprocAttr,aA i (by omega)]
   ·simp +contextual only [go_sem,aD,sevalprocAttr,h0]
    refine ak aF.rfl' (cN ?_)
    rw [<- am,kM,if_pos h0]
 ·have:i=a.length:=by omega
  subst this
  rw [List.drop_length] at am
  by_cases sq:a.length=b.length
  ·have WI:(a.length:Int)=(b.length:Int):=by omega
   rw [sq,List.drop_length] at am
   simp +contextual only [go_sem,aD,sevalprocAttr,aG,ht,WI]
   exact ak aF.rfl' (cN am)
  ·have WI:¬ (a.length:Int)=(b.length:Int):=by omega
   have hdb:b.drop a.length=b[a.length]'(by omega)::b.drop (a.length+1):=dq (by omega)
   rw [hdb] at am
   simp +contextual only [go_sem,aD,sevalprocAttr,aG,ht,WI]
   exact ak aF.rfl' (cN am)
def re (r:List V)(w:Int):List Z ->List Z
 | []=>if w=0 then [] else [⟨r.map bJ,w⟩]
 | x::B=>if bO x.row r=0 then (if IntKind.i64.wrap (w+x.w)=0 then B else ⟨r.map bJ,IntKind.i64.wrap (w+x.w)⟩::B) else if w=0 then x::B else ⟨r.map bJ,w⟩::x::B
def pC (r:List V)(w:Int):List Z ->List Z
 | []=>re r w []
 | x::z=>if bO x.row r<0 then x::pC r w z else re r w (x::z)
theorem C1 {r:List V}{w:Int}:∀ {z:List Z} {k:Nat},k<=z.length ->(∀ (j:Nat) (h:j<z.length),j<k ->bO z[j].row r<0) ->(∀ h:k<z.length,¬ bO z[k].row r<0) ->pC r w z=z.take k++re r w (z.drop k)
 | [],k,hk,_,_=>by simp [pC]
 | x::z,0,hk,_,h=>by rw [pC,if_neg (show ¬ bO x.row r<0 from h (by simp))];rfl
 | x::z,k+1,hk,h1,h2=>by
  rw [pC,if_pos (show bO x.row r<0 from h1 0 (by simp) (by omega)),C1 (k:=k) (by simpa using hk) (fun j h hj=>h1 (j+1) (by simpa using h) (by omega)) (fun h=>h2 (by simpa using h))]
  rfl
theorem yd {l:List V}{lv:Value}(h:RS M RV 3 l lv)(hl:l.length<=1000000)(ok:∀ v∈l,CH v)(T:Tm):bV Tryz.prog 64 [lv] T M [] [] (fun v M' _ _=>RS M' RV 3 (l.map bJ) v) aM:=by
 obtain ⟨eZ,a,c,rfl,di,_,hg⟩:=ax (by decide) (fun _ _=>eM) h
 refine az F64 rfl rfl ?_
 intro bi _
 simp +contextual only [go_sem,aD,sevalprocAttr]
 refine aO l.length 8 [(6,.slice a l.length c),(7,.int .i64 (l.length:Int))] (fun i e h=>∃ N' R' fv,aF T N'/\h=⟨N',M,[],R'⟩/\e 3=fv/\kT 28 3 RV [] R' fv ((l.take i).map bJ)) 0 (by omega) (by simp only [aE,go_sem,sevalprocAttr]) (by simp only [go_sem,sevalprocAttr]) ⟨T,_,_,aF.rfl',rfl,by simp only [go_sem,sevalprocAttr],cV⟩ ?_
 rintro i e h hi aG ht ⟨N',R',fv,jW,rfl,e3,bj⟩
 simp only [aE] at aG
 by_cases aL:i<l.length
 ·obtain ⟨b',o',cs',rfl,bQ,dV⟩:=hg i l[i] (gq aL)
  unfold RV V.cs at dV
  subst dV
  obtain ⟨y0,y1,y2,_⟩:=bQ
  have dY:(l.take i).map bJ++[bJ l[i]]=(l.take (i+1)).map bJ:=by
   rw [<- List.take_append_getElem aL,List.map_append];rfl
  simp +contextual only [go_sem,aD,sevalprocAttr,aG,ht,aL,y0,y1,y2]
  intro b5 T5 j6 lG oQ
  refine aP (RK l[i] (ok _ (gm aL)) _) ?_
  simp +contextual only [go_sem,sevalprocAttr,e3,V.cs]
  intro b20 sk gX
  refine cA (Tryz.underlying30) zG yP (x:=bJ l[i]) bj rfl (fun _ _ h=>by unfold RV at h;subst h;rfl) (xj (v:=bJ l[i]) rfl) sk (by rw [List.length_map,List.length_take];omega) (by decide) ?_
  intro fv' R2 bz
  rw [dY] at bz
  simp +contextual only [go_sem,sevalprocAttr,ht]
  refine aR (al (al (aB ⟨l.length - (i+1),by omega,rfl,i+1,by omega,rfl,?_,?_,T5,R2,fv',jW.trans lG,rfl,?_,bz⟩)))
  ·simp only [aE,aG,go_sem,sevalprocAttr]
  ·simp only [go_sem,sevalprocAttr,aA i (by omega)]
  ·simp only [go_sem,sevalprocAttr]
 ·have:i=l.length:=by omega
  subst this
  rw [List.take_length] at bj
  simp +contextual only [go_sem,aD,sevalprocAttr,aG,ht,aL,e3]
  exact cz bj (by rw [List.length_map];omega) (by decide) trivial fun M2 bh _ cG=>ak jW cG
def DD {α:Type}(el:TypeId)(sz:Nat)(r:α ->List Value ->Prop)(R0 R:RR)(fv:Value)(acc:List α):Prop:=
 (acc=[]/\R=R0/\(fv=.slice none 0 0\/∃ b,fv=.slice (some ⟨b,0,none⟩) 0 0))\/∃ a c xs,fv=.slice a acc.length c/\RL r acc xs/\R=(fv,el,sz,xs)::R0
section
variable {α:Type} {el:TypeId} {sz:Nat} {r:α ->List Value ->Prop} {R0 R:RR} {fv:Value} {acc:List α}
theorem gA (h:DD el sz r R0 R fv acc):∃ a c,fv=.slice a acc.length c:=by
 rcases h with ⟨rfl,_,rfl | ⟨b,rfl⟩⟩ | ⟨a,c,xs,rfl,_⟩<;>exact ⟨_,_,rfl⟩
theorem uA {r':α ->List Value ->Prop}(hr:∀ x cs,r x cs ->r' x cs)(h:DD el sz r R0 R fv acc):DD el sz r' R0 R fv acc:=by
 rcases h with h | ⟨a,c,xs,h1,h2,h3⟩
 ·exact .inl h
 ·exact .inr ⟨a,c,xs,h1,dl hr h2,h3⟩
theorem WR {M:aS}{b:Nat}:RS M r sz [] (.slice (some ⟨b,0,none⟩) 0 0):=⟨by simp,[],.inr ⟨b,0,0,0,rfl,Nat.le_refl _,by simp,trivial⟩,rfl⟩
theorem yp {P:Program}{F:Fi}{s:List Vc.Item}{e:dp}{ds:List Deferred}{dd:Option Nat}{T:Tm}{M:aS}{L:LL}{t:TypeId}{z:List Value}{b:Nat}{x:α}{cs:List Value}(hu:P.underlying t=some (.slice el))(bP:dR P t=some (el,sz,z))(cB:j8 P t=true)
 (h:DD el sz r R0 R fv acc) (hx:r x cs) (bq:∀ x cs,r x cs ->cs.length=sz) (dt:∀ u∈cs,u.oneCell'=true) (hb:M b=none) (hl:acc.length*sz+sz<=4398046511104) (dO:0<sz)
 (k:∀ fv' R',DD el sz r R0 R' fv' (acc++[x]) ->cy P F s (cI e dd fv') ds ⟨T,M,(b,cs)::L,R'⟩ ⟨⟩):nG P F t t fv (.slice (some ⟨b,0,none⟩) 1 1) dd s e ds ⟨T,M,(b,cs)::L,R⟩ ⟨⟩:=by
 have cM:=bq x cs hx
 rcases h with ⟨rfl,rfl,rfl | ⟨b2,rfl⟩⟩ | ⟨a,c,xs,rfl,h3,rfl⟩
 ·refine cA hu bP cB cV hx bq dt hb hl dO ?_
  rintro fv' R' (⟨h,_⟩ | h)
  ·simp at h
  ·exact k _ _ (.inr h)
 ·refine l4 (n:=0) (xs:=[]) bP cB (.slice _ 1 _ _ _ hu (cD [] hb trivial (by rw [cM,Nat.one_mul])) dt) (by rw [Nat.zero_mul];rfl) (by omega) (by simp only [List.length_nil] at hl ⊢;omega) ?_
  intro ra rm rc jc
  have hm1:rm=1:=by
   simp only [List.length_nil,Nat.zero_add] at jc
   rw [cM] at jc
   exact Nat.eq_of_mul_eq_mul_right dO (by omega)
  subst hm1
  exact k _ _ (.inr ⟨ra,rc,_,rfl,⟨cs,[],by simp,hx,rfl⟩,rfl⟩)
 ·refine cA hu bP cB (.inr ⟨a,c,xs,rfl,h3,rfl⟩) hx bq dt hb hl dO ?_
  rintro fv' R' (⟨h,_⟩ | h)
  ·simp at h
  ·exact k _ _ (.inr h)
theorem kI {N:Tm}{M:aS}{L:LL}{k:Sh ->Prop}(h:DD el sz r R0 R fv acc)(hb:acc.length*sz<=4398046511104)(dO:0<sz)(bi:aJ M L)(hk:∀ M',bm M M' ->aJ M' L ->RS M' r sz acc fv ->cq ⟨N,M',L,R0⟩ k):cq ⟨N,M,L,R⟩ k:=by
 rcases h with ⟨rfl,rfl,rfl | ⟨b,rfl⟩⟩ | ⟨a,c,xs,rfl,h3,rfl⟩
 ·exact hk M bm.rfl' bi bu
 ·exact hk M bm.rfl' bi WR
 ·exact cK (fun M' hM ui iG=>hk M' hM ui ⟨hb,xs,iG,h3⟩) dO
end
variable {M:aS}
theorem jM {α:Type}{el:TypeId}{sz:Nat}{r:α ->List Value ->Prop}{R0 R:RR}{fv:Value}{acc l:List α}{P:Program}{F:Fi}{s:List Vc.Item}{e:dp}{ds:List Deferred}{dd:Option Nat}{T:Tm}{L:LL}{t:TypeId}{z ys:List Value}{y:Value}(bP:dR P t=some (el,sz,z))(cB:j8 P t=true)
 (h:DD el sz r R0 R fv acc) (AA:RL r l ys) (hs:∀ R,Srcs P t sz ⟨T,M,L,R⟩ y ys) (bq:∀ x cs,r x cs ->cs.length=sz) (hl:acc.length*sz+l.length*sz<=4398046511104) (dO:0<sz)
 (k:∀ fv' R',DD el sz r R0 R' fv' (acc++l) ->cy P F s (cI e dd fv') ds ⟨T,M,L,R'⟩ ⟨⟩):nG P F t t fv y dd s e ds ⟨T,M,L,R⟩ ⟨⟩:=by
 have J1:=eL bq AA
 have conv:∀ {fv' R'},kT el sz r R0 R' fv' (acc++l) ->DD el sz r R0 R' fv' (acc++l):=by
  rintro fv' R' (⟨h1,h2,h3⟩ | h)
  ·exact .inl ⟨h1,h3,.inl h2⟩
  ·exact .inr h
 rcases h with ⟨rfl,rfl,rfl | ⟨b,rfl⟩⟩ | ⟨a,c,xs,h1,h2,h3⟩
 ·exact pU bP cB cV AA hs bq hl dO fun fv' R' h'=>k fv' R' (conv h')
 ·by_cases hz:l=[]
  ·subst hz
   have:ys=[]:=List.length_eq_zero_iff.1 (by rw [J1];simp)
   subst this
   exact wj bP cB (hs _) (Nat.le_refl _) (k _ _ (.inl ⟨rfl,rfl,.inr ⟨b,rfl⟩⟩))
  ·have hlp:0<l.length:=List.length_pos_iff.2 hz
   have hyp:0<ys.length:=by rw [J1];exact Nat.mul_pos hlp dO
   refine l4 (n:=0) (xs:=[]) bP cB (hs _) (by rw [Nat.zero_mul];rfl) hyp (by simp only [List.length_nil] at hl ⊢;omega) ?_
   intro ra rm rc jc
   have:rm=l.length:=by
    rw [J1] at jc
    refine Nat.eq_of_mul_eq_mul_right dO ?_
    simpa using jc
   subst this
   refine k _ _ (.inr ⟨ra,rc,ys,?_,by simpa using AA,?_⟩)
   ·simp
   ·simp
 ·exact pU bP cB (.inr ⟨a,c,xs,h1,h2,h3⟩) AA hs bq hl dO fun fv' R' h'=>k fv' R' (conv h')
set_option maxHeartbeats 2000000 in
theorem X2 {z:List Z}{r:List V}{zv rv:Value}{w:Int}(hz:RS M (RZ M) 2 z zv)(hr:RS M RV 3 r rv)(hl:z.length<=1000000)(wJ:r.length<=1000000)(oz:∀ x∈z,∀ v∈x.row,CH v)(ok:∀ v∈r,CH v)(T:Tm):bV Tryz.prog 37 [zv,rv,.int .i64 w] T M [] [] (fun v M' _ _=>RS M' (RZ M') 2 (pC r w z) v) aM:=by
 have xx:=hz
 have rL:=hr
 obtain ⟨eZ,a,c,rfl,di,zw,hg⟩:=ax (by decide) (fun _ _=>br) hz
 obtain ⟨_,ra,rc,rfl,_⟩:=ax (by decide) (fun _ _=>eM) hr
 refine az F37 rfl rfl ?_
 intro bi _
 simp +contextual only [go_sem,aD,sevalprocAttr]
 refine aO z.length 7 [(0,.slice a z.length c),(1,.slice ra r.length rc),(2,.int .i64 w)] (fun i e h=>h=⟨T,M,[],[]⟩/\∀ (j:Nat) (h:j<z.length),j<i ->bO z[j].row r<0) 0 (by omega) (by simp only [aE,go_sem,sevalprocAttr]) (by simp only [go_sem,sevalprocAttr]) ⟨rfl,fun j h hj=>by omega⟩ ?_
 rintro i e h hi aG ht ⟨rfl,Al⟩
 simp only [aE] at aG
 have hic:i<=c:=by omega
 have tX:=ED (by decide) (fun _ _=>br) xx hi
 obtain ⟨ys,J1,AA,Aw⟩:=jn (P:=Tryz.prog) Tryz.underlying33 (fun _ _=>br) (fun _ _ h=>iw h) tX
 by_cases aL:i<z.length
 ·obtain ⟨b',o',cs',rfl,bQ,v,mP,rfl⟩:=hg i z[i] (gq aL)
  obtain ⟨_,va,vc,rfl,_⟩:=ax (by decide) (fun _ _=>eM) mP
  obtain ⟨y0,y1,_⟩:=bQ
  simp +contextual only [go_sem,sevalprocAttr,aG,ht,aL,y0]
  refine aP (Et mP rL (oz _ (gm aL)) ok _) ?_
  by_cases h0:bO z[i].row r<0
  ·simp +contextual only [go_sem,aD,sevalprocAttr,ht,h0]
   refine ce aL ?_ ?_ ⟨rfl,?_⟩
   ·simp only [aE,aG,go_sem,sevalprocAttr]
   ·simp only [go_sem,sevalprocAttr,aA i (by omega)]
   ·intro j h hj
    by_cases xi:j=i
    ·subst xi;exact h0
    ·exact Al j h (by omega)
  ·simp +contextual only [go_sem,aD,sevalprocAttr,aG,ht,h0]
   intro b25 ajA
   rw [if_pos hic,Jx]
   simp +contextual only [go_sem,sevalprocAttr]
   refine jM je iY (R0:=[]) (acc:=[]) (.inl ⟨rfl,rfl,.inr ⟨b25,rfl⟩⟩) AA (fun _=>Aw _ _ _) (fun _ _=>br) (by rw [List.length_take];simp only [List.length_nil];omega) (by decide) ?_
   intro fv R1 bj
   rw [List.nil_append] at bj
   obtain ⟨fa,fc,rfl⟩:=gA bj
   simp +contextual only [go_sem,sevalprocAttr,aG,ht,aL,y0]
   refine aP (Et mP rL (oz _ (gm aL)) ok _) ?_
   have pK:=C1 (r:=r) (w:=w) hi Al (fun _=>h0)
   have BQ:z.drop i=z[i]::z.drop (i+1):=dq aL
   rw [BQ,re] at pK
   have hwk:IntKind.i64.wrap ((i:Int)+1)=((i+1:Nat):Int):=aA i (by omega)
   by_cases h1:bO z[i].row r=0
   ·rw [if_pos h1] at pK
    simp +contextual only [go_sem,aD,sevalprocAttr,aG,ht,aL,h1,y1]
    by_cases h2:IntKind.i64.wrap (w+z[i].w)=0
    ·rw [if_pos h2] at pK ⊢
     rw [hwk,Int.toNat_natCast,if_pos (show (0:Int)<=((i+1:Nat):Int)/\((i+1:Nat):Int)<=(z.length:Int)/\z.length<=c from ⟨by omega,by omega,di⟩)]
     obtain ⟨zs,qh,xg,NW⟩:=jn (P:=Tryz.prog) Tryz.underlying33 (fun _ _=>br) (fun _ _ h=>iw h) (nh (by decide) (fun _ _=>br) xx (show i+1<=z.length by omega))
     simp +contextual only [go_sem,sevalprocAttr]
     refine jM je iY bj xg (fun _=>NW _ _ _) (fun _ _=>br) (by simp only [List.length_take,List.length_drop];omega) (by decide) ?_
     intro fv2 R2 ek
     obtain ⟨ga,gc,rfl⟩:=gA ek
     simp +contextual only [go_sem,sevalprocAttr]
     refine bM (kI ek (by simp only [List.length_append,List.length_take,List.length_drop];omega) (by decide) trivial fun M3 bE _ cG=>ak aF.rfl' ?_)
     rw [pK];exact aH bm.rfl' (fJ bE) cG
    ·rw [if_neg h2] at pK ⊢
     refine aI (yd rL wJ ok _) ?_
     rintro v M2 bh aZ hv
     obtain ⟨_,va2,vc2,rfl,_⟩:=ax (by decide) (fun _ _=>eM) hv
     simp +contextual only [go_sem,sevalprocAttr]
     intro b60 JC KE
     refine yp (Tryz.underlying33) je iY (x:=(⟨r.map bJ,IntKind.i64.wrap (w+z[i].w)⟩:Z)) (uA (fJ bh) bj) ⟨_,hv,rfl⟩ (fun _ _=>br) (by simp [Value.oneCell']) JC (by rw [List.length_take];omega) (by decide) ?_
     intro fv1 R3 vM
     obtain ⟨Ph,Vl,rfl⟩:=gA vM
     simp +contextual only [go_sem,sevalprocAttr,aG]
     rw [hwk,Int.toNat_natCast,if_pos (show (0:Int)<=((i+1:Nat):Int)/\((i+1:Nat):Int)<=(z.length:Int)/\z.length<=c from ⟨by omega,by omega,di⟩)]
     obtain ⟨zs,qh,xg,NW⟩:=jn (P:=Tryz.prog) Tryz.underlying33 (fun _ _=>br) (fun _ _ h=>iw h) (cR bh<| nh (by decide) (fun _ _=>br) xx (show i+1<=z.length by omega))
     simp +contextual only [go_sem,sevalprocAttr]
     refine jM je iY vM xg (fun _=>NW _ _ _) (fun _ _=>br) (by simp only [List.length_append,List.length_take,List.length_drop,ln];omega) (by decide) ?_
     intro fv2 R2 ek
     obtain ⟨ga,gc,rfl⟩:=gA ek
     simp +contextual only [go_sem,sevalprocAttr]
     refine bM (kI ek (by simp only [List.length_append,List.length_take,List.length_drop,ln];omega) (by decide) trivial fun M3 bE _ cG=>ak aF.rfl' ?_)
     rw [pK];simpa using aH bm.rfl' (fJ bE) cG
   ·rw [if_neg h1] at pK
    by_cases h2:w=0
    ·rw [if_pos h2,<- BQ] at pK
     simp +contextual only [go_sem,aD,sevalprocAttr,aG,ht,h1,h2]
     rw [if_pos (show i<=z.length/\z.length<=c from ⟨by omega,di⟩)]
     obtain ⟨zs,qh,xg,NW⟩:=jn (P:=Tryz.prog) Tryz.underlying33 (fun _ _=>br) (fun _ _ h=>iw h) (nh (by decide) (fun _ _=>br) xx (show i<=z.length by omega))
     simp +contextual only [go_sem,sevalprocAttr]
     refine jM je iY bj xg (fun _=>NW _ _ _) (fun _ _=>br) (by simp only [List.length_take,List.length_drop];omega) (by decide) ?_
     intro fv2 R2 ek
     obtain ⟨ga,gc,rfl⟩:=gA ek
     simp +contextual only [go_sem,sevalprocAttr]
     refine bM (kI ek (by simp only [List.length_append,List.length_take,List.length_drop];omega) (by decide) trivial fun M3 bE _ cG=>ak aF.rfl' ?_)
     rw [pK];exact aH bm.rfl' (fJ bE) cG
    ·rw [if_neg h2,<- BQ] at pK
     simp +contextual only [go_sem,aD,sevalprocAttr,aG,h1,h2]
     refine aI (yd rL wJ ok _) ?_
     rintro v M2 bh aZ hv
     obtain ⟨_,va2,vc2,rfl,_⟩:=ax (by decide) (fun _ _=>eM) hv
     simp +contextual only [go_sem,sevalprocAttr,aG]
     intro b60 JC KE
     refine yp (Tryz.underlying33) je iY (x:=(⟨r.map bJ,w⟩:Z)) (uA (fJ bh) bj) ⟨_,hv,rfl⟩ (fun _ _=>br) (by simp [Value.oneCell']) JC (by rw [List.length_take];omega) (by decide) ?_
     intro fv1 R3 vM
     obtain ⟨Ph,Vl,rfl⟩:=gA vM
     simp +contextual only [go_sem,sevalprocAttr,aG,ht]
     rw [if_pos (show i<=z.length/\z.length<=c from ⟨by omega,di⟩)]
     obtain ⟨zs,qh,xg,NW⟩:=jn (P:=Tryz.prog) Tryz.underlying33 (fun _ _=>br) (fun _ _ h=>iw h) (cR bh<| nh (by decide) (fun _ _=>br) xx (show i<=z.length by omega))
     simp +contextual only [go_sem,sevalprocAttr]
     refine jM je iY vM xg (fun _=>NW _ _ _) (fun _ _=>br) (by simp only [List.length_append,List.length_take,List.length_drop,ln];omega) (by decide) ?_
     intro fv2 R2 ek
     obtain ⟨ga,gc,rfl⟩:=gA ek
     simp +contextual only [go_sem,sevalprocAttr]
     refine bM (kI ek (by simp only [List.length_append,List.length_take,List.length_drop,ln];omega) (by decide) trivial fun M3 bE _ cG=>ak aF.rfl' ?_)
     rw [pK];simpa using aH bm.rfl' (fJ bE) cG
 ·have:i=z.length:=by omega
  subst this
  have pK:=C1 (r:=r) (w:=w) hi Al (fun h=>absurd h (by omega))
  rw [List.drop_length,re] at pK
  simp +contextual only [go_sem,aD,sevalprocAttr,aG,ht,aL]
  intro b25 ajA
  rw [if_pos hic,Jx]
  simp +contextual only [go_sem,sevalprocAttr]
  refine jM je iY (R0:=[]) (acc:=[]) (.inl ⟨rfl,rfl,.inr ⟨b25,rfl⟩⟩) AA (fun _=>Aw _ _ _) (fun _ _=>br) (by rw [List.length_take];simp only [List.length_nil];omega) (by decide) ?_
  intro fv R1 bj
  rw [List.nil_append] at bj
  obtain ⟨fa,fc,rfl⟩:=gA bj
  have xu:z.drop z.length=[]:=List.drop_length
  by_cases h2:w=0
  ·rw [if_pos h2] at pK
   simp +contextual only [go_sem,aD,sevalprocAttr,aG,ht,aL,h2]
   rw [if_pos di]
   obtain ⟨zs,qh,xg,NW⟩:=jn (P:=Tryz.prog) Tryz.underlying33 (fun _ _=>br) (fun _ _ h=>iw h) (nh (by decide) (fun _ _=>br) xx (show z.length<=z.length by omega))
   simp +contextual only [go_sem,sevalprocAttr]
   refine jM je iY bj xg (fun _=>NW _ _ _) (fun _ _=>br) (by simp only [List.length_take,List.length_drop];omega) (by decide) ?_
   intro fv2 R2 ek
   obtain ⟨ga,gc,rfl⟩:=gA ek
   simp +contextual only [go_sem,sevalprocAttr]
   refine bM (kI ek (by simp only [List.length_append,List.length_take,List.length_drop];omega) (by decide) trivial fun M3 bE _ cG=>ak aF.rfl' ?_)
   rw [pK];simpa using aH bm.rfl' (fJ bE) cG
  ·rw [if_neg h2] at pK
   simp +contextual only [go_sem,aD,sevalprocAttr,aG,ht,aL,h2]
   refine aI (yd rL wJ ok _) ?_
   rintro v M2 bh aZ hv
   obtain ⟨_,va2,vc2,rfl,_⟩:=ax (by decide) (fun _ _=>eM) hv
   simp +contextual only [go_sem,sevalprocAttr,aG]
   intro b60 JC KE
   refine yp (Tryz.underlying33) je iY (x:=(⟨r.map bJ,w⟩:Z)) (uA (fJ bh) bj) ⟨_,hv,rfl⟩ (fun _ _=>br) (by simp [Value.oneCell']) JC (by rw [List.length_take];omega) (by decide) ?_
   intro fv1 R3 vM
   obtain ⟨Ph,Vl,rfl⟩:=gA vM
   simp +contextual only [go_sem,sevalprocAttr,aG,ht]
   rw [if_pos di]
   obtain ⟨zs,qh,xg,NW⟩:=jn (P:=Tryz.prog) Tryz.underlying33 (fun _ _=>br) (fun _ _ h=>iw h) (cR bh<| nh (by decide) (fun _ _=>br) xx (show z.length<=z.length by omega))
   simp +contextual only [go_sem,sevalprocAttr]
   refine jM je iY vM xg (fun _=>NW _ _ _) (fun _ _=>br) (by simp only [List.length_append,List.length_take,List.length_drop,ln];omega) (by decide) ?_
   intro fv2 R2 ek
   obtain ⟨ga,gc,rfl⟩:=gA ek
   simp +contextual only [go_sem,sevalprocAttr]
   refine bM (kI ek (by simp only [List.length_append,List.length_take,List.length_drop,ln];omega) (by decide) trivial fun M3 bE _ cG=>ak aF.rfl' ?_)
   rw [pK];simpa using aH bm.rfl' (fJ bE) cG
variable {M:aS}
def nZ (l:List Z):List Z:=l.foldl (fun z x=>pC x.row x.w z) []
theorem uN (l:List Z)(x:Z):nZ (l++[x])=pC x.row x.w (nZ l):=by simp [nZ,List.foldl_append]
theorem Yx {v:V}(h:CH v):CH (bJ v):=by
 unfold CH bJ at*
 split
 ·exact ⟨Int.le_refl 1,by show (1:Int)<=4;decide⟩
 split
 ·exact ⟨by show (1:Int)<=4;decide,Int.le_refl 4⟩
 ·exact h
theorem Fg {r:List V}{w:Int}:∀ {z:List Z} {y:Z},y∈re r w z ->y∈z\/y.row=r.map bJ
 | [],y,h=>by
  rw [re] at h
  split at h
  ·cases h
  ·simp at h;subst h;exact .inr rfl
 | x::B,y,h=>by
  rw [re] at h
  split at h
  ·split at h
   ·exact .inl (by simp [h])
   ·rcases mY h with rfl | h
    ·exact .inr rfl
    ·exact .inl (by simp [h])
  ·split at h
   ·exact .inl h
   ·rcases mY h with rfl | h
    ·exact .inr rfl
    ·exact .inl h
theorem yI {r:List V}{w:Int}:∀ {z:List Z} {y:Z},y∈pC r w z ->y∈z\/y.row=r.map bJ
 | [],y,h=>Fg h
 | x::z,y,h=>by
  rw [pC] at h
  split at h
  ·rcases mY h with rfl | h
   ·exact .inl (by simp)
   ·exact (yI h).imp (fun h=>by simp [h]) id
  ·exact Fg h
theorem He (r:List V)(w:Int):∀ (z:List Z),(re r w z).length<=z.length+1
 | []=>by rw [re];split<;>simp
 | x::B=>by rw [re];split<;>split<;>simp only [List.length_cons]<;>omega
theorem Eb (r:List V)(w:Int):∀ (z:List Z),(pC r w z).length<=z.length+1
 | []=>He r w []
 | x::z=>by
  rw [pC]
  split
  ·have:=Eb r w z;simp;omega
  ·exact He r w (x::z)
theorem BY:∀ (n:Nat) (l:List Z),l.length=n ->(∀ z∈l,∀ v∈z.row,CH v) ->(nZ l).length<=n/\∀ z∈nZ l,∀ v∈z.row,CH v
 | 0,l,h,_=>by rw [List.length_eq_zero_iff.1 h];exact ⟨Nat.le_refl _,fun z hz=>by cases hz⟩
 | n+1,l,h,ok=>by
  obtain ⟨l',x,rfl⟩:∃ l' x,l=l'++[x]:=by
   rcases List.eq_nil_or_concat l with h0 | ⟨l',x,h0⟩
   ·subst h0;simp at h
   ·exact ⟨l',x,by simpa using h0⟩
  obtain ⟨h1,h2⟩:=BY n l' (by simpa using h) (fun z hz=>ok z (by simp [hz]))
  rw [uN]
  refine ⟨Nat.le_trans (Eb _ _ _) (by omega),fun z hz v hv=> ?_⟩
  rcases yI hz with h3 | h3
  ·exact h2 z h3 v hv
  ·rw [h3] at hv
   obtain ⟨u,hu,rfl⟩:=List.mem_map.1 hv
   exact Yx (ok x (by simp) u hu)
theorem Yj {l:List Z}{lv:Value}(h:RS M (RZ M) 2 l lv)(hl:l.length<=400)(ok:∀ z∈l,∀ v∈z.row,CH v)(wJ:∀ z∈l,z.row.length<=1000000)(hw:∀ z∈nZ l,¬ (z.w< -1000000)/\¬ (z.w>1000000))(T:Tm):bV Tryz.prog 18 [lv] T M [] [] (fun r M' _ _=>∃ v,r=.tuple ⟨[v,.int .i64 0]⟩/\RS M' (RZ M') 2 (nZ l) v) aM:=by
 obtain ⟨eZ,a,c,rfl,di,_,hg⟩:=ax (by decide) (fun _ _=>br) h
 have Bf:∀ i,(nZ (l.take i)).length<=400/\∀ z∈nZ (l.take i),∀ v∈z.row,CH v:=fun i=>by
  obtain ⟨h1,h2⟩:=BY _ (l.take i) rfl (fun z hz=>ok z (List.mem_of_mem_take hz))
  exact ⟨Nat.le_trans h1 (by rw [List.length_take];omega),h2⟩
 refine az F18 rfl rfl ?_
 intro bi _
 simp +contextual only [go_sem,aD,sevalprocAttr]
 refine aO l.length 9 [(7,.slice a l.length c),(8,.int .i64 (l.length:Int))] (fun i e h=>∃ N' M' zv,aF T N'/\bm M M'/\h=⟨N',M',[],[]⟩/\e 4=zv/\RS M' (RZ M') 2 (nZ (l.take i)) zv) 0 (by omega) (by simp only [aE,go_sem,sevalprocAttr]) (by simp only [go_sem,sevalprocAttr]) ⟨T,M,_,aF.rfl',bm.rfl',rfl,by simp only [go_sem,sevalprocAttr],bu⟩ ?_
 rintro i e h hi aG ht ⟨N1,M1,zv,pw,aV,rfl,e4,hz⟩
 simp only [aE] at aG
 by_cases aL:i<l.length
 ·obtain ⟨b',o',cs',rfl,bQ,v,mP,rfl⟩:=hg i l[i] (gq aL)
  obtain ⟨_,va,vc,rfl,_⟩:=ax (by decide) (fun _ _=>eM) mP
  obtain ⟨y0,y1,_⟩:=bQ.ext aV
  have dY:pC l[i].row l[i].w (nZ (l.take i))=nZ (l.take (i+1)):=by
   rw [<- uN,List.take_append_getElem aL]
  simp +contextual only [go_sem,aD,sevalprocAttr,aG,ht,aL,y0,y1]
  intro b6 T6 pt um CO
  rw [e4]
  refine aI (X2 hz (aH aV (fun _ _ h=>h) mP) (Nat.le_trans (Bf i).1 (by decide)) (wJ _ (gm aL)) (Bf i).2 (ok _ (gm aL)) _) ?_
  rintro v2 M2 bh aZ sj
  rw [dY] at sj
  simp +contextual only [go_sem,sevalprocAttr,ht]
  refine aR (bM (aB ⟨l.length - (i+1),by omega,rfl,i+1,by omega,rfl,?_,?_,T6,M2,v2,pw.trans um,aV.trans bh,rfl,?_,sj⟩))
  ·simp only [aE,aG,go_sem,sevalprocAttr]
  ·simp only [go_sem,sevalprocAttr,aA i (by omega)]
  ·simp only [go_sem,sevalprocAttr]
 ·have:i=l.length:=by omega
  subst this
  have U9:=Bf l.length
  rw [List.take_length] at hz U9
  simp +contextual only [go_sem,aD,sevalprocAttr,aG,ht,aL,e4]
  refine aP (XD hz U9.1 hw _) ?_
  simp +contextual only [go_sem,sevalprocAttr]
  exact ak pw ⟨zv,rfl,hz⟩
theorem acx {l:List Z}{lv:Value}(h:RS M (RZ M) 2 l lv)(hl:l.length<=400)(bP:∀ z∈l,z.row.length<=8/\∀ v∈z.row,eO v=0)(hb:∀ z∈l,¬ (z.w< -1000000)/\¬ (z.w>1000000))(hw:∀ z∈nZ l,¬ (z.w< -1000000)/\¬ (z.w>1000000))(T:Tm):bV Tryz.prog 9 [lv] T M [] [] (fun r M' _ _=>∃ v,r=.tuple ⟨[v,.int .i64 0]⟩/\RS M' (RZ M') 2 (nZ l) v) aM:=by
 have h0:=h
 obtain ⟨eZ,a,c,rfl,di,_,hg⟩:=ax (by decide) (fun _ _=>br) h
 have xy:¬ ((l.length:Int)>1600):=by omega
 refine az F9 rfl rfl ?_
 intro bi _
 simp +contextual only [go_sem,aD,sevalprocAttr,xy]
 refine aO l.length 12 [(0,.slice a l.length c),(10,.slice a l.length c),(11,.int .i64 (l.length:Int))] (fun i e h=>∃ N',aF T N'/\h=⟨N',M,[],[]⟩) 0 (by omega) (by simp only [aE,go_sem,sevalprocAttr]) (by simp only [go_sem,sevalprocAttr]) ⟨T,aF.rfl',rfl⟩ ?_
 rintro i e h hi aG ht ⟨N1,pw,rfl⟩
 simp only [aE] at aG
 by_cases aL:i<l.length
 ·obtain ⟨b',o',cs',rfl,bQ,v,mP,rfl⟩:=hg i l[i] (gq aL)
  obtain ⟨_,va,vc,rfl,_⟩:=ax (by decide) (fun _ _=>eM) mP
  obtain ⟨y0,y1,_⟩:=bQ
  obtain ⟨r1,r2⟩:=bP _ (gm aL)
  obtain ⟨w1,w2⟩:=hb _ (gm aL)
  simp +contextual only [go_sem,aD,sevalprocAttr,aG,ht,aL,y0,y1]
  intro b5 T5 j6 lG oQ
  refine aP (Yz mP r1 r2 _) ?_
  simp +contextual only [go_sem,aD,sevalprocAttr,aC j6]
  refine aP (J9 _ _) ?_
  simp +contextual only [go_sem,aD,sevalprocAttr,ht,w1,w2]
  refine aR (bM (aB ⟨l.length - (i+1),by omega,rfl,i+1,by omega,rfl,?_,?_,T5,pw.trans lG,rfl⟩))
  ·simp only [aE,aG,go_sem,sevalprocAttr]
  ·simp only [go_sem,sevalprocAttr,aA i (by omega)]
 ·have:i=l.length:=by omega
  subst this
  simp +contextual only [go_sem,aD,sevalprocAttr,aG,ht,aL]
  refine aI (Yj h0 hl (fun z hz v hv=>MK ((bP z hz).2 v hv)) (fun z hz=>Nat.le_trans (bP z hz).1 (by decide)) hw _) ?_
  rintro v M2 bh aZ ⟨sv,rfl,hs⟩
  simp +contextual only [go_sem,sevalprocAttr]
  exact ak pw ⟨sv,rfl,hs⟩
variable {M:aS}
def abC (name:Bs)(sales people:List (List Int))(out:List Z):Prop:=∀ (M:aS) (lv pv:Value),eQ M ->RS M (ms M) 1 sales lv ->RS M (ms M) 1 people pv ->∀ T,bV Tryz.prog 8 [st name,lv,pv] T M [] [] (fun v M' _ _=>∃ zv,v=.tuple ⟨[zv,.int .i64 0]⟩/\RS M' (RZ M') 2 out zv) aM
def qx (r:List V):Z:=⟨r,1⟩
theorem Gf {name:Bs}{sales people:List (List Int)}{out:List Z}{ew:List (List V)}{lv pv wv:Value}(hA:abC name sales people out)(hG:eQ M)(hs:RS M (ms M) 1 sales lv)(hp:RS M (ms M) 1 people pv)(hw:RS M (Hv M) 1 ew wv)
 (hl:ew.length<=400) (bP:∀ r∈ew,r.length<=8/\∀ v∈r,eO v=0) (Wk:∀ z∈out,¬ (z.w< -1000000)/\¬ (z.w>1000000)) (ho:nZ (ew.map qx)=out) (T:Tm):
 bV Tryz.prog 7 [st name,lv,pv,wv] T M [] [] (fun v _ _ _=>v=.bool true) aM:=by
 obtain ⟨_,la,lc,rfl,_⟩:=ax (by decide) (fun _ _=>dE) hs
 obtain ⟨_,pa,pc,rfl,_⟩:=ax (by decide) (fun _ _=>dE) hp
 obtain ⟨eZ,a,c,rfl,di,_,hg⟩:=ax (by decide) (fun _ _=>mF) hw
 refine az F7 rfl rfl ?_
 intro bi _
 simp +contextual only [go_sem,sevalprocAttr]
 refine aI (hA M _ _ hG hs hp _) ?_
 rintro v M1 aV bG ⟨zv,rfl,hz⟩
 obtain ⟨_,za,zc,rfl,_⟩:=ax (by decide) (fun _ _=>br) hz
 simp +contextual only [go_sem,aD,sevalprocAttr]
 refine aO ew.length 25 [(9,.slice za out.length zc),(10,.int .i64 0),(23,.slice a ew.length c),(24,.int .i64 (ew.length:Int))] (fun i e h=>∃ N' R' fv,aF T N'/\h=⟨N',M1,[],R'⟩/\e 11=fv/\kT 38 2 (RZ M1) [] R' fv ((ew.take i).map qx)) 0 (by omega) (by simp only [aE,go_sem,sevalprocAttr]) (by simp only [go_sem,sevalprocAttr]) ⟨T,_,_,aF.rfl',rfl,by simp only [go_sem,sevalprocAttr],cV⟩ ?_
 rintro i e h hi aG ht ⟨N',R',fv,jW,rfl,e3,bj⟩
 simp only [aE] at aG
 by_cases aL:i<ew.length
 ·obtain ⟨b',o',cs',rfl,bQ,rv,dV,rfl⟩:=hg i ew[i] (gq aL)
  obtain ⟨_,ra,rc,rfl,_⟩:=ax (by decide) (fun _ _=>eM) dV
  have y0:=(bQ.ext aV).1
  rw [Nat.mul_one] at y0
  have dY:(ew.take i).map qx++[qx ew[i]]=(ew.take (i+1)).map qx:=by
   rw [<- List.take_append_getElem aL,List.map_append];rfl
  simp +contextual only [go_sem,aD,sevalprocAttr,aG,ht,aL,y0,e3]
  intro b20 sk
  refine cA (Tryz.underlying33) je iY (x:=qx ew[i]) bj ⟨_,aH aV (fun _ _ h=>h) dV,rfl⟩ (fun _ _=>br) (by simp [Value.oneCell']) sk (by rw [List.length_map,List.length_take];omega) (by decide) ?_
  intro fv' R2 bz
  rw [dY] at bz
  simp +contextual only [go_sem,sevalprocAttr,ht]
  refine aR (al (aB ⟨ew.length - (i+1),by omega,rfl,i+1,by omega,rfl,?_,?_,N',R2,fv',jW,rfl,?_,bz⟩))
  ·simp only [aE,aG,go_sem,sevalprocAttr]
  ·simp only [go_sem,sevalprocAttr,aA i (by omega)]
  ·simp only [go_sem,sevalprocAttr]
 ·have:i=ew.length:=by omega
  subst this
  rw [List.take_length] at bj
  obtain ⟨fa,fc,rfl⟩:=eI bj
  simp +contextual only [go_sem,aD,sevalprocAttr,aG,ht,aL,e3]
  refine cL (k:=fun h'=>∃ M2,bm M1 M2/\RS M2 (RZ M2) 2 (ew.map qx) (.slice fa (ew.map qx).length fc)/\h'=⟨N',M2,[],[]⟩) (cz bj (by rw [List.length_map];omega) (by decide) trivial fun M2 bh _ cG=>aB ⟨M2,bh,aH bm.rfl' (fJ bh) cG,rfl⟩) ?_ F9.bd
  rintro h' ⟨M2,bh,cG,rfl⟩
  refine aI (acx cG (by rw [List.length_map];exact hl) ?_ ?_ (by rw [ho];exact Wk) _) ?_
  ·intro z hz
   obtain ⟨r,hr,rfl⟩:=List.mem_map.1 hz
   exact bP r hr
  ·intro z hz
   obtain ⟨r,hr,rfl⟩:=List.mem_map.1 hz
   unfold qx;simp
  rintro v M3 bE bB ⟨sv,rfl,sV⟩
  rw [ho] at sV
  obtain ⟨_,sa,sc,rfl,_⟩:=ax (by decide) (fun _ _=>br) sV
  simp +contextual only [go_sem,sevalprocAttr,aG]
  refine aP (RH (cR (bh.trans bE) hz) sV _) ?_
  simp +contextual only [go_sem,sevalprocAttr]
  exact ak jW rfl
theorem JE (n:Int)(T:Tm):bV Tryz.prog 6 [.int .i64 n] T M [] [] (fun v _ _ _=>v=.agg ⟨[.int .i64 3,.int .i64 n,st []]⟩) aM:=by
 refine az F6 rfl rfl ?_
 intro bi _
 simp +contextual only [go_sem,sevalprocAttr]
 intro b1 T1 fx dh fT
 exact ak dh rfl
variable {M:aS}
def lj (l:List (List Int))(w:Nat):Prop:=l.length<=15/\∀ r∈l,r.length=w/\∀ n∈r,0<=n/\n<=1000000
theorem PS {l:List (List Int)}{lv:Value}{w:Nat}(h:RS M (ms M) 1 l lv)(T:Tm):bV Tryz.prog 4 [lv,.int .i64 (w:Int)] T M [] [] (fun v _ _ _=>∃ b,v=.bool b/\(b=true ->lj l w)) aM:=by
 obtain ⟨eZ,a,c,rfl,di,_,hg⟩:=ax (by decide) (fun _ _=>dE) h
 refine az F4 rfl rfl ?_
 intro bi _
 simp +contextual only [go_sem,aD,sevalprocAttr]
 by_cases wX:(l.length:Int)>15
 ·have aaR:(15:Int)<(l.length:Int):=wX
  simp +contextual only [go_sem,sevalprocAttr,aaR]
  exact ak aF.rfl' ⟨false,rfl,fun h=>by cases h⟩
 have aaR:¬ (15:Int)<(l.length:Int):=wX
 simp +contextual only [go_sem,sevalprocAttr,aaR]
 refine aO l.length 14 [(1,.int .i64 (w:Int)),(12,.slice a l.length c),(13,.int .i64 (l.length:Int))] (fun i e h=>h=⟨T,M,[],[]⟩/\∀ r∈l.take i,r.length=w/\∀ n∈r,0<=n/\n<=1000000) 0 (by omega) (by simp only [aE,go_sem,sevalprocAttr]) (by simp only [go_sem,sevalprocAttr]) ⟨rfl,fun r hr=>by cases hr⟩ ?_
 rintro i e h hi aG ht ⟨rfl,cB⟩
 simp only [aE] at aG
 by_cases aL:i<l.length
 ·obtain ⟨b',o',cs',rfl,bQ,rv,rfl,dV⟩:=hg i l[i] (gq aL)
  obtain ⟨_,ra,rc,rfl,_,_,s8⟩:=ax (by decide) (fun _ _=>ct) dV
  have y0:=bQ.1
  rw [Nat.mul_one] at y0
  by_cases AJ:l[i].length=w
  rotate_left
  ·have ahK:¬ (l[i].length:Int)=(w:Int):=by omega
   simp +contextual only [go_sem,aD,sevalprocAttr,aG,ht,aL,y0,ahK]
   exact ak aF.rfl' ⟨false,rfl,fun h=>by cases h⟩
  simp +contextual only [go_sem,aD,sevalprocAttr,aG,ht,aL,y0,AJ]
  refine aO w 24 [(1,.int .i64 (w:Int)),(12,.slice (some ⟨b',o',none⟩) l.length c),(13,.int .i64 (l.length:Int)),(14,.int .i64 (i:Int)),(22,.slice ra w rc),(23,.int .i64 (w:Int))] (fun j e h=>h=⟨T,M,[],[]⟩/\∀ n∈l[i].take j,0<=n/\n<=1000000) 0 (by omega) (by simp only [aE,go_sem,sevalprocAttr,aG,ht,and_self]) (by simp only [go_sem,sevalprocAttr]) ⟨rfl,fun r hr=>by cases hr⟩ ?_
  clear aG ht e
  rintro j e h hj aG ht ⟨rfl,aaI⟩
  simp only [aE] at aG
  by_cases rp:j<w
  ·have Ny:j<l[i].length:=by omega
   obtain ⟨pb,po,pcs,rfl,PZ,k9⟩:=s8 j l[i][j] (gq Ny)
   unfold RI at k9
   subst k9
   have z0:=PZ.1
   rw [Nat.mul_one] at z0
   by_cases hb:0<=l[i][j]/\l[i][j]<=1000000
   ·have fx:¬ l[i][j]<0:=by omega
    have dN:¬ 1000000<l[i][j]:=by omega
    simp +contextual only [go_sem,aD,sevalprocAttr,aG,ht,rp,z0,fx,dN]
    refine ce rp ?_ ?_ ⟨rfl,?_⟩
    ·simp only [aE,aG,go_sem,sevalprocAttr,and_self]
    ·simp only [go_sem,sevalprocAttr,aA j (by omega)]
    ·intro n hn
     rw [<- List.take_append_getElem Ny] at hn
     rcases wZ hn with hn | hn
     ·exact aaI n hn
     ·rw [List.mem_singleton.1 hn];exact hb
   ·by_cases fx:l[i][j]<0
    ·simp +contextual only [go_sem,aD,sevalprocAttr,aG,ht,rp,z0,fx]
     exact ak aF.rfl' ⟨false,rfl,fun h=>by cases h⟩
    ·have dN:1000000<l[i][j]:=by omega
     simp +contextual only [go_sem,aD,sevalprocAttr,aG,ht,rp,z0,fx,dN]
     exact ak aF.rfl' ⟨false,rfl,fun h=>by cases h⟩
  ·have:j=w:=by omega
   subst this
   simp +contextual only [go_sem,aD,sevalprocAttr,aG,ht,rp]
   refine ce aL ?_ ?_ ⟨rfl,?_⟩
   ·simp only [aE,aG,go_sem,sevalprocAttr,and_self]
   ·simp only [go_sem,sevalprocAttr,aA i (by omega)]
   ·intro r hr
    rw [<- List.take_append_getElem aL] at hr
    rcases wZ hr with hr | hr
    ·exact cB r hr
    ·rw [List.mem_singleton.1 hr]
     rw [List.take_of_length_le (by omega)] at aaI
     exact ⟨AJ,aaI⟩
 ·have:i=l.length:=by omega
  subst this
  rw [List.take_length] at cB
  simp +contextual only [go_sem,aD,sevalprocAttr,aG,ht,aL]
  exact ak aF.rfl' ⟨true,rfl,fun _=>⟨by omega,cB⟩⟩
variable {M:aS}
def jU (k:Nat)(r:List Int):Int:=r[k]?.getD 0
def AM (out:List Int)(n:Int):List Int:=if n∈out then out else out++[n]
def em (l:List (List Int))(k:Nat):List Int:=l.foldl (fun out r=>AM out (jU k r)) []
theorem ld (l:List (List Int))(r:List Int)(k:Nat):em (l++[r]) k=AM (em l k) (jU k r):=by simp [em,List.foldl_append]
theorem TO (out:List Int)(n:Int):(AM out n).length<=out.length+1:=by unfold AM;split<;>simp
theorem oM:∀ (n:Nat) (l:List (List Int)) (k:Nat),l.length=n ->(em l k).length<=n
 | 0,l,k,h=>by rw [List.length_eq_zero_iff.1 h];exact Nat.le_refl _
 | n+1,l,k,h=>by
  obtain ⟨l',x,rfl⟩:∃ l' x,l=l'++[x]:=by
   rcases List.eq_nil_or_concat l with h0 | ⟨l',x,h0⟩
   ·subst h0;simp at h
   ·exact ⟨l',x,by simpa using h0⟩
  rw [ld]
  have:=oM n l' k (by simpa using h)
  have:=TO (em l' k) (jU k x)
  omega
theorem Ul:∀ {l:List Int} {ys:List Value},RL RI l ys ->ys=l.map (Value.int .i64)
 | [],ys,h=>h
 | x::l,ys,h=>by
  obtain ⟨cs,rest,rfl,h1,h2⟩:=h
  rw [h1,Ul h2];rfl
theorem Sg {el:TypeId}{N:Tm}{l:List Int}{a:Option Addr}{n c:Nat}{L:LL}(h:dW el 1 RI M N l (.slice a n c) L){j:Nat}(hj:j<l.length):∃ g,a=some ⟨g,0,none⟩/\M g=none/\∃ cs,L=[(g,cs)]/\cs[j]?=some (.int .i64 l[j]):=by
 rcases h with ⟨rfl,_⟩ | ⟨g,cap,cs,junk,hv,rfl,_,wJ,cM,_,_,hg⟩
 ·simp at hj
 ·cases hv
  refine ⟨g,rfl,hg,_,rfl,?_⟩
  rw [Ul wJ,List.getElem?_append_left (by simpa using hj),List.getElem?_map,gq hj]
  rfl
set_option maxHeartbeats 1000000 in
theorem Uf {l:List (List Int)}{lv:Value}{k:Nat}(h:RS M (ms M) 1 l lv)(hl:l.length<=1000000)(hk:∀ r∈l,k<r.length)(hk8:k<=8)(T:Tm):bV Tryz.prog 5 [lv,.int .i64 (k:Int)] T M [] [] (fun v M' _ _=>RS M' RI 1 (em l k) v) aM:=by
 obtain ⟨eZ,a,c,rfl,di,_,hg⟩:=ax (by decide) (fun _ _=>dE) h
 refine az F5 rfl rfl ?_
 intro bi _
 simp +contextual only [go_sem,aD,sevalprocAttr]
 refine aO l.length 13 [(1,.int .i64 (k:Int)),(11,.slice a l.length c),(12,.int .i64 (l.length:Int))] (fun i e h=>∃ N' fv L',aF T N'/\h=⟨N',M,L',[]⟩/\e 5=fv/\dW 2 1 RI M N' (em (l.take i) k) fv L') 0 (by omega) (by simp only [aE,go_sem,sevalprocAttr]) (by simp only [go_sem,sevalprocAttr]) ⟨T,_,_,aF.rfl',rfl,by simp only [go_sem,sevalprocAttr],.inl ⟨rfl,rfl,rfl⟩⟩ ?_
 rintro i e h hi aG ht ⟨N',fv,L',jW,rfl,e5,Ve⟩
 simp only [aE] at aG
 obtain ⟨fa,fc,rfl⟩:=cU Ve
 have D3:=oM _ (l.take i) k rfl
 by_cases aL:i<l.length
 ·obtain ⟨b',o',cs',rfl,bQ,rv,rfl,dV⟩:=hg i l[i] (gq aL)
  obtain ⟨_,ra,rc,rfl,_,_,s8⟩:=ax (by decide) (fun _ _=>ct) dV
  have y0:=bQ.1
  rw [Nat.mul_one] at y0
  have pm:=hk _ (gm aL)
  obtain ⟨pb,po,pcs,rfl,PZ,k9⟩:=s8 k l[i][k] (gq pm)
  unfold RI at k9
  subst k9
  have z0:=PZ.1
  rw [Nat.mul_one] at z0
  have hc:jU k l[i]=l[i][k]:=by simp [jU,gq pm]
  have dY:em (l.take (i+1)) k=AM (em (l.take i) k) l[i][k]:=by
   rw [<- List.take_append_getElem aL,ld,hc]
  obtain ⟨acc,bj⟩:∃ acc,acc=em (l.take i) k:=⟨_,rfl⟩
  rw [<- bj] at Ve dY D3 e5
  rw [List.length_take] at D3
  obtain ⟨x,hx⟩:∃ x,x=l[i][k]:=⟨_,rfl⟩
  rw [<- hx] at z0 dY
  simp +contextual only [go_sem,aD,sevalprocAttr,aG,ht,aL,y0,e5]
  refine aO acc.length 19 [(1,.int .i64 (k:Int)),(5,.slice fa acc.length fc),(7,.slice (some ⟨pb,po,none⟩) l[i].length rc),(11,.slice (some ⟨b',o',none⟩) l.length c),(12,.int .i64 (l.length:Int)),(13,.int .i64 (i:Int)),(17,.slice fa acc.length fc),(18,.int .i64 (acc.length:Int))] (fun j e h=>h=⟨N',M,L',[]⟩/\e 8=.bool (decide (x∈acc.take j))) 0 (by omega) (by simp only [aE,go_sem,sevalprocAttr,aG,ht,e5,and_self]) (by simp only [go_sem,sevalprocAttr]) ⟨rfl,by simp only [go_sem,sevalprocAttr];simp⟩ ?_
  clear aG ht e5 e
  rintro j e h hj aG ht ⟨rfl,e8⟩
  simp only [aE] at aG
  by_cases rp:j<acc.length
  ·obtain ⟨g,rfl,hgn,cs,rfl,fS⟩:=Sg Ve rp
   have mQ:∀ n,(n∈acc.take (j+1))=(n∈acc.take j\/n=acc[j]):=fun n=>by
    rw [<- List.take_append_getElem rp,List.mem_append,List.mem_singleton]
   by_cases Aq:x∈acc.take j
   ·simp +contextual only [go_sem,aD,sevalprocAttr,aG,ht,rp,e8,Aq,aC hgn,fS]
    refine ce rp ?_ ?_ ⟨rfl,?_⟩
    ·simp only [aE,aG,go_sem,sevalprocAttr,and_self]
    ·simp only [go_sem,sevalprocAttr,aA j (by omega)]
    ·simp only [go_sem,sevalprocAttr,mQ,Aq,true_or,decide_true]
   ·simp +contextual only [go_sem,aD,sevalprocAttr,aG,ht,rp,e8,Aq,aC hgn,fS,pm,z0]
    refine ce rp ?_ ?_ ⟨rfl,?_⟩
    ·simp only [aE,aG,go_sem,sevalprocAttr,and_self]
    ·simp only [go_sem,sevalprocAttr,aA j (by omega)]
    ·simp only [go_sem,sevalprocAttr,mQ,Aq,false_or]
     exact congrArg Value.bool (decide_eq_decide.2 ⟨Eq.symm,Eq.symm⟩)
  ·have:j=acc.length:=by omega
   subst this
   rw [List.take_length] at e8
   by_cases Aq:x∈acc
   ·have hp:AM acc x=acc:=if_pos Aq
    rw [hp] at dY
    simp +contextual only [go_sem,aD,sevalprocAttr,aG,ht,rp,e8,Aq]
    refine aR (aB ⟨l.length - (i+1),by omega,rfl,i+1,by omega,rfl,?_,?_,N',_,L',jW,rfl,?_,by rw [dY];exact Ve⟩)
    ·simp only [aE,aG,go_sem,sevalprocAttr,and_self]
    ·simp only [go_sem,sevalprocAttr,aA i (by omega)]
    ·simp only [go_sem,sevalprocAttr,aG]
   ·have hp:AM acc x=acc++[x]:=if_neg Aq
    rw [hp] at dY
    simp +contextual only [go_sem,aD,sevalprocAttr,aG,ht,rp,e8,Aq,pm,z0]
    intro b40 ah9 al0
    refine nY (L1:=[]) (Tryz.underlying25) Y1 Zr Ve (x:=x) rfl rfl (by simp [Value.oneCell']) ah9 (by omega) (by decide) ?_
    intro N2 fv2 g cs2 AK uT akv
    simp +contextual only [go_sem,sevalprocAttr,aG]
    refine aR (cY (List.Perm.swap _ _ _) (al (aB ⟨l.length - (i+1),by omega,rfl,i+1,by omega,rfl,?_,?_,N2,fv2,[(g,cs2)],jW.trans AK,rfl,?_,by rw [dY];exact akv⟩)))
    ·simp only [aE,aG,go_sem,sevalprocAttr,and_self]
    ·simp only [go_sem,sevalprocAttr,aA i (by omega)]
    ·simp only [go_sem,sevalprocAttr]
 ·have:i=l.length:=by omega
  subst this
  rw [List.take_length] at Ve D3
  simp +contextual only [go_sem,aD,sevalprocAttr,aG,ht,aL,e5]
  rw [<- List.append_nil L']
  exact jJ Ve (by omega) trivial fun M' nj _ cG=>ak jW (by rw [List.take_length];exact cG)
variable {M:aS}
def KP (name:Bs)(sales people:List (List Int))(ew:List (List V)):Prop:=∃ out,abC name sales people out/\(∀ z∈out,¬ (z.w< -1000000)/\¬ (z.w>1000000))/\nZ (ew.map qx)=out
def nV (n:Int):V:=⟨3,n,[]⟩
def wR:Bs:=[102,101,119]
def o4:Bs:=[109,97,110,121]
def DB:Bs:=[98,117,121,101,114,115]
def JJ:Bs:=[115,105,122,101,115]
def Ee (sales:List (List Int)):List (List V):=(em sales 0).map fun n=>[nV n]
def lq (r:List Int):List V:=[nV (jU 0 r),⟨4,0,if 10<=jU 2 r then o4 else wR⟩]
def oL (sales:List (List Int)):List (List V):=sales.map lq
theorem si:∀ (n:Nat) (l:List (List Int)) (k:Nat),l.length=n ->∀ x∈em l k,∃ r∈l,x=jU k r
 | 0,l,k,h=>by rw [List.length_eq_zero_iff.1 h];intro x hx;cases hx
 | n+1,l,k,h=>by
  obtain ⟨l',y,rfl⟩:∃ l' x,l=l'++[x]:=by
   rcases List.eq_nil_or_concat l with h0 | ⟨l',x,h0⟩
   ·subst h0;simp at h
   ·exact ⟨l',x,by simpa using h0⟩
  intro x hx
  rw [ld] at hx
  have ih:=si n l' k (by simpa using h)
  unfold AM at hx
  split at hx
  ·obtain ⟨r,h1,h2⟩:=ih x hx;exact ⟨r,by simp [h1],h2⟩
  ·rcases wZ hx with hx | hx
   ·obtain ⟨r,h1,h2⟩:=ih x hx;exact ⟨r,by simp [h1],h2⟩
   ·exact ⟨y,by simp,List.mem_singleton.1 hx⟩
theorem Lz {sales:List (List Int)}{w k:Nat}(hr:lj sales w)(hk:k<w){r:List Int}(h:r∈sales):0<=jU k r/\jU k r<=1000000:=by
 obtain ⟨h1,h2⟩:=hr.2 r h
 have pm:k<r.length:=by omega
 unfold jU
 rw [gq pm]
 exact h2 _ (gm pm)
theorem rV {n:Int}(h:0<=n/\n<=1000000):eO (nV n)=0:=by
 have h1:¬ (n>1000000000000000\/n< -1000000000000000):=by omega
 show (if (3:Int)=1 then (0:Int) else if (3:Int)=2 then _ else if (3:Int)=3 then (if n>1000000000000000\/n< -1000000000000000 then 3 else 0) else _)=0
 rw [if_neg (by decide),if_neg (by decide),if_pos rfl,if_neg h1]
set_option maxHeartbeats 2000000 in
theorem Dg {sales:List (List Int)}{lv:Value}(h:RS M (ms M) 1 sales lv)(hG:eQ M)(hB:lj sales 3 ->KP DB sales [] (Ee sales))(hZ:lj sales 3 ->KP JJ sales [] (oL sales))(T:Tm):bV Tryz.prog 3 [lv] T M [] [] (fun v _ _ _=>v=.bool true) aM:=by
 have h0:=h
 obtain ⟨eZ,a,c,rfl,di,_,hg⟩:=ax (by decide) (fun _ _=>dE) h
 refine az F3 rfl rfl ?_
 intro bi _
 simp +contextual only [go_sem,sevalprocAttr]
 refine aI (PS (w:=3) h0 _) ?_
 rintro v M1 aV bG ⟨b,rfl,hr⟩
 cases b with
 | false=>
  simp +contextual only [go_sem,aD,sevalprocAttr]
  exact ak aF.rfl' rfl
 | true=>
 have hr:=hr rfl
 obtain ⟨o1,hA1,hf1,ho1⟩:=hB hr
 obtain ⟨o2,LH,XG,ho2⟩:=hZ hr
 have hls:=hr.1
 simp +contextual only [go_sem,aD,sevalprocAttr]
 refine aI (Uf (k:=0) (aH aV (cW aV) h0) (by omega) (fun r hm=>by have:=(hr.2 r hm).1;omega) (by decide) _) ?_
 rintro v M2 bh aZ hth
 obtain ⟨_,ta,tc,rfl,_,_,AC⟩:=ax (by decide) (fun _ _=>ct) hth
 have Dc:=oM _ sales 0 rfl
 have Ap:=aV.trans bh
 simp +contextual only [go_sem,aD,sevalprocAttr]
 refine aO (em sales 0).length 16 [(0,.slice a sales.length c),(4,.slice none 0 0),(14,.slice ta (em sales 0).length tc),(15,.int .i64 ((em sales 0).length:Int))] (fun i e h=>∃ N' M' R' fv,aF T N'/\bm M2 M'/\h=⟨N',M',[],R'⟩/\e 3=fv/\kT 30 1 (Hv M') [] R' fv (((em sales 0).take i).map fun n=>[nV n])) 0 (by omega) (by simp only [aE,go_sem,sevalprocAttr,and_self]) (by simp only [go_sem,sevalprocAttr]) ⟨T,M2,_,_,aF.rfl',bm.rfl',rfl,by simp only [go_sem,sevalprocAttr],cV⟩ ?_
 rintro i e h hi aG ht ⟨N',M',R',fv,jW,nj,rfl,e3,bj⟩
 simp only [aE] at aG
 obtain ⟨fa,fc,rfl⟩:=eI bj
 by_cases aL:i<(em sales 0).length
 ·obtain ⟨b',o',cs',rfl,bQ,dV⟩:=AC i (em sales 0)[i] (gq aL)
  unfold RI at dV
  subst dV
  have y0:=(bQ.ext nj).1
  rw [Nat.mul_one] at y0
  have dY:(((em sales 0).take i).map fun n=>[nV n])++[[nV (em sales 0)[i]]]=((em sales 0).take (i+1)).map fun n=>[nV n]:=by
   rw [<- List.take_append_getElem aL,List.map_append];rfl
  simp +contextual only [go_sem,aD,sevalprocAttr,aG,ht,aL,y0,e3]
  refine aP (JE _ _) ?_
  simp +contextual only [go_sem,sevalprocAttr]
  intro b23 ajf b24 ajY alQ
  refine cA (r:=fun x cs=>Hv M' x cs\/(x=[nV (em sales 0)[i]]/\cs=[.slice (some ⟨b23,0,none⟩) 1 1])) (Tryz.underlying24) yh Aj (x:=[nV (em sales 0)[i]]) (ey (fun _ _ h=> .inl h) bj) (.inr ⟨rfl,rfl⟩) (by rintro _ _ (h | ⟨_,rfl⟩);exact mF h;rfl) (by simp [Value.oneCell']) ajY (by rw [List.length_map,List.length_take];omega) (by decide) ?_
  intro fv2 R2 ek
  rw [dY] at ek
  simp +contextual only [go_sem,sevalprocAttr,ht]
  refine aR (al (aT fun he g1 _=>aB ⟨(em sales 0).length - (i+1),by omega,rfl,i+1,by omega,rfl,?_,?_,N',_,R2,fv2,jW,nj.trans he,rfl,?_,ey ?_ ek⟩))
  ·simp only [aE,aG,go_sem,sevalprocAttr,and_self]
  ·simp only [go_sem,sevalprocAttr,aA i (by omega)]
  ·simp only [go_sem,sevalprocAttr]
  ·rintro x cs (h | ⟨rfl,rfl⟩)
   ·exact iP he _ _ h
   ·exact ⟨_,dB (fun _ _ h=>by unfold RV at h;subst h;rfl) g1 ⟨_,[],rfl,rfl,rfl⟩ rfl (by simp),rfl⟩
 ·have:i=(em sales 0).length:=by omega
  subst this
  rw [List.take_length] at bj
  change kT _ _ _ _ _ _ (Ee sales) at bj
  have AJ:(Ee sales).length=(em sales 0).length:=List.length_map _
  simp +contextual only [go_sem,aD,sevalprocAttr,aG,ht,aL]
  refine bY sales.length 29 [(0,.slice a sales.length c),(27,.slice a sales.length c),(28,.int .i64 (sales.length:Int))] (fun i e h=>∃ N' M3 R' fv,aF T N'/\bm M M3/\h=⟨N',M3,[],R'⟩/\e 4=fv/\RS M3 (Hv M3) 1 (Ee sales) (e 3)/\kT 30 1 (Hv M3) [] R' fv ((sales.take i).map lq)) 0 (by omega) (by simp only [aE,aG,go_sem,sevalprocAttr,and_self]) (by simp only [go_sem,sevalprocAttr]) (cz bj (by rw [AJ];omega) (by decide) trivial fun M3 bE _ cG=>aB ⟨N',M3,[],_,jW,Ap.trans (nj.trans bE),rfl,by simp only [aG,go_sem,sevalprocAttr],?_,cV⟩) ?_
  ·simp only [go_sem,sevalprocAttr,e3]
   rw [List.take_length]
   exact aH bm.rfl' (iP bE) cG
  clear aG ht e3 aL e
  rintro i e h hi aG ht ⟨N2,M3,R',fv,AK,bE,rfl,e4,Uc,bj⟩
  simp only [aE] at aG
  obtain ⟨fa,fc,rfl⟩:=eI bj
  by_cases aL:i<sales.length
  ·obtain ⟨b',o',cs',rfl,bQ,rv,rfl,dV⟩:=hg i sales[i] (gq aL)
   have XK:=(hr.2 _ (gm aL)).1
   obtain ⟨_,ra,rc,rfl,_,_,s8⟩:=ax (by decide) (fun _ _=>ct) dV
   obtain ⟨pb,po,pcs,rfl,An,wE⟩:=s8 0 _ (gq (by omega))
   obtain ⟨_,_,pcs2,hpp,oK,sj⟩:=s8 2 _ (gq (by omega))
   cases hpp
   unfold RI at wE sj
   subst wE sj
   have y0:=(bQ.ext bE).1
   have z0:=(An.ext bE).1
   have z2:=(oK.ext bE).1
   rw [Nat.mul_one] at y0
   have dY:(sales.take i).map lq++[lq sales[i]]=(sales.take (i+1)).map lq:=by
    rw [<- List.take_append_getElem aL,List.map_append];rfl
   have EI:jU 0 sales[i]=sales[i][0]'(by omega):=by simp [jU,gq (show 0<sales[i].length by omega)]
   have Pe:jU 2 sales[i]=sales[i][2]'(by omega):=by simp [jU,gq (show 2<sales[i].length by omega)]
   have dS:lq sales[i]=[nV (sales[i][0]'(by omega)),⟨4,0,if (10:Int)<=sales[i][2]'(by omega) then o4 else wR⟩]:=by
    have:∀ a b c d:Int,a=b ->c=d ->([nV a,⟨4,0,if 10<=c then o4 else wR⟩]:List V)=[nV b,⟨4,0,if 10<=d then o4 else wR⟩]:=by rintro a b c d rfl rfl;rfl
    exact this _ _ _ _ EI Pe
   simp only [Nat.add_zero,Nat.mul_one] at z0 z2
   simp +contextual only [go_sem,aD,sevalprocAttr,aG,ht,aL,y0,e4,XK,z0,z2]
   by_cases DX:(10:Int)<=sales[i][2]'(by omega)
   ·rw [if_pos DX] at dS ⊢
    refine aP (JE _ _) ?_
    simp +contextual only [go_sem,sevalprocAttr]
    intro b44 ajk b45 aaP adr
    refine cA (r:=fun x cs=>Hv M3 x cs\/(x=lq sales[i]/\cs=[.slice (some ⟨b44,0,none⟩) 2 2])) (Tryz.underlying24) yh Aj (x:=lq sales[i]) (ey (fun _ _ h=> .inl h) bj) (.inr ⟨rfl,rfl⟩) (by rintro _ _ (h | ⟨_,rfl⟩);exact mF h;rfl) (by simp [Value.oneCell']) aaP (by rw [List.length_map,List.length_take];omega) (by decide) ?_
    intro fv2 R2 ek
    rw [dY] at ek
    simp +contextual only [go_sem,sevalprocAttr,ht]
    refine aR (al (aT fun he g1 _=>aB ⟨sales.length - (i+1),by omega,rfl,i+1,by omega,rfl,?_,?_,N2,_,R2,fv2,AK,bE.trans he,rfl,?_,?_,ey ?_ ek⟩))
    ·simp only [aE,aG,go_sem,sevalprocAttr,and_self]
    ·simp only [go_sem,sevalprocAttr,aA i (by omega)]
    ·simp only [go_sem,sevalprocAttr]
    ·simp only [go_sem,sevalprocAttr]
     exact aH he (iP he) Uc
    ·rintro x cs (h | ⟨rfl,rfl⟩)
     ·exact iP he _ _ h
     ·rw [dS]
      exact ⟨_,dB (fun _ _ h=>by unfold RV at h;subst h;rfl) g1 ⟨_,_,rfl,rfl,_,[],rfl,rfl,rfl⟩ rfl (by simp),rfl⟩
   ·rw [if_neg DX] at dS ⊢
    refine aP (JE _ _) ?_
    simp +contextual only [go_sem,sevalprocAttr]
    intro b44 ajk b45 aaP adr
    refine cA (r:=fun x cs=>Hv M3 x cs\/(x=lq sales[i]/\cs=[.slice (some ⟨b44,0,none⟩) 2 2])) (Tryz.underlying24) yh Aj (x:=lq sales[i]) (ey (fun _ _ h=> .inl h) bj) (.inr ⟨rfl,rfl⟩) (by rintro _ _ (h | ⟨_,rfl⟩);exact mF h;rfl) (by simp [Value.oneCell']) aaP (by rw [List.length_map,List.length_take];omega) (by decide) ?_
    intro fv2 R2 ek
    rw [dY] at ek
    simp +contextual only [go_sem,sevalprocAttr,ht]
    refine aR (al (aT fun he g1 _=>aB ⟨sales.length - (i+1),by omega,rfl,i+1,by omega,rfl,?_,?_,N2,_,R2,fv2,AK,bE.trans he,rfl,?_,?_,ey ?_ ek⟩))
    ·simp only [aE,aG,go_sem,sevalprocAttr,and_self]
    ·simp only [go_sem,sevalprocAttr,aA i (by omega)]
    ·simp only [go_sem,sevalprocAttr]
    ·simp only [go_sem,sevalprocAttr]
     exact aH he (iP he) Uc
    ·rintro x cs (h | ⟨rfl,rfl⟩)
     ·exact iP he _ _ h
     ·rw [dS]
      exact ⟨_,dB (fun _ _ h=>by unfold RV at h;subst h;rfl) g1 ⟨_,_,rfl,rfl,_,[],rfl,rfl,rfl⟩ rfl (by simp),rfl⟩
  ·have:i=sales.length:=by omega
   subst this
   rw [List.take_length] at bj
   change kT _ _ _ _ _ _ (oL sales) at bj
   have qh:(oL sales).length=sales.length:=List.length_map _
   obtain ⟨_,wa,wc,hwe,_⟩:=ax (by decide) (fun _ _=>mF) Uc
   rw [hwe] at Uc
   simp +contextual only [go_sem,aD,sevalprocAttr,aG,ht,aL,hwe]
   refine cL (k:=fun h'=>∃ M4,bm M3 M4/\RS M4 (Hv M4) 1 (oL sales) (.slice fa (oL sales).length fc)/\h'=⟨N2,M4,[],[]⟩) (cz bj (by rw [qh];omega) (by decide) trivial fun M4 dD _ cG=>aB ⟨M4,dD,aH bm.rfl' (iP dD) cG,rfl⟩) ?_ F7.bd
   rintro h' ⟨M4,dD,dS,rfl⟩
   have pg:=bE.trans dD
   have hG4:=hG.ext pg
   refine aP (Gf hA1 hG4 (aH pg (cW pg) h0) bu (aH dD (iP dD) Uc) (by rw [AJ];omega) ?_ hf1 ho1 _) ?_
   ·intro r hm
    obtain ⟨n,hn,rfl⟩:=List.mem_map.1 hm
    obtain ⟨r0,rL,rfl⟩:=si _ sales 0 rfl n hn
    refine ⟨by simp,fun v hv=> ?_⟩
    rw [List.mem_singleton.1 hv]
    exact rV (Lz hr (by decide) rL)
   simp +contextual only [go_sem,sevalprocAttr,aG,e4]
   rw [List.take_length]
   refine aP (Gf LH hG4 (aH pg (cW pg) h0) bu dS (by rw [qh];omega) ?_ XG ho2 _) ?_
   ·intro r hm
    obtain ⟨r0,rL,rfl⟩:=List.mem_map.1 hm
    refine ⟨by simp [lq],fun v hv=> ?_⟩
    simp only [lq,mn] at hv
    rcases hv with rfl | rfl
    ·exact rV (Lz hr (by decide) rL)
    ·split<;>decide
   simp +contextual only [go_sem,sevalprocAttr]
   exact ak AK rfl
theorem OP (v:V):pT v (bJ v)=0:=by
 have h:=xS.self v
 unfold pT at h ⊢
 rw [nH]
 exact h
theorem sY:∀ (r:List V),bO r (r.map bJ)=0
 | []=>rfl
 | v::r=>by rw [List.map_cons,bO,OP,kM,if_neg (by simp)];exact sY r
theorem iL (q:List V)(x:Z)(l:List Z):wt q (x::l)=(if x.row=q then x.w else 0)+wt q l:=by rw [wt]
theorem Ty {n:Int}(h:n.natAbs<4611686018427387904):IntKind.i64.wrap n=n:=bH (by omega) (by omega)
theorem Cj {r:List V}{w:Int}:∀ {z:List Z},iu z ->(∀ y∈z.head?,¬ bO y.row r<0) ->cX z+w.natAbs<4611686018427387904 ->
 iu (re r w z)/\(∀ q,wt q (re r w z)=wt q z+if r.map bJ=q then w else 0)/\cX (re r w z)<=cX z+w.natAbs
 | [],hc,_,ha=>by
  rw [re]
  by_cases h:w=0
  ·rw [if_pos h]
   exact ⟨hc,fun q=>by rw [h];split<;>simp,by omega⟩
  ·rw [if_neg h]
   refine ⟨⟨List.pairwise_singleton _ _,fun y hy=> ?_⟩,fun q=>by rw [iL];simp [wt],by simp [cX]⟩
   rw [List.mem_singleton.1 hy]
   exact ⟨h,by simp [List.map_map,Function.comp_def,nH]⟩
 | x::B,hc,hh,ha=>by
  have hx:=hc.2 x (by simp)
  have aL:=List.pairwise_cons.1 hc.1
  have Vu:cX (x::B)=x.w.natAbs+cX B:=by rw [cX]
  have VD:(r.map bJ).map bJ=r.map bJ:=by simp [List.map_map,Function.comp_def,nH]
  have hnn:¬ bO x.row r<0:=hh x (by simp)
  rw [Vu] at ha ⊢
  rw [re]
  by_cases h0:bO x.row r=0
  ·have he:x.row=r.map bJ:=by rw [<- hx.2];exact pQ h0
   have hw:IntKind.i64.wrap (w+x.w)=w+x.w:=Ty (by omega)
   rw [if_pos h0,hw]
   by_cases h1:w+x.w=0
   ·rw [if_pos h1]
    refine ⟨jB hc,fun q=> ?_,by omega⟩
    rw [iL,he]
    split<;>omega
   ·rw [if_neg h1]
    refine ⟨⟨List.pairwise_cons.2 ⟨fun y hy=>by show bO (r.map bJ) y.row<0;rw [<- he];exact aL.1 y hy,aL.2⟩,fun y hy=> ?_⟩,fun q=> ?_,by simp only [cX];omega⟩
    ·rcases mY hy with rfl | hy
     ·exact ⟨h1,VD⟩
     ·exact hc.2 y (by simp [hy])
    ·rw [iL,iL,he]
     simp only
     split<;>omega
  ·rw [if_neg h0]
   by_cases h1:w=0
   ·rw [if_pos h1]
    exact ⟨hc,fun q=>by rw [h1];split<;>simp,by rw [Vu];omega⟩
   ·rw [if_neg h1]
    have dV:bO r x.row<0:=by have:=ed.neg r x.row;have:=ed.neg x.row r;omega
    have YY:bO (r.map bJ) x.row<0:=ed.le_lt (by have:=(ed.sym (x:=r) (y:=r.map bJ)).1 (sY r);omega) dV
    refine ⟨⟨List.pairwise_cons.2 ⟨fun y hy=> ?_,hc.1⟩,fun y hy=> ?_⟩,fun q=> ?_,by simp only [cX];omega⟩
    ·rcases mY hy with rfl | hy
     ·exact YY
     ·exact ed.lt_le YY (by have:=aL.1 y hy;omega)
    ·rcases mY hy with rfl | hy
     ·exact ⟨h1,VD⟩
     ·exact hc.2 y hy
    ·rw [iL]
     simp only
     omega
theorem Ca {r:List V}{w:Int}:∀ {z:List Z},iu z ->cX z+w.natAbs<4611686018427387904 ->
 iu (pC r w z)/\(∀ q,wt q (pC r w z)=wt q z+if r.map bJ=q then w else 0)/\cX (pC r w z)<=cX z+w.natAbs
 | [],hc,ha=>Cj hc (fun y hy=>by cases hy) ha
 | x::z,hc,ha=>by
  rw [pC]
  by_cases h0:bO x.row r<0
  ·rw [if_pos h0]
   have Vu:cX (x::z)=x.w.natAbs+cX z:=by rw [cX]
   rw [Vu] at ha ⊢
   obtain ⟨h1,h2,h3⟩:=Ca (jB hc) (z:=z) (r:=r) (w:=w) (by omega)
   refine ⟨⟨List.pairwise_cons.2 ⟨fun y hy=> ?_,h1.1⟩,fun y hy=> ?_⟩,fun q=> ?_,by simp only [cX];omega⟩
   ·rcases yI hy with hy | hy
    ·exact (List.pairwise_cons.1 hc.1).1 y hy
    ·rw [hy]
     exact ed.lt_le h0 (by rw [sY];exact Int.le_refl 0)
   ·rcases mY hy with rfl | hy
    ·exact hc.2 _ (by simp)
    ·exact h1.2 y hy
   ·rw [iL,iL,h2];omega
  ·rw [if_neg h0]
   exact Cj hc (fun y hy=>by simp at hy;subst hy;exact h0) ha
theorem AP:∀ (n:Nat) (l:List Z),l.length=n ->cX l<4611686018427387904 ->iu (nZ l)/\(∀ q,wt q (nZ l)=wt q (l.map eH))/\cX (nZ l)<=cX l
 | 0,l,h,_=>by rw [List.length_eq_zero_iff.1 h];exact ⟨⟨List.Pairwise.nil,fun z hz=>by cases hz⟩,fun q=>rfl,Nat.le_refl _⟩
 | n+1,l,h,ha=>by
  obtain ⟨l',x,rfl⟩:∃ l' x,l=l'++[x]:=by
   rcases List.eq_nil_or_concat l with h0 | ⟨l',x,h0⟩
   ·subst h0;simp at h
   ·exact ⟨l',x,by simpa using h0⟩
  have hx:cX [x]=x.w.natAbs:=by simp [cX]
  rw [mK,hx] at ha ⊢
  obtain ⟨h1,h2,h3⟩:=AP n l' (by simpa using h) (by omega)
  obtain ⟨g1,g2,g3⟩:=Ca (r:=x.row) (w:=x.w) h1 (by omega)
  rw [uN]
  refine ⟨g1,fun q=> ?_,by omega⟩
  rw [g2,h2,List.map_append,lP,List.map_singleton,iL]
  simp only [wt,Int.add_zero]
  rfl
theorem J4 {l out:List Z}(hc:iu out)(ha:cX l<4611686018427387904)(h:∀ q,wt q (l.map eH)=wt q out):nZ l=out:=by
 obtain ⟨h1,h2,_⟩:=AP _ l rfl ha
 exact lN h1 hc fun q=>by rw [h2,h]
def aeT:List Co:=[⟨[119,104,111],3⟩,⟨[119,104,97,116],3⟩,⟨[110],3⟩]
def VI:List Co:=[⟨[105,100],3⟩,⟨[98,111,115,115],3⟩]
def s0C:Stm:=⟨1,gj,aeT,⟨[],[],[],0⟩,[],false,jZ⟩
def s1C:Stm:=⟨1,gb,VI,⟨[],[],[],0⟩,[],false,jZ⟩
def kb (q:Se):Stm:=⟨2,[118],[],⟨[q],[],[], -1⟩,[],false,jZ⟩
def Wx (n:Bs):X:=.mk 2 ⟨0,0,[]⟩ [] n []
def acb (t:Bs):X:=.mk 1 ⟨4,0,t⟩ [] [] []
def aeR (n:Int):X:=.mk 1 ⟨3,n,[]⟩ [] [] []
def soS (n:Bs):So:=⟨1,n,[],jZ⟩
def YB:Se:=⟨false,true,[],[soS [118]],false,false,jZ,jZ,[]⟩
def vQ:Stm:=⟨5,[],[],⟨[YB],[],[], -1⟩,[],false,jZ⟩
def LD:Bs:=[115,101,108,101,99,116,32,100,105,115,116,105,110,99,116,32,119,104,111,32,102,114,111,109,32,115,97,108,101]
def qU:Se:=⟨true,false,[⟨Wx [119,104,111],[]⟩],[soS gj],false,false,jZ,jZ,[]⟩
def SZ:Bs:=[115,101,108,101,99,116,32,119,104,111,32,44,32,99,97,115,101,32,119,104,101,110,32,110,32,60,32,49,48,32,116,104,101,110,32,39,102,101,119,39,32,101,108,115,101,32,39,109,97,110,121,39,32,101,110,100,32,97,115,32,115,105,122,101,32,102,114,111,109,32,115,97,108,101]
def sF:Se:=⟨false,false,[⟨Wx [119,104,111],[]⟩,⟨.mk 17 ⟨0,0,[]⟩ [] [] [.mk 8 ⟨0,0,[]⟩ [] [] [Wx [110],aeR 10],acb wR,acb o4],[115,105,122,101]⟩],[soS gj],false,false,jZ,jZ,[]⟩
theorem NL:mr PH=([vQ],0,0):=by kernel_rfl
theorem EC:mr (GZ LD)=([s0C,s1C,kb qU],0,0):=by kernel_rfl
theorem I5:mr (GZ SZ)=([s0C,s1C,kb sF],0,0):=by kernel_rfl
theorem Gp:(wg DB FZ).map (·.2)=some LD:=by kernel_rfl
theorem JA:(wg JJ FZ).map (·.2)=some SZ:=by kernel_rfl
def ej:List Rel:=[iy s0C,iy s1C]
def ul (i:Int):Ex:=.mk 2 vT i []
def oq:Pl:=.mk 1 0 dX [] [] []
def XQ:Pl:=.mk 11 0 dX [] [] [.mk 3 0 dX [ul 0] [] [oq]]
def tJ:Pl×List Co:=(XQ,[⟨[119,104,111],3⟩])
def yB:Ex:=.mk 17 vT 0 [.mk 8 vT 0 [ul 2,.mk 1 ⟨3,10,[]⟩ 0 []],.mk 1 ⟨4,0,wR⟩ 0 [],.mk 1 ⟨4,0,o4⟩ 0 []]
def aaQ:Pl:=.mk 3 0 dX [ul 0,yB] [] [oq]
def yD:Pl×List Co:=(aaQ,[⟨[119,104,111],3⟩,⟨[115,105,122,101],4⟩])
theorem Du:il ej (kb qU).q=.ok tJ:=by kernel_rfl
theorem G2:il ej (kb sF).q=.ok yD:=by kernel_rfl
def WG (rels:List Rel)(q:Q):Bool:=match jp rels q with
 | .ok r=>match fq (bN rels) r.1 with
  | .ok t=>decide (t.length<=r.2.length)
  | .error _=>true
 | .error _=>true
theorem Lg {rels:List Rel}{q:Q}(h:WG rels q=true):∀ r t,jp rels q=.ok r ->fq (bN rels) r.1=.ok t ->t.length<=r.2.length:=by
 intro r t h1 h2
 unfold WG at h
 rw [h1] at h
 simp only [h2] at h
 exact of_decide_eq_true h
theorem Do (n:Bs):D6 (Wx n):=⟨rfl,fun h=>absurd h (by decide),trivial⟩
theorem Lf (t:Bs):D6 (acb t):=⟨rfl,fun _=>⟨by show (1:Int)<=4;decide,Int.le_refl 4⟩,trivial⟩
theorem XX (n:Int):D6 (aeR n):=⟨rfl,fun _=>⟨by show (1:Int)<=3;decide,by show (3:Int)<=4;decide⟩,trivial⟩
theorem IV:OkSe qU where
 src:=by decide
 on:=fun j x h hj=>by
  obtain ⟨j,rfl⟩:∃ k,j=k+1:=⟨j - 1,by omega⟩
  cases h
 wh:=fun h=>by cases h
 grp:=⟨by decide,fun x hx=>by cases hx⟩
 its:=fun _=>⟨by decide,fun x hx=>by
  rw [List.mem_singleton.1 hx];exact Do _⟩
 hv:=fun h=>by cases h
 cnt:=fun _=>by decide
theorem Mx:OkSe sF where
 src:=by decide
 on:=fun j x h hj=>by
  obtain ⟨j,rfl⟩:∃ k,j=k+1:=⟨j - 1,by omega⟩
  cases h
 wh:=fun h=>by cases h
 grp:=⟨by decide,fun x hx=>by cases hx⟩
 its:=fun _=>⟨by decide,fun x hx=>by
  simp only [sF,mn] at hx
  rcases hx with rfl | rfl
  ·exact Do _
  ·exact ⟨rfl,fun h=>absurd h (by decide),⟨rfl,fun h=>absurd h (by decide),Do _,XX _,trivial⟩,Lf _,Lf _,trivial⟩⟩
 hv:=fun h=>by cases h
 cnt:=fun _=>by decide
theorem UD:OkSe YB where
 src:=by decide
 on:=fun j x h hj=>by
  obtain ⟨j,rfl⟩:∃ k,j=k+1:=⟨j - 1,by omega⟩
  cases h
 wh:=fun h=>by cases h
 grp:=⟨by decide,fun x hx=>by cases hx⟩
 its:=fun h=>by cases h
 hv:=fun h=>by cases h
 cnt:=fun h=>by cases h
theorem Km {q:Se}{w:Pl×List Co}(hq:OkSe q)(hw:WG ej (kb q).q=true)(hb:il ej (kb q).q=.ok w)(gp:gPl w.1=true)(gc:∀ c∈w.2,c.ty≠0)(nd:(w.2.map (·.name)).Nodup)(cl:w.2.length<=1000000)(col:∃ c,fq (bN ej) w.1=.ok c)(ev:Bc (bN ej) w.1 [[],[]]=.ok [])(rn:wz w.1=true):ViewOk ej [[],[]] (kb q) w [] where
 ok:=fun x hx=>by rw [List.mem_singleton.1 hx];exact hq
 par:=by show 1<=0+1;decide
 parl:=by show 1<=1048576;decide
 ord:=fun h=>absurd h (by show ¬ (0:Int)<= -1;decide)
 wid:=Lg hw
 bnd:=hb
 gp:=gp
 gc:=gc
 nm:=fun x hx=>by
  simp only [ej,mn] at hx
  rcases hx with rfl | rfl
  ·show gj≠[118];decide
  ·show gb≠[118];decide
 nd:=nd
 cl:=cl
 col:=col
 ev:=ev
 rn:=rn
 gz:=fun x hx=>by cases hx
theorem Eg:ViewOk ej [[],[]] (kb qU) tJ []:=
 Km IV (by kernel_rfl) Du (by kernel_rfl) (by decide) (by decide) (by decide) ⟨[3],by kernel_rfl⟩ (by kernel_rfl) (by kernel_rfl)
theorem Jy:ViewOk ej [[],[]] (kb sF) yD []:=
 Km Mx (by kernel_rfl) G2 (by kernel_rfl) (by decide) (by decide) (by decide) ⟨[3,4],by kernel_rfl⟩ (by kernel_rfl) (by kernel_rfl)
theorem SE {s:Stm}{w:Pl×List Co}(hw:WG (ej++[iT s w]) vQ.q=true)(hb:il (ej++[iT s w]) vQ.q=.ok w):AskOk (ej++[iT s w]) vQ.q w where
 ok:=fun x hx=>by rw [List.mem_singleton.1 hx];exact UD
 par:=by show 1<=0+1;decide
 parl:=by show 1<=1048576;decide
 ord:=fun h=>absurd h (by show ¬ (0:Int)<= -1;decide)
 wid:=Lg hw
 bnd:=hb
theorem Iv:AskOk (ej++[iT (kb qU) tJ]) vQ.q tJ:=SE (by kernel_rfl) (by kernel_rfl)
theorem Oq:AskOk (ej++[iT (kb sF) yD]) vQ.q yD:=SE (by kernel_rfl) (by kernel_rfl)
def Pg (n:Int):Prop:=0<=n/\n<=1000000
def qe (row:List V):Prop:=∃ a b c,Pg a/\Pg b/\Pg c/\row=[nV a,nV b,nV c]
def Vd (r:List Int):Z:=⟨r.map gN,1⟩
theorem oO {n:Int}(h:0<=n):gN n=nV n:=if_neg (by omega)
theorem iK (n:Int):bJ (nV n)=nV n:=by unfold bJ nV;simp
theorem uH {sales:List (List Int)}(hr:lj sales 3){r:List Int}(h:r∈sales):∃ a b c,Pg a/\Pg b/\Pg c/\r=[a,b,c]:=by
 obtain ⟨h1,h2⟩:=hr.2 r h
 match r,h1,h2 with
 | [a,b,c],_,h2=>exact ⟨a,b,c,h2 a (by simp),h2 b (by simp),h2 c (by simp),rfl⟩
theorem xH {a b c:Int}(ha:Pg a)(hb:Pg b)(hc:Pg c):(Vd [a,b,c]).row=[nV a,nV b,nV c]:=by
 unfold Vd
 simp only [List.map_cons,List.map_nil,oO ha.1,oO hb.1,oO hc.1]
theorem sP {row:List V}(h:qe row):mf [3,3,3] row=0:=by
 obtain ⟨a,b,c,ha,hb,hc,rfl⟩:=h
 unfold mf
 rw [if_neg (by simp)]
 simp only [rU,rV ha,rV hb,rV hc,nE]
 simp [nV]
theorem BW:∀ (l:List (List Int)),cX (l.map Vd)=l.length
 | []=>rfl
 | x::l=>by rw [List.map_cons,cX,BW l];simp [Vd];omega
theorem F0 {sales:List (List Int)}(hr:lj sales 3):∃ z,ou (sales.map Vd)=.ok z/\Fine qe 15 z/\∀ q,wt q z=wt q ((sales.map Vd).map eH):=by
 have wX:=hr.1
 refine yo (by rw [List.length_map];omega) (by rw [BW];exact wX) (by decide) fun x hx=> ?_
 obtain ⟨r,hm,rfl⟩:=List.mem_map.1 hx
 obtain ⟨a,b,c,ha,hb,hc,rfl⟩:=uH hr hm
 rw [xH ha hb hc]
 exact ⟨a,b,c,ha,hb,hc,by simp [iK]⟩
theorem yN {P:List V ->Prop}{N:Nat}{z:List Z}(h:Fine P N z)(hN:N<=15)(hP:∀ r,P r ->ji r=0):addM [] z=.ok z:=by
 have hl:=h.len
 have hid:=xn h.bare
 obtain ⟨z',h1,h2,h3⟩:=yo (P:=fun _=>True) (N:=N) (l:=z) (by omega) h.abs (by omega) (fun _ _=>trivial)
 have:z'=z:=lN h2.can h.can fun r=>by rw [h3,hid]
 subst this
 unfold addM
 rw [h.wrong (by omega) hP]
 rw [if_pos (by rfl),List.nil_append]
 exact h1
theorem V1:addM [] []=.ok []:=yN (P:=fun _=>False) Fine.nil (Nat.zero_le _) (fun _ h=>h.elim)
theorem Ic {row:List V}(h:qe row):ji row=0:=nL (by decide) (sP h)
theorem OU {z:List Z}(h:Fine qe 15 z):iU (bN ej) [z,[]]=0:=by
 have h1:jq [3,3,3] z=0:=h.input (by decide) (by decide) fun r hr=>sP hr
 have h2:jq [3,3] []=0:=by rfl
 show iU [[3,3,3],[3,3]] [z,[]]=0
 unfold iU
 rw [if_pos (by simp),wi,h1,nE,wi,h2,nE]
 rfl
theorem AW {P:List V ->Prop}{N:Nat}{z:List Z}(h:Fine P N z)(hP:∀ r,P r ->∀ v∈r,v.k≠0):mO z:=fun x hx=>⟨(h.can.2 x hx).1,hP _ (h.row x hx)⟩
theorem XA {row:List V}(h:qe row):∀ v∈row,v.k≠0:=by
 obtain ⟨a,b,c,_,_,_,rfl⟩:=h
 intro v hv
 simp only [mn] at hv
 rcases hv with rfl | rfl | rfl<;> · show (3:Int)≠0;decide
variable {p:Pl} {c:List (List Int)} {was is:List (List Z)}
theorem IX (hk:p.k=3)(Hu:1<=is.length)(cB:∀ x∈p.xs,sK x)(U7:ZH 8 (is.getD 0 []))(hx8:p.xs.length<=8)(hz4:(is.getD 0 []).length<=400):tL p c was is (gM (jO p.xs (is.getD 0 []))):=by
 intro M T sv bp op pc cv wv iv bQ hp hc hw hi
 obtain ⟨s1,a1,n1,a2,n2,a3,n3,rfl,ox,_,fM,Oa,pe⟩:=du hp
 obtain ⟨y0,y1,y2,y3,y4,y5,y6,y7,y8,y9,y10,_⟩:=bQ
 obtain ⟨_,ia,ic,rfl,_⟩:=ax (by decide) (fun _ _=>iq) hi
 obtain ⟨ib,io,w0,rfl,k0,xx⟩:=oI hi (i:=0) (by omega)
 have g0:(0:Int)<(is.length:Int):=by omega
 rw [Nat.add_zero] at k0
 refine az afT rfl rfl ?_
 intro bi _
 simp +contextual only [go_sem,aD,sevalprocAttr,y0,hk]
 refine aX ?_
 simp +contextual only [go_sem,sevalprocAttr,y8,k0,g0]
 refine aI (MZ fM xx cB U7 hx8 hz4 _) ?_
 rintro v M1 aV bG hv
 simp +contextual only [go_sem,sevalprocAttr]
 exact ak aF.rfl' hv
theorem xe (hk:p.k=11)(FG:1<=was.length)(Hu:1<=is.length)(AJ:(was.getD 0 []).length<=1000000)(aiS:iu (was.getD 0 []))(ha:cX (was.getD 0 [])<=1000000000)(U8:∀ z∈is.getD 0 [],z.row.map bJ=z.row/\z.w.natAbs<=1000000000)(D5:(is.getD 0 []).length<=1000000):tL p c was is (ee (fun w=>min (max w 0) 1) (was.getD 0 []) (is.getD 0 [])):=by
 intro M T sv bp op pc cv wv iv bQ hp hc hw hi
 obtain ⟨s1,a1,n1,a2,n2,a3,n3,rfl,ox,_,fM,Oa,pe⟩:=du hp
 obtain ⟨y0,y1,y2,y3,y4,y5,y6,y7,y8,y9,y10,_⟩:=bQ
 obtain ⟨_,ia,ic,rfl,_⟩:=ax (by decide) (fun _ _=>iq) hi
 obtain ⟨_,wa,wc,rfl,_⟩:=ax (by decide) (fun _ _=>iq) hw
 obtain ⟨ib,io,w0,rfl,k0,xx⟩:=oI hi (i:=0) (by omega)
 obtain ⟨wb,wo,w1,rfl,k1,hz1⟩:=oI hw (i:=0) (by omega)
 have g0:(0:Int)<(is.length:Int):=by omega
 have g1:(0:Int)<(was.length:Int):=by omega
 rw [Nat.add_zero] at k0 k1
 refine az afT rfl rfl ?_
 intro bi _
 simp +contextual only [go_sem,aD,sevalprocAttr,y0,hk]
 refine aX ?_
 simp +contextual only [go_sem,sevalprocAttr,k0,g0,k1,g1]
 refine aI (F2 adE.bd (fun w M T=>I0 w T) (by intro w;omega) hz1 xx AJ aiS ha U8 D5 _) ?_
 rintro v M1 aV bG hv
 simp +contextual only [go_sem,sevalprocAttr]
 exact ak aF.rfl' hv
def WO (xs:List Ex):Pl:=.mk 3 0 dX xs [] [oq]
theorem HC (z:List Z):mj (bN ej) [[],[]] [z,[]] oq [] z:=I6 (n:=0) (show 0<2 by decide) (show 0<2 by decide)
theorem GM {row:List V}(h:qe row):row.length<=8/\tV row:=by
 obtain ⟨a,b,c,_,_,_,rfl⟩:=h
 refine ⟨by simp,fun v hv=> ?_⟩
 simp only [mn] at hv
 rcases hv with rfl | rfl | rfl<;> · rw [iK];show ([]:Bs).length<=_;exact Nat.zero_le _
theorem FW {xs:List Ex}{z:List Z}(hz:Fine qe 15 z)(hx:∀ x∈xs,sK x)(hx8:xs.length<=8)(dt:rD (WO xs) [[3,3,3]] [[]]=.ok []):mj (bN ej) [[],[]] [z,[]] (WO xs) [] (gM (jO xs z)):=by
 have hc:fq (bN ej) oq=.ok [3,3,3]:=by kernel_rfl
 have hk:fY (bN ej) oq=[3,3,3]:=by unfold fY;rw [hc]
 refine LZ (zs:=[[]]) (ds:=[z]) (by show (3:Int)≠1;decide) rfl (by show 1<=2;decide) (by show 1<=1;decide) (fun h=>absurd h.1 (by show ¬ (4:Int)<=3;decide)) rfl rfl ?_ ?_ ?_ ?_
 ·intro q hq
  rw [List.mem_singleton.1 (show q∈[oq] from hq),hk,hc]
 ·intro i h
  have hi:i=0:=by have:i<1:=h;omega
  subst hi
  exact HC z
 ·show rD (WO xs) [fY (bN ej) oq] [[]]=.ok []
  rw [hk];exact dt
 ·show tL (WO xs) [fY (bN ej) oq] [[]] [z] _
  exact IX (is:=[z]) rfl (Nat.le_refl 1) hx (fun x hx=>GM (hz.row x hx)) hx8 (Nat.le_trans hz.len (by decide))
theorem AN {z:List Z}{p:Pl}{c:List Int}{d:List Z}(hn:mj (bN ej) [[],[]] [z,[]] p [] d)(hc:fq (bN ej) p=.ok c)(dt:rD (.mk 11 0 dX [] [] [p]) [c] [[]]=.ok [])(hd:∀ x∈d,x.row.map bJ=x.row/\x.w.natAbs<=1000000000)(xu:d.length<=1000000):
 mj (bN ej) [[],[]] [z,[]] (.mk 11 0 dX [] [] [p]) [] (ee (fun w=>min (max w 0) 1) [] d):=by
 have hk:fY (bN ej) p=c:=by unfold fY;rw [hc]
 refine LZ (zs:=[[]]) (ds:=[d]) (by show (11:Int)≠1;decide) rfl (by show 1<=2;decide) (by show 1<=1;decide) (fun h=>absurd h.2 (by show ¬ (11:Int)<=9;decide)) rfl rfl ?_ ?_ ?_ ?_
 ·intro q hq
  rw [List.mem_singleton.1 (show q∈[p] from hq),hk,hc]
 ·intro i h
  have hi:i=0:=by have:i<1:=h;omega
  subst hi
  exact hn
 ·show rD (.mk 11 0 dX [] [] [p]) [fY (bN ej) p] [[]]=.ok []
  rw [hk];exact dt
 ·show tL (.mk 11 0 dX [] [] [p]) [fY (bN ej) p] [[]] [d] _
  exact xe (was:=[[]]) (is:=[d]) rfl (Nat.le_refl 1) (Nat.le_refl 1) (Nat.zero_le _) ⟨List.Pairwise.nil,fun z hz=>by cases hz⟩ (Nat.zero_le _) hd xu
def lZ (w:Int):Int:=min (max w 0) 1
theorem tA:lZ 0=0:=by decide
theorem pZ {x:Z}:∀ {d:List Z},x∈ee lZ [] d ->∃ y∈d,x.row=y.row/\x.w=lZ y.w/\x.w≠0
 | y::d,h=>by
  rw [ee] at h
  simp only [wt,Int.zero_add,tA,Int.sub_zero] at h
  rcases wZ h with h | h
  ·by_cases h0:lZ y.w=0
   ·rw [if_pos h0] at h;cases h
   ·rw [if_neg h0] at h
    rw [List.mem_singleton.1 h]
    exact ⟨y,by simp,rfl,rfl,h0⟩
  ·obtain ⟨u,hu,h1⟩:=pZ h
   exact ⟨u,by simp [hu],h1⟩
theorem wC:∀ (d:List Z),cX (ee lZ [] d)<=cX d
 | []=>Nat.le_refl _
 | y::d=>by
  have ih:=wC d
  rw [ee,mK]
  simp only [wt,Int.zero_add,tA,Int.sub_zero]
  have:cX (y::d)=y.w.natAbs+cX d:=by rw [cX]
  have h1:(lZ y.w).natAbs<=y.w.natAbs:=by unfold lZ;omega
  split
  ·simp only [cX];omega
  ·simp only [cX];omega
theorem rT:∀ {d:List Z},iu d ->iu (ee lZ [] d)
 | [],h=>h
 | y::d,h=>by
  have ih:=rT (jB h)
  have hp:=List.pairwise_cons.1 h.1
  rw [ee]
  simp only [wt,Int.zero_add,tA,Int.sub_zero]
  split
  ·exact ih
  ·rename_i h0
   refine ⟨List.pairwise_cons.2 ⟨fun x hx=> ?_,ih.1⟩,fun x hx=> ?_⟩
   ·obtain ⟨u,hu,h1,_⟩:=pZ hx
    rw [h1];exact hp.1 u hu
   ·rcases mY hx with rfl | hx
    ·exact ⟨h0,(h.2 y (by simp)).2⟩
    ·exact ih.2 x hx
theorem zW (q:List V):∀ {d:List Z},iu d ->wt q (ee lZ [] d)=lZ (wt q d)
 | [],h=>rfl
 | y::d,h=>by
  have ih:=zW q (jB h)
  rw [ee,lP,ih,iL]
  simp only [wt,Int.zero_add,tA,Int.sub_zero]
  by_cases hq:y.row=q
  ·have h0:wt q d=0:=by rw [<- hq];exact jC h
   rw [if_pos hq,h0,tA,Int.add_zero,Int.add_zero]
   split
   ·rename_i h1;rw [h1];rfl
   ·rw [iL,if_pos hq];simp [wt]
  ·rw [if_neg hq,Int.zero_add]
   split
   ·simp [wt]
   ·rw [iL,if_neg hq];simp [wt]
theorem Fine.once {P:List V ->Prop}{N:Nat}{d:List Z}(h:Fine P N d):Fine P N (ee lZ [] d):=
 ⟨rT h.can,Nat.le_trans (wC d) h.abs,fun x hx=>by obtain ⟨u,hu,h1,_⟩:=pZ hx;rw [h1];exact h.row u hu⟩
theorem UU {P:List V ->Prop}{N:Nat}{z:List Z}(h:Fine P N z)(hN:N<=15):ou z=.ok z:=by
 have hl:=h.len
 obtain ⟨z',h1,h2,h3⟩:=yo (P:=fun _=>True) (N:=N) (l:=z) (by omega) h.abs (by omega) (fun _ _=>trivial)
 have:z'=z:=lN h2.can h.can fun r=>by rw [h3,xn h.bare]
 rw [h1,this]
theorem yt (xs:List Ex):∀ (z:List Z),cX (jO xs z)=cX z
 | []=>rfl
 | x::z=>by show (x.w.natAbs+cX (jO xs z))=_;rw [yt xs z,cX]
def XI (row:List V):Prop:=∃ a,Pg a/\row=[nV a]
def K0 (row:List V):Prop:=∃ a c,Pg a/\Pg c/\row=[nV a,⟨4,0,if 10<=c then o4 else wR⟩]
theorem Xv {row:List V}(h:qe row):XI ((dk [ul 0] row).map bJ):=by
 obtain ⟨a,b,c,ha,hb,hc,rfl⟩:=h
 refine ⟨a,ha,?_⟩
 show [bJ (bJ (nV a))]=_
 rw [iK,iK]
theorem PQ {sales:List (List Int)}{s2:Stm}{w:Pl×List Co}{z d:List Z}{P:List V ->Prop}(hr:lj sales 3)(hz:ou (sales.map Vd)=.ok z)(hf:Fine qe 15 z)(hn:mj (bN ej) [[],[]] [z,[]] w.1 [] d)(hd:Fine P 15 d)(hP:∀ r,P r ->ji r=0/\r.length<=8/\∀ v∈r,v.k≠0):
 Kl (ej++[iT s2 w]) (bN ej) w.1 (yk gj (sales.map fun r=>r.map gN)) ([],[],[]) (z,[],d):=by
 refine ⟨0,by simp [ej],z,[],z,[],d,d,rfl,fun j h hj=>absurd hj (by omega),?_,by show 3<=8;decide,?_,?_,?_,.inl ⟨rfl,rfl,rfl,rfl⟩,by kernel_rfl,OU hf,yN hf (by decide) fun r h=>Ic h,V1,hn,Nat.le_trans hd.len (by decide),fun x hx=>Nat.le_trans (hP _ (hd.row x hx)).2.1 (by decide),UU hd (by decide),yN hd (by decide) fun r h=>(hP r h).1,AW hf fun r h=>XA h,(fun x hx=>by cases hx),AW hd fun r h=>(hP r h).2.2⟩
 ·intro j h hj
  have:j=0:=by omega
  subst this
  rfl
 ·intro row bP
  obtain ⟨r,hm,rfl⟩:=List.mem_map.1 bP
  obtain ⟨a,b,c,ha,hb,hc,rfl⟩:=uH hr hm
  exact sP ⟨a,b,c,ha,hb,hc,xH ha hb hc⟩
 ·show (sales.map fun r=>r.map gN).length<=1600
  rw [List.length_map];have:=hr.1;omega
 ·show ou ((sales.map fun r=>r.map gN).map fun r=>(⟨r,1⟩:Z))=_
  rw [List.map_map];exact hz
theorem Hk:∀ (l:List Stm) (i:Nat),(∀ s∈l,ll s=0) ->(sD i l).1=0
 | [],_,_=>rfl
 | s::l,i,h=>by
  rw [sD,if_neg (by rw [h s (by simp)];simp)]
  exact Hk l (i+1) fun x hx=>h x (by simp [hx])
theorem P4 {l:List Stm}(hl:l.length<=60)(h:∀ s∈l,ll s=0):(kJ l).1=0:=by
 unfold kJ
 rw [if_neg (by omega)]
 exact Hk l 0 h
theorem ad0:ll s0C=0:=by kernel_rfl
theorem adc:ll s1C=0:=by kernel_rfl
theorem U4:ll vQ=0:=by kernel_rfl
theorem Ji:ll (kb qU)=0:=by kernel_rfl
theorem Nd:ll (kb sF)=0:=by kernel_rfl
theorem Zi {name t:Bs}{q:Se}{w:Pl×List Co}{z d:List Z}{P:List V ->Prop}{sales:List (List Int)}(hT:(wg name FZ).map (·.2)=some t)(hR:mr (GZ t)=([s0C,s1C,kb q],0,0))(Dc:t.length<=1000)(hr:lj sales 3)(hsq:ll (kb q)=0)(Vj:sales≠[] ->ll (yk gj (sales.map fun r=>r.map gN))=0)
 (hv:ViewOk ej [[],[]] (kb q) w []) (ha:AskOk (ej++[iT (kb q) w]) vQ.q w) (AJ:w.2.length<=1000000)
 (hI:Kl (ej++[iT (kb q) w]) (bN ej) w.1 (yk gj (sales.map fun r=>r.map gN)) ([],[],[]) (z,[],d)) (h0:sales=[] ->d=[]):abC name sales [] d:=by
 intro M lv pv hG hs hp T
 obtain ⟨⟨i,t'⟩,dh,dy⟩:=Option.map_eq_some_iff.1 hT
 cases dy
 have D5:gy gj sales++gy gb []=gy gj sales:=by rw [gy,gy,if_pos rfl,List.append_nil]
 have hls:=hr.1
 refine (XU (stt:=fun j=>if j=0 then ([],[],[]) else (z,[],d)) (w':=w) dh hR NL Dc hs hp (by omega) (fun r hm=>by have:=(hr.2 r hm).1;omega) (by simp) (fun r hm=>by cases hm) hG ?_ rfl rfl rfl rfl (by decide) (by decide) (by decide) ⟨by decide,by decide⟩ ⟨by decide,by decide⟩ hv rfl ?_ ha AJ rfl T).mono ?_ (fun _ _ _ _ _ _ _ h=>h)
 ·rw [D5]
  refine P4 ?_ ?_
  ·unfold gy;split<;>simp
  ·intro s hs
   simp only [List.mem_cons,List.mem_append,List.not_mem_nil,or_false] at hs
   rcases hs with rfl | rfl | rfl | hs | rfl
   ·exact ad0
   ·exact adc
   ·exact hsq
   ·unfold gy at hs
    split at hs
    ·cases hs
    ·rename_i cu
     rw [List.mem_singleton.1 hs]
     exact Vj cu
   ·exact U4
 ·intro j h
  by_cases cu:sales=[]
  ·subst cu;simp [gy] at h
  ·have gK:gy gj sales++gy gb []=[yk gj (sales.map fun r=>r.map gN)]:=by rw [D5,gy,if_neg cu]
   have hj:j=0:=by rw [gK] at h;simpa using h
   subst hj
   simp only [gK,List.getElem_cons_zero]
   exact hI
 ·rintro v M' L' R' _ _ _ ⟨zv,rfl,AB⟩
  refine ⟨zv,rfl,?_⟩
  by_cases cu:sales=[]
  ·subst cu
   rw [h0 rfl]
   exact AB
  ·have gK:gy gj sales++gy gb []=[yk gj (sales.map fun r=>r.map gN)]:=by rw [D5,gy,if_neg cu]
   rw [gK] at AB
   exact AB
theorem zM:∀ (n:Nat) (l:List (List Int)) (k:Nat),l.length=n ->∀ r∈l,jU k r∈em l k
 | 0,l,k,h=>by rw [List.length_eq_zero_iff.1 h];intro r hr;cases hr
 | n+1,l,k,h=>by
  obtain ⟨l',y,rfl⟩:∃ l' x,l=l'++[x]:=by
   rcases List.eq_nil_or_concat l with h0 | ⟨l',x,h0⟩
   ·subst h0;simp at h
   ·exact ⟨l',x,by simpa using h0⟩
  intro r hr
  rw [ld]
  have ih:=zM n l' k (by simpa using h)
  unfold AM
  rcases wZ hr with hr | hr
  ·split
   ·exact ih r hr
   ·exact sJ (.inl (ih r hr))
  ·rw [List.mem_singleton.1 hr]
   split
   ·assumption
   ·simp
open Classical in
theorem TQ (q:List V):∀ (n:Nat) (l:List (List Int)),l.length=n ->wt q (((Ee l).map qx).map eH)=if ∃ r∈l,[nV (jU 0 r)]=q then 1 else 0
 | 0,l,h=>by rw [List.length_eq_zero_iff.1 h,if_neg (by rintro ⟨r,hr,_⟩;cases hr)];rfl
 | n+1,l,h=>by
  obtain ⟨l',y,rfl⟩:∃ l' x,l=l'++[x]:=by
   rcases List.eq_nil_or_concat l with h0 | ⟨l',x,h0⟩
   ·subst h0;simp at h
   ·exact ⟨l',x,by simpa using h0⟩
  have jm:l'.length=n:=by simpa using h
  have ih:=TQ q n l' jm
  unfold Ee at ih ⊢
  rw [ld]
  unfold AM
  split
  ·rename_i Aq
   rw [ih]
   obtain ⟨r0,rL,he⟩:=si _ l' 0 rfl _ Aq
   by_cases hE:∃ r∈l',[nV (jU 0 r)]=q
   ·obtain ⟨r,hr,h⟩:=hE
    rw [if_pos ⟨r,hr,h⟩,if_pos ⟨r,sJ (.inl hr),h⟩]
   ·rw [if_neg hE,if_neg]
    rintro ⟨r,hr,h⟩
    rcases wZ hr with hr | hr
    ·exact hE ⟨r,hr,h⟩
    ·rw [List.mem_singleton.1 hr,he] at h
     exact hE ⟨r0,rL,h⟩
  ·rename_i Aq
   rw [List.map_append,List.map_append,List.map_append,lP,ih]
   have hb:(List.map eH (List.map qx (List.map (fun n=>[nV n]) [jU 0 y])))=[⟨[nV (jU 0 y)],1⟩]:=by
    show [eH (qx [nV (jU 0 y)])]=_
    show [(⟨[bJ (nV (jU 0 y))],1⟩:Z)]=_
    rw [iK]
   rw [hb,iL]
   simp only [wt,Int.add_zero]
   by_cases hE:∃ r∈l',[nV (jU 0 r)]=q
   ·obtain ⟨r,hr,h⟩:=hE
    have hq:¬ [nV (jU 0 y)]=q:=by
     rintro hq
     rw [<- hq] at h
     have h2:jU 0 r=jU 0 y:=congrArg V.n (List.cons.inj h).1
     exact Aq (h2 ▸ zM _ l' 0 rfl r hr)
    rw [if_pos ⟨r,hr,h⟩,if_neg hq,if_pos ⟨r,sJ (.inl hr),h⟩]
    rfl
   ·by_cases hq:[nV (jU 0 y)]=q
    ·rw [if_neg hE,if_pos hq,if_pos ⟨y,sJ (.inr (List.mem_singleton.2 rfl)),hq⟩]
     rfl
    ·rw [if_neg hE,if_neg hq,if_neg]
     ·rfl
     ·rintro ⟨r,hr,h⟩
      rcases wZ hr with hr | hr
      ·exact hE ⟨r,hr,h⟩
      ·rw [List.mem_singleton.1 hr] at h
       exact hq h
def wH (g:List V ->List V)(q:List V):List (List Int) ->Int
 | []=>0
 | r::l=>(if g (r.map gN)=q then 1 else 0)+wH g q l
theorem G6 (g:List V ->List V)(q:List V):∀ (l:List (List Int)),0<=wH g q l/\(wH g q l=0 ↔ ¬ ∃ r∈l,g (r.map gN)=q)
 | []=>⟨Int.le_refl 0,by simp [wH]⟩
 | r::l=>by
  obtain ⟨h1,h2⟩:=G6 g q l
  rw [wH]
  by_cases h:g (r.map gN)=q
  ·rw [if_pos h]
   exact ⟨by omega,⟨fun h3=>by omega,fun h3=>absurd ⟨r,by simp,h⟩ h3⟩⟩
  ·rw [if_neg h,Int.zero_add]
   refine ⟨h1,h2.trans ⟨fun h3 ⟨x,hx,h4⟩=> ?_,fun h3 ⟨x,hx,h4⟩=>h3 ⟨x,by simp [hx],h4⟩⟩⟩
   rcases mY hx with rfl | hx
   ·exact h h4
   ·exact h3 ⟨x,hx,h4⟩
theorem Rk {sales:List (List Int)}{z:List Z}{xs:List Ex}(q:List V)(hr:lj sales 3)(hz:∀ q,wt q z=wt q ((sales.map Vd).map eH)):wt q ((jO xs z).map eH)=wH (fun row=>(dk xs row).map bJ) q sales:=by
 have h1:(jO xs z).map eH=z.map fun x=>⟨(dk xs x.row).map bJ,x.w⟩:=by
  unfold jO;rw [List.map_map];rfl
 rw [h1,SO (fun row=>(dk xs row).map bJ),Sq hz]
 have hb:(sales.map Vd).map eH=sales.map Vd:=xn fun x hx=>by
  obtain ⟨r,hm,rfl⟩:=List.mem_map.1 hx
  obtain ⟨a,b,c,ha,hb,hc,rfl⟩:=uH hr hm
  rw [xH ha hb hc]
  simp [iK]
 rw [hb]
 clear hb h1 hz hr
 induction sales with
 | nil=>rfl
 | cons r l ih=>
  rw [List.map_cons,kU,ih,wH]
  show (if (dk xs (r.map gN)).map bJ=q then (1:Int) else 0)*1+_=_
  rw [Int.mul_one]
theorem Sn:∀ (l:List (List V)),(∀ r∈l,qe r) ->rG l=0
 | [],_=>rfl
 | r::l,h=>by
  obtain ⟨a,b,c,ha,hb,hc,rfl⟩:=h r (by simp)
  rw [rG,if_neg (by simp),Sn l fun x hx=>h x (by simp [hx])]
  simp only [AY,rV ha,rV hb,rV hc]
  rfl
theorem KV {sales:List (List Int)}(hr:lj sales 3)(cu:sales≠[]):ll (yk gj (sales.map fun r=>r.map gN))=0:=by
 have hl:=hr.1
 have hp:=List.length_pos_iff.2 cu
 have bP:rG (sales.map fun r=>r.map gN)=0:=Sn _ fun row bP=>by
  obtain ⟨r,hm,rfl⟩:=List.mem_map.1 bP
  obtain ⟨a,b,c,ha,hb,hc,rfl⟩:=uH hr hm
  exact ⟨a,b,c,ha,hb,hc,xH ha hb hc⟩
 have GI:gQ [gj]=0:=by kernel_rfl
 have bq:¬ (((sales.map fun r=>r.map gN).length:Int)<1\/400<((sales.map fun r=>r.map gN).length:Int)):=by rw [List.length_map];omega
 show (if (3:Int)<1\/(5:Int)<3 then (1:Int) else if (3:Int)=5 then _ else vN (gQ [gj]) (if (3:Int)=2 then _ else if (3:Int)=1 then _ else if (3:Int)=3 then (if ((sales.map fun r=>r.map gN).length:Int)<1\/400<((sales.map fun r=>r.map gN).length:Int) then 5 else rG (sales.map fun r=>r.map gN)) else _))=0
 rw [if_neg (by decide),if_neg (by decide),if_neg (by decide),if_neg (by decide),if_pos rfl,if_neg bq,bP,GI]
 rfl
theorem P6 {row:List V}(h:XI row):ji row=0/\row.length<=8/\∀ v∈row,v.k≠0:=by
 obtain ⟨a,ha,rfl⟩:=h
 refine ⟨nL (cols:=[3]) (by decide) ?_,by simp,fun v hv=> ?_⟩
 ·unfold mf
  rw [if_neg (by simp)]
  simp only [rU,rV ha,nE]
  simp [nV]
 ·rw [List.mem_singleton.1 hv];show (3:Int)≠0;decide
theorem CD {i:Int}(h:0<=i):sK (ul i):=⟨⟨by decide,by decide⟩,fun h=>absurd h (by decide),fun _=>h,rfl,trivial⟩
theorem Lx {P:List V ->Prop}{d:List Z}(h:Fine P 15 d):∀ z∈d,¬ (z.w< -1000000)/\¬ (z.w>1000000):=fun z hz=>by
 have h1:=pI hz
 have h2:=h.abs
 omega
theorem uI:∀ (l:List (List V)),cX (l.map qx)=l.length
 | []=>rfl
 | x::l=>by rw [List.map_cons,cX,uI l];simp [qx];omega
theorem Ed (xs:List Ex)(z:List Z):(jO xs z).length=z.length:=List.length_map _
theorem DQ {sales:List (List Int)}(hr:lj sales 3):KP DB sales [] (Ee sales):=by
 obtain ⟨z,hz,hf,hw⟩:=F0 hr
 have qh:=hf.len
 obtain ⟨w9,Xq⟩:=sL (P:=XI) (N:=15) (l:=jO [ul 0] z) (by rw [Ed];omega) (by rw [yt];exact hf.abs) (by decide) (fun x hx=>by
  obtain ⟨y,hy,rfl⟩:=List.mem_map.1 hx
  exact Xv (hf.row y hy))
 have hd:=w9.once
 have fM:∀ x∈[ul 0],sK x:=fun x hx=>by rw [List.mem_singleton.1 hx];exact CD (Int.le_refl 0)
 have hn:mj (bN ej) [[],[]] [z,[]] tJ.1 [] (ee lZ [] (gM (jO [ul 0] z))):=
  AN (c:=[3]) (FW hf fM (by decide) (by kernel_rfl)) (by kernel_rfl) (by kernel_rfl) (fun x hx=>⟨w9.bare x hx,by have:=pI hx;have:=w9.abs;omega⟩) (Nat.le_trans w9.len (by decide))
 have Av:∀ q,wt q (ee lZ [] (gM (jO [ul 0] z)))=lZ (wH (fun row=>(dk [ul 0] row).map bJ) q sales):=fun q=>by
  rw [zW q w9.can,Xq,Rk q hr hw]
 refine ⟨_,Zi (P:=XI) Gp EC (by decide) hr Ji (KV hr) Eg Iv (by decide) (PQ hr hz hf hn hd fun r h=>P6 h) ?_,Lx hd,?_⟩
 ·rintro rfl
  refine lN hd.can ⟨List.Pairwise.nil,fun z hz=>by cases hz⟩ fun q=> ?_
  rw [Av]
  rfl
 ·refine J4 hd.can (by rw [uI];have h1:=oM _ sales 0 rfl;have h2:(Ee sales).length=(em sales 0).length:=List.length_map _;have:=hr.1;omega) fun q=> ?_
  rw [TQ q _ sales rfl,Av]
  obtain ⟨c1,c2⟩:=G6 (fun row=>(dk [ul 0] row).map bJ) q sales
  have bP:∀ r∈sales,(dk [ul 0] (r.map gN)).map bJ=[nV (jU 0 r)]:=fun r hm=>by
   obtain ⟨a,b,c,ha,hb,hc,rfl⟩:=uH hr hm
   show [bJ (bJ (gN a))]=[nV a]
   rw [oO ha.1,iK,iK]
  by_cases hE:∃ r∈sales,[nV (jU 0 r)]=q
  ·rw [if_pos hE]
   obtain ⟨r,hm,he⟩:=hE
   have:¬ wH (fun row=>(dk [ul 0] row).map bJ) q sales=0:=fun h0=>c2.1 h0 ⟨r,hm,(bP r hm).trans he⟩
   unfold lZ;omega
  ·rw [if_neg hE,c2.2 fun ⟨r,hm,he⟩=>hE ⟨r,hm,(bP r hm).symm.trans he⟩]
   rfl
theorem V2 (c n:Int):o6 (nV c) (nV n)=tq (decide (c<n)):=by
 have h:decide (pT (nV c) (nV n)<0)=decide (c<n):=by
  unfold pT
  rw [iK,iK]
  show decide (kM (fW 3 3) (kM (fW c n) (kA [] []))<0)=_
  rw [qG]
  unfold kM fW
  by_cases h1:c<n
  ·simp [h1]
  ·by_cases h2:n<c
   ·simp [h1,h2]
   ·simp [h1,h2]
 unfold o6
 rw [if_pos (by rfl),h]
theorem JR (b:Bool):BZ (tq b)=b:=by cases b<;>decide
theorem Om {a b c:Int}:Ht yB [nV a,nV b,nV c]=⟨4,0,if 10<=c then o4 else wR⟩:=by
 have h1:Ht yB [nV a,nV b,nV c]=if BZ (o6 (bJ (nV c)) (nV 10))=true then ⟨4,0,wR⟩ else ⟨4,0,o4⟩:=by rfl
 rw [h1,iK,V2,JR]
 by_cases h:c<10
 ·rw [if_pos (by simpa using h),if_neg (by omega)]
 ·rw [if_neg (by simpa using h),if_pos (by omega)]
def lW:List Ex:=[ul 0,yB]
theorem Cv {a b c:Int}:(dk lW [nV a,nV b,nV c]).map bJ=[nV a,⟨4,0,if 10<=c then o4 else wR⟩]:=by
 show [bJ (bJ (nV a)),bJ (Ht yB [nV a,nV b,nV c])]=_
 rw [Om,iK,iK]
 rfl
theorem Tf {row:List V}(h:qe row):K0 ((dk lW row).map bJ):=by
 obtain ⟨a,b,c,ha,hb,hc,rfl⟩:=h
 exact ⟨a,c,ha,hc,Cv⟩
theorem Oy {row:List V}(h:K0 row):ji row=0/\row.length<=8/\∀ v∈row,v.k≠0:=by
 obtain ⟨a,c,ha,hc,rfl⟩:=h
 have hw:∀ t:Bs,(t=o4\/t=wR) ->eO ⟨4,0,t⟩=0:=by rintro t (rfl | rfl)<;>decide
 have hw:=hw (if 10<=c then o4 else wR) (by split;exact .inl rfl;exact .inr rfl)
 refine ⟨nL (cols:=[3,4]) (by decide) ?_,by simp,fun v hv=> ?_⟩
 ·unfold mf
  rw [if_neg (by simp)]
  simp only [rU,rV ha,hw,nE]
  simp [nV]
 ·simp only [mn] at hv
  rcases hv with rfl | rfl
  ·show (3:Int)≠0;decide
  ·show (4:Int)≠0;decide
theorem Nz:∀ x∈lW,sK x:=fun x hx=>by
 simp only [lW,mn] at hx
 rcases hx with rfl | rfl
 ·exact CD (Int.le_refl 0)
 ·have ht:∀ (k n:Int) (t:Bs),t.length<=10 ->(bJ ⟨k,n,t⟩).t.length<=1099511627776:=by
   intro k n t h
   unfold bJ
   split
   ·exact Nat.zero_le _
   split
   ·show t.length<=_;omega
   ·exact Nat.zero_le _
  exact ⟨⟨by decide,by decide⟩,fun h=>absurd h (by decide),fun h=>absurd h (by decide),rfl,⟨⟨by decide,by decide⟩,fun h=>absurd h (by decide),fun h=>absurd h (by decide),rfl,CD (by decide),⟨⟨by decide,by decide⟩,fun _=>ht _ _ _ (by decide),fun h=>absurd h (by decide),rfl,trivial⟩,trivial⟩,
   ⟨⟨by decide,by decide⟩,fun _=>ht _ _ _ (by decide),fun h=>absurd h (by decide),rfl,trivial⟩,⟨⟨by decide,by decide⟩,fun _=>ht _ _ _ (by decide),fun h=>absurd h (by decide),rfl,trivial⟩,trivial⟩
theorem XT {sales:List (List Int)}(q:List V)(hr:∀ r∈sales,(dk lW (r.map gN)).map bJ=lq r):wt q (((oL sales).map qx).map eH)=wH (fun row=>(dk lW row).map bJ) q sales:=by
 induction sales with
 | nil=>rfl
 | cons r l ih=>
  have h1:=hr r (by simp)
  have hb:(lq r).map bJ=lq r:=by
   rw [<- h1,List.map_map]
   congr 1
   funext v
   exact nH v
  show wt q (⟨(lq r).map bJ,1⟩::((oL l).map qx).map eH)=_
  rw [iL,ih fun x hx=>hr x (by simp [hx]),wH,h1,hb]
theorem D9 {sales:List (List Int)}(hr:lj sales 3):KP JJ sales [] (oL sales):=by
 obtain ⟨z,hz,hf,hw⟩:=F0 hr
 have qh:=hf.len
 obtain ⟨hd,Xq⟩:=sL (P:=K0) (N:=15) (l:=jO lW z) (by rw [Ed];omega) (by rw [yt];exact hf.abs) (by decide) (fun x hx=>by
  obtain ⟨y,hy,rfl⟩:=List.mem_map.1 hx
  exact Tf (hf.row y hy))
 have hn:mj (bN ej) [[],[]] [z,[]] yD.1 [] (gM (jO lW z)):=FW hf Nz (by decide) (by kernel_rfl)
 have Av:∀ q,wt q (gM (jO lW z))=wH (fun row=>(dk lW row).map bJ) q sales:=fun q=>by
  rw [Xq,Rk q hr hw]
 refine ⟨_,Zi (P:=K0) JA I5 (by decide) hr Nd (KV hr) Jy Oq (by decide) (PQ hr hz hf hn hd fun r h=>Oy h) ?_,Lx hd,?_⟩
 ·rintro rfl
  refine lN hd.can ⟨List.Pairwise.nil,fun z hz=>by cases hz⟩ fun q=> ?_
  rw [Av]
  rfl
 ·refine J4 hd.can (by rw [uI];have h2:(oL sales).length=sales.length:=List.length_map _;have:=hr.1;omega) fun q=> ?_
  rw [Av]
  refine XT q fun r hm=> ?_
  obtain ⟨a,b,c,ha,hb,hc,rfl⟩:=uH hr hm
  show (dk lW [gN a,gN b,gN c]).map bJ=_
  rw [oO ha.1,oO hb.1,oO hc.1,Cv]
  rfl
theorem C8 {M:aS}{sales:List (List Int)}{lv:Value}(h:RS M (ms M) 1 sales lv)(hG:eQ M)(T:Tm):bV Tryz.prog 3 [lv] T M [] [] (fun v _ _ _=>v=.bool true) aM:=
 Dg h hG DQ D9 T
set_option maxRecDepth 100000
section
variable {H:Type} {enc:TypeId×Value ->H} {W:World}
theorem ais (n:Nat):PT enc Tryz.prog W n 2 RI:=by
 intro sp m hm cs x h hw
 exact Wy Tryz.underlying2 sp m hm cs x h hw
theorem FR {sp:Nat ->Bool}{m:Nat}{cs:List Value}{x:DataW H×List MemPlace}(h:DataW.trod enc Tryz.prog W 0 sp true m 22 cs=some x)(hw:Rows.uptoBulk x.1<=1048576):
 ∃ l v,cs=[v]/\RS (mi W) (ms (mi W)) 1 l v:=by
 obtain ⟨l,v,h1,h2,_⟩:=Fb (sz:=1) ((MX (sz:=1) (ais m) Tryz.underlying25 (by kernel_rfl) (by decide)).le (Nat.le_succ m)) Tryz.underlying22 (by kernel_rfl) (by decide) (Nat.le_succ m) h hw
 exact ⟨l,v,h1,aH bm.rfl' (by rintro x cs ⟨s,h1,h2⟩;first | exact ⟨s,h2,h1⟩ | exact ⟨s,h1,h2⟩) h2⟩
end
open Go.ChangeMaps
open Go.ChangeShapes Go.WideShapes Go.ChangeAt Go.RowKit
theorem wG (os:Os)(args:Array Value):laidMet Tryz.prog Rows.shelfBuyersUptoRow.laid ((ol os).forCall (fun _ _=>0) ⟨#[],args,[]⟩).memory:=
 C9 8 (by kernel_rfl) (by kernel_rfl)
theorem ri (os:Os){H:Type}(enc:TypeId×Value ->H):
 (Rows.OpenSpec.upto Rows.shelfBuyersSpec).preRow enc Tryz.prog Tryz.f3 Rows.shelfBuyersUptoRow.domain false Rows.shelfBuyersUptoRow.laid ((ol os).forCall (fun _ _=>0) ⟨#[],#[.slice none 0 0],[]⟩).memory #[.slice none 0 0]:=by
 have hw:(DataW.whole enc Tryz.prog ((ol os).forCall (fun _ _=>0) ⟨#[],#[.slice none 0 0],[]⟩).memory Tryz.f3.params.toList Rows.shelfBuyersSpec.vars false (#[.slice none 0 0]:Array Value).toList 8).map (fun x=>(x.1,x.2.1))=
  some ([.nil],[]):=by kernel_rfl
 obtain ⟨⟨x1,x2,x3⟩,hx,Dj⟩:=Option.map_eq_some_iff.1 hw
 simp only [Prod.mk.injEq] at Dj
 obtain ⟨rfl,rfl⟩:=Dj
 exact OpenSpec.preRow_of_cond 8 hx (by kernel_rfl) (fun k hk=>by cases hk;kernel_rfl) (by kernel_rfl) (wG os _)
theorem qg (H:Type)(enc:TypeId×Value ->H)(W:World)(base:Nat)(args:Array Value)(ds gs:List (DataW H))(before:List MemPlace)
 (EO:∀ (j:Nat) t v,Tryz.f3.params[j]?=some t ->args[j]?=some v ->Value.okWide Tryz.prog W .any base t v)
 (hW:DataW.Whole enc Tryz.prog Tryz.f3.params.toList Rows.shelfBuyersSpec.vars false W args.toList ds gs before) (KR:Rows.uptoSmall H (ds++gs)=true)
 (hL:laidMetH Tryz.prog Rows.shelfBuyersUptoRow.laid W) (hS:W.ShapedOpen Tryz.prog):
 Calls Tryz.prog 3 args W fun e W'=>∃ v,e=.returned v/\Rows.shelfBuyersSpec.post enc Tryz.prog Tryz.f3 false true false false W args v W':=by
 have hW':=hW
 obtain ⟨p,q,hA0,hV,rfl,U7,jj⟩:=hW
 have hA:DataW.TrodAll enc Tryz.prog W 0 (fun _=>true) true Tryz.f3.params.toList args.toList ds p:=hA0
 clear hA0
 have hA':=hA
 rw [Tryz.params3] at hA EO
 have hA:DataW.TrodAll enc Tryz.prog W 0 (fun _=>true) true [22] args.toList ds p:=hA
 obtain ⟨v0,vs0,d0,ds0,p0,q0,aaV,aj9,Ar,h0,r0⟩:=trodAll_cons hA
 obtain ⟨hvn,hdn,hpn⟩:=trodAll_nil r0
 subst aj9 hdn
 have Hy:args.toList=[v0]:=by rw [aaV,hvn]
 obtain rfl:args= #[v0]:=by cases args;simp_all
 obtain ⟨rfl,rfl⟩:=trodVars_none hV
 simp only [List.append_nil] at hW' KR
 have hG:eQ (mi W):=Wn (by kernel_rfl) hL
 have hk:=of_decide_eq_true KR
 simp only [Rows.uptoBulkAll] at hk
 obtain ⟨a0,m0,c0,rfl⟩:=okWide_slice Tryz.underlying22 (EO 0 _ _ rfl rfl)
 obtain ⟨n0,k0⟩:=h0
 obtain ⟨l0,u0,eu0,rL⟩:=FR k0 (show Rows.uptoBulk d0<=1048576 by omega)
 obtain rfl:Value.slice a0 m0 c0=u0:=by simpa [Value.cells] using eu0
 have hc:=P7 (C8 rL hG (fun _=>none)) (FP W)
 refine hc.mono fun e W' ⟨v,M',he,hk,_,_,hv⟩=> ?_
 subst he;subst hv
 refine ⟨_,rfl,_,_,_,[],p,[],hW',?_,?_,?_,ke.but hk _,fun h=>by cases h⟩
 ·exact trodAll_mk1 (shut_bool Tryz.underlying4 true)
 ·exact Cr hk (by decide +kernel) hA'
 ·rfl
end Go.Proofs.YtmeeifechggoeaaGreatDoor

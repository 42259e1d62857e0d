import Derived.Test.YtcpjbohndglclaaGreatDoorJ
import Derived.Test.YtcpjbohndglclaaGreatDoorI
import Derived.Test.YtcpjbohndglclaaGreatDoorF
import Derived.Test.YtcpjbohndglclaaGreatDoorG
set_option linter.all false
namespace Go.Proofs.YtcpjbohndglclaaGreatDoor
open Go Vc
set_option maxRecDepth 10000
def IZ:Bs:=[102,105,114,115,116]
def Sg:Bs:=[115,101,108,101,99,116,32,119,104,111,32,44,32,110,32,102,114,111,109,32,115,97,108,101,32,111,114,100,101,114,32,98,121,32,110,32,44,32,119,104,111,32,108,105,109,105,116,32,51]
def sM:Q:=⟨[⟨false,false,[⟨Vy [119,104,111],[]⟩,⟨Vy [110],[]⟩],[soS gV],false,false,lq,lq,[]⟩],[],[Vy [110],Vy [119,104,111]],3⟩
theorem J9:mY (MF Sg)=([s0C,s1C,sx sM],0,0):=by kernel_rfl
theorem JG:(zP IZ Im).map (·.2)=some Sg:=by kernel_rfl
def AE:List Ex:=[R8 0,R8 2]
def Sf:Pl:=.mk 13 3 dR jt [] [Tz AE]
def tW:Pl×List Co:=(Sf,[⟨[119,104,111],3⟩,⟨[110],3⟩])
theorem E2:iN eQ sM=.ok tW:=by kernel_rfl
def Oi:∀ x∈sM.parts,OkSe x:=fun x hx=>by
 rw [List.mem_singleton.1 hx]
 exact
 {src:=by decide
  on:=fun j x h hj=>by
   obtain ⟨j,rfl⟩:∃ k,j=k+1:=⟨j - 1,by omega⟩
   cases h
  wh:=fun h=>by cases h
  grp:=⟨by decide,fun x hx=>by cases hx⟩
  its:=fun _=>⟨by decide,fun x hx=>by
   simp only [mn] at hx
   rcases hx with rfl | rfl<;>exact MP _⟩
  hv:=fun h=>by cases h
  cnt:=fun _=>by decide}
theorem Ks:ViewOk eQ [[],[]] (sx sM) tW []:=
 Vo Oi (by show 1<=0+1;decide) (by show 1<=1048576;decide) (fun _=>⟨by show 2<=1048576;decide,fun x hx=>by
  simp only [sM,mn] at hx
  rcases hx with rfl | rfl<;>exact MP _⟩) (by kernel_rfl) E2 (by kernel_rfl) (by decide) (by decide) (by decide) ⟨[3,3],by kernel_rfl⟩ (by kernel_rfl) (by kernel_rfl)
theorem Nq:AskOk (eQ++[jw (sx sM) tW]) AA.q tW:=aaG (by kernel_rfl) (by kernel_rfl)
theorem Pn:mA (sx sM)=0:=by kernel_rfl
def I0 (p:Pl):fy p []=[]:=by
 have tB:fk (wx p.xs) ([]:List Z)=[]:=List.eq_nil_of_length_eq_zero (by rw [(gy (wx p.xs) ([]:List Z)).1];rfl)
 unfold fy
 rw [tB,eA]
def TF {z d:List Z}{p:Pl}{c:List Int}(hn:mL (bO eQ) [[],[]] [z,[]] p [] d)(hc:fH (bO eQ) p=.ok c)(dB:se (.mk 13 3 dR jt [] [p]) [c] [[]]=.ok [])(hd:Firm d)(ht:dZ d=d):
 mL (bO eQ) [[],[]] [z,[]] (.mk 13 3 dR jt [] [p]) [] (dZ (fy (.mk 13 3 dR jt [] [p]) d)):=by
 have hk:gj (bO eQ) p=c:=by unfold gj;rw [hc]
 refine K2 (zs:=[[]]) (ds:=[d]) (by show (13:Int)≠1;decide) rfl (by show 1<=2;decide) (by show 1<=1;decide) (fun h=>absurd h.2 (by show ¬ (13:Int)<=9;decide)) rfl rfl ?_ ?_ ?_ ?_
 ·intro q hq
  rw [List.mem_singleton.1 (show q∈[p] from hq),hk,hc]
 ·intro i h
  have hi:i=0:=by have:i<1:=h;omega
  subst hi
  exact hn
 ·show se (.mk 13 3 dR jt [] [p]) [gj (bO eQ) p] [[]]=.ok []
  rw [hk];exact dB
 ·show tE (.mk 13 3 dR jt [] [p]) [gj (bO eQ) p] [[]] [d] _
  have h:=Iz (p:=.mk 13 3 dR jt [] [p]) (c:=[gj (bO eQ) p]) (was:=[[]]) (is:=[d]) rfl (fun x hx=>by
   have hx:x∈jt:=hx
   simp only [jt,mn] at hx
   rcases hx with rfl | rfl
   ·exact DF (by decide)
   ·exact DF (by decide)) (Nat.le_refl 1) (Nat.le_refl 1) ⟨(fun r hr=>by cases hr),(fun r hr=>by cases hr),Nat.zero_le _,(fun r hr=>by cases hr)⟩ ⟨hd.len,hd.row⟩ (by show Firm (dZ ([]++d));rw [List.nil_append,ht];exact hd) ⟨by show (0:Int)<=3;decide,by show (3:Int)<=1000000;decide⟩
  have e:dZ (fy (.mk 13 3 dR jt [] [p]) (dZ ([]++d))++s8 (fy (.mk 13 3 dR jt [] [p]) []))=dZ (fy (.mk 13 3 dR jt [] [p]) d):=by
   rw [I0,List.nil_append,ht];simp [s8]
  rw [<- e];exact h
def Hx {a b c:Int}:(dw AE [nV a,nV b,nV c]).map bQ=[nV a,nV c]:=by
 show [bQ (bQ (nV a)),bQ (bQ (nV c))]=_
 rw [ji,ji,ji,ji]
def YJ {row:List V}(h:sq row):Bf ((dw AE row).map bQ):=by
 obtain ⟨a,b,c,ha,hb,hc,rfl⟩:=h
 exact ⟨a,c,ha,hc,Hx⟩
def Hw {row:List V}(h:Bf row):jT row=0/\row.length<=8/\∀ v∈row,v.k≠0:=by
 obtain ⟨a,c,ha,hc,rfl⟩:=h
 refine ⟨qU (cols:=[3,3]) (by decide) ?_,by simp,fun v hv=> ?_⟩
 ·unfold mS
  rw [if_neg (by simp)]
  simp only [tZ,sd ha,sd hc,o6]
  simp [nV]
 ·simp only [mn] at hv
  rcases hv with rfl | rfl<;> · show (3:Int)≠0;decide
def adb {row:List V}(h:Bf row):jN row:=by
 obtain ⟨a,c,ha,hc,rfl⟩:=h
 intro v hv
 simp only [mn] at hv
 rcases hv with rfl | rfl<;> · rw [ji];show ([]:Bs).length<=_;exact Nat.zero_le _
def U2 {row:List V}(h:Bf row):row.map bQ=row:=by
 obtain ⟨a,c,ha,hc,rfl⟩:=h
 simp [ji]
def aeC {sales:List (List Int)}(hr:∀ r∈sales,(dw AE (r.map iK)).map bQ=fT r)(q:List V):Q0 (fun row=>(dw AE row).map bQ) q sales=cnt q sales:=by
 induction sales with
 | nil=>rfl
 | cons r l ih=>rw [Q0,cnt,ih fun x hx=>hr x (by simp [hx]),hr r (by simp)]
theorem vb:∀ (l:List Z) (k:Int),(∀ z∈l,0<z.w) ->dt (eA k l)<=dt l
 | [],k,_=>by rw [eA];exact Nat.le_refl _
 | r::l,k,h=>by
  have hl:∀ z∈l,0<z.w:=fun z hz=>h z (by simp [hz])
  have h0:=h r (by simp)
  rw [eA]
  split
  ·rename_i hk
   obtain ⟨u,hu⟩:∃ u,u=if k<r.w then k else r.w:=⟨_,rfl⟩
   rw [<- hu]
   have ih:=vb l (IntKind.i64.wrap (k - u)) hl
   have h1:u.natAbs<=r.w.natAbs:=by rw [hu];split<;>omega
   rw [dt,dt]
   dsimp only
   omega
  ·have ih:=vb l k hl
   rw [dt];omega
theorem Eo {P:List V ->Prop}:∀ {l:List Z} {k:Int},(∀ r∈l,P r.row) ->∀ r∈eA k l,P r.row
 | [],k,_,r,hr=>by rw [eA] at hr;cases hr
 | x::l,k,h,r,hr=>by
  have hl:∀ r∈l,P r.row:=fun r hr=>h r (by simp [hr])
  rw [eA] at hr
  split at hr
  ·rcases lQ hr with rfl | hr
   ·exact h x (by simp)
   ·exact Eo hl r hr
  ·exact Eo hl r hr
theorem GN:∀ (k:Nat) (l:List (List Int)),(pick k l).length<=k
 | 0,_=>Nat.le_refl _
 | k+1,l=>by
  rw [pick]
  split
  ·exact Nat.zero_le _
  ·rw [List.length_cons];have:=GN k (mP l (nO l l.length));omega
theorem Cr:∀ (k:Nat) (l:List (List Int)),((pick k l).map n8).map fG=(pick k l).map n8
 | 0,_=>rfl
 | k+1,l=>by
  rw [pick]
  split
  ·rfl
  ·rw [List.map_cons,List.map_cons,Cr k]
   congr 1
def Hg {sales:List (List Int)}(hr:lw sales 3):Y9 IZ sales [] (pick 3 sales):=by
 obtain ⟨z,hz,hf,hw⟩:=Uv hr
 have pD:=hf.len
 obtain ⟨d0,Zr⟩:∃ d,d=dZ (lh AE z):=⟨_,rfl⟩
 obtain ⟨pB,ZO⟩:=pd (P:=Bf) (N:=15) (l:=lh AE z) (by rw [TA];omega) (by rw [EZ];exact hf.abs) (by decide) (fun x hx=>by
  obtain ⟨y,hy,rfl⟩:=List.mem_map.1 hx
  exact YJ (hf.row y hy))
 rw [<- Zr] at pB ZO
 have A4:∀ r∈sales,(dw AE (r.map iK)).map bQ=fT r:=fun r hm=>by
  obtain ⟨a,b,c,ha,hb,hc,rfl⟩:=Au hr hm
  show (dw AE [iK a,iK b,iK c]).map bQ=[nV a,nV c]
  rw [rA ha.1,rA hb.1,rA hc.1,Hx]
 have Jh:∀ q,wt q d0=cnt q sales:=fun q=>by rw [ZO,acE q hr hw,aeC A4]
 have dK:∀ x∈d0,0<x.w:=fun x hx=>by
  obtain ⟨i,hi,rfl⟩:=List.getElem_of_mem hx
  have h1:=aab hi pB.can
  have h2:=(xI d0[i].row sales).1
  have h3:=(pB.can.2 _ hx).1
  rw [<- Jh] at h2
  omega
 have ak6:=pB.len
 obtain ⟨l,hl⟩:∃ l,l=fk (wx jt) d0:=⟨_,rfl⟩
 obtain ⟨ml,cX⟩:=qz (cf:=wx jt) (ey.comap fun x:Z=>dw jt x.row) (l:=d0) (by omega)
 rw [<- hl] at ml cX
 have S2:SortF l:=by
  refine ⟨?_,fun x hx=>pB.row x (ml.mem_iff.1 hx),fun x hx=>dK x (ml.mem_iff.1 hx)⟩
  have jo:(l.map (·.row)).Nodup:=(ml.map _).nodup_iff.2 (List.pairwise_map.2 (pB.can.1.imp fun {x y} h he=>by rw [he,ey.self] at h;omega))
  have cm:l.Pairwise fun x y=>x.row≠y.row:=List.pairwise_map.1 jo
  refine List.Pairwise.imp_of_mem (fun {x y} hx hy h=> ?_) (cX.and cm)
  obtain ⟨h1,h2⟩:=h
  obtain ⟨a,c,ha,hc,e1⟩:=pB.row x (ml.mem_iff.1 hx)
  obtain ⟨a',c',ha',sT,e2⟩:=pB.row y (ml.mem_iff.1 hy)
  have hI:∀ {a b:Int},fx a b=0 ->a=b:=fun {a b} h=>by
   unfold fx at h;split at h
   ·cases h
   ·split at h
    ·cases h
    ·omega
  have h3:wx jt x y≠0:=fun h0=>h2 (by
   rw [cfF e1 e2] at h0
   obtain ⟨p1,p2⟩:=GL h0
   rw [e1,e2,hI p1,hI (GL p2).1])
  have h1:wx jt x y<=0:=h1
  omega
 have hfM:fy Sf d0=eA 3 l:=by rw [hl];rfl
 have ZI:∀ x∈eA 3 l,Bf x.row:=Eo S2.row
 have SA:∀ x∈eA 3 l,x.row.map bQ=x.row:=fun x hx=>U2 (ZI x hx)
 have bu:=ml.length_eq
 have DS:=rp (l:=l) (k:=3)
 obtain ⟨XG,alZ⟩:=pd (P:=Bf) (N:=15) (l:=eA 3 l) (by omega) (Nat.le_trans (vb l 3 S2.pos) (by rw [uZ ml];exact pB.abs)) (by decide) (fun x hx=>by rw [SA x hx];exact ZI x hx)
 have alR:dZ d0=d0:=by
  obtain ⟨h1,h2⟩:=pd (P:=Bf) (N:=15) (l:=d0) (by omega) pB.abs (by decide) (fun x hx=>by rw [pB.bare x hx];exact pB.row x hx)
  exact lU h1.can pB.can fun r=>by rw [h2,qP pB.bare]
 have h8:∀ r∈d0,r.row.length<=8:=fun r hr=>(Hw (pB.row r hr)).2.1
 have fq:∀ x∈AE,nw x:=fun x hx=>by
  simp only [AE,mn] at hx
  rcases hx with rfl | rfl<;>exact DF (by decide)
 have hn:mL (bO eQ) [[],[]] [z,[]] tW.1 [] (dZ (eA 3 l)):=by
  rw [<- hfM]
  exact TF (c:=[3,3]) (by rw [Zr];exact TE hf fq (by decide) (by kernel_rfl)) (by kernel_rfl) (by kernel_rfl) ⟨dK,fun r hr=>adb (pB.row r hr),by omega,h8⟩ alR
 have hqq:∀ q,wt q (dZ (eA 3 l))=wt q ((pick 3 sales).map n8):=fun q=>by
  rw [alZ,qP SA]
  exact Cs q 3 l sales (by decide) S2 fun q=>by rw [MN q ml,Jh]
 refine ⟨_,aev (P:=Bf) JG J9 (by decide) hr Pn (YC hr) Ks Nq (by decide) (acz hr hz hf hn XG fun r h=>Hw h) ?_,Xf XG,?_⟩
 ·rintro rfl
  refine lU XG.can ⟨List.Pairwise.nil,fun z hz=>by cases hz⟩ fun q=> ?_
  rw [hqq]
  rfl
 ·exact YG XG.can (by rw [Bp];have:=GN 3 sales;omega) fun q=>by rw [Cr,hqq]
variable {M:aR}
def Ei {sales:List (List Int)}(hr:lw sales 3){r:List Int}(hm:r∈sales){s:Value}(h:RS M RI 1 r s):∃ b o c,s=.slice (some ⟨b,o,none⟩) 3 c/\aN M ⟨b,o,none⟩=some (.int .i64 (jZ 0 r))/\aN M ⟨b,o+2,none⟩=some (.int .i64 (jZ 2 r)):=by
 have XS:=(hr.2 _ hm).1
 obtain ⟨_,ra,rc,rfl,_,_,ul⟩:=ax (by decide) (fun _ _=>cE) h
 obtain ⟨pb,po,pcs,rfl,uk,rX⟩:=ul 0 _ (gq (by omega))
 obtain ⟨_,_,pcs2,hpp,oU,nu⟩:=ul 2 _ (gq (by omega))
 cases hpp
 unfold RI at rX nu
 subst rX nu
 have z0:=uk.1
 have z2:=oU.1
 simp only [Nat.add_zero,Nat.mul_one] at z0 z2
 have EA:jZ 0 r=r[0]'(by omega):=by simp [jZ,gq (show 0<r.length by omega)]
 have Lt:jZ 2 r=r[2]'(by omega):=by simp [jZ,gq (show 2<r.length by omega)]
 exact ⟨pb,po,rc,by rw [XS],by rw [z0,EA],by rw [z2,Lt]⟩
def pX {l:List (List Int)}{i:Nat}(hi:i<l.length):l.getD i []∈l:=by
 rw [List.getD_eq_getElem?_getD,gq hi];exact gm hi
def tX {sales:List (List Int)}(hr:lw sales 3){r:List Int}(hm:r∈sales):(fT r).length<=8/\∀ v∈fT r,eR v=0:=by
 refine ⟨by simp [fT],fun v hv=> ?_⟩
 simp only [fT,mn] at hv
 rcases hv with rfl | rfl
 ·exact sd (KQ hr (by decide) hm)
 ·exact sd (KQ hr (by decide) hm)
def Og {l:List (List Int)}{b:Nat}{r:List Int}(h:r∈mP l b):r∈l:=by
 unfold mP at h
 rcases xY h with h | h
 ·exact List.mem_of_mem_take h
 ·exact List.mem_of_mem_drop h
theorem Aa:∀ (k:Nat) (l:List (List Int)),∀ r∈pick k l,∃ x∈l,r=fT x
 | 0,_,r,h=>by cases h
 | k+1,l,r,h=>by
  rw [pick] at h
  split at h
  ·cases h
  ·rename_i cm
   rcases lQ h with rfl | h
   ·exact ⟨_,pX (pP cm _ (Nat.le_refl _)),rfl⟩
   ·obtain ⟨x,hx,h1⟩:=Aa k _ r h
    exact ⟨x,Og hx,h1⟩
theorem agG (k:Nat):pick k []=[]:=by cases k<;>rfl
def CA {F:Fi}{s:List Vc.Item}{e:dx}{ds:List Deferred}{dd:Option Nat}{N:Tm}{R:RR}{wa:Option Addr}{wc:Nat}{acc:List (List V)}{nm:Bs}{sales:List (List Int)}{lv:Value}{out:List Z}(bq:kY 29 1 (MZ M) [] R (.slice wa acc.length wc) acc)(bu:acc.length<=400)(hA:VZ nm sales [] out)(hG:eS M)(hs:RS M (lZ M) 1 sales lv)
 (bN:∀ r∈acc,r.length<=8/\∀ v∈r,eR v=0) (Ox:∀ z∈out,¬ (z.w< -1000000)/\¬ (z.w>1000000)) (ho:nB (acc.map n8)=out) (k:∀ M4,cA Tryz.prog F s (cI e dd (.bool true)) ds ⟨N,M4,[],[]⟩ ⟨⟩):
 dp Tryz.prog F 6 [st nm,lv,.slice none 0 0,.slice wa acc.length wc] dd s e ds ⟨N,M,[],R⟩ ⟨⟩:=by
 refine cD (k:=fun h'=>∃ M4,bm M M4/\RS M4 (MZ M4) 1 acc (.slice wa acc.length wc)/\h'=⟨N,M4,[],[]⟩) (ct bq (by omega) (by decide) trivial fun M4 dz _ cH=>aC ⟨M4,dz,aH bm.rfl' (mN dz) cH,rfl⟩) ?_ F6.bd
 rintro h' ⟨M4,dz,ed,rfl⟩
 exact aP (RC hA (hG.ext dz) (aH dz (cO dz) hs) bz ed bu bN Ox ho _) (k M4)
set_option maxHeartbeats 2000000 in
theorem Fh {sales:List (List Int)}{lv:Value}(h:RS M (lZ M) 1 sales lv)(hG:eS M)(hF:lw sales 3 ->Y9 IZ sales [] (pick 3 sales))(T:Tm):bU Tryz.prog 3 [lv] T M [] [] (fun v _ _ _=>v=.bool true) aM:=by
 have h0:=h
 obtain ⟨fp,a,c,rfl,cX,_,hg⟩:=ax (by decide) (fun _ _=>cQ) h
 refine az F3 rfl rfl ?_
 intro bj _
 simp +contextual only [go_sem,sevalprocAttr]
 refine aF (Rr (w:=3) h0 _) ?_
 rintro v M1 aW bD ⟨b,rfl,hr⟩
 cases b with
 | false=>
  simp +contextual only [go_sem,aD,sevalprocAttr]
  exact ak aG.rfl' rfl
 | true=>
 have hr:=hr rfl
 obtain ⟨o1,hA1,Zu,ho1⟩:=hF hr
 have Jm:=hr.1
 have B3:=aH aW (cO aW) h0
 obtain ⟨ys,H4,xn,xl⟩:=gE (P:=Tryz.prog) Tryz.underlying22 (fun _ _=>cQ) (fun _ _ h=>pI h) B3
 simp +contextual only [go_sem,aD,sevalprocAttr]
 intro b13 Jc
 refine gI Mj LZ (R0:=[]) (.inl ⟨rfl,rfl,.inr ⟨b13,rfl⟩⟩) xn (fun R=>xl _ _ R) (fun _ _=>cQ) (by simp;omega) (by decide) ?_
 intro fv R1 bq
 rw [List.nil_append] at bq
 obtain ⟨fa,fc,rfl⟩:=eT bq
 simp +contextual only [go_sem,aD,sevalprocAttr]
 refine bR 3 5 [(0,.slice a sales.length c)] (fun i e h=>∃ N' M' R' fv rest rv acc,aG T N'/\bm M1 M'/\h=⟨N',M',[],R'⟩/\e 3=rv/\RS M' (lZ M') 1 rest rv/\e 4=fv/\kY 29 1 (MZ M') [] R' fv acc/\acc.length<=i/\pick 3 sales=acc++pick (3 - i) rest/\(∀ r∈rest,r∈sales)/\rest.length<=15) 0 (by omega) (by simp only [aE,go_sem,sevalprocAttr]) (by simp only [go_sem,sevalprocAttr]) (al (iM bq (by omega) (by decide) trivial fun M2 bh _ cH=>aC ⟨T,M2,[],_,sales,_,[],aG.rfl',bh,rfl,by simp only [go_sem,sevalprocAttr],aH bm.rfl' (cO bh) cH,by simp only [go_sem,sevalprocAttr],cV,Nat.le_refl _,rfl,fun r h=>h,Jm⟩)) ?_
 rintro i e h hi aI ht ⟨N',M',R',fv,rest,rv,acc,km,mG,rfl,e3,Cc,e4,bw,js,SU,iD,ak6⟩
 simp only [aE] at aI
 obtain ⟨wa,wc,rfl⟩:=eI bw
 have zx:=Cc
 obtain ⟨_,ra,rc,rfl,alE,_,ul⟩:=ax (by decide) (fun _ _=>cQ) Cc
 by_cases aL:i<3
 ·have lN:((i:Nat):Int)<3:=by omega
  by_cases cm:rest=[]
  ·subst cm
   simp +contextual only [go_sem,aD,sevalprocAttr,aI,ht,lN,e3,e4]
   have hG':=(hG.ext aW).ext mG
   have S5:acc=pick 3 sales:=by rw [SU,agG,List.append_nil]
   subst S5
   refine CA bw (by omega) hA1 hG' (aH mG (cO mG) B3) (fun r hm=>by obtain ⟨x,hx,rfl⟩:=Aa 3 sales r hm;exact tX hr hx) Zu ho1 fun M4=> ?_
   simp +contextual only [go_sem,sevalprocAttr]
   exact ak km rfl
  ·have dK:(0:Int)<(rest.length:Int):=by have:=List.length_pos_iff.2 cm;omega
   simp +contextual only [go_sem,aD,sevalprocAttr,ht,lN,e3,dK]
   refine aO rest.length 27 [(0,.slice a sales.length c),(3,.slice ra rest.length rc),(4,.slice wa acc.length wc),(5,.int .i64 ((i:Nat):Int)),(25,.slice ra rest.length rc),(26,.int .i64 (rest.length:Int))] (fun j e h=>h=⟨N',M',[],R'⟩/\e 6=.int .i64 ((nO rest j:Nat):Int)) 0 (by omega) (by simp only [aE,go_sem,sevalprocAttr,aI,e3,e4,ht,and_self]) (by simp only [go_sem,sevalprocAttr]) ⟨rfl,by simp only [go_sem,sevalprocAttr];rfl⟩ ?_
   rintro j e2 h2 hj dI EE ⟨rfl,e6⟩
   simp only [aE] at dI
   by_cases AS:j<rest.length
   ·have hbj:=pP cm j (by omega)
    obtain ⟨pb,po,s1,hra,Ls,iQ⟩:=tK zx AS
    subst hra
    obtain ⟨_,_,s2,alB,Lt,nW⟩:=tK zx hbj
    cases alB
    obtain ⟨b1,p1,c1,rfl,x0,x2⟩:=Ei hr (iD _ (pX AS)) iQ
    obtain ⟨b2,p2,c2,rfl,u0,u2⟩:=Ei hr (iD _ (pX hbj)) nW
    have eP:=sD rest j
    generalize rest.getD j []=xr at*
    generalize rest.getD (nO rest j) []=br at*
    simp +contextual only [go_sem,aD,sevalprocAttr,dI,EE,AS,Ls]
    simp +contextual only [go_sem,sevalprocAttr,e6,hbj,Lt]
    by_cases q1:jZ 2 xr<jZ 2 br
    ·obtain hb:Wx xr br=true:=lI.2 (.inl q1)
     rw [hb] at eP
     refine aT ?_
     simp +contextual only [go_sem,aD,sevalprocAttr,EE,x2,u2,e6,q1]
     refine bT AS ?_ ?_ ⟨rfl,?_⟩
     ·simp only [aE,dI,go_sem,sevalprocAttr,and_self]
     ·simp only [go_sem,sevalprocAttr,aA j (by omega)]
     ·simp only [go_sem,sevalprocAttr,eP]
    ·by_cases q2:jZ 2 xr=jZ 2 br
     ·by_cases q3:jZ 0 xr<jZ 0 br
      ·obtain hb:Wx xr br=true:=lI.2 (.inr ⟨q2,q3⟩)
       rw [hb] at eP
       rw [q2] at x2 q1
       refine aT ?_
       simp +contextual only [go_sem,aD,sevalprocAttr,EE,x0,x2,u0,u2,e6,q1,q3,eq_self]
       refine bT AS ?_ ?_ ⟨rfl,?_⟩
       ·simp only [aE,dI,go_sem,sevalprocAttr,and_self]
       ·simp only [go_sem,sevalprocAttr,aA j (by omega)]
       ·simp only [go_sem,sevalprocAttr,eP]
      ·obtain hb:Wx xr br=false:=Bool.eq_false_iff.2 fun h=>by have:=lI.1 h;omega
       rw [hb] at eP
       rw [q2] at x2 q1
       refine aT ?_
       simp +contextual only [go_sem,aD,sevalprocAttr,EE,x0,x2,u0,u2,e6,q1,q3,eq_self]
       refine bT AS ?_ ?_ ⟨rfl,?_⟩
       ·simp only [aE,dI,go_sem,sevalprocAttr,and_self]
       ·simp only [go_sem,sevalprocAttr,aA j (by omega)]
       ·simp only [go_sem,sevalprocAttr,eP,e6]
     ·obtain hb:Wx xr br=false:=Bool.eq_false_iff.2 fun h=>by have:=lI.1 h;omega
      rw [hb] at eP
      refine aT ?_
      simp +contextual only [go_sem,aD,sevalprocAttr,EE,x2,u2,e6,q1,q2]
      refine bT AS ?_ ?_ ⟨rfl,?_⟩
      ·simp only [aE,dI,go_sem,sevalprocAttr,and_self]
      ·simp only [go_sem,sevalprocAttr,aA j (by omega)]
      ·simp only [go_sem,sevalprocAttr,eP,e6]
   ·have:j=rest.length:=by omega
    subst this
    have Lq:=pP cm rest.length (Nat.le_refl _)
    obtain ⟨bt,hbt⟩:∃ bt,bt=nO rest rest.length:=⟨_,rfl⟩
    rw [<- hbt] at Lq e6
    obtain ⟨pb,po,s1,hra,Ls,iQ⟩:=tK zx Lq
    subst hra
    obtain ⟨qb,qo,qc,rfl,x0,x2⟩:=Ei hr (iD _ (pX Lq)) iQ
    simp +contextual only [go_sem,aD,sevalprocAttr,dI,EE,AS]
    refine aT ?_
    simp +contextual only [go_sem,sevalprocAttr,dI,e6,Lq,Ls,x0,x2]
    refine aP (Rn _ _) ?_
    simp +contextual only [go_sem,sevalprocAttr]
    refine ⟨dL bm.rfl' trivial,?_⟩
    refine aP (Rn _ _) ?_
    simp +contextual only [go_sem,sevalprocAttr]
    refine ⟨dL bm.rfl' trivial,?_⟩
    intro b78 aps
    refine ⟨dJ bm.rfl' trivial trivial,?_⟩
    intro b79 akr amT
    refine ⟨Dj bm.rfl' trivial trivial trivial,?_⟩
    have VV:rest.getD bt []∈sales:=iD _ (pX Lq)
    refine cB (r:=fun x cs=>MZ M' x cs\/(x=fT (rest.getD bt [])/\cs=[.slice (some ⟨b78,0,none⟩) 2 2])) (Tryz.underlying24) G6 GC (x:=fT (rest.getD bt [])) (fY (fun _ _ h=> .inl h) bw) (.inr ⟨rfl,rfl⟩) (by rintro _ _ (h | ⟨_,rfl⟩);exact tL h;rfl) (by simp [Value.oneCell']) akr (by omega) (by decide) ?_
    intro fv2 R2 fB
    obtain ⟨va,vc,rfl⟩:=eI fB
    simp +contextual only [go_sem,sevalprocAttr]
    refine ⟨Dj bm.rfl' trivial trivial trivial,?_⟩
    have akz:bt<=rest.length:=by omega
    have afo:bt+1<=rest.length:=by omega
    have uo:(mP rest bt).length=rest.length - 1:=by unfold mP;rw [List.length_append,List.length_take,List.length_drop];omega
    refine aT ?_
    have akA:bt<=rc:=by omega
    have OH:IntKind.i64.wrap ((bt:Int)+1)=((bt+1:Nat):Int):=aA bt (by omega)
    have hw2:(0:Int)<=((bt+1:Nat):Int)/\((bt+1:Nat):Int)<=(rest.length:Int)/\rest.length<=rc:=⟨by omega,by omega,alE⟩
    simp +contextual only [go_sem,sevalprocAttr,dI,e6,akA,OH,hw2,Int.toNat_natCast,DE]
    intro b81 Ot uh
    obtain ⟨y1,aqM,P2,alN⟩:=gE (P:=Tryz.prog) Tryz.underlying22 (fun _ _=>cQ) (fun _ _ h=>pI h) (yl (by decide) (fun _ _=>cQ) zx akz)
    obtain ⟨y2,aqO,hy2,alO⟩:=gE (P:=Tryz.prog) Tryz.underlying22 (fun _ _=>cQ) (fun _ _ h=>pI h) (lY (by decide) (fun _ _=>cQ) zx afo)
    refine gI Mj LZ (R0:=R2) (.inl ⟨rfl,rfl,.inr ⟨b81,rfl⟩⟩) P2 (fun R=>alN _ _ R) (fun _ _=>cQ) (by rw [List.length_take];simp;omega) (by decide) ?_
    intro fv3 R3 Ss
    rw [List.nil_append] at Ss
    obtain ⟨xa,xc,rfl⟩:=eT Ss
    simp +contextual only [go_sem,sevalprocAttr]
    refine gI Mj LZ Ss hy2 (fun R=>alO _ _ R) (fun _ _=>cQ) (by rw [List.length_take,List.length_drop];omega) (by decide) ?_
    intro fv4 R4 St
    obtain ⟨za,zc,rfl⟩:=eT St
    change AT _ _ _ _ _ _ (mP rest bt) at St
    simp +contextual only [go_sem,sevalprocAttr,dI]
    refine aS (al (al (aU fun he g1 _=>iM (qH (cO he) St) (by rw [uo];omega) (by decide) trivial fun M3 bG _ cH=>aC ⟨3 - (i+1),by omega,rfl,i+1,by omega,rfl,?_,?_,N',M3,R2,_,mP rest bt,_,acc++[fT (rest.getD bt [])],km,(mG.trans he).trans bG,rfl,?_,aH bm.rfl' (cO bG) cH,?_,fY ?_ fB,?_,?_,?_,?_⟩)))
    ·simp only [aE,dI,go_sem,sevalprocAttr,and_self]
    ·simp only [go_sem,sevalprocAttr,aA i (by omega)]
    ·simp only [go_sem,sevalprocAttr]
    ·simp only [go_sem,sevalprocAttr]
    ·rintro x cs (h | ⟨rfl,rfl⟩)
     ·exact mN (he.trans bG) _ _ h
     ·exact mN bG _ _ ⟨_,dE (fun _ _ h=>by unfold RV at h;subst h;rfl) g1 ⟨_,_,rfl,rfl,_,[],rfl,rfl,rfl⟩ rfl (by simp [fT]),rfl⟩
    ·rw [List.length_append];simp only [ln];omega
    ·rw [SU,show 3 - i=(3 - (i+1))+1 by omega,pick,if_neg cm,<- hbt,List.append_assoc];rfl
    ·intro r xW
     unfold mP at xW
     rcases xY xW with xW | xW
     ·exact iD r (List.mem_of_mem_take xW)
     ·exact iD r (List.mem_of_mem_drop xW)
    ·rw [uo];omega
 ·have:i=3:=by omega
  subst this
  have lN:¬ (((3:Nat):Int)<3):=by decide
  simp +contextual only [go_sem,aD,sevalprocAttr,aI,ht,e4]
  have hG':=(hG.ext aW).ext mG
  have S5:acc=pick 3 sales:=by rw [SU,show 3 - 3=0 from rfl,pick,List.append_nil]
  subst S5
  refine CA bw (by omega) hA1 hG' (aH mG (cO mG) B3) (fun r hm=>by obtain ⟨x,hx,rfl⟩:=Aa 3 sales r hm;exact tX hr hx) Zu ho1 fun M4=> ?_
  simp +contextual only [go_sem,sevalprocAttr]
  exact ak km rfl
def Fg {M:aR}{sales:List (List Int)}{lv:Value}(h:RS M (lZ M) 1 sales lv)(hG:eS M)(T:Tm):bU Tryz.prog 3 [lv] T M [] [] (fun v _ _ _=>v=.bool true) aM:=Fh h hG (fun hr=>Hg hr) T
open Go.ChangeMaps
open Go.ChangeShapes Go.WideShapes Go.ChangeAt Go.RowKit
set_option maxRecDepth 100000
theorem Ax (os:Os)(args:Array Value):laidMet Tryz.prog Rows.shelfFirstUptoRow.laid ((oY os).forCall (fun _ _=>0) ⟨#[],args,[]⟩).memory:=
 DY 8 (by kernel_rfl) (by kernel_rfl)
def tj (os:Os){H:Type}(enc:TypeId×Value ->H):
 (Rows.OpenSpec.upto Rows.shelfFirstSpec).preRow enc Tryz.prog Tryz.f3 Rows.shelfFirstUptoRow.domain false Rows.shelfFirstUptoRow.laid ((oY os).forCall (fun _ _=>0) ⟨#[],#[.slice none 0 0],[]⟩).memory #[.slice none 0 0]:=by
 have hw:(DataW.whole enc Tryz.prog ((oY os).forCall (fun _ _=>0) ⟨#[],#[.slice none 0 0],[]⟩).memory Tryz.f3.params.toList Rows.shelfFirstSpec.vars false (#[.slice none 0 0]:Array Value).toList 8).map (fun x=>(x.1,x.2.1))=
  some ([.nil],[]):=by kernel_rfl
 obtain ⟨⟨x1,x2,x3⟩,hx,DT⟩:=Option.map_eq_some_iff.1 hw
 simp only [Prod.mk.injEq] at DT
 obtain ⟨rfl,rfl⟩:=DT
 exact OpenSpec.preRow_of_cond 8 hx (by kernel_rfl) (fun k hk=>by cases hk;kernel_rfl) (by kernel_rfl) (Ax os _)
theorem rN (H:Type)(enc:TypeId×Value ->H)(W:World)(base:Nat)(args:Array Value)(ds gs:List (DataW H))(before:List MemPlace)
 (A4:∀ (j:Nat) t v,Tryz.f3.params[j]?=some t ->args[j]?=some v ->Value.okWide Tryz.prog W .any base t v)
 (hW:DataW.Whole enc Tryz.prog Tryz.f3.params.toList Rows.shelfFirstSpec.vars false W args.toList ds gs before) (Lu:Rows.uptoSmall H (ds++gs)=true)
 (hL:laidMetH Tryz.prog Rows.shelfFirstUptoRow.laid W) (hS:W.ShapedOpen Tryz.prog):
 Calls Tryz.prog 3 args W fun e W'=>∃ v,e=.returned v/\Rows.shelfFirstSpec.post enc Tryz.prog Tryz.f3 false true false false W args v W':=by
 have hW':=hW
 obtain ⟨p,q,hA0,hV,rfl,VP,jo⟩:=hW
 have hA:DataW.TrodAll enc Tryz.prog W 0 (fun _=>true) true Tryz.f3.params.toList args.toList ds p:=hA0
 clear hA0
 have hA':=hA
 rw [Tryz.params3] at hA A4
 have hA:DataW.TrodAll enc Tryz.prog W 0 (fun _=>true) true [22] args.toList ds p:=hA
 obtain ⟨v0,vs0,d0,ds0,p0,q0,abq,akH,xj,h0,r0⟩:=trodAll_cons hA
 obtain ⟨hvn,hdn,hpn⟩:=trodAll_nil r0
 subst akH hdn
 have H1:args.toList=[v0]:=by rw [abq,hvn]
 obtain rfl:args= #[v0]:=by cases args;simp_all
 obtain ⟨rfl,rfl⟩:=trodVars_none hV
 simp only [List.append_nil] at hW' Lu
 have hG:eS (ms W):=Xh (by kernel_rfl) hL
 have hk:=of_decide_eq_true Lu
 simp only [Rows.uptoBulkAll] at hk
 obtain ⟨a0,m0,c0,rfl⟩:=okWide_slice Tryz.underlying22 (A4 0 _ _ rfl rfl)
 obtain ⟨n0,k0⟩:=h0
 obtain ⟨l0,u0,eu0,uT⟩:=GJ k0 (show Rows.uptoBulk d0<=1048576 by omega)
 obtain rfl:Value.slice a0 m0 c0=u0:=by simpa [Value.cells] using eu0
 have hc:=QN (Fg uT hG (fun _=>none)) (Gr W)
 refine hc.mono fun e W' ⟨v,M',he,hk,_,_,hv⟩=> ?_
 subst he;subst hv
 refine ⟨_,rfl,_,_,_,[],p,[],hW',?_,?_,?_,kh.but hk _,fun h=>by cases h⟩
 ·exact trodAll_mk1 (shut_bool Tryz.underlying4 true)
 ·exact Bu hk (by decide +kernel) hA'
 ·rfl
end Go.Proofs.YtcpjbohndglclaaGreatDoor

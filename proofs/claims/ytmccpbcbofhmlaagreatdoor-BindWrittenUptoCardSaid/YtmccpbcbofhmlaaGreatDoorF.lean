import Derived.Test.YtmccpbcbofhmlaaGreatDoorE
import Derived.Recover
import Derived.Laws.Pointers
set_option linter.all false
namespace Go.Proofs.YtmccpbcbofhmlaaGreatDoor
open Go Vc
set_option maxRecDepth 10000
def P0 (M:aV)(sc:Nat)(names:List (Bs×Bs)):Prop:=∃ lv,M sc=some [lv,.slice none 0 0,.pointer none,.pointer none]/\RS M G6 2 names lv/\(names=[] ->lv=.slice none 0 0)
theorem P0.ext {M M':aV}(he:bG M M'){sc names}(h:P0 M sc names):P0 M' sc names:=by
 obtain ⟨lv,h1,h2,h3⟩:=h
 exact ⟨lv,he _ _ h1,aN he (fun _ _ h=>h) h2,h3⟩
def amF (r:Pl×List (Bs×Bs))(v:Value)(M:aV):Prop:=∃ cs sc,v=.tuple ⟨[.agg ⟨cs⟩,.pointer (some ⟨sc,0,none⟩)]⟩/\j5 M r.1 cs/\P0 M sc r.2
theorem Ca {name:Bs}:∀ {rels:List Rel} {n:Nat} {r:Pl×List Co},kN name n rels=some r ->∃ x∈rels,r.2=x.cols
 | [],_,_,h=>by cases h
 | x::l,n,r,h=>by
  rw [zl] at h
  split at h
  ·injection h with h;subst h;exact ⟨x,by simp,rfl⟩
  ·obtain ⟨y,hy,he⟩:=Ca h
   exact ⟨y,by simp [hy],he⟩
theorem AV {name:Bs}{rels:List Rel}{r:Pl×List Co}(h:lQ rels name=.ok r):∃ x∈rels,r.2=x.cols:=by
 unfold lQ at h
 split at h
 ·rename_i y hy;injection h with h;subst h;exact Ca hy
 ·cases h
theorem WB {F:Fi}{s:List Vc.Item}{e:dN}{ds:List Deferred}{dd:Option Nat}{N:Tm}{M:aV}{L:LL}{R:RR}{hv:Value}{had:List Bs}{el:TypeId}(x:Bs)(h:nK el 1 pD [] R hv had)(bQ:had.length<=1000)
 (k:∀ M',bG M M' ->aB M' L ->cB Tryz.prog F s (cV e dd (.bool (had.contains x))) ds ⟨N,M',L,R⟩ ⟨⟩):dT Tryz.prog F 106 [hv,.string (bs x)] dd s e ds ⟨N,M,L,R⟩ ⟨⟩:=by
 rcases h with ⟨rfl,rfl,rfl⟩ | ⟨a,c,xs,rfl,h3,rfl⟩
 ·refine am (qw x bR N) ?_ (fun _ _ _ _ h=>h.elim)
  rintro v M1 aP bN rfl
  exact k M1 aP bN
 ·have key:∀ (L2:LL) (R2:RR),L2=L++[]++[] ->R2=[]++[(.slice a had.length c,el,1,xs)]++[] ->dT Tryz.prog F 106 [.slice a had.length c,.string (bs x)] dd s e ds ⟨N,M,L2,R2⟩ ⟨⟩:=by
   rintro _ _ rfl rfl
   refine cM L [] [] [] [_] [] (QQ (Q:=fun r=>r=.bool (had.contains x)) (by decide) Qw fun M' lC j7=>qw x ⟨by omega,xs,j7,h3⟩ N) ?_ (fun _ _ _ _ _ _ _ _ h=>h.elim)
   rintro v M1 L1 R1 aP hk hr bN ⟨rfl,rfl⟩
   have:L1=[]:=by simpa [bd] using hk
   subst this
   have k2:∀ (L2:LL) (R2:RR),L2=L ->R2=[(.slice a had.length c,el,1,xs)] ->cB Tryz.prog F s (cV e dd (.bool (had.contains x))) ds ⟨N,M1,L2,R2⟩ ⟨⟩:=by
    rintro _ _ rfl rfl
    exact k M1 aP (by simpa using bN)
   exact k2 _ _ (by simp) (by simp)
  exact key _ _ (by simp) (by simp)
theorem Cy {F:Fi}{f:FuncId}{args:List Value}{dd:Option Nat}{s:List Vc.Item}{e:dN}{ds:List Deferred}{N:Tm}{M:aV}{L:LL}{R:RR}{post:eP}{pan:n8}(hc:CtN Tryz.prog f args N M [] [] 1 post pan)
 (hn:∀ v M' row,bG M M' ->aB M' L ->post v M' [] [row] ->cB Tryz.prog F s (cV e dd v) ds ⟨N,M',L,row::R⟩ ⟨⟩)
 (hp:∀ ch M' row,bG M M' ->pan ch M' [] [row] ->F.pan ch e ds ⟨N,M',L,row::R⟩):dT Tryz.prog F f args dd s e ds ⟨N,M,L,R⟩ ⟨⟩:=by
 have nil:∀ {L':LL},bd L'=bd [] ->L'=[]:=fun h=>by simpa [bd] using h
 have one:∀ {R':RR},R'.length=1 ->∃ r,R'=[r]:=fun {R'} h=>by
  cases R' with
  | nil=>cases h
  | cons r l=>cases l with
   | nil=>exact ⟨r,rfl⟩
   | cons _ _=>simp at h
 exact MI (F:=F) (s:=s) (e:=e) (ds:=ds) (dd:=dd) (N:=N) [] [] L [] [] R hc
  (fun v M' L' R' he hk hR bN hq=>by
   have h1:=nil hk
   subst h1
   obtain ⟨r,rfl⟩:=one hR
   exact hn v M' r he bN hq)
  (fun ch M' L' R' he hk hR bN hq=>by
   have h1:=nil hk
   subst h1
   obtain ⟨r,rfl⟩:=one hR
   exact hp ch M' r he hq)
def sR (names:List (Bs×Bs))(tb:Bs)(cols:List Co)(j:Nat):List (Bs×Bs):=names++(cols.take j).map fun c=>(tb,c.name)
theorem vQ (names tb cols):sR names tb cols 0=names:=by simp [sR]
theorem Sd (names tb cols):sR names tb cols cols.length=names++cols.map fun c=>(tb,c.name):=by simp [sR]
theorem Nz (names tb cols){j:Nat}(h:j<cols.length):sR names tb cols (j+1)=sR names tb cols j++[(tb,cols[j].name)]:=by
 unfold sR
 rw [List.take_succ_eq_append_getElem h,List.map_append,List.append_assoc];rfl
theorem F8 (names tb cols){j:Nat}(h:j<=cols.length):(sR names tb cols j).length=names.length+j:=by
 simp [sR];omega
theorem zn (rels:List Rel)(s:So)(l:List So)(i:Nat)(p:Pl)(names:List (Bs×Bs))(had:List Bs):iB rels (s::l) i p names had=match lQ rels s.name with
 | .error e=> .error e
 | .ok q=>if had.contains (dB s)=true then .error 7 else
  if i=0 then iB rels l 1 q.1 (names++q.2.map fun c=>(dB s,c.name)) (had++[dB s])
  else match iH (names++q.2.map fun c=>(dB s,c.name)) s.on with
   | .error e=> .error e
   | .ok x=>iB rels l (i+1) (.mk (mf s.k) 0 x [] [] [p,q.1]) (if s.k=2\/s.k=5 then names++q.2.map fun c=>(dB s,c.name) else names) (had++[dB s]):=rfl
def KE:LL ->LL ->Prop
 | [],_=>True
 | (b,_)::l,L=>dz b L/\KE l L
theorem KU {T0 T:Tm}{M M':aV}{L:LL}{R0 R:RR}(h:bG M M')(hn:aB M' L):∀ (L1:LL),KE L1 L ->lr ⟨T0,M,L,R0⟩ ⟨T,M',L1++L,R⟩
 | [],_=>dK h hn
 | (b,cs)::L1,ha=>by
  have ih:=KU (T0:=T0) (T:=T) (R0:=R0) (R:=R) h hn L1 ha.2
  intro a v hv
  have h1:=ih a v hv
  simp only [Sh.cell] at h1 hv ⊢
  cases hm:aL M' a with
  | some u=>rw [hm] at h1;exact h1
  | none=>
   rw [hm] at h1
   by_cases hab:a.block=b
   ·exfalso
    have Vw:eb L a=none:=by
     have:∀ {L:LL},dz b L ->eb L a=none:=by
      intro L
      induction L with
      | nil=>intro _;rfl
      | cons p l ih=>
       obtain ⟨k,ds⟩:=p
       intro iP
       rw [eb,if_neg (by rw [hab];exact iP.1.1)]
       exact ih iP.2
     exact this ha.1
    have hmo:aL M a=none:=by
     cases hm2:aL M a with
     | none=>rfl
     | some u=>rw [ax h hm2] at hm;cases hm
    rw [hmo,Vw] at hv
    simp at hv
   ·simp only [List.cons_append]
    rw [eb,if_neg hab]
    exact h1
theorem WN {T0 T:Tm}{M M':aV}{L:LL}{R0 R:RR}{b b':Nat}{cs cs':List Value}(h:bG M M')(hn:aB M' L)(hb:dz b L)(hb':dz b' L):lr ⟨T0,M,L,R0⟩ ⟨T,M',(b,cs)::(b',cs')::L,R⟩:=KU h hn [(b,cs),(b',cs')] ⟨hb,hb',trivial⟩
def Z0 (rels:List Rel)(l:List So)(M:aV)(T:Tm)(b4 b6:Nat)(i:Nat)(e:dN)(h:Sh):Prop:=∃ M' N' R hv sc p cs names had,bG M M'/\aH T N'/\M' b4=none/\M' b6=none/\j5 M' p cs/\h=⟨N',M',[(b6,cs),(b4,[.int .i64 0,.int .i64 0,.int .i64 0,.int .i64 0,.int .i64 0,st [],.int .i64 0,.slice none 0 0,.slice none 0 0,.slice none 0 0,.slice none 0 0])],R⟩/\
 e 7=.pointer (some ⟨sc,0,none⟩)/\P0 M' sc names/\e 8=hv/\nK 9 1 pD [] R hv had/\had.length=i/\names.length<=i*1048576/\iB rels (l.drop i) i p names had=mQ rels l
theorem Wp {M:aV}{bb:Nat}{rels:List Rel}{rv sv:Value}{l:List So}(hr:RS M (qH M) 14 rels rv)(Uq:M bb=some [rv])(gy:∀ r∈rels,r.cols.length<=1048576)(hs:RS M (D1 M) 10 l sv)(bQ:l.length<=16)
 (dG:∀ (j:Nat) (s:So),l[j]?=some s ->0<j ->(2<=s.k/\s.k<=5)/\Ae s.on) (T:Tm):
 ep Tryz.prog 61 [.pointer (some ⟨bb,0,none⟩),sv] T M [] [] (wA amF (mQ rels l)) (rR (mQ rels l)):=by
 obtain ⟨lh,a,c,rfl,jo,_,hg⟩:=aI (by decide) (fun _ _=>mY) hs
 refine aT mx anF Tryz.func61 rfl (by rw [at2];exact Nat.le_of_ble_eq_true rfl) (dr:=amy) (by kernel_rfl) apU ?_
 intro bN _
 simp +contextual only [go_sem,ak,sevalprocAttr]
 intro b4 T4 iR j6 pp b6 T6 mB de u6 AC b7 T7 km dj B6 Ol
 have hT:=(j6.trans u6).trans B6
 refine bA l.length 22 [(0,.pointer (some ⟨bb,0,none⟩)),(1,.slice a l.length c),(4,.pointer (some ⟨b4,0,none⟩)),(6,.pointer (some ⟨b6,0,none⟩)),(20,.slice a l.length c),(21,.int .i64 (l.length:Int))]
  (Z0 rels l M T b4 b6)
  0 (by omega) (by simp only [aG,go_sem,ak,sevalprocAttr]) (by simp only [go_sem,ak,sevalprocAttr]) (aJ fun he h7 fN=>aA ⟨_,T7,[],_,b7,iZ,_,[],[],he,hT,fN.2.1,fN.1,UI _,rfl,(by simp only [go_sem,ak,sevalprocAttr]),⟨_,h7,bR,fun _=>rfl⟩,(by simp only [go_sem,ak,sevalprocAttr]),ew,rfl,by simp,rfl⟩) ?_
 rintro i e h hi aD ht ⟨M1,N1,R1,hv,sc,p,cs,names,had,aP,iy,n4,n6,hp,rfl,e7,IE,e8,cy,hhl,Hm,ay⟩
 simp only [aG] at aD
 by_cases aF:i<l.length
 ·obtain ⟨b',o',cs',rfl,cC,eL⟩:=hg i l[i] (List.getElem?_eq_getElem aF)
  obtain ⟨aw,rfl,El,haw⟩:=Cx eL
  obtain ⟨y0,y1,y2,y3,y4,y5,y6,y7,y8,y9⟩:=acS (cC.ext aP)
  have bX:l.drop i=l[i]::l.drop (i+1):=List.drop_eq_getElem_cons aF
  rw [bX,zn] at ay
  obtain ⟨c0,c1,c2,c3,c4,c5,c6,c7,c8,c9,c10,rfl,hc⟩:=bK hp
  simp +contextual only [go_sem,ak,sevalprocAttr,aD,ht,aF,y1]
  refine am (abU (l[i]).name (aN aP (gb aP) hr) (aP _ _ Uq) N1) ?_ ?_
  rotate_left
  ·rintro ch M2 aX aQ ⟨er,he,rfl⟩
   rw [he] at ay
   exact nq iy ay.symm
  rintro v M2 aX aQ ⟨⟨q,cols⟩,hq,qs,cv,rfl,hqp,mr⟩
  rw [hq] at ay
  simp only at ay hqp mr
  obtain ⟨d0,d1,d2,d3,d4,d5,d6,d7,d8,d9,d10,rfl,hd⟩:=bK hqp
  replace y0:=ax aX y0
  replace y1:=ax aX y1
  replace y2:=ax aX y2
  simp only [List.cons_append,List.nil_append,aB,cZ] at aQ
  obtain ⟨_,ca,cc,rfl,_⟩:=aI (by decide) (fun _ _=>ge) mr
  simp +contextual only [go_sem,sevalprocAttr,aD,ht,aF,hd,y2]
  intro b11 T11 awQ Ki ah1 avq
  refine dI (fun e ds h=>ds=[]/\aG e [(0,.pointer (some ⟨bb,0,none⟩)),(1,.slice (some ⟨b',o',none⟩) l.length c),(4,.pointer (some ⟨b4,0,none⟩)),(6,.pointer (some ⟨b6,0,none⟩)),(20,.slice (some ⟨b',o',none⟩) l.length c),(21,.int .i64 (l.length:Int)),(22,.int .i64 (i:Nat)),(9,.int .i64 (i:Nat)),
   (7,.pointer (some ⟨sc,0,none⟩)),(8,hv),(10,.pointer (some ⟨b',o'+i*10,none⟩)),(11,.pointer (some ⟨b11,0,none⟩)),(12,.slice ca cols.length cc),(13,st (dB l[i]))]/\h=⟨T11,M2,[(b11,[d0,d1,d2,d3,d4,d5,d6,d7,d8,d9,d10]),(b6,[c0,c1,c2,c3,c4,c5,c6,c7,c8,c9,c10]),(b4,[.int .i64 0,.int .i64 0,.int .i64 0,.int .i64 0,.int .i64 0,st [],.int .i64 0,.slice none 0 0,.slice none 0 0,.slice none 0 0,.slice none 0 0])],R1⟩) (fun S' dW=> ?_) ?_
  ·by_cases r7:l[i].as=[]
   ·simp +contextual only [go_sem,ak,sevalprocAttr,aD,ht,r7,y1]
    refine dW _ _ _ ⟨rfl,?_,rfl⟩
    simp only [aG,aD,ht,e7,e8,dB,r7,go_sem,ak,sevalprocAttr]
   ·simp +contextual only [go_sem,ak,sevalprocAttr,aD,ht,r7]
    refine dW _ _ _ ⟨rfl,?_,rfl⟩
    simp only [aG,aD,ht,e7,e8,dB,r7,go_sem,ak,sevalprocAttr]
  clear aD ht e7 e8
  rintro e ds h ⟨rfl,aD,rfl⟩
  simp only [aG] at aD
  simp +contextual only [go_sem,ak,sevalprocAttr,aD]
  refine WB (dB l[i]) cy (by omega) fun M3 bD aZ=> ?_
  have auA:=(aP.trans aX).trans bD
  simp only [List.cons_append,List.nil_append,aB,cZ] at aZ
  cases OD:had.contains (dB l[i]) with
  | true=>
   rw [OD,if_pos rfl] at ay
   simp +contextual only [go_sem,ak,sevalprocAttr,aD]
   exact vp (iy.trans ah1) ay.symm
  | false=>
  rw [OD,if_neg (by decide)] at ay
  simp +contextual only [go_sem,ak,sevalprocAttr,aD]
  intro b3 fh bT
  refine dH (Tryz.underlying93) Kx K1 (x:=dB l[i]) cy rfl (fun _ _=>cO) (by intro u hu;simp only [List.mem_singleton] at hu;subst hu;rfl) fh (by omega) (by decide) ?_
  intro tU R2 kK
  obtain ⟨lv,hsm,hsn,eF⟩:=IE.ext (aX.trans bD)
  simp +contextual only [go_sem,ak,sevalprocAttr,aD,aY hsm]
  refine Cy (Mt hsn eF (by omega) T11) ?_ (fun _ _ _ _ h=>h.elim)
  rintro v M4 row ce bH ⟨va,vc,vxs,rfl,hvz,hvl,fg⟩
  simp only [List.cons.injEq,and_true] at fg
  subst fg
  simp only [List.cons_append,List.nil_append,aB,cZ] at bH
  simp +contextual only [go_sem,ak,sevalprocAttr,aD]
  intro b14 T14 Ns lR Xd ajl
  have Dx:=auA.trans ce
  have hNN:=((iy.trans ah1).trans Xd)
  obtain ⟨hcb,ai9,UF⟩:cols.length*2<=4398046511104/\cols.length<=cc/\∀ (i:Nat) (x:Co),cols[i]?=some x ->∃ b o cs,ca=some ⟨b,o,none⟩/\At M4 b (o+i*2) cs/\uE x cs:=by
   obtain ⟨h1,a',c',h2,h3,_,h4⟩:=aI (by decide) (fun _ _=>ge) (aN (bD.trans ce) (fun _ _ h=>h) mr)
   injection h2 with h5 h6 h7
   subst h5 h7
   exact ⟨h1,h3,h4⟩
  have YN:cols.length<=1048576:=by
   obtain ⟨x,hx,hxc⟩:=AV hq
   rw [show cols=x.cols from hxc]
   exact gy x hx
  have n14:M4 b14=none/\M4 b11=none/\M4 b6=none/\M4 b4=none:=⟨Ns,bH.2.1,bH.2.2.1,bH.2.2.2.1⟩
  obtain ⟨LV,hLV⟩:∃ LV:List (Nat×Value),LV=[(0,.pointer (some ⟨bb,0,none⟩)),(1,.slice (some ⟨b',o',none⟩) l.length c),(4,.pointer (some ⟨b4,0,none⟩)),(6,.pointer (some ⟨b6,0,none⟩)),(20,.slice (some ⟨b',o',none⟩) l.length c),(21,.int .i64 (l.length:Int)),(22,.int .i64 (i:Nat)),(9,.int .i64 (i:Nat)),
   (8,tU),(10,.pointer (some ⟨b',o'+i*10,none⟩)),(11,.pointer (some ⟨b11,0,none⟩)),(13,st (dB l[i])),(14,.pointer (some ⟨b14,0,none⟩)),(7,.pointer (some ⟨sc,0,none⟩)),(62,.slice ca cols.length cc),(63,.int .i64 (cols.length:Int))]:=⟨_,rfl⟩
  refine bA cols.length 64 LV
   (fun j e h=>∃ N' v xs,aH T14 N'/\(∃ a c,v=.slice a (sR names (dB l[i]) cols j).length c)/\((sR names (dB l[i]) cols j)=[] ->v=.slice none 0 0)/\RL G6 (sR names (dB l[i]) cols j) xs/\
    h=⟨N',M4,[(b14,[v,.slice none 0 0,.pointer none,.pointer none]),(b11,[d0,d1,d2,d3,d4,d5,d6,d7,d8,d9,d10]),(b6,[c0,c1,c2,c3,c4,c5,c6,c7,c8,c9,c10]),(b4,[.int .i64 0,.int .i64 0,.int .i64 0,.int .i64 0,.int .i64 0,st [],.int .i64 0,.slice none 0 0,.slice none 0 0,.slice none 0 0,.slice none 0 0])],(v,104,2,xs)::R2⟩)
   0 (by omega) (by rw [hLV];simp only [aG,aD,go_sem,ak,sevalprocAttr]) (by simp only [go_sem,ak,sevalprocAttr]) ?_ ?_
  ·refine ef (List.Perm.swap _ _ _) (al (aA ⟨T14,.slice va names.length vc,vxs,aH.rfl',⟨va,vc,?_⟩,?_,?_,rfl⟩))
   ·rw [vQ]
   ·rw [vQ];exact hvz
   ·rw [vQ];exact hvl
  ·rintro j e h hj du tD ⟨N5,v,xs,DQ,⟨wa,wc,rfl⟩,hwz,hwl,rfl⟩
   rw [hLV] at du
   simp only [aG] at du
   by_cases lL:j<cols.length
   ·obtain ⟨bc,oc,cc',rfl,TD,Z1⟩:=UF j cols[j] (List.getElem?_eq_getElem lL)
    unfold uE at Z1
    subst Z1
    obtain ⟨z0,z1⟩:=SN TD
    simp +contextual only [go_sem,ak,sevalprocAttr,du,tD,lL,z0,z1]
    intro b16 T16 MK Qy as8 avo
    refine bq ?_
    simp +contextual only [go_sem,ak,sevalprocAttr,du,tD,lL,MK,Qy,n14,lR]
    intro b17 anV qD
    have nr:=fI (fun _ _=>q7) hwl
    have dw:=F8 names (dB l[i]) cols (Nat.le_of_lt lL)
    refine ⟨iw bG.rfl' ⟨MK,n14.1,n14.2.1,n14.2.2.1,n14.2.2.2,trivial⟩ ⟨qD.1,qD.2.1,qD.2.2.1,qD.2.2.2.1,qD.2.2.2.2,trivial⟩,?_⟩
    refine gi KC K6 (.slice _ 1 _ _ _ Tryz.underlying99 (cT [] anV trivial rfl) (zd (c:=(dB l[i],cols[j].name)) rfl)) (by rw [nr,dw];simp only [List.length_cons,List.length_nil];omega) ?_
    intro ra rm rc ky
    have eW:=Nz names (dB l[i]) cols lL
    have jO:rm=(sR names (dB l[i]) cols (j+1)).length:=by
     rw [nr] at ky
     rw [eW,List.length_append]
     simp only [List.length_cons,List.length_nil] at ky ⊢
     omega
    subst jO
    simp +contextual only [go_sem,ak,sevalprocAttr,du,tD,lL,MK,Qy,n14,lR,anV,qD]
    refine ⟨iw bG.rfl' ⟨MK,n14.1,n14.2.1,n14.2.2.1,n14.2.2.2,trivial⟩ ⟨qD.1,qD.2.1,qD.2.2.1,qD.2.2.2.1,qD.2.2.2.2,trivial⟩,?_⟩
    refine bf (al (al (aA ⟨cols.length - (j+1),by omega,rfl,j+1,by omega,rfl,?_,?_,T16,_,_,DQ.trans as8,⟨ra,rc,rfl⟩,?_,?_,rfl⟩)))
    ·rw [hLV]
     simp only [aG,du,go_sem,ak,sevalprocAttr]
    ·simp only [tD,go_sem,ak,sevalprocAttr,aC j (by omega)]
    ·intro h
     rw [eW] at h
     simp at h
    ·rw [eW]
     exact dx hwl (cP rfl)
   ·have hj1:j=cols.length:=by omega
    subst hj1
    have dw:=F8 names (dB l[i]) cols (Nat.le_refl _)
    have hca:=Sd names (dB l[i]) cols
    have lk:(had++[dB l[i]]).length=i+1:=by rw [List.length_append,hhl];rfl
    have vP:∀ {N':Tm} {M5:aV} {e:dN} {p':Pl} {ps:List Value} {nm:List (Bs×Bs)} {sc':Nat},aH T N' ->bG M M5 ->M5 b4=none ->M5 b6=none ->j5 M5 p' ps ->e 7=.pointer (some ⟨sc',0,none⟩) ->P0 M5 sc' nm ->e 8=tU ->nm.length<=(i+1)*1048576 ->
     aG e [(0,.pointer (some ⟨bb,0,none⟩)),(1,.slice (some ⟨b',o',none⟩) l.length c),(4,.pointer (some ⟨b4,0,none⟩)),(6,.pointer (some ⟨b6,0,none⟩)),(20,.slice (some ⟨b',o',none⟩) l.length c),(21,.int .i64 (l.length:Int))] ->e 22=.int .i64 ((i+1:Nat):Int) ->
     iB rels (l.drop (i+1)) (i+1) p' nm (had++[dB l[i]])=mQ rels l ->
     cK ⟨N',M5,[(b6,ps),(b4,[.int .i64 0,.int .i64 0,.int .i64 0,.int .i64 0,.int .i64 0,st [],.int .i64 0,.slice none 0 0,.slice none 0 0,.slice none 0 0,.slice none 0 0])],R2⟩ fun h=>∃ m',m'<l.length - i/\LI [] l.length 22 [(0,.pointer (some ⟨bb,0,none⟩)),(1,.slice (some ⟨b',o',none⟩) l.length c),(4,.pointer (some ⟨b4,0,none⟩)),(6,.pointer (some ⟨b6,0,none⟩)),(20,.slice (some ⟨b',o',none⟩) l.length c),(21,.int .i64 (l.length:Int))] (Z0 rels l M T b4 b6) m' e [] h:=by
     intro N' M5 e p' ps nm sc' h1 h2 h3 h4 h5 h6 h7 h8 h9 Uw ZO gz
     exact aA ⟨l.length - (i+1),by omega,rfl,i+1,by omega,rfl,Uw,ZO,M5,N',R2,tU,sc',p',ps,nm,had++[dB l[i]],h2,h1,h3,h4,h5,rfl,h6,h7,h8,kK,lk,h9,gz⟩
    by_cases mm:i=0
    ·subst mm
     rw [if_pos rfl] at ay
     simp +contextual only [go_sem,ak,sevalprocAttr,du,tD,lL,hd,n14,lR,Ki,de]
     refine bf (dn (fun M5 dy bE j7=>aJ fun he aqV bP=>al (vP (hNN.trans DQ) ((Dx.trans dy).trans he) bP.2.2.1 bP.2.1 (bO (((bD.trans ce).trans dy).trans he) _ _ hqp) ?_ ⟨_,aqV,⟨by omega,_,j7.ext he,hwl⟩,hwz⟩ ?_ (by omega) ?_ ?_ ?_)))
     ·simp only [go_sem,ak,sevalprocAttr]
     ·simp only [du,go_sem,ak,sevalprocAttr]
     ·simp only [aG,du,go_sem,ak,sevalprocAttr]
     ·simp only [du,go_sem,ak,sevalprocAttr];exact congrArg _ (by decide)
     ·rw [hca];exact ay
    ·rw [if_neg mm] at ay
     obtain ⟨axc,aum⟩:=dG i l[i] (List.getElem?_eq_getElem aF) (by omega)
     have Z6:¬ ((i:Int)=0):=by omega
     replace y0:=ax (bD.trans ce) y0
     have Ul:(l[i].k=2/\mf l[i].k=4)\/(l[i].k=3/\mf l[i].k=5)\/(l[i].k=4/\mf l[i].k=6)\/(l[i].k=5/\mf l[i].k=7):=by
      have:l[i].k=2\/l[i].k=3\/l[i].k=4\/l[i].k=5:=by omega
      rcases this with h | h | h | h<;>rw [h]<;>simp [mf]
     have auW:∀ (kk:Int),l[i].k=kk ->mf l[i].k=mf kk:=fun kk h=>by rw [h]
     rcases Ul with ⟨hk,hj⟩ | ⟨hk,hj⟩ | ⟨hk,hj⟩ | ⟨hk,hj⟩
     all_goals
      simp +contextual only [go_sem,ak,sevalprocAttr,du,tD,lL,Z6,y0,hk]
      intro g
      have hnL:∀ {M':aV},bG M4 M' ->aB M' [(b11,[d0,d1,d2,d3,d4,d5,d6,d7,d8,d9,d10]),(b6,[c0,c1,c2,c3,c4,c5,c6,c7,c8,c9,c10]),(b4,[.int .i64 0,.int .i64 0,.int .i64 0,.int .i64 0,.int .i64 0,st [],.int .i64 0,.slice none 0 0,.slice none 0 0,.slice none 0 0,.slice none 0 0])] ->M' b11=none/\M' b6=none/\M' b4=none:=fun _ h=>⟨h.1,h.2.1,h.2.2.1⟩
      have hx0:At M4 b' (o'+i*10+3) [.int .i64 l[i].on.k,.int .i64 l[i].on.v.k,.int .i64 l[i].on.v.n,st l[i].on.v.t,st l[i].on.tab,st l[i].on.name,aw]:=(eJ.1 (show At M4 b' (o'+i*10) ([.int .i64 l[i].k,st l[i].name,st l[i].as]++[.int .i64 l[i].on.k,.int .i64 l[i].on.v.k,.int .i64 l[i].on.v.n,st l[i].on.v.t,st l[i].on.tab,st l[i].on.name,aw]) from cC.ext Dx)).2
      refine yn (fun e ds h=>ds=[]/\aG e [(0,.pointer (some ⟨bb,0,none⟩)),(1,.slice (some ⟨b',o',none⟩) l.length c),(4,.pointer (some ⟨b4,0,none⟩)),(6,.pointer (some ⟨b6,0,none⟩)),(20,.slice (some ⟨b',o',none⟩) l.length c),(21,.int .i64 (l.length:Int))]/\e 22=.int .i64 (i:Nat)/\e 7=.pointer (some ⟨sc,0,none⟩)/\e 8=tU/\e 14=.pointer (some ⟨b14,0,none⟩)/\e 17=.int .i64 (mf l[i].k)/\
       ∃ M6 b20 x cs6,bG M4 M6/\M6 b4=none/\M6 b6=none/\M6 b20=none/\iH (names++cols.map fun c=>(dB l[i],c.name)) l[i].on=.ok x/\jL M6 x [.int .i64 x.k,.int .i64 x.v.k,.int .i64 x.v.n,st x.v.t,.int .i64 x.c,cs6]/\P0 M6 b14 (names++cols.map fun c=>(dB l[i],c.name))/\
        h=⟨N5,M6,[(b20,[c0,c1,c2,c3,c4,c5,c6,c7,c8,c9,c10,d0,d1,d2,d3,d4,d5,d6,d7,d8,d9,d10]),(b11,[d0,d1,d2,d3,d4,d5,d6,d7,d8,d9,d10]),(b6,[.int .i64 (mf l[i].k),.int .i64 0,.int .i64 x.k,.int .i64 x.v.k,.int .i64 x.v.n,st x.v.t,.int .i64 x.c,cs6,.slice none 0 0,.slice none 0 0,.slice (some ⟨b20,0,none⟩) 2 2]),(b4,[.int .i64 0,.int .i64 0,.int .i64 0,.int .i64 0,.int .i64 0,st [],.int .i64 0,.slice none 0 0,.slice none 0 0,.slice none 0 0,.slice none 0 0])],R2⟩) (fun S' dW=> ?_) ?_
      ·refine eR ⟨T,M4,[(b11,[d0,d1,d2,d3,d4,d5,d6,d7,d8,d9,d10]),(b6,[c0,c1,c2,c3,c4,c5,c6,c7,c8,c9,c10]),(b4,[.int .i64 0,.int .i64 0,.int .i64 0,.int .i64 0,.int .i64 0,st [],.int .i64 0,.slice none 0 0,.slice none 0 0,.slice none 0 0,.slice none 0 0])],[]⟩ (by exact iw bG.rfl' ⟨n14.2.1,n14.2.2.1,n14.2.2.2,trivial⟩ ⟨lR.2.1,lR.2.2.1,lR.2.2.2,trivial⟩) ?_
       simp +contextual only [go_sem,ak,sevalprocAttr,du,tD,hc,hd,n14,Ki,de,lR]
       have ahB:∀ {M5 M6:aV},bG M4 M5 ->Sl M5 (.slice wa (sR names (dB l[i]) cols cols.length).length wc) 2 xs ->bG M5 M6 ->M6 b14=some [.slice wa (sR names (dB l[i]) cols cols.length).length wc,.slice none 0 0,.pointer none,.pointer none] ->P0 M6 b14 (names++cols.map fun c=>(dB l[i],c.name)):=by
        intro M5 M6 wB j7 h56 hb
        rw [<- hca]
        exact ⟨_,hb,⟨by omega,_,j7.ext h56,hwl⟩,hwz⟩
       have EV:∀ {M5:aV},bG M4 M5 ->P0 M5 b14 (names++cols.map fun c=>(dB l[i],c.name)) ->ep Tryz.prog 37 [.pointer (some ⟨b14,0,none⟩),.pointer (some ⟨b',o'+i*10+3,none⟩)] N5 M5 [] [] (wA WO (iH (names++cols.map fun c=>(dB l[i],c.name)) l[i].on)) (rR (iH (names++cols.map fun c=>(dB l[i],c.name)) l[i].on)):=by
        rintro M5 wB ⟨lv5,h5,Uy,_⟩
        exact exB _ _ l[i].on (Nat.le_refl _) aum M5 N5 b14 lv5 _ _ b' _ _ Uy h5 (hx0.ext wB) (br (Dx.trans wB) _ _ El)
       refine ⟨?_,?_⟩
       ·refine eh (k:=fun h'=>∃ M5,bG M4 M5/\P0 M5 b14 (names++cols.map fun c=>(dB l[i],c.name))/\(M5 b11=none/\M5 b6=none/\M5 b4=none)/\h'=⟨N5,M5,[(b11,[d0,d1,d2,d3,d4,d5,d6,d7,d8,d9,d10]),(b6,[c0,c1,c2,c3,c4,c5,c6,c7,c8,c9,c10]),(b4,[.int .i64 0,.int .i64 0,.int .i64 0,.int .i64 0,.int .i64 0,st [],.int .i64 0,.slice none 0 0,.slice none 0 0,.slice none 0 0,.slice none 0 0])],R2⟩)
         (lV (dn fun M5 dy bE j7=>aJ fun he TJ bP=>aA ⟨_,dy.trans he,ahB dy j7 he TJ,hnL (dy.trans he) bP,rfl⟩)) ?_ Ld
        rintro h' ⟨M5,wB,Tq,n5,rfl⟩
        refine am (EV wB Tq) ?_ ?_
        ·rintro r M6 dM bP ⟨x,hx,cs6,rfl,wQ⟩
         obtain ⟨s6,rfl,QO,_⟩:=cg wQ
         simp only [List.cons_append,List.nil_append,aB,cZ] at bP
         simp +contextual only [go_sem,ak,sevalprocAttr,du,tD,hc,hd,bP,Ki,de,QO]
         refine ⟨dK (wB.trans dM) ⟨bP.1,bP.2.1,bP.2.2.1,trivial⟩,?_⟩
         intro b20 NO kd
         refine dW _ _ _ ⟨rfl,?_,?_,?_,?_,?_,?_,M6,b20,x,s6,wB.trans dM,bP.2.2.1,bP.2.1,NO,hx,wQ,Tq.ext dM,by rw [hj];rfl⟩
         ·simp only [aG,du,go_sem,ak,sevalprocAttr]
         ·simp only [du,go_sem,ak,sevalprocAttr]
         ·simp only [du,go_sem,ak,sevalprocAttr]
         ·simp only [du,go_sem,ak,sevalprocAttr]
         ·simp only [du,go_sem,ak,sevalprocAttr]
         ·rw [hj];simp only [go_sem,ak,sevalprocAttr]
        ·rintro ch M6 dM bP ⟨er,he,rfl⟩
         rw [he] at ay
         exact nq (hNN.trans DQ) ay.symm
       ·intro b20 NO kd
        refine ⟨WN bG.rfl' ⟨n14.2.1,n14.2.2.1,n14.2.2.2,trivial⟩ ⟨kd.2.1,kd.2.2.1,kd.2.2.2,trivial⟩ ⟨lR.2.1,lR.2.2.1,lR.2.2.2,trivial⟩,?_⟩
        refine eh (k:=fun h'=>∃ M5,bG M4 M5/\P0 M5 b14 (names++cols.map fun c=>(dB l[i],c.name))/\(M5 b20=none/\M5 b11=none/\M5 b6=none/\M5 b4=none)/\h'=⟨N5,M5,[(b20,[c0,c1,c2,c3,c4,c5,c6,c7,c8,c9,c10,d0,d1,d2,d3,d4,d5,d6,d7,d8,d9,d10]),(b11,[d0,d1,d2,d3,d4,d5,d6,d7,d8,d9,d10]),(b6,[c0,c1,c2,c3,c4,c5,c6,c7,c8,c9,c10]),(b4,[.int .i64 0,.int .i64 0,.int .i64 0,.int .i64 0,.int .i64 0,st [],.int .i64 0,.slice none 0 0,.slice none 0 0,.slice none 0 0,.slice none 0 0])],R2⟩)
         (lV (dn fun M5 dy bE j7=>ef (List.Perm.swap _ _ _) (aJ fun he TJ bP=>aA ⟨_,dy.trans he,ahB dy j7 he TJ,⟨bP.1,hnL (dy.trans he) bP.2⟩,rfl⟩))) ?_ Ld
        rintro h' ⟨M5,wB,Tq,n5,rfl⟩
        refine am (EV wB Tq) ?_ ?_
        ·rintro r M6 dM bP ⟨x,hx,cs6,rfl,wQ⟩
         obtain ⟨s6,rfl,QO,_⟩:=cg wQ
         simp only [List.cons_append,List.nil_append,aB,cZ] at bP
         simp +contextual only [go_sem,ak,sevalprocAttr,du,tD,hc,hd,bP,Ki,de,kd,QO]
         refine ⟨iw (wB.trans dM) ⟨bP.2.1,bP.2.2.1,bP.2.2.2.1,trivial⟩ ⟨kd.2.1,kd.2.2.1,kd.2.2.2,trivial⟩,?_⟩
         refine dW _ _ _ ⟨rfl,?_,?_,?_,?_,?_,?_,M6,b20,x,s6,wB.trans dM,bP.2.2.2.1,bP.2.2.1,bP.1,hx,wQ,Tq.ext dM,by rw [hj];rfl⟩
         ·simp only [aG,du,go_sem,ak,sevalprocAttr]
         ·simp only [du,go_sem,ak,sevalprocAttr]
         ·simp only [du,go_sem,ak,sevalprocAttr]
         ·simp only [du,go_sem,ak,sevalprocAttr]
         ·simp only [du,go_sem,ak,sevalprocAttr]
         ·rw [hj];simp only [go_sem,ak,sevalprocAttr]
        ·rintro ch M6 dM bP ⟨er,he,rfl⟩
         rw [he] at ay
         exact nq (hNN.trans DQ) ay.symm
      ·rintro e ds h ⟨rfl,rQ,e22,e7,e8,e14,e17,M6,b20,x,s6,Us,n4',n6',n20,hx,wQ,apQ,rfl⟩
       rw [hx] at ay
       simp only at ay
       rw [hj] at e17
       simp only [aG] at rQ
       have hMa:=((aX.trans bD).trans ce).trans Us
       have hMb:=(bD.trans ce).trans Us
       have MN:∀ {M7:aV},bG M6 M7 ->M7 b20=some [c0,c1,c2,c3,c4,c5,c6,c7,c8,c9,c10,d0,d1,d2,d3,d4,d5,d6,d7,d8,d9,d10] ->j5 M7 (.mk (mf l[i].k) 0 x [] [] [p,q]) [.int .i64 (mf l[i].k),.int .i64 0,.int .i64 x.k,.int .i64 x.v.k,.int .i64 x.v.n,st x.v.t,.int .i64 x.c,s6,.slice none 0 0,.slice none 0 0,.slice (some ⟨b20,0,none⟩) 2 2]:=by
        intro M7 he h20
        exact jV (bS he _ _ wQ) bR bR (uR (cs:=[c0,c1,c2,c3,c4,c5,c6,c7,c8,c9,c10]) (ds:=[d0,d1,d2,d3,d4,d5,d6,d7,d8,d9,d10]) h20 (bO (hMa.trans he) _ _ hp) (bO (hMb.trans he) _ _ hqp))
       by_cases eG:l[i].k=2\/l[i].k=5
       ·rw [if_pos eG] at ay
        first
        | (exfalso;omega)
        | (simp +contextual only [go_sem,ak,sevalprocAttr,rQ,e17,e22,e14]
           refine bf (aJ fun he h20 fN=>al (vP (hNN.trans DQ) ((Dx.trans Us).trans he) fN.2.2.1 fN.2.1 (MN he h20) ?_ (apQ.ext he) ?_ (by rw [List.length_append,List.length_map];omega) ?_ ?_ ay))
           ·simp only [e14,go_sem,ak,sevalprocAttr]
           ·simp only [e8,go_sem,ak,sevalprocAttr]
           ·simp only [aG,rQ,go_sem,ak,sevalprocAttr]
           ·simp only [e22,go_sem,ak,sevalprocAttr,aC i (by omega)])
       ·rw [if_neg eG] at ay
        first
        | (exfalso;omega)
        | (simp +contextual only [go_sem,ak,sevalprocAttr,rQ,e17,e22,e14]
           refine bf (aJ fun he h20 fN=>al (vP (hNN.trans DQ) ((Dx.trans Us).trans he) fN.2.2.1 fN.2.1 (MN he h20) ?_ ((IE.ext hMa).ext he) ?_ (Nat.le_trans Hm (Nat.mul_le_mul_right _ (Nat.le_succ i))) ?_ ?_ ay))
           ·simp only [e7,go_sem,ak,sevalprocAttr]
           ·simp only [e8,go_sem,ak,sevalprocAttr]
           ·simp only [aG,rQ,go_sem,ak,sevalprocAttr]
           ·simp only [e22,go_sem,ak,sevalprocAttr,aC i (by omega)])
 ·have:i=l.length:=by omega
  subst this
  rw [List.drop_length] at ay
  obtain ⟨c0,c1,c2,c3,c4,c5,c6,c7,c8,c9,c10,rfl,hc⟩:=bK hp
  simp +contextual only [go_sem,ak,sevalprocAttr,aD,ht,aF,hc,e7,n4,n6,de]
  refine az iy ⟨(p,names),ay.symm,_,sc,rfl,hp,IE⟩
def hvC (s:Se):Nat:=if s.hasH=true then wV s.hv else 0
theorem abA {s:Se}(h:s.hasH=true):wV s.hv=hvC s:=by unfold hvC;rw [if_pos h]
structure OkSe (s:Se):Prop where
 src:s.src.length<=16
 on:∀ (j:Nat) (x:So),s.src[j]?=some x ->0<j ->(2<=x.k/\x.k<=5)/\Ae x.on
 wh:s.hasW=true ->Ae s.wh
 grp:s.group.length<=1000/\∀ x∈s.group,Ae x
 its:s.star=false ->s.items.length<=40/\∀ x∈s.items,Ae x.x
 hv:s.hasH=true ->Ae s.hv
 cnt:s.star=false ->pR (s.items.map (·.x))+hvC s<=100000
def qS (s:Se)(p:Pl)(names:List (Bs×Bs)):Except Int (Pl×List Bs):=match (if dX s=true then gI s p names else kL s p names) with
 | .error e=> .error e
 | .ok q=> .ok (if s.distinct=true then iC 11 q else q,if s.star=true then names.map (·.2) else ec 0 s.items)
theorem PX {rels:List Rel}{s:Se}{e:Int}(h:mQ rels s.src=.error e):l5 rels s=.error e:=by unfold l5;rw [h]
theorem Nv {rels:List Rel}{s:Se}{f:Pl×List (Bs×Bs)}{e:Int}(h:mQ rels s.src=.ok f)(hw:nZ f.2 s.hasW s.wh=.error e):l5 rels s=.error e:=by unfold l5;rw [h];simp only;rw [hw]
theorem Ko {rels:List Rel}{s:Se}{f:Pl×List (Bs×Bs)}{w:Ex}(h:mQ rels s.src=.ok f)(hw:nZ f.2 s.hasW s.wh=.ok w):l5 rels s=qS s (if s.hasW=true then eK w f.1 else f.1) f.2:=by
 unfold l5 qS;rw [h];simp only;rw [hw];rfl
theorem vf {rels:List Rel}(hc:∀ r∈rels,r.cols.length<=1048576):∀ (l:List So) (i:Nat) (p:Pl) (names:List (Bs×Bs)) (had:List Bs) (r:Pl×List (Bs×Bs)),iB rels l i p names had=.ok r ->r.2.length<=names.length+l.length*1048576
 | [],i,p,names,had,r,h=>by
  rw [iB] at h
  injection h with h;subst h;simp
 | s::l,i,p,names,had,r,h=>by
  rw [zn] at h
  rw [List.length_cons,Nat.add_mul,Nat.one_mul]
  split at h
  ·cases h
  ·rename_i q hq
   obtain ⟨x,hx,hxc⟩:=AV hq
   have FM:q.2.length<=1048576:=by rw [hxc];exact hc x hx
   split at h
   ·cases h
   ·split at h
    ·have:=vf hc l _ _ _ _ _ h
     rw [List.length_append,List.length_map] at this
     omega
    ·split at h
     ·cases h
     ·have:=vf hc l _ _ _ _ _ h
      split at this
      ·rw [List.length_append,List.length_map] at this
       omega
      ·exact Nat.le_trans this (Nat.add_le_add_left (Nat.le_add_right _ _) _)
theorem A0 {rels:List Rel}(hc:∀ r∈rels,r.cols.length<=1048576){l:List So}{r:Pl×List (Bs×Bs)}(h:mQ rels l=.ok r):r.2.length<=l.length*1048576:=by
 have:=vf hc l 0 iZ [] [] r h
 simpa using this
theorem db {M:aV}{b:Nat}{cs:List Value}(h:M b=some cs):At M b 0 cs:=wu h cs 0 (by simp)
theorem JC {x:It}{M:aV}{cs:List Value}(hx:xQ M x cs)(T:Tm):ep Tryz.prog 64 [.agg ⟨cs⟩] T M [] [] (fun r _ _ _=>r=.bool (mW x.x)) bj:=by
 have hl:=j8 hx
 obtain ⟨aw,rfl,wX,h1⟩:=mO hx
 refine aT mx ami Tryz.func64 rfl (by rw [apO];exact Nat.le_of_ble_eq_true rfl) (dr:=ahJ) (by kernel_rfl) as4 ?_
 intro bN _
 simp +contextual only [go_sem,ak,sevalprocAttr,h1]
 intro b2 T2 eG fu ju
 refine aW Ri fun M1 aP Ft bL=> ?_
 refine am (spX _ x.x (Nat.le_refl _) M1 T2 b2 0 _ (eJ.1 (show At M1 b2 0 ([.int .i64 x.x.k,.int .i64 x.x.v.k,.int .i64 x.x.v.n,st x.x.v.t,st x.x.tab,st x.x.name,aw]++[st x.as]) from db Ft)).1 (br aP _ _ wX)) ?_ (fun _ _ _ _ h=>h.elim)
 rintro v M2 aX _ rfl
 simp +contextual only [go_sem,ak,sevalprocAttr]
 exact az fu rfl
theorem LN {l:List It}{M:aV}{lv:Value}(hs:RS M (xQ M) 8 l lv)(T:Tm):
 ep Tryz.prog 108 [lv,.func (.func 64) ⟨[]⟩ ⟨[]⟩] T M [] [] (fun r _ _ _=>r=.int .i64 (nR (l.findIdx? fun i=>mW i.x))) bj:=by
 obtain ⟨lh,a,c,rfl,jo,_,hg⟩:=aI (by decide) (fun _ _=>j8) hs
 refine aT mx aex Tryz.func108 rfl (by rw [ahD];exact Nat.le_of_ble_eq_true rfl) (dr:=Yo) (by kernel_rfl) anE ?_
 intro bN _
 simp +contextual only [go_sem,ak,sevalprocAttr]
 refine bh l.length 8 [(0,.slice a l.length c),(1,.func (.func 64) ⟨[]⟩ ⟨[]⟩),(7,.int .i64 (l.length:Int))] (fun i e h=>∃ M',bG M M'/\h=⟨T,M',[],[]⟩/\(l.findIdx? fun i=>mW i.x)=((l.drop i).findIdx? fun i=>mW i.x).map (·+i)) 0 (by omega) (by simp only [aG,go_sem,ak,sevalprocAttr]) (by simp only [go_sem,ak,sevalprocAttr]) ⟨M,bG.rfl',rfl,by simp⟩ ?_
 rintro i e h hi aD ht ⟨M1,aP,rfl,ay⟩
 simp only [aG] at aD
 by_cases aF:i<l.length
 ·obtain ⟨p1,o1,cs1,rfl,Hg,JB⟩:=hg i l[i] (List.getElem?_eq_getElem aF)
  have hdl:l.drop i=l[i]::l.drop (i+1):=List.drop_eq_getElem_cons aF
  rw [hdl,List.findIdx?_cons] at ay
  obtain ⟨s1,JO,Dq,gH⟩:=mO JB
  subst JO
  obtain ⟨y0,y1,y2,y3,y4,y5,y6,y7⟩:=At8 (Hg.ext aP)
  simp +contextual only [go_sem,ak,sevalprocAttr,aD,ht,aF,y0,y1,y2,y3,y4,y5,y6,y7,gH]
  refine am (JC (ko aP _ _ JB) T) ?_ (fun _ _ _ _ h=>h.elim)
  rintro v M2 aX _ rfl
  cases hb:mW l[i].x with
  | true=>
   rw [hb] at ay
   simp +contextual only [go_sem,ak,sevalprocAttr,aD,ht,aF]
   exact az aH.rfl' (by rw [ay];simp [nR])
  | false=>
   rw [hb] at ay
   simp +contextual only [go_sem,ak,sevalprocAttr,aD,ht,aF]
   refine bW aF ?_ ?_ ⟨M2,aP.trans aX,rfl,?_⟩
   ·simp only [aG,aD,go_sem,ak,sevalprocAttr]
   ·simp only [ht,go_sem,ak,sevalprocAttr,aC i (by omega)]
   ·rw [ay]
    cases (l.drop (i+1)).findIdx? (fun i=>mW i.x)<;>simp;omega
 ·have:i=l.length:=by omega
  subst this
  rw [List.drop_length] at ay
  simp +contextual only [go_sem,ak,sevalprocAttr,aD,ht,aF]
  exact az aH.rfl' (by rw [ay];rfl)
theorem C9 {l:List It}{M:aV}{lv:Value}(hs:RS M (xQ M) 8 l lv)(T:Tm):
 ep Tryz.prog 63 [lv,.func (.func 64) ⟨[]⟩ ⟨[]⟩] T M [] [] (fun r _ _ _=>r=.bool (l.any fun i=>mW i.x)) bj:=by
 refine aT mx ajJ Tryz.func63 rfl (by rw [aqD];exact Nat.le_of_ble_eq_true rfl) (dr:=aml) (by kernel_rfl) aqf ?_
 intro bN _
 simp +contextual only [go_sem,ak,sevalprocAttr]
 refine am (LN hs T) ?_ (fun _ _ _ _ h=>h.elim)
 rintro v M1 aP _ rfl
 simp +contextual only [go_sem,ak,sevalprocAttr]
 exact az aH.rfl' (by rw [Gp])
theorem AA {M:aV}{p:Pl}{c0 c1 c2 c3 c4 c5 c6 c7 c8 c9 c10:Value}(h:j5 M p [c0,c1,c2,c3,c4,c5,c6,c7,c8,c9,c10]):c0.oneCell'=true/\c1.oneCell'=true/\c2.oneCell'=true/\c3.oneCell'=true/\c4.oneCell'=true/\c5.oneCell'=true/\c6.oneCell'=true/\c7.oneCell'=true/\c8.oneCell'=true/\c9.oneCell'=true/\c10.oneCell'=true:=by
 have:=yH h
 simpa using this
abbrev Ch:List Value:=[.int .i64 0,.int .i64 0,.int .i64 0,.int .i64 0,.int .i64 0,st [],.int .i64 0,.slice none 0 0,.slice none 0 0,.slice none 0 0,.slice none 0 0]
def amm (r:Pl×List Bs)(v:Value)(M:aV):Prop:=∃ cs nv,v=.tuple ⟨[.agg ⟨cs⟩,nv]⟩/\j5 M r.1 cs/\RS M pD 1 r.2 nv
theorem Vn {M:aV}{bb b o:Nat}{rels:List Rel}{rv:Value}{s:Se}{cs:List Value}(hr:RS M (qH M) 14 rels rv)(Uq:M bb=some [rv])(gy:∀ r∈rels,r.cols.length<=1048576)(cC:At M b o cs)(hs:CX M s cs)(dG:OkSe s)(T:Tm):
 ep Tryz.prog 29 [.pointer (some ⟨bb,0,none⟩),.pointer (some ⟨b,o,none⟩)] T M [] [] (wA amm (l5 rels s)) (rR (l5 rels s)):=by
 obtain ⟨ai,aj,af,ag,aw,ah,ap,aq,rfl,hi,hf,hw,hv,D3,ow,ov⟩:=E4 hs
 obtain ⟨y0,y1,y2,y3,y4,y5,y6,y7,y8,y9,y10,y11,y12,y13,y14,y15,y16,y17,y18,y19,y20⟩:=GB cC
 refine aT mx amW Tryz.func29 rfl (by rw [aqZ];exact Nat.le_of_ble_eq_true rfl) (dr:=an7) (by kernel_rfl) ar1 ?_
 intro bN _
 simp +contextual only [go_sem,ak,sevalprocAttr,y3]
 intro b4 T4 iR j6 pp
 refine am (Wp hr Uq gy hf dG.src dG.on T4) ?_ ?_
 rotate_left
 ·rintro ch M1 aP bL ⟨er,he,rfl⟩
  exact nq j6 (PX he)
 rintro v M1 aP bL ⟨⟨p,names⟩,hfm,qs,sc,rfl,hp,IE⟩
 simp only at hp IE
 have avN:names.length<=16777216:=by have h1:=A0 gy hfm;have h2:=dG.src;simp only at h1;omega
 obtain ⟨c0,c1,c2,c3,c4,c5,c6,c7,c8,c9,c10,rfl,hc⟩:=bK hp
 simp only [List.cons_append,List.nil_append,aB,cZ] at bL
 replace y4:=ax aP y4
 simp +contextual only [go_sem,sevalprocAttr,hc,y4]
 intro b6 T6 mB de u6 AC
 have xb:=br aP _ _ hw
 have Sa:At M1 b (o+6) [.int .i64 s.wh.k,.int .i64 s.wh.v.k,.int .i64 s.wh.v.n,st s.wh.v.t,st s.wh.tab,st s.wh.name,aw]:=by
  have h1:=cC.ext aP
  exact (eJ.1 (eJ.1 (show At M1 b o ([_,_,_,_,_,_]++([_,_,_,_,_,_,_]++[_,_,_,_,_,_,_,_])) from h1)).2).1
 refine dI (fun e ds h=>ds=[]/\aG e [(0,.pointer (some ⟨bb,0,none⟩)),(1,.pointer (some ⟨b,o,none⟩)),(4,.pointer (some ⟨b4,0,none⟩)),(6,.pointer (some ⟨b6,0,none⟩)),(7,.pointer (some ⟨sc,0,none⟩))]/\∃ M2 p2 c0 c1 c2 c3 c4 c5 c6 c7 c8 c9 c10,bG M1 M2/\M2 b6=none/\M2 b4=none/\j5 M2 p2 [c0,c1,c2,c3,c4,c5,c6,c7,c8,c9,c10]/\l5 rels s=qS s p2 names/\
  h=⟨T6,M2,[(b6,[c0,c1,c2,c3,c4,c5,c6,c7,c8,c9,c10]),(b4,Ch)],[]⟩) (fun S' dW=> ?_) ?_
 ·cases hW:s.hasW with
  | false=>
   simp +contextual only [go_sem,ak,sevalprocAttr]
   refine dW _ _ _ ⟨rfl,?_,M1,p,c0,c1,c2,c3,c4,c5,c6,c7,c8,c9,c10,bG.rfl',mB,bL.1,hp,?_,rfl⟩
   ·simp only [aG,go_sem,ak,sevalprocAttr]
   ·have:=Ko (s:=s) hfm (w:=dP) (by unfold nZ;rw [hW];rfl)
    rw [this,hW];rfl
  | true=>
   simp +contextual only [go_sem,ak,sevalprocAttr]
   refine bq ?_
   simp +contextual only [go_sem,ak,sevalprocAttr,mB,de,bL]
   obtain ⟨lvs,gH,mU,_⟩:=IE
   refine am (exB names _ s.wh (Nat.le_refl _) (dG.wh hW) M1 T6 sc lvs _ _ b (o+6) _ mU gH Sa xb) ?_ ?_
   ·rintro r M2 aX aQ ⟨x,hx,xs,rfl,wQ⟩
    obtain ⟨s6,rfl,QO,_⟩:=cg wQ
    simp only [List.cons_append,List.nil_append,aB,cZ] at aQ
    simp +contextual only [go_sem,ak,sevalprocAttr,aQ,de,QO]
    refine ⟨dK aX ⟨aQ.1,aQ.2.1,trivial⟩,?_⟩
    refine am (B1 wQ (bO aX _ _ hp) T6) ?_ (fun _ _ _ _ h=>h.elim)
    rintro r M3 bD aZ ⟨fs,rfl,hfe⟩
    obtain ⟨f0,f1,f2,f3,f4,f5,f6,f7,f8,f9,f10,rfl,hff⟩:=bK hfe
    simp only [List.cons_append,List.nil_append,aB,cZ] at aZ
    simp +contextual only [go_sem,ak,sevalprocAttr,aZ,de,hff]
    refine dW _ _ _ ⟨rfl,?_,M3,_,f0,f1,f2,f3,f4,f5,f6,f7,f8,f9,f10,aX.trans bD,aZ.1,aZ.2.1,hfe,?_,rfl⟩
    ·simp only [aG,go_sem,ak,sevalprocAttr]
    ·have:=Ko (s:=s) hfm (w:=x) (by unfold nZ;rw [hW];exact hx)
     rw [this,hW];rfl
   ·rintro ch M2 aX aQ ⟨er,he,rfl⟩
    exact nq (j6.trans u6) (Nv hfm (by unfold nZ;rw [hW];exact he))
 clear hp hc y4
 rintro e ds h ⟨rfl,aD,M2,p2,c0,c1,c2,c3,c4,c5,c6,c7,c8,c9,c10,aX,n6,n4,hp,rT,rfl⟩
 rw [rT]
 clear rT hfm
 simp only [aG] at aD
 have gz:=aP.trans aX
 replace IE:=IE.ext aX
 have z:=GB (cC.ext gz)
 have hc:=AA hp
 have TP:=j6.trans u6
 simp only [un]
 refine gE (fun e ds h=>ds=[]/\aG e [(0,.pointer (some ⟨bb,0,none⟩)),(1,.pointer (some ⟨b,o,none⟩)),(4,.pointer (some ⟨b4,0,none⟩)),(6,.pointer (some ⟨b6,0,none⟩)),(7,.pointer (some ⟨sc,0,none⟩)),(8,.bool (dX s))]/\∃ M3,bG M2 M3/\M3 b6=none/\M3 b4=none/\
  h=⟨T6,M3,[(b6,[c0,c1,c2,c3,c4,c5,c6,c7,c8,c9,c10]),(b4,Ch)],[]⟩) (fun S' dW=> ?_) ?_
 ·have hg:dX s=(if 0<s.group.length\/s.hasH=true then true else if s.star=true then false else s.items.any fun i=>mW i.x):=by
   unfold dX
   by_cases h1:0<s.group.length<;>cases s.hasH<;>cases s.star<;>simp [h1]
  have Yt:(0<(s.group.length:Int))=(0<s.group.length):=by simp
  by_cases hA:0<(s.group.length:Int)\/s.hasH=true
  ·rw [if_pos (by rwa [Yt] at hA)] at hg
   simp +contextual only [go_sem,ak,sevalprocAttr,aD,z,hA]
   refine dW _ _ _ ⟨rfl,?_,M2,bG.rfl',n6,n4,rfl⟩
   rw [hg]
   simp only [aG,aD,hA,go_sem,ak,sevalprocAttr]
  ·rw [if_neg (by rwa [Yt] at hA)] at hg
   cases hS:s.star with
   | true=>
    rw [hS,if_pos rfl] at hg
    simp +contextual only [go_sem,ak,sevalprocAttr,aD,z,hA,hS]
    refine dW _ _ _ ⟨rfl,?_,M2,bG.rfl',n6,n4,rfl⟩
    rw [hg]
    simp only [not_or] at hA
    simp only [aG,aD,hA,hS,go_sem,ak,sevalprocAttr]
   | false=>
    rw [hS,if_neg (by decide)] at hg
    simp +contextual only [go_sem,ak,sevalprocAttr,aD,z,hA,hS]
    refine am (C9 (aN gz (ko gz) hi) T6) ?_ (fun _ _ _ _ h=>h.elim)
    rintro r M3 bD aZ rfl
    simp only [List.cons_append,List.nil_append,aB,cZ] at aZ
    simp +contextual only [go_sem,ak,sevalprocAttr,aD,hA,hS]
    refine dW _ _ _ ⟨rfl,?_,M3,bD,aZ.1,aZ.2.1,rfl⟩
    rw [hg]
    simp only [not_or] at hA
    simp only [aG,aD,hA,hS,go_sem,ak,sevalprocAttr]
 rintro e ds h ⟨rfl,aD,M3,bD,n6',n4',rfl⟩
 clear z n6 n4
 simp only [aG] at aD
 have Al:=gz.trans bD
 replace IE:=IE.ext bD
 replace hp:=bO bD _ _ hp
 have z:=GB (cC.ext Al)
 simp +contextual only [go_sem,sevalprocAttr,aD]
 obtain ⟨lvs,gH,mU,KR⟩:=IE
 refine dI (fun e ds h=>ds=[]/\aG e [(1,.pointer (some ⟨b,o,none⟩)),(4,.pointer (some ⟨b4,0,none⟩)),(6,.pointer (some ⟨b6,0,none⟩))]/\(s.star=true ->e 7=.pointer (some ⟨sc,0,none⟩))/\∃ N' M' L' R' q,h=⟨N',M',L',R'⟩/\aH T6 N'/\bG M3 M'/\(if dX s=true then gI s p2 names else kL s p2 names)=.ok q/\
  cK h (fun h'=>∃ M'' qs,bG M' M''/\h'=⟨N',M'',[(b6,qs),(b4,Ch)],[]⟩/\M'' b6=none/\M'' b4=none/\j5 M'' q qs)) (fun S' dW=> ?_) ?_
 ·have DL:∀ {M':aV},bG M3 M' ->RS M' (xQ M') 8 s.items (.slice ai s.items.length aj):=fun he=>aN (Al.trans he) (ko (Al.trans he)) hi
  cases hG:dX s with
  | false=>
   have KK:qS s p2 names=match kL s p2 names with | .error e=> .error e | .ok q=> .ok (if s.distinct=true then iC 11 q else q,if s.star=true then names.map (·.2) else ec 0 s.items):=by unfold qS;rw [hG];rfl
   cases hS:s.star with
   | true=>
    simp +contextual only [go_sem,ak,sevalprocAttr,aD,z,hS]
    refine dW _ _ _ ⟨rfl,?_,fun _=> ?_,T6,M3,_,_,p2,rfl,aH.rfl',bG.rfl',?_,aA ⟨M3,_,bG.rfl',rfl,n6',n4',hp⟩⟩
    ·simp only [aG,aD,go_sem,ak,sevalprocAttr]
    ·simp only [aD,go_sem,ak,sevalprocAttr]
    ·rw [hG,if_neg (by decide)];unfold kL;rw [hS];rfl
   | false=>
    simp +contextual only [go_sem,ak,sevalprocAttr,aD,z,hS,hc,n6',n4',de]
    intro bk lh pT b14 T14 Ns lR Xd ajl
    obtain ⟨X3,QE⟩:=dG.its hS
    have atC:∀ {e:Int},cI names (s.items.map (·.x))=.error e ->qS s p2 names=.error e:=fun h=>by rw [KK];unfold kL;rw [hS,h];rfl
    obtain ⟨hib,_,hig⟩:s.items.length*8<=4398046511104/\s.items.length<=aj/\∀ (i:Nat) (x:It),s.items[i]?=some x ->∃ b o cs,ai=some ⟨b,o,none⟩/\At M3 b (o+i*8) cs/\xQ M3 x cs:=by
     obtain ⟨h1,a',c',h2,h3,_,h4⟩:=aI (by decide) (fun _ _=>j8) (DL bG.rfl')
     injection h2 with h5 h6 h7
     subst h5 h7
     exact ⟨h1,h3,h4⟩
    refine bh s.items.length 145 [(1,.pointer (some ⟨b,o,none⟩)),(4,.pointer (some ⟨b4,0,none⟩)),(6,.pointer (some ⟨b6,0,none⟩)),(7,.pointer (some ⟨sc,0,none⟩)),(14,.pointer (some ⟨b14,0,none⟩)),(144,.int .i64 (s.items.length:Int))]
     (fun i e h=>∃ M' R fv aO,bG M3 M'/\M' b14=none/\M' bk=none/\M' b6=none/\M' b4=none/\h=⟨T14,M',[(b14,[.int .i64 3,.int .i64 0,.int .i64 0,.int .i64 0,.int .i64 0,st [],.int .i64 0,.slice none 0 0,fv,.slice none 0 0,.slice (some ⟨bk,0,none⟩) 1 1]),(bk,[c0,c1,c2,c3,c4,c5,c6,c7,c8,c9,c10]),(b6,[c0,c1,c2,c3,c4,c5,c6,c7,c8,c9,c10]),(b4,Ch)],R⟩/\aO.length=i/\nK 38 6 (jL M') [] R fv aO/\rI aO (cI names ((s.items.drop i).map (·.x)))=cI names (s.items.map (·.x)))
     0 (by omega) (by simp only [aG,aD,go_sem,ak,sevalprocAttr]) (by simp only [go_sem,ak,sevalprocAttr]) ⟨M3,[],_,[],bG.rfl',Ns,lh,n6',n4',rfl,rfl,ew,pZ _⟩ ?_
    rintro i e h AE du ht ⟨M4,R4,fv,aO,ce,k14,kk,k6,k4,rfl,lk,cy,ay⟩
    simp only [aG] at du
    obtain ⟨fa,fc,YC⟩:=kq cy
    by_cases aF:i<s.items.length
    ·obtain ⟨b',o',cs',rfl,I1,eL⟩:=hig i s.items[i] (List.getElem?_eq_getElem aF)
     obtain ⟨aw',rfl,wX,pm⟩:=mO eL
     have ad1:=(eJ.1 (show At M3 b' (o'+i*8) ([_,_,_,_,_,_,_]++[_]) from I1)).1
     have bX:s.items.drop i=s.items[i]::s.items.drop (i+1):=List.drop_eq_getElem_cons aF
     rw [bX,List.map_cons] at ay
     have z2:=ax ce z.2.2.1
     subst YC
     simp +contextual only [go_sem,ak,sevalprocAttr,du,ht,aF]
     refine bq ?_
     simp +contextual only [go_sem,ak,sevalprocAttr,du,ht,aF,z2,k14,kk,k6,k4,lR,pT]
     refine am (exB names _ s.items[i].x (Nat.le_refl _) (QE _ (List.getElem_mem aF)) M4 T14 sc lvs _ _ b' _ _ (aN ce (fun _ _ h=>h) mU) (ce _ _ gH) (ad1.ext ce) (br ce _ _ wX)) ?_ ?_
     ·rintro r M5 dy bE ⟨x,hx,xs,rfl,wQ⟩
      rw [BN hx,<- oM] at ay
      obtain ⟨s6,rfl,QO,_⟩:=cg wQ
      simp only [List.cons_append,List.nil_append,aB,cZ] at bE
      simp +contextual only [go_sem,ak,sevalprocAttr,bE,lR,pT,QO]
      refine ⟨dK dy ⟨bE.1,bE.2.1,bE.2.2.1,bE.2.2.2.1,trivial⟩,?_⟩
      intro b20 NO kd
      refine ⟨iw dy ⟨bE.1,bE.2.1,bE.2.2.1,bE.2.2.2.1,trivial⟩ ⟨kd.1,kd.2.1,kd.2.2.1,kd.2.2.2,trivial⟩,?_⟩
      refine dH (Tryz.underlying36) yL yV (eX (bS dy) cy) wQ (fun _ _=>ed) (j9 wQ) NO (by omega) (by decide) ?_
      intro fv' R' cF
      obtain ⟨fa',fc',rfl⟩:=kq cF
      simp +contextual only [go_sem,ak,sevalprocAttr,du,ht,bE,lR,pT,QO,NO,kd]
      refine ⟨iw dy ⟨bE.1,bE.2.1,bE.2.2.1,bE.2.2.2.1,trivial⟩ ⟨kd.1,kd.2.1,kd.2.2.1,kd.2.2.2,trivial⟩,?_⟩
      refine bf (al (aA ⟨s.items.length - (i+1),by omega,rfl,i+1,by omega,rfl,?_,?_,M5,R',_,aO++[x],ce.trans dy,bE.1,bE.2.1,bE.2.2.1,bE.2.2.2.1,rfl,?_,cF,ay⟩))
      ·simp only [aG,du,go_sem,ak,sevalprocAttr]
      ·simp only [ht,go_sem,ak,sevalprocAttr,aC i (by omega)]
      ·rw [List.length_append,lk];rfl
     ·rintro ch M5 dy bE ⟨er,he,rfl⟩
      rw [z7 he] at ay
      exact nq (TP.trans Xd) (atC ay.symm)
    ·have:i=s.items.length:=by omega
     subst this
     rw [List.drop_length] at ay
     simp only [List.map_nil,cI,rI,List.append_nil] at ay
     subst YC
     simp +contextual only [go_sem,ak,sevalprocAttr,du,ht,aF,k14,kk,k6,k4,lR,pT]
     refine dW _ _ _ ⟨rfl,?_,fun h=>(by rw [hS] at h;cases h),T14,M4,_,_,.mk 3 0 dP aO [] [p2],rfl,Xd,ce,?_,?_⟩
     ·simp only [aG,du,go_sem,ak,sevalprocAttr]
     ·rw [hG,if_neg (by decide)];unfold kL;rw [hS,<- ay];rfl
     ·refine cU cy (by omega) (by decide) ⟨k14,kk,k6,k4,trivial⟩ fun M5 dy bE ff=>al (aJ fun he hk bP=>aA ⟨_,_,dy.trans he,rfl,bP.1,bP.2.1,?_⟩)
      exact jV (fM _) (aN he (bS (dy.trans he)) ff) bR (ly hk (bO ((ce.trans dy).trans he) _ _ hp))
  | true=>
   have KK:qS s p2 names=match gI s p2 names with | .error e=> .error e | .ok q=> .ok (if s.distinct=true then iC 11 q else q,if s.star=true then names.map (·.2) else ec 0 s.items):=by unfold qS;rw [hG];rfl
   cases hS:s.star with
   | true=>
    simp +contextual only [go_sem,ak,sevalprocAttr,aD,z,hS]
    exact vp TP (by rw [KK];unfold gI;rw [hS];rfl)
   | false=>
    have hgm:gI s p2 names=match cI names s.group with
     | .error e=> .error e
     | .ok bd=>match dq names s.group (s.items.map (·.x)) [] with
      | .error e=> .error e
      | .ok it=>match oy names s.group s.hasH s.hv it.2 with
       | .error e=> .error e
       | .ok h=> .ok (.mk 3 0 dP it.1 [] [if s.hasH=true then eK h.1 (.mk 12 0 dP bd h.2 [p2]) else .mk 12 0 dP bd h.2 [p2]]):=by unfold gI;rw [hS];rfl
    have mo:∀ {e:Int},gI s p2 names=.error e ->qS s p2 names=.error e:=fun h=>by rw [KK,h]
    obtain ⟨X3,QE⟩:=dG.its hS
    have W2:=dG.cnt hS
    simp +contextual only [go_sem,ak,sevalprocAttr,aD,z,hS,hc]
    intro b9 T9 rF je pG oP
    refine am (CY (fun x hx=>exB names _ x (Nat.le_refl _) (dG.grp.2 x hx)) (by have:=dG.grp.1;omega) mU gH (aN Al (br Al) D3) T9) ?_ ?_
    rotate_left
    ·rintro ch M4 ce bH ⟨er,he,rfl⟩
     exact nq (TP.trans pG) (mo (by rw [hgm,he]))
    rintro kv M4 ce bH ⟨keysE,hkE,K3⟩
    simp only [List.cons_append,List.nil_append,aB,cZ] at bH
    replace z:=GB ((cC.ext Al).ext ce)
    simp +contextual only [go_sem,ak,sevalprocAttr,aD,z,bH]
    intro b85 T85 aw2 au8 aaO auV
    have hT':=(TP.trans pG).trans aaO
    have h34:=Al.trans ce
    obtain ⟨hib,_,hig⟩:s.items.length*8<=4398046511104/\s.items.length<=aj/\∀ (i:Nat) (x:It),s.items[i]?=some x ->∃ b o cs,ai=some ⟨b,o,none⟩/\At M3 b (o+i*8) cs/\xQ M3 x cs:=by
     obtain ⟨h1,a',c',h2,h3,_,h4⟩:=aI (by decide) (fun _ _=>j8) (DL bG.rfl')
     injection h2 with h5 h6 h7
     subst h5 h7
     exact ⟨h1,h3,h4⟩
    have Y3:s.group.length<=1048576:=by have:=dG.grp.1;omega
    refine bA s.items.length 91 [(1,.pointer (some ⟨b,o,none⟩)),(4,.pointer (some ⟨b4,0,none⟩)),(6,.pointer (some ⟨b6,0,none⟩)),(7,.pointer (some ⟨b85,0,none⟩)),(9,.pointer (some ⟨b9,0,none⟩)),(10,kv),(90,.int .i64 (s.items.length:Int))]
     (fun i e h=>∃ M' L' R0 R' fv aO ags,bG M4 M'/\aB M' ([(b6,[c0,c1,c2,c3,c4,c5,c6,c7,c8,c9,c10]),(b4,Ch)]++L')/\h=⟨T85,M',[(b6,[c0,c1,c2,c3,c4,c5,c6,c7,c8,c9,c10]),(b4,Ch)]++L',R'⟩/\e 11=fv/\aO.length=i/\Vr M' b9 L' R0 ags/\nK 38 6 (jL M') R0 R' fv aO/\
      Gs M' b85 b9 sc names s.group lvs (.slice ap s.group.length aq) (.slice none 0 0) (.slice none 0 0) (.pointer none)/\ags.length+pR ((s.items.drop i).map (·.x))+hvC s<=1048576/\G0 aO (dq names s.group ((s.items.drop i).map (·.x)) ags)=dq names s.group (s.items.map (·.x)) [])
     0 (by omega) (by simp only [aG,aD,go_sem,ak,sevalprocAttr]) (by simp only [go_sem,ak,sevalprocAttr]) ?_ ?_
    ·refine aJ fun he h85 bE=>ef (L':=[(b6,[c0,c1,c2,c3,c4,c5,c6,c7,c8,c9,c10]),(b4,Ch),(b9,[.slice none 0 0])]) ?_ (iu (aA ⟨_,[(b9,[.slice none 0 0])],[(.slice none 0 0,119,7,[])],_,_,[],[],he,⟨bE.2.1,bE.2.2.1,bE.1,trivial⟩,rfl,(by simp only [go_sem,ak,sevalprocAttr]),rfl,⟨none,0,[],rfl,rfl,rfl⟩,ew,⟨h85,he _ _ (ce _ _ gH),aN (ce.trans he) (fun _ _ h=>h) mU,aN (h34.trans he) (br (h34.trans he)) D3⟩,?_,FY _⟩))
     ·exact (List.perm_append_comm (l₁:=[(b9,_)]) (l₂:=[(b6,_),(b4,_)]))
     ·simp only [List.drop_zero,List.length_nil];omega
    rintro i e h AE du ht ⟨M5,L5,R0,R5,fv,aO,ags,dy,bE,rfl,e11,lk,hA,cy,hGs,WV,ay⟩
    simp only [aG] at du
    obtain ⟨hkA,hrA⟩:=uF hA
    by_cases aF:i<s.items.length
    ·obtain ⟨b',o',cs',rfl,I1,eL⟩:=hig i s.items[i] (List.getElem?_eq_getElem aF)
     obtain ⟨aw',rfl,wX,pm⟩:=mO eL
     have ad1:=(eJ.1 (show At M3 b' (o'+i*8) ([_,_,_,_,_,_,_]++[_]) from I1)).1
     have bX:s.items.drop i=s.items[i]::s.items.drop (i+1):=List.drop_eq_getElem_cons aF
     rw [bX,List.map_cons] at ay WV
     rw [pR] at WV
     have z2:=ax dy z.2.2.1
     have h35:=ce.trans dy
     simp +contextual only [go_sem,ak,sevalprocAttr,du,ht,aF,z2]
     refine vw [(b6,_),(b4,_)] (exG names s.group Y3 _ s.items[i].x (Nat.le_refl _) (QE _ (List.getElem_mem aF)) M5 T85 b85 b9 sc lvs _ _ _ _ b' _ _ ags L5 R0 hGs (ad1.ext h35) (br h35 _ _ wX) hA (by omega)) cy ?_ ?_
     ·rintro v M6 L6 R6 R7 dM hk6 hr6 bP ⟨y,ag2,hy,⟨cs,rfl,yq⟩,HB⟩ kK
      rw [CD hy,<- BH] at ay
      have xN:=rz _ _ _ _ hy
      have dw:=ed yq
      simp +contextual only [go_sem,ak,sevalprocAttr,du,ht,aF,e11,dw]
      intro b16 MK Qy
      refine dH (Tryz.underlying36) yL yV (eX (bS dM) kK) yq (fun _ _=>ed) (j9 yq) MK (by omega) (by decide) ?_
      intro fv' R' cF
      simp +contextual only [go_sem,ak,sevalprocAttr,du,ht,aF]
      refine bf (al (aA ⟨s.items.length - (i+1),by omega,rfl,i+1,by omega,rfl,?_,?_,M6,L6,R6,R',fv',aO++[y],ag2,dy.trans dM,bP,rfl,?_,?_,HB,cF,hGs.ext dM,by omega,ay⟩))
      ·simp only [aG,du,go_sem,ak,sevalprocAttr]
      ·simp only [ht,go_sem,ak,sevalprocAttr,aC i (by omega)]
      ·simp only [go_sem,ak,sevalprocAttr]
      ·rw [List.length_append,lk];rfl
     ·rintro ch M6 L6 R6 R7 dM hk6 hr6 ⟨er,he,rfl⟩
      rw [xF he] at ay
      exact nq hT' (mo (by rw [hgm,hkE];simp only;rw [show dq names s.group (s.items.map (·.x)) []=.error er from ay.symm]))
    ·have:i=s.items.length:=by omega
     subst this
     rw [List.drop_length] at ay WV
     simp only [List.map_nil,dq,G0,List.append_nil] at ay
     simp only [List.map_nil,pR,Nat.add_zero] at WV
     have h35:=ce.trans dy
     replace z:=GB (((cC.ext Al).ext ce).ext dy)
     have n6:M5 b6=none/\M5 b4=none:=⟨bE.1,bE.2.1⟩
     have n9:M5 b9=none:=by
      obtain ⟨a,c,xs,rfl,rfl,_⟩:=hA
      exact bE.2.2.1
     simp +contextual only [go_sem,sevalprocAttr,du,ht]
     rw [bV,if_neg (by simp)]
     simp +contextual only [go_sem,sevalprocAttr,du,ht,aF,z]
     intro b13 T13 aqG Er aco avi
     have Lu:=hT'.trans aco
     have aaq:¬ b13=b9/\¬ b9=b13:=by
      obtain ⟨a,c,xs,rfl,rfl,_⟩:=hA
      exact Er.2.2.1
     refine dI (fun e ds h=>ds=[]/\aG e [(1,.pointer (some ⟨b,o,none⟩)),(4,.pointer (some ⟨b4,0,none⟩)),(6,.pointer (some ⟨b6,0,none⟩)),(9,.pointer (some ⟨b9,0,none⟩)),(10,kv),(11,fv),(13,.pointer (some ⟨b13,0,none⟩))]/\∃ M' aa an axs R' x x0 x1 x2 x3 x4 x5 ags',bG M5 M'/\(M' b13=none/\M' b6=none/\M' b4=none/\M' b9=none)/\jL M' x [x0,x1,x2,x3,x4,x5]/\(x0.oneCell'=true/\x1.oneCell'=true/\x2.oneCell'=true/\x3.oneCell'=true/\x4.oneCell'=true/\x5.oneCell'=true)/\oy names s.group s.hasH s.hv ags=.ok (x,ags')/\RL (DK M') ags' axs/\ags'.length<=1048576/\
      nK 38 6 (jL M') [(.slice aa ags'.length an,119,7,axs)] R' fv aO/\
      h=⟨T13,M',[(b13,[x0,x1,x2,x3,x4,x5]),(b6,[c0,c1,c2,c3,c4,c5,c6,c7,c8,c9,c10]),(b4,Ch),(b9,[.slice aa ags'.length an])],R'⟩) (fun S'' agN=> ?_) ?_
     ·cases hH:s.hasH with
      | false=>
       obtain ⟨a,c,xs,rfl,rfl,kD⟩:=hA
       simp +contextual only [go_sem,ak,sevalprocAttr]
       refine agN _ _ _ ⟨rfl,?_,M5,a,c,xs,R5,dP,_,_,_,_,_,_,ags,bG.rfl',⟨aqG,n6.1,n6.2,n9⟩,fM _,⟨rfl,rfl,rfl,rfl,rfl,rfl⟩,by unfold oy;rw [hH];rfl,kD,by omega,cy,rfl⟩
       simp only [aG,du,e11,go_sem,ak,sevalprocAttr]
      | true=>
       have hvc:=abA hH
       have ar5:At M5 b (o+13) [.int .i64 s.hv.k,.int .i64 s.hv.v.k,.int .i64 s.hv.v.n,st s.hv.v.t,st s.hv.tab,st s.hv.name,ah]:=
        (eJ.1 (eJ.1 (show At M5 b o ([_,_,_,_,_,_,_,_,_,_,_,_,_]++([_,_,_,_,_,_,_]++[_])) from cC.ext (Al.trans h35))).2).1
       simp +contextual only [go_sem,ak,sevalprocAttr,du]
       refine vw [(b13,_),(b6,_),(b4,_)] (exG names s.group Y3 _ s.hv (Nat.le_refl _) (dG.hv hH) M5 T13 b85 b9 sc lvs _ _ _ _ b (o+13) _ ags L5 R0 hGs ar5 (br (Al.trans h35) _ _ hv) hA (by omega)) cy ?_ ?_
       ·rintro v M6 L6 R6 R7 dM hk6 hr6 bP ⟨y,ag2,hy,⟨cs,rfl,yq⟩,HB⟩ kK
        have xN:=rz _ _ _ _ hy
        obtain ⟨a,c,xs,rfl,rfl,kD⟩:=HB
        obtain ⟨s6,rfl,QO,_⟩:=cg yq
        simp only [List.cons_append,List.nil_append,aB,cZ] at bP
        simp +contextual only [go_sem,ak,sevalprocAttr,du,bP,QO,Er]
        refine agN _ _ _ ⟨rfl,?_,M6,a,c,xs,R7,y,_,_,_,_,_,_,ag2,dM,⟨bP.1,bP.2.1,bP.2.2.1,bP.2.2.2.1⟩,yq,⟨rfl,rfl,rfl,rfl,rfl,QO⟩,by unfold oy;rw [hH];exact hy,kD,by omega,eX (bS dM) kK,rfl⟩
        simp only [aG,du,e11,go_sem,ak,sevalprocAttr]
       ·rintro ch M6 L6 R6 R7 dM hk6 hr6 ⟨er,he,rfl⟩
        exact nq Lu (mo (by rw [hgm,hkE];simp only;rw [<- ay];simp only;unfold oy;rw [hH];simp only [if_true];rw [he]))
     ·rintro e ds h ⟨rfl,rQ,M6,aa,an,axs,R6,x,x0,x1,x2,x3,x4,x5,ags',dM,k6,wQ,hxo,ea,kD,awJ,TY,rfl⟩
      simp only [aG] at rQ
      have Us:=dy.trans dM
      replace z:=GB ((((cC.ext Al).ext ce).ext dy).ext dM)
      obtain ⟨kv1,kv2⟩:=eV K3
      have kv2m:=kv2
      simp only [Value.cells] at kv2m
      obtain ⟨fa,fc,rfl⟩:=kq TY
      have aki:=aN Us (bS Us) K3
      have DE:=bO (ce.trans Us) _ _ hp
      have anu:∀ {q:Pl},(if s.hasH=true then eK x (.mk 12 0 dP keysE ags' [p2]) else .mk 12 0 dP keysE ags' [p2])=q ->gI s p2 names=.ok (.mk 3 0 dP aO [] [q]):=by
       rintro q rfl
       rw [hgm,hkE];simp only;rw [<- ay];simp only;rw [ea]
      have vP:∀ {M7:aV} {a2:Option Addr} {c2:Nat},bG M6 M7 ->Sl M7 (.slice a2 ags'.length c2) 7 axs ->RS M7 (DK M7) 7 ags' (.slice a2 ags'.length c2):=fun he j7=>⟨by omega,axs,j7,dZ (fun x cs h=>ki he x cs h) kD⟩
      have hpm:∀ {A B C:Nat×List Value},[A,B,C].Perm [C,A,B]:=fun {A B C}=>List.perm_append_comm (l₁:=[A,B]) (l₂:=[C])
      have tT:aO.length*6<=4398046511104:=by omega
      cases hH:s.hasH with
      | false=>
       simp +contextual only [go_sem,ak,sevalprocAttr,rQ,z,hH,k6,aaq,Er,de,je,hc,kv1,kv2,kv2m]
       intro bk lh pT bl X0 ang
       refine dW _ _ _ ⟨rfl,?_,fun h=>(by rw [hS] at h;cases h),T13,M6,_,_,.mk 3 0 dP aO [] [.mk 12 0 dP keysE ags' [p2]],rfl,(pG.trans aaO).trans aco,ce.trans Us,?_,?_⟩
       rotate_left
       ·rw [hG,if_pos rfl]
        exact anu (by rw [hH];rfl)
       ·refine cU TY tT (by decide) ⟨X0,lh,k6.1,k6.2.1,k6.2.2.1,k6.2.2.2,trivial⟩ fun M7 iz fN ff=>dn fun M8 jv gS j7=>ef (List.Perm.swap _ _ _) (aJ fun Az h1 _=>aJ fun kC h2 mc=>al (ef hpm (al (aA ⟨_,_,((iz.trans jv).trans Az).trans kC,rfl,mc.2.1,mc.2.2.1,?_⟩))))
        have lK:=(((iz.trans jv).trans Az).trans kC)
        refine jV (fM _) (aN ((jv.trans Az).trans kC) (bS lK) ff) bR (ly h2 ?_)
        refine jV (fM _) (aN lK (bS lK) aki) (vP lK (j7.ext (Az.trans kC))) (ly (kC _ _ h1) (bO lK _ _ DE))
       ·simp only [aG,rQ,go_sem,ak,sevalprocAttr]
      | true=>
       simp +contextual only [go_sem,ak,sevalprocAttr,rQ,z,hH,k6,aaq,Er,de,je,hc,kv1,kv2,kv2m]
       intro bk lh pT
       refine eh (k:=fun h'=>∃ M7 a2,bG M6 M7/\(M7 b13=none/\M7 b6=none/\M7 b4=none/\M7 b9=none)/\RS M7 (jL M7) 6 aO (.slice fa aO.length fc)/\j5 M7 (.mk 12 0 dP keysE ags' [p2]) [.int .i64 12,.int .i64 0,.int .i64 0,.int .i64 0,.int .i64 0,st [],.int .i64 0,.slice none 0 0,kv,.slice aa ags'.length an,.slice (some ⟨bk,0,none⟩) 1 1]/\
        h'=⟨T13,M7,[(b13,[x0,x1,x2,x3,x4,x5]),(b6,[.int .i64 12,.int .i64 0,.int .i64 0,.int .i64 0,.int .i64 0,st [],.int .i64 0,.slice none 0 0,kv,.slice aa ags'.length an,.slice (some ⟨bk,0,none⟩) 1 1]),(b4,Ch),(b9,[a2])],[]⟩)
        (cU TY tT (by decide) ⟨lh,k6.1,k6.2.1,k6.2.2.1,k6.2.2.2,trivial⟩ fun M7 iz fN ff=>dn fun M8 jv gS j7=>aJ fun Az h1 mc=>aA ⟨_,_,(iz.trans jv).trans Az,⟨mc.1,mc.2.1,mc.2.2.1,mc.2.2.2.1⟩,aN (jv.trans Az) (bS ((iz.trans jv).trans Az)) ff,
         jV (fM _) (aN ((iz.trans jv).trans Az) (bS ((iz.trans jv).trans Az)) aki) (vP ((iz.trans jv).trans Az) (j7.ext Az)) (ly h1 (bO ((iz.trans jv).trans Az) _ _ DE)),rfl⟩) ?_ ZK
       rintro h' ⟨M7,a2,iz,k7,arY,arf,rfl⟩
       refine am (B1 (bS iz _ _ wQ) arf T13) ?_ (fun _ _ _ _ h=>h.elim)
       rintro r M8 jv gS ⟨fs,rfl,hfe⟩
       obtain ⟨f0,f1,f2,f3,f4,f5,f6,f7,f8,f9,f10,rfl,hff⟩:=bK hfe
       simp only [List.cons_append,List.nil_append,aB,cZ] at gS
       simp +contextual only [go_sem,ak,sevalprocAttr,rQ,gS,aaq,Er,de,je,hff]
       intro bl X0 ang
       refine dW _ _ _ ⟨rfl,?_,fun h=>(by rw [hS] at h;cases h),T13,M8,_,_,.mk 3 0 dP aO [] [eK x (.mk 12 0 dP keysE ags' [p2])],rfl,(pG.trans aaO).trans aco,((ce.trans Us).trans iz).trans jv,?_,?_⟩
       rotate_left
       ·rw [hG,if_pos rfl]
        exact anu (by rw [hH];rfl)
       ·refine aJ fun kC h2 mc=>al (ef hpm (al (aA ⟨_,_,kC,rfl,mc.2.1,mc.2.2.1,?_⟩)))
        exact jV (fM _) (aN (jv.trans kC) (bS (jv.trans kC)) arY) bR (ly h2 (bO kC _ _ hfe))
       ·simp only [aG,rQ,go_sem,ak,sevalprocAttr]
 ·rintro e ds h ⟨rfl,aD,e7,N4,M4,L4,R4,q,rfl,hN4,ce,hq,dw⟩
  simp only [aG] at aD
  replace z:=GB ((cC.ext Al).ext ce)
  have KM:qS s p2 names=.ok (if s.distinct=true then iC 11 q else q,if s.star=true then names.map (·.2) else ec 0 s.items):=by unfold qS;rw [hq]
  obtain ⟨hnb,la,lc,rfl,_,_,hlg⟩:=aI (by decide) (fun _ _=>q7) (aN ce (fun _ _ h=>h) mU)
  have atB:=ce _ _ gH
  have hMM:=Al.trans ce
  simp +contextual only [go_sem,sevalprocAttr,aD,z]
  refine dI (fun e ds h=>ds=[]/\aG e [(1,.pointer (some ⟨b,o,none⟩)),(4,.pointer (some ⟨b4,0,none⟩)),(6,.pointer (some ⟨b6,0,none⟩))]/\∃ N' M' R' nv nm qs,e 16=nv/\aH T6 N'/\bG M4 M'/\nK 9 1 pD [] R' nv nm/\nm=(if s.star=true then names.map (·.2) else ec 0 s.items)/\nm.length*1<=4398046511104/\j5 M' q qs/\M' b6=none/\M' b4=none/\h=⟨N',M',[(b6,qs),(b4,Ch)],R'⟩) (fun S' dW=> ?_) ?_
  ·cases hS:s.star with
   | true=>
    have e7:=e7 hS
    simp +contextual only [go_sem,ak,sevalprocAttr,aD,z,e7,aY atB]
    refine bA names.length 173 [(1,.pointer (some ⟨b,o,none⟩)),(4,.pointer (some ⟨b4,0,none⟩)),(6,.pointer (some ⟨b6,0,none⟩)),(171,.slice la names.length lc),(172,.int .i64 (names.length:Int))]
     (fun i e h=>∃ N' M' R' nv nm qs,e 16=nv/\aH T6 N'/\bG M4 M'/\nK 9 1 pD [] R' nv nm/\nm=(names.take i).map (·.2)/\j5 M' q qs/\M' b6=none/\M' b4=none/\h=⟨N',M',[(b6,qs),(b4,Ch)],R'⟩)
     0 (by omega) (by simp only [aG,aD,go_sem,ak,sevalprocAttr]) (by simp only [go_sem,ak,sevalprocAttr]) ?_ ?_
    ·refine qA dw ?_
     rintro h' ⟨M5,qs,he,rfl,k6,k4,xD⟩
     exact aA ⟨N4,M5,[],_,[],qs,(by simp only [go_sem,ak,sevalprocAttr]),hN4,he,ew,rfl,xD,k6,k4,rfl⟩
    rintro i e h AE du ht ⟨N5,M5,R5,nv,nm,qs,e16,DQ,dy,cy,Fl,xD,k6,k4,rfl⟩
    simp only [aG] at du
    by_cases aF:i<names.length
    ·obtain ⟨b',o',cs',rfl,I1,eL⟩:=hlg i names[i] (List.getElem?_eq_getElem aF)
     unfold G6 at eL;subst eL
     obtain ⟨x0,x1⟩:=SN (I1.ext dy)
     have Hm:nm.length=i:=by rw [Fl];simp;omega
     simp +contextual only [go_sem,ak,sevalprocAttr,du,ht,aF,x0,x1]
     intro b18 T18 aqw auU arh au9
     simp +contextual only [go_sem,ak,sevalprocAttr,du,ht,aF,x0,x1,aqw,e16]
     intro b19 acv aiD
     refine dH (Tryz.underlying93) Kx K1 (x:=names[i].2) cy rfl (fun _ _=>cO) (by intro u hu;simp only [List.mem_singleton] at hu;subst hu;rfl) acv (by omega) (by decide) ?_
     intro fv' R' cF
     simp +contextual only [go_sem,ak,sevalprocAttr,du,ht,aF]
     refine bf (al (al (aA ⟨names.length - (i+1),by omega,rfl,i+1,by omega,rfl,?_,?_,T18,M5,R',fv',_,qs,?_,DQ.trans arh,dy,cF,?_,xD,k6,k4,rfl⟩)))
     ·simp only [aG,du,go_sem,ak,sevalprocAttr]
     ·simp only [ht,go_sem,ak,sevalprocAttr,aC i (by omega)]
     ·simp only [go_sem,ak,sevalprocAttr]
     ·rw [Fl,List.take_succ_eq_append_getElem aF,List.map_append];rfl
    ·have:i=names.length:=by omega
     subst this
     simp +contextual only [go_sem,ak,sevalprocAttr,du,ht,aF]
     refine dW _ _ _ ⟨rfl,?_,N5,M5,R5,nv,nm,qs,?_,DQ,dy,cy,?_,?_,xD,k6,k4,rfl⟩
     ·simp only [aG,du,go_sem,ak,sevalprocAttr]
     ·simp only [e16,go_sem,ak,sevalprocAttr]
     ·rw [hS,if_pos rfl,Fl,List.take_length]
     ·rw [Fl,List.take_length,List.length_map];omega
   | false=>
    obtain ⟨X3,_⟩:=dG.its hS
    obtain ⟨hib,_,hig⟩:s.items.length*8<=4398046511104/\s.items.length<=aj/\∀ (i:Nat) (x:It),s.items[i]?=some x ->∃ b o cs,ai=some ⟨b,o,none⟩/\At M4 b (o+i*8) cs/\xQ M4 x cs:=by
     obtain ⟨h1,a',c',h2,h3,_,h4⟩:=aI (by decide) (fun _ _=>j8) (aN hMM (ko hMM) hi)
     injection h2 with h5 h6 h7
     subst h5 h7
     exact ⟨h1,h3,h4⟩
    simp +contextual only [go_sem,ak,sevalprocAttr,aD,z,hS]
    refine bA s.items.length 188 [(1,.pointer (some ⟨b,o,none⟩)),(4,.pointer (some ⟨b4,0,none⟩)),(6,.pointer (some ⟨b6,0,none⟩)),(186,.slice ai s.items.length aj),(187,.int .i64 (s.items.length:Int))]
     (fun i e h=>∃ N' M' R' nv nm qs,e 16=nv/\aH T6 N'/\bG M4 M'/\nK 9 1 pD [] R' nv nm/\nm.length=i/\nm++ec i (s.items.drop i)=ec 0 s.items/\j5 M' q qs/\M' b6=none/\M' b4=none/\h=⟨N',M',[(b6,qs),(b4,Ch)],R'⟩)
     0 (by omega) (by simp only [aG,aD,go_sem,ak,sevalprocAttr]) (by simp only [go_sem,ak,sevalprocAttr]) ?_ ?_
    ·refine qA dw ?_
     rintro h' ⟨M5,qs,he,rfl,k6,k4,xD⟩
     exact aA ⟨N4,M5,[],_,[],qs,(by simp only [go_sem,ak,sevalprocAttr]),hN4,he,ew,rfl,rfl,xD,k6,k4,rfl⟩
    rintro i e h AE du ht ⟨N5,M5,R5,nv,nm,qs,e16,DQ,dy,cy,Hm,Fl,xD,k6,k4,rfl⟩
    simp only [aG] at du
    by_cases aF:i<s.items.length
    ·obtain ⟨b',o',cs',rfl,I1,eL⟩:=hig i s.items[i] (List.getElem?_eq_getElem aF)
     obtain ⟨aw',rfl,wX,pm⟩:=mO eL
     obtain ⟨x0,x1,x2,x3,x4,x5,x6,x7⟩:=At8 (I1.ext dy)
     have bX:s.items.drop i=s.items[i]::s.items.drop (i+1):=List.drop_eq_getElem_cons aF
     rw [bX,ec] at Fl
     simp +contextual only [go_sem,ak,sevalprocAttr,du,ht,aF,x0,x1,x2,x3,x4,x5,x6,x7,pm]
     intro b20 T20 NO kd aqy au7
     refine am (Iz (ko dy _ _ eL) i (by omega) T20) ?_ (fun _ _ _ _ h=>h.elim)
     rintro r M6 dM bP rfl
     simp only [List.cons_append,List.nil_append,aB,cZ] at bP
     simp +contextual only [go_sem,ak,sevalprocAttr,du,ht,aF,e16]
     intro b19 acv aiD
     refine dH (Tryz.underlying93) Kx K1 (x:=oT s.items[i] i) cy rfl (fun _ _=>cO) (by intro u hu;simp only [List.mem_singleton] at hu;subst hu;rfl) acv (by omega) (by decide) ?_
     intro fv' R' cF
     simp +contextual only [go_sem,ak,sevalprocAttr,du,ht,aF]
     refine bf (al (al (aA ⟨s.items.length - (i+1),by omega,rfl,i+1,by omega,rfl,?_,?_,T20,M6,R',fv',_,qs,?_,DQ.trans aqy,dy.trans dM,cF,?_,?_,bO dM _ _ xD,bP.2.1,bP.2.2.1,rfl⟩)))
     ·simp only [aG,du,go_sem,ak,sevalprocAttr]
     ·simp only [ht,go_sem,ak,sevalprocAttr,aC i (by omega)]
     ·simp only [go_sem,ak,sevalprocAttr]
     ·rw [List.length_append,Hm];rfl
     ·rw [List.append_assoc];exact Fl
    ·have:i=s.items.length:=by omega
     subst this
     rw [List.drop_length] at Fl
     simp only [ec,List.append_nil] at Fl
     simp +contextual only [go_sem,ak,sevalprocAttr,du,ht,aF]
     refine dW _ _ _ ⟨rfl,?_,N5,M5,R5,nv,nm,qs,?_,DQ,dy,cy,?_,by omega,xD,k6,k4,rfl⟩
     ·simp only [aG,du,go_sem,ak,sevalprocAttr]
     ·simp only [e16,go_sem,ak,sevalprocAttr]
     ·rw [hS,if_neg (by decide),Fl]
  ·rintro e ds h ⟨rfl,rQ,N5,M5,R5,nv,nm,qs,e16,DQ,dy,cy,Fl,Hm,xD,k6,k4,rfl⟩
   simp only [aG] at rQ
   have z0:=ax dy z.1
   obtain ⟨d0,d1,d2,d3,d4,d5,d6,d7,d8,d9,d10,rfl,hd⟩:=bK xD
   have hTf:=TP.trans DQ
   cases hD:s.distinct with
   | false=>
    simp +contextual only [go_sem,ak,sevalprocAttr,rQ,z0,hD,hd,k6,k4,de,e16]
    refine cU cy Hm (by decide) ⟨k6,k4,trivial⟩ fun M6 dM bP ff=>az hTf ⟨_,KM,_,_,rfl,?_,?_⟩
    ·rw [hD];exact bO dM _ _ xD
    ·simp only;rw [<- Fl];exact ff
   | true=>
    simp +contextual only [go_sem,ak,sevalprocAttr,rQ,z0,hD,hd,k6,k4,de,e16]
    intro bl X0 ang
    refine cU cy Hm (by decide) ⟨X0,k6,k4,trivial⟩ fun M6 dM bP ff=>aJ fun he h1 fN=>az hTf ⟨_,KM,_,_,rfl,?_,?_⟩
    ·rw [hD];exact jV (fM _) bR bR (ly h1 (bO (dM.trans he) _ _ xD))
    ·simp only;rw [<- Fl];exact aN he (fun _ _ h=>h) ff
def C2 (res:Except Int Int)(v:Value):Prop:=match res with
 | .ok t=>v=.tuple ⟨[.int .i64 t,.int .i64 0]⟩
 | .error e=>e≠0/\∃ t,v=.tuple ⟨[.int .i64 t,.int .i64 e]⟩
theorem Ry (k:Int){M:aV}(T:Tm):ep Tryz.prog 226 [.int .i64 k] T M [] [] (fun r _ _ _=>r=.int .i64 (mI k)) bj:=by
 refine aT mx acM Tryz.func226 rfl (by rw [aiu];exact Nat.le_of_ble_eq_true rfl) (dr:=Zb) (by kernel_rfl) ah0 ?_
 intro _ _
 simp +contextual only [go_sem,ak,sevalprocAttr]
 (repeat' split)<;>(refine az aH.rfl' ?_;refine Ds ?_;simp only [mI];grind)
theorem xo (a b:Int){M:aV}(T:Tm):ep Tryz.prog 272 [.int .i64 a,.int .i64 b] T M [] [] (fun r _ _ _=>r=.tuple ⟨[.int .i64 ((kG a b).getD 0),.bool (kG a b).isSome]⟩) bj:=by
 refine aT mx ab8 Tryz.func272 rfl (by rw [ajd];exact Nat.le_of_ble_eq_true rfl) (dr:=X6) (by kernel_rfl) ajb ?_
 intro _ _
 simp +contextual only [go_sem,ak,sevalprocAttr]
 by_cases h1:a=b
 ·have:kG a b=some a:=by unfold kG;rw [if_pos (.inl h1)]
  rw [this]
  simp +contextual only [go_sem,ak,sevalprocAttr,h1]
  exact az aH.rfl' rfl
 ·by_cases h2:b=1
  ·have:kG a b=some a:=by unfold kG;rw [if_pos (.inr h2)]
   rw [this]
   simp +contextual only [go_sem,ak,sevalprocAttr,h1,h2]
   exact az aH.rfl' rfl
  ·by_cases h3:a=1
   ·have:kG a b=some b:=by unfold kG;rw [if_neg (fun h=>h.elim h1 h2),if_pos h3]
    subst h3
    simp +contextual only [go_sem,ak,sevalprocAttr,h1,h2]
    exact az aH.rfl' (by rw [this];rfl)
   ·have:kG a b=none:=by unfold kG;rw [if_neg (fun h=>h.elim h1 h2),if_neg h3]
    rw [this]
    simp +contextual only [go_sem,ak,sevalprocAttr,h1,h2,h3]
    exact az aH.rfl' rfl
theorem xu {M:aV}{l:List Int}{lv:Value}(jj:Int)(hs:RS M RI 1 l lv)(T:Tm):ep Tryz.prog 271 [lv,.int .i64 jj] T M [] [] (fun r _ _ _=>r=.bool (l.all (uO · jj))) bj:=by
 obtain ⟨lh,a,c,rfl,jo,_,hg⟩:=aI (by decide) (fun _ _=>cW) hs
 refine aT mx aeN Tryz.func271 rfl (by rw [ajZ];exact Nat.le_of_ble_eq_true rfl) (dr:=Ya) (by kernel_rfl) ajG ?_
 intro bN _
 simp +contextual only [go_sem,ak,sevalprocAttr]
 refine bh l.length 11 [(1,.int .i64 jj),(9,.slice a l.length c),(10,.int .i64 (l.length:Int))] (fun i e h=>∃ M',bG M M'/\h=⟨T,M',[],[]⟩/\(l.drop i).all (uO · jj)=l.all (uO · jj)) 0 (by omega) (by simp only [aG,go_sem,ak,sevalprocAttr]) (by simp only [go_sem,ak,sevalprocAttr]) ⟨M,bG.rfl',rfl,rfl⟩ ?_
 rintro i e h hi aD ht ⟨M1,aP,rfl,ay⟩
 simp only [aG] at aD
 by_cases aF:i<l.length
 ·obtain ⟨b',o',cs',rfl,cC,eL⟩:=hg i l[i] (List.getElem?_eq_getElem aF)
  unfold RI at eL;subst eL
  have x0:=Bu (cC.ext aP)
  rw [Nat.mul_one] at x0
  have bX:l.drop i=l[i]::l.drop (i+1):=List.drop_eq_getElem_cons aF
  rw [bX,List.all_cons] at ay
  simp +contextual only [go_sem,ak,sevalprocAttr,aD,ht,aF,x0]
  refine am (xo l[i] jj T) ?_ (fun _ _ _ _ h=>h.elim)
  rintro r M2 aX _ rfl
  cases hb:uO l[i] jj with
  | true=>
   rw [hb,Bool.true_and] at ay
   have hb':(kG l[i] jj).isSome=true:=hb
   simp +contextual only [go_sem,ak,sevalprocAttr,aD,ht,aF,hb']
   refine bW aF ?_ ?_ ⟨M2,aP.trans aX,rfl,ay⟩
   ·simp only [aG,aD,go_sem,ak,sevalprocAttr]
   ·simp only [ht,go_sem,ak,sevalprocAttr,aC i (by omega)]
  | false=>
   rw [hb,Bool.false_and] at ay
   have hb':(kG l[i] jj).isSome=false:=hb
   simp +contextual only [go_sem,ak,sevalprocAttr,aD,ht,aF,hb']
   exact az aH.rfl' (by rw [<- ay])
 ·have:i=l.length:=by omega
  subst this
  rw [List.drop_length] at ay
  simp +contextual only [go_sem,ak,sevalprocAttr,aD,ht,aF]
  exact az aH.rfl' (by rw [<- ay];rfl)
set_option maxHeartbeats 1000000 in
theorem Qh {M:aV}{k:Int}{l:List Int}{lv:Value}(hs:RS M RI 1 l lv)(hl:(l.length:Int)=mI k)(hk:k≠1/\k≠2/\k≠16)(h0:¬ mI k<0)(T:Tm):ep Tryz.prog 227 [.int .i64 k,lv] T M [] [] (fun r _ _ _=>C2 (CK k l) r) bj:=by
 obtain ⟨lh,a,c,rfl,jo,Ai,hg⟩:=aI (by decide) (fun _ _=>cW) hs
 have eE:0<l.length ->∃ b o,a=some ⟨b,o,none⟩/\∀ (i:Nat),i<l.length ->aL M ⟨b,o+i,none⟩=some (.int .i64 (l.getD i 0)):=by
  intro h0
  obtain ⟨b',o',cs',h1,_⟩:=hg 0 l[0] (List.getElem?_eq_getElem h0)
  refine ⟨b',o',h1,fun i hi=> ?_⟩
  obtain ⟨b2,o2,cs',h2,cC,eL⟩:=hg i l[i] (List.getElem?_eq_getElem hi)
  rw [h1] at h2
  simp only [Option.some.injEq,Addr.mk.injEq,and_true] at h2
  obtain ⟨rfl,rfl⟩:=h2
  unfold RI at eL;subst eL
  have x0:=Bu cC
  rw [Nat.mul_one] at x0
  rw [x0];simp [List.getD,hi]
 refine aT mx Pm Tryz.func227 rfl (by rw [afo];exact Nat.le_of_ble_eq_true rfl) (dr:=YZ) (by kernel_rfl) anb ?_
 intro bN _
 have e3:k=3\/(4<=k/\k<=5)\/(6<=k/\k<=11)\/(12<=k/\k<=14)\/k=15\/k=17\/k=18:=by
  unfold mI at h0
  repeat' split at h0
  all_goals omega
 unfold CK
 by_cases h5:k<=5
 ·rw [if_pos h5]
  simp +contextual only [go_sem,ak,sevalprocAttr,h5]
  refine am (xu 2 hs T) ?_ (fun _ _ _ _ h=>h.elim)
  rintro r M2 aX _ rfl
  cases hb:l.all (uO · 2) with
  | true=>simp +contextual only [go_sem,ak,sevalprocAttr];exact az aH.rfl' rfl
  | false=>simp +contextual only [go_sem,ak,sevalprocAttr];exact az aH.rfl' ⟨by decide,_,rfl⟩
 rw [if_neg h5]
 by_cases ZO:k<=11
 ·rw [if_pos ZO]
  have jY:mI k=2:=by unfold mI;rw [if_neg (by omega),if_neg (by omega),if_pos (by omega)]
  obtain ⟨b0,o0,rfl,gg⟩:=eE (by omega)
  have g0:=gg 0 (by omega)
  have g1:=gg 1 (by omega)
  have hlI:(0:Int)<(l.length:Int)/\(1:Int)<(l.length:Int):=⟨by omega,by omega⟩
  rw [Nat.add_zero] at g0
  simp +contextual only [go_sem,ak,sevalprocAttr,h5,ZO]
  refine bq ?_
  simp +contextual only [go_sem,ak,sevalprocAttr,g0,g1,hlI]
  refine am (xo _ _ T) ?_ (fun _ _ _ _ h=>h.elim)
  rintro r M2 aX _ rfl
  cases hb:(kG (l.getD 0 0) (l.getD 1 0)).isSome with
  | true=>simp +contextual only [go_sem,ak,sevalprocAttr];exact az aH.rfl' rfl
  | false=>simp +contextual only [go_sem,ak,sevalprocAttr];exact az aH.rfl' ⟨by decide,_,rfl⟩
 rw [if_neg ZO]
 by_cases Dx:k<=14
 ·rw [if_pos Dx]
  simp +contextual only [go_sem,ak,sevalprocAttr,h5,ZO,Dx]
  refine am (xu 3 hs T) ?_ (fun _ _ _ _ h=>h.elim)
  rintro r M2 aX _ rfl
  cases hb:l.all (uO · 3) with
  | true=>simp +contextual only [go_sem,ak,sevalprocAttr];exact az aH.rfl' rfl
  | false=>simp +contextual only [go_sem,ak,sevalprocAttr];exact az aH.rfl' ⟨by decide,_,rfl⟩
 rw [if_neg Dx]
 by_cases yx:k=15
 ·rw [if_pos yx]
  subst yx
  simp +contextual only [go_sem,ak,sevalprocAttr]
  refine am (xu 4 hs T) ?_ (fun _ _ _ _ h=>h.elim)
  rintro r M2 aX _ rfl
  cases hb:l.all (uO · 4) with
  | true=>simp +contextual only [go_sem,ak,sevalprocAttr];exact az aH.rfl' rfl
  | false=>simp +contextual only [go_sem,ak,sevalprocAttr];exact az aH.rfl' ⟨by decide,_,rfl⟩
 rw [if_neg yx]
 by_cases Ve:k=17
 ·rw [if_pos Ve]
  subst Ve
  have jY:mI 17=3:=by decide
  obtain ⟨b0,o0,rfl,gg⟩:=eE (by omega)
  have g0:=gg 0 (by omega)
  have g1:=gg 1 (by omega)
  have g2:=gg 2 (by omega)
  have hlI:(2:Int)<(l.length:Int)/\(1:Int)<(l.length:Int):=⟨by omega,by omega⟩
  rw [Nat.add_zero] at g0
  have hcI:(1:Int)<=(c:Int):=by omega
  simp +contextual only [go_sem,ak,sevalprocAttr]
  refine bq ?_
  simp +contextual only [go_sem,ak,sevalprocAttr,g1,g2,hlI]
  refine am (xo _ _ T) ?_ (fun _ _ _ _ h=>h.elim)
  rintro r M2 aX _ rfl
  cases hb:kG (l.getD 1 0) (l.getD 2 0) with
  | none=>
   simp +contextual only [go_sem,ak,sevalprocAttr,hcI]
   rw [if_neg (by decide)]
   exact az aH.rfl' ⟨by decide,_,rfl⟩
  | some o=>
   simp +contextual only [go_sem,ak,sevalprocAttr,hcI]
   have h1:RS M2 RI 1 [l.getD 0 0] (.slice (nP (some ⟨b0,o0,none⟩) c 0 1) 1 c):=by
    refine ⟨by simp,[.int .i64 (l.getD 0 0)],.inr ⟨b0,o0,1,c,?_,by omega,rfl,?_⟩,cP rfl⟩
    ·have:¬ c=0:=by omega
     simp [nP,this,Addr.add_lit]
    ·exact ⟨by simpa using ax aX g0,trivial⟩
   refine am (xu 2 h1 T) ?_ (fun _ _ _ _ h=>h.elim)
   rintro r M3 bD _ rfl
   have h2:[l.getD 0 0].all (uO · 2)=uO (l.getD 0 0) 2:=by simp
   rw [h2]
   cases hf:uO (l.getD 0 0) 2 with
   | true=>simp +contextual only [go_sem,ak,sevalprocAttr];exact az aH.rfl' rfl
   | false=>simp +contextual only [go_sem,ak,sevalprocAttr];exact az aH.rfl' ⟨by decide,_,rfl⟩
 rw [if_neg Ve]
 have h18:k=18:=by omega
 subst h18
 have jY:mI 18=2:=by decide
 obtain ⟨b0,o0,rfl,gg⟩:=eE (by omega)
 have g0:=gg 0 (by omega)
 have g1:=gg 1 (by omega)
 have hlI:(0:Int)<(l.length:Int)/\(1:Int)<(l.length:Int):=⟨by omega,by omega⟩
 rw [Nat.add_zero] at g0
 simp +contextual only [go_sem,ak,sevalprocAttr]
 refine bq ?_
 simp +contextual only [go_sem,ak,sevalprocAttr,g0,g1,hlI]
 refine am (xo _ _ T) ?_ (fun _ _ _ _ h=>h.elim)
 rintro r M2 aX _ rfl
 cases hb:kG (l.getD 0 0) (l.getD 1 0) with
 | some o=>simp +contextual only [go_sem,ak,sevalprocAttr];exact az aH.rfl' rfl
 | none=>simp +contextual only [go_sem,ak,sevalprocAttr];exact az aH.rfl' ⟨by decide,_,rfl⟩
mutual
theorem Lg (cols:List Int)(bU n:Nat):∀ x,n<=200 ->(pj cols bU n x).2<=201/\(∀ t,(pj cols bU n x).1=.ok t ->(pj cols bU n x).2<=200)
 | .mk k v c kids,hn=>by
  rw [pj]
  split
  ·exact ⟨by simp only;omega,fun t h=>by simp at h⟩
  ·split
   ·exact ⟨by simp only;omega,fun t h=>by simp at h⟩
   ·split
    ·exact ⟨by simp only;omega,fun t h=>by simp at h⟩
    ·have:=Kz cols (bU+1) (n+1) kids (by omega)
     split
     ·rename_i e m hm
      rw [hm] at this
      exact ⟨this.1,fun t h=>by simp at h⟩
     ·rename_i t m hm
      rw [hm] at this
      exact ⟨this.1,fun _ _=>this.2 t rfl⟩
theorem Kz (cols:List Int)(bU n:Nat):∀ l,n<=200 ->(oE cols bU n l).2<=201/\(∀ t,(oE cols bU n l).1=.ok t ->(oE cols bU n l).2<=200)
 | [],hn=>by rw [oE];exact ⟨by simp only;omega,fun _ _=>hn⟩
 | x::l,hn=>by
  rw [oE]
  have hx:=Lg cols bU n x hn
  split
  ·rename_i e m hm
   rw [hm] at hx
   exact ⟨hx.1,fun t h=>by simp at h⟩
  ·rename_i t m hm
   rw [hm] at hx
   have hl:=Kz cols bU m l (hx.2 t rfl)
   split
   ·rename_i e m' LE
    rw [LE] at hl
    exact ⟨hl.1,fun t h=>by simp at h⟩
   ·rename_i ts m' LE
    rw [LE] at hl
    exact ⟨hl.1,fun _ _=>hl.2 ts rfl⟩
end
theorem abj {M:aV}{b o:Nat}{x:Ex}{cs:List Value}(h:jL M x cs)(ha:At M b o cs):∃ a c,RS M (jL M) 6 x.kids (.slice a x.kids.length c)/\aL M ⟨b,o,none⟩=some (.int .i64 x.k)/\aL M ⟨b,o+1,none⟩=some (.int .i64 x.v.k)/\aL M ⟨b,o+2,none⟩=some (.int .i64 x.v.n)/\aL M ⟨b,o+3,none⟩=some (st x.v.t)/\
 aL M ⟨b,o+4,none⟩=some (.int .i64 x.c)/\aL M ⟨b,o+5,none⟩=some (.slice a x.kids.length c):=by
 obtain ⟨s,rfl,_,hs⟩:=cg h
 obtain ⟨_,a,c,rfl,_⟩:=aI (by decide) (fun _ _=>ed) hs
 exact ⟨a,c,hs,ha.1,ha.2.1,ha.2.2.1,ha.2.2.2.1,ha.2.2.2.2.1,ha.2.2.2.2.2.1⟩
def H5 (aO:List Int):Except Int (List Int)×Nat ->Except Int (List Int)×Nat
 | (.ok l,m)=>(.ok (aO++l),m)
 | (.error e,m)=>(.error e,m)
theorem Sy (r):H5 [] r=r:=by obtain ⟨r,m⟩:=r;cases r<;>rfl
theorem Vt {cols:List Int}{bU n m:Nat}{x:Ex}{l:List Ex}{t:Int}{aO:List Int}(h:pj cols bU n x=(.ok t,m)):H5 aO (oE cols bU n (x::l))=H5 (aO++[t]) (oE cols bU m l):=by
 rw [oE,h]
 simp only
 rcases hl:oE cols bU m l with ⟨r,m'⟩
 cases r<;>simp [H5]
theorem Px {cols:List Int}{bU n m:Nat}{x:Ex}{l:List Ex}{e:Int}{aO:List Int}(h:pj cols bU n x=(.error e,m)):H5 aO (oE cols bU n (x::l))=(.error e,m):=by
 rw [oE,h];rfl
theorem i7 {t:Int}{cs}(h:RI t cs):∀ u∈cs,u.oneCell'=true:=by
 rw [h];intro u hu;simp only [List.mem_singleton] at hu;subst hu;rfl
def TyX (x:Ex):Prop:=∀ (M:aV) (T:Tm) (b o hb bU n:Nat) (cs:List Value) (cols:List Int) (cv:Value),At M b o cs ->jL M x cs ->RS M RI 1 cols cv ->n<=200 ->bU<=21 ->
 ep Tryz.prog 174 [.pointer (some ⟨hb,0,none⟩),.pointer (some ⟨b,o,none⟩),.int .i64 (bU:Int)] T M [(hb,[cv,.int .i64 (n:Int)])] [] (fun r M' L' R'=>C2 (pj cols bU n x).1 r/\L'=[(hb,[cv,.int .i64 ((pj cols bU n x).2:Int)])]/\R'=[]) bj
theorem tyX:∀ (sz:Nat) (x:Ex),SizeOf.sizeOf x<=sz ->TyX x:=by
 intro sz
 induction sz with
 | zero=>intro x hx;cases x;simp at hx
 | succ sz ih=>
  intro x eF M T b o hb bU n cs cols cv cC hx mr hn YL
  obtain ⟨a,c,hs,m0,m1,m2,m3,m4,m5⟩:=abj hx cC
  obtain ⟨lh,a',c',j7,jo,Ai,hg⟩:=aI (by decide) (fun _ _=>ed) hs
  injection j7 with h1 h2 h3
  subst h1 h3
  cases x with | mk k v c0 kids=>
  simp only [Ex.k,Ex.v,Ex.c,Ex.kids] at m0 m1 m2 m3 m4 m5 hs jo hg lh
  obtain ⟨S,hS⟩:∃ S,S=pj cols bU n (.mk k v c0 kids):=⟨_,rfl⟩
  rw [<- hS]
  rw [pj] at hS
  have hwn:=aC n (by omega)
  have hwd:=aC bU (by omega)
  refine aT mx abo Tryz.func174 rfl (by rw [amh];exact Nat.le_of_ble_eq_true rfl) (dr:=YR) (by kernel_rfl) af4 ?_
  intro bN _
  simp only [aB,and_true] at bN
  simp +contextual only [go_sem,ak,sevalprocAttr,bN,hwn,m0]
  by_cases nV:200<n+1\/20<bU
  ·rw [if_pos nV] at hS
   rw [if_pos (by omega)]
   exact aM aH.rfl' rfl rfl ⟨by rw [hS];exact ⟨by decide,_,rfl⟩,by rw [hS],rfl⟩
  rw [if_neg nV] at hS
  rw [if_neg (by omega)]
  refine am (Ry k T) ?_ (fun _ _ _ _ h=>h.elim)
  rintro r M1 aP bL rfl
  simp only [aB,and_true] at bL
  replace m0:=ax aP m0
  replace m1:=ax aP m1
  replace m2:=ax aP m2
  replace m3:=ax aP m3
  replace m4:=ax aP m4
  replace m5:=ax aP m5
  by_cases oI:mI k<0
  ·rw [if_pos oI] at hS
   simp +contextual only [go_sem,ak,sevalprocAttr,oI]
   exact aM aH.rfl' rfl rfl ⟨by rw [hS];exact ⟨by decide,_,rfl⟩,by rw [hS],rfl⟩
  rw [if_neg oI] at hS
  by_cases xp:(kids.length:Int)=mI k
  ·rw [if_neg (fun h=>h xp)] at hS
   have V9:kids.length<=3:=by
    have:mI k<=3:=by unfold mI;repeat' split<;>omega
    omega
   simp +contextual only [go_sem,ak,sevalprocAttr,oI,xp,m5]
   refine bh kids.length 50 [(0,.pointer (some ⟨hb,0,none⟩)),(1,.pointer (some ⟨b,o,none⟩)),(2,.int .i64 (bU:Int)),(49,.int .i64 (kids.length:Int))]
    (fun i e h=>∃ (M':aV) (n':Nat) (R:RR) (fv:Value) (aO:List Int),bG M1 M'/\M' hb=none/\n'<=200/\h=⟨T,M',[(hb,[cv,.int .i64 (n':Int)])],R⟩/\e 9=fv/\aO.length=i/\nK 3 1 RI [] R fv aO/\H5 aO (oE cols (bU+1) n' (kids.drop i))=oE cols (bU+1) (n+1) kids)
    0 (by omega) (by simp only [aG,xp,go_sem,ak,sevalprocAttr]) (by simp only [go_sem,ak,sevalprocAttr]) ⟨M1,n+1,[],_,[],bG.rfl',bL,by omega,rfl,by simp only [go_sem,ak,sevalprocAttr],rfl,ew,Sy _⟩ ?_
   rintro i e h hi aD ht ⟨M2,n',R2,fv,aO,aX,n2,X9,rfl,e9,lk,cy,ay⟩
   simp only [aG] at aD
   have x5:=ax aX m5
   by_cases aF:i<kids.length
   ·obtain ⟨b',o',cs',rfl,AI,eL⟩:=hg i kids[i] (List.getElem?_eq_getElem aF)
    have gz:=aP.trans aX
    have bX:kids.drop i=kids[i]::kids.drop (i+1):=List.drop_eq_getElem_cons aF
    rw [bX] at ay
    have yW:SizeOf.sizeOf kids[i]<=sz:=by
     have h1:=List.sizeOf_lt_of_mem (List.getElem_mem aF)
     simp only [Ex.mk.sizeOf_spec] at eF
     omega
    have Ax:=Lg cols (bU+1) n' kids[i] X9
    simp +contextual only [go_sem,ak,sevalprocAttr,aD,ht,aF,x5,hwd]
    refine dU [] (ih kids[i] yW M2 T b' _ hb (bU+1) n' cs' cols cv (AI.ext gz) (bS gz _ _ eL) (aN gz (fun _ _ h=>h) mr) X9 (by omega)) ?_ (fun _ _ _ _ _ _ h=>h.elim)
    rintro r M3 L' bD yi aZ ⟨hr,rfl, -⟩
    simp only [List.nil_append,aB,and_true] at aZ
    rcases ni:pj cols (bU+1) n' kids[i] with ⟨r1,m⟩
    rw [ni] at hr Ax
    cases r1 with
    | error er=>
     obtain ⟨dh,t,rfl⟩:=hr
     rw [Px ni] at ay
     rw [<- ay] at hS
     simp +contextual only [go_sem,ak,sevalprocAttr,aD,ht,aF,dh]
     refine cG (aM aH.rfl' rfl rfl ⟨?_,?_,rfl⟩)
     ·rw [hS];exact ⟨dh,_,rfl⟩
     ·rw [hS]
    | ok t=>
     simp only [C2] at hr
     subst hr
     rw [Vt ni] at ay
     simp +contextual only [go_sem,ak,sevalprocAttr,aD,ht,aF,e9]
     intro b7 km dj
     refine dH (Tryz.underlying24) kB kl (x:=t) cy rfl (fun _ _=>cW) (i7 rfl) km (by omega) (by decide) ?_
     intro fv' R' cF
     simp +contextual only [go_sem,ak,sevalprocAttr,aD,ht,aF]
     refine bf (al (aA ⟨kids.length - (i+1),by omega,rfl,i+1,by omega,rfl,?_,?_,M3,m,R',fv',aO++[t],aX.trans bD,aZ,Ax.2 t rfl,rfl,?_,?_,cF,ay⟩))
     ·simp only [aG,aD,go_sem,ak,sevalprocAttr]
     ·simp only [ht,go_sem,ak,sevalprocAttr,aC i (by omega)]
     ·simp only [go_sem,ak,sevalprocAttr]
     ·rw [List.length_append,lk];rfl
   ·have:i=kids.length:=by omega
    subst this
    rw [List.drop_length,oE] at ay
    simp only [H5,List.append_nil] at ay
    rw [<- ay] at hS
    simp only at hS
    have gz:=aP.trans aX
    replace m0:=ax aX m0
    replace m1:=ax aX m1
    replace m2:=ax aX m2
    replace m3:=ax aX m3
    replace m4:=ax aX m4
    by_cases h1:k=1
    ·subst h1
     rw [if_pos rfl] at hS
     simp +contextual only [go_sem,ak,sevalprocAttr,aD,ht,aF,m0]
     refine bq ?_
     simp +contextual only [go_sem,ak,sevalprocAttr,aD,m1,m2,m3]
     refine am (nA v M2 T) ?_ (fun _ _ _ _ h=>h.elim)
     rintro r M3 bD aZ rfl
     simp +contextual only [go_sem,ak,sevalprocAttr]
     simp only [aB,and_true] at aZ
     refine ⟨dK bD ⟨aZ,trivial⟩,cG (aM aH.rfl' rfl rfl ⟨?_,by rw [hS],rfl⟩)⟩
     rw [hS]
     by_cases hw:cR v=0
     ·rw [if_pos hw,hw];rfl
     ·rw [if_neg hw];exact ⟨hw,_,rfl⟩
    rw [if_neg h1] at hS
    by_cases h2:k=2
    ·subst h2
     rw [if_pos rfl] at hS
     obtain ⟨_,ca,cc,rfl,_,_,UF⟩:=aI (by decide) (fun _ _=>cW) (aN gz (fun _ _ h=>h) mr)
     simp +contextual only [go_sem,ak,sevalprocAttr,aD,ht,aF,m0]
     refine bq ?_
     by_cases Vw:c0<0
     ·simp +contextual only [go_sem,ak,sevalprocAttr,aD,m4,n2,Vw]
      refine cG (aM aH.rfl' rfl rfl ⟨?_,by rw [hS],rfl⟩)
      rw [hS];simp only;rw [if_neg (by omega)];exact ⟨by decide,_,rfl⟩
     ·by_cases hhi:(cols.length:Int)<=c0
      ·simp +contextual only [go_sem,ak,sevalprocAttr,aD,m4,n2,Vw,hhi]
       refine cG (aM aH.rfl' rfl rfl ⟨?_,by rw [hS],rfl⟩)
       rw [hS];simp only;rw [if_neg (by omega)];exact ⟨by decide,_,rfl⟩
      ·obtain ⟨j,hj⟩:∃ j:Nat,c0=(j:Int):=⟨c0.toNat,by omega⟩
       subst hj
       have xk:j<cols.length:=by omega
       obtain ⟨b',o',cs',rfl,AI,eL⟩:=UF j cols[j] (List.getElem?_eq_getElem xk)
       unfold RI at eL;subst eL
       have x0:=Bu AI
       rw [Nat.mul_one] at x0
       have aui:¬ ((j:Int)<0):=Vw
       simp +contextual only [go_sem,ak,sevalprocAttr,aD,m4,n2,aui,hhi]
       refine bq ?_
       simp +contextual only [go_sem,ak,sevalprocAttr,aD,m4,n2,xk,x0]
       refine cG (aM aH.rfl' rfl rfl ⟨?_,by rw [hS],rfl⟩)
       rw [hS];simp only;rw [if_pos (by omega)]
       have:cols.getD (j:Int).toNat 0=cols[j]:=by simp [List.getD,xk]
       rw [this];rfl
    rw [if_neg h2] at hS
    by_cases us:k=16
    ·subst us
     rw [if_pos rfl] at hS
     simp +contextual only [go_sem,ak,sevalprocAttr,aD,ht,aF,m0]
     exact cG (aM aH.rfl' rfl rfl ⟨by rw [hS];rfl,by rw [hS],rfl⟩)
    rw [if_neg us] at hS
    simp +contextual only [go_sem,ak,sevalprocAttr,aD,ht,aF,m0,h1,h2,us,e9]
    refine eh (k:=fun h'=>∃ M3,bG M2 M3/\M3 hb=none/\RS M3 RI 1 aO fv/\h'=⟨T,M3,[(hb,[cv,.int .i64 (n':Int)])],[]⟩) (cU cy (by omega) (by decide) ⟨n2,trivial⟩ fun M3 bD aZ ff=>aA ⟨M3,bD,aZ.1,ff,rfl⟩) ?_ Pm
    rintro h' ⟨M3,bD,n3,ff,rfl⟩
    refine am (Qh ff (by rw [lk];exact xp) ⟨h1,h2,us⟩ oI T) ?_ (fun _ _ _ _ h=>h.elim)
    rintro r M4 ce bH hr
    have hS1:S.1=CK k aO:=by rw [hS]
    have lX:S.2=n':=by rw [hS]
    rw [<- hS1] at hr
    cases hk:S.1 with
    | ok t=>
     rw [hk] at hr
     simp only [C2] at hr
     subst hr
     simp +contextual only [go_sem,ak,sevalprocAttr]
     exact aM aH.rfl' rfl rfl ⟨rfl,by rw [lX],rfl⟩
    | error er=>
     rw [hk] at hr
     obtain ⟨dh,t,rfl⟩:=hr
     simp +contextual only [go_sem,ak,sevalprocAttr]
     exact aM aH.rfl' rfl rfl ⟨⟨dh,_,rfl⟩,by rw [lX],rfl⟩
  ·rw [if_pos xp] at hS
   simp +contextual only [go_sem,ak,sevalprocAttr,oI,xp,m5]
   exact aM aH.rfl' rfl rfl ⟨by rw [hS];exact ⟨by decide,_,rfl⟩,by rw [hS],rfl⟩
theorem C0 {M:aV}{cols:List Int}{cv:Value}{x:Ex}{cs:List Value}(mr:RS M RI 1 cols cv)(hx:jL M x cs)(T:Tm):
 ep Tryz.prog 122 [cv,.agg ⟨cs⟩] T M [] [] (fun r _ _ _=>C2 (oG cols x) r) bj:=by
 obtain ⟨lh,a,c,rfl,jo,_,hg⟩:=aI (by decide) (fun _ _=>cW) mr
 obtain ⟨s0,rfl,Ar,oI⟩:=cg hx
 unfold oG
 refine aT mx aaV Tryz.func122 rfl (by rw [anh];exact Nat.le_of_ble_eq_true rfl) (dr:=Z2) (by kernel_rfl) agP ?_
 intro bN _
 by_cases us:16<cols.length
 ·have IO:(16:Int)<(cols.length:Int):=by omega
  rw [if_pos us]
  simp +contextual only [go_sem,ak,sevalprocAttr,Ar,IO]
  intro b3 T3 fh fD ja
  exact az fD ⟨by decide,_,rfl⟩
 have IO:¬ (16:Int)<(cols.length:Int):=by omega
 rw [if_neg us]
 simp +contextual only [go_sem,ak,sevalprocAttr,Ar,IO]
 intro b3 T3 fh fD ja
 refine bA cols.length 15 [(0,.slice a cols.length c),(3,.pointer (some ⟨b3,0,none⟩)),(13,.slice a cols.length c),(14,.int .i64 (cols.length:Int))] (fun i e h=>∃ M',bG M M'/\M' b3=some [.int .i64 x.k,.int .i64 x.v.k,.int .i64 x.v.n,st x.v.t,.int .i64 x.c,s0]/\h=⟨T3,M',[],[]⟩/\(cols.drop i).all (fun t=>decide (1<=t/\t<=4))=cols.all (fun t=>decide (1<=t/\t<=4))) 0 (by omega) (by simp only [aG,go_sem,ak,sevalprocAttr]) (by simp only [go_sem,ak,sevalprocAttr]) (aJ fun he h3 _=>aA ⟨_,he,h3,rfl,rfl⟩) ?_
 rintro i e h hi aD ht ⟨M1,aP,h3,rfl,ay⟩
 simp only [aG] at aD
 by_cases aF:i<cols.length
 ·obtain ⟨b',o',cs',rfl,cC,eL⟩:=hg i cols[i] (List.getElem?_eq_getElem aF)
  unfold RI at eL;subst eL
  have x0:=Bu (cC.ext aP)
  rw [Nat.mul_one] at x0
  have bX:cols.drop i=cols[i]::cols.drop (i+1):=List.drop_eq_getElem_cons aF
  rw [bX,List.all_cons] at ay
  by_cases hb:1<=cols[i]/\cols[i]<=4
  ·rw [decide_eq_true hb,Bool.true_and] at ay
   have jK:¬ cols[i]<1:=by omega
   have eG:¬ 4<cols[i]:=by omega
   simp +contextual only [go_sem,ak,sevalprocAttr,aD,ht,aF,x0,jK,eG]
   refine bW aF ?_ ?_ ⟨M1,aP,h3,rfl,ay⟩
   ·simp only [aG,aD,go_sem,ak,sevalprocAttr]
   ·simp only [ht,go_sem,ak,sevalprocAttr,aC i (by omega)]
  ·rw [decide_eq_false hb,Bool.false_and] at ay
   rw [<- ay,if_neg (by decide)]
   by_cases jK:cols[i]<1
   ·simp +contextual only [go_sem,ak,sevalprocAttr,aD,ht,aF,x0,jK]
    exact az fD ⟨by decide,_,rfl⟩
   ·have eG:4<cols[i]:=by omega
    simp +contextual only [go_sem,ak,sevalprocAttr,aD,ht,aF,x0,jK,eG]
    exact az fD ⟨by decide,_,rfl⟩
 ·have:i=cols.length:=by omega
  subst this
  rw [List.drop_length] at ay
  rw [<- ay,List.all_nil,if_pos rfl]
  simp +contextual only [go_sem,ak,sevalprocAttr,aD,ht,aF]
  intro b9 T9 rF pG oP
  refine dU [] (tyX _ x (Nat.le_refl _) M1 T9 b3 0 b9 1 0 _ cols _ (db h3) (bS aP _ _ hx) (aN aP (fun _ _ h=>h) mr) (by omega) (by omega)) ?_ (fun _ _ _ _ _ _ h=>h.elim)
  rintro r M3 L' bD yi aZ ⟨hr,rfl, -⟩
  have Lu:=fD.trans pG
  cases ni:(pj cols 1 0 x).1 with
  | ok t=>
   rw [ni] at hr
   simp only [C2] at hr
   subst hr
   simp +contextual only [go_sem,ak,sevalprocAttr]
   exact az Lu rfl
  | error er=>
   rw [ni] at hr
   obtain ⟨dh,t,rfl⟩:=hr
   simp +contextual only [go_sem,ak,sevalprocAttr,dh]
   exact az Lu ⟨dh,_,rfl⟩
def Lm (cols:List Int)(x:Ex):Int:=match oJ cols x with | .ok _=>0 | .error e=>e
theorem wY {M:aV}{cols:List Int}{cv:Value}{x:Ex}{cs:List Value}(mr:RS M RI 1 cols cv)(hx:jL M x cs)(T:Tm):
 ep Tryz.prog 82 [cv,.agg ⟨cs⟩] T M [] [] (fun r _ _ _=>r=.int .i64 (Lm cols x)/\∀ e,oJ cols x=.error e ->e≠0) bj:=by
 obtain ⟨s0,hc0,Ar,oI⟩:=cg hx
 refine aT mx aof Tryz.func82 rfl (by rw [asY];exact Nat.le_of_ble_eq_true rfl) (dr:=ajY) (by kernel_rfl) atN ?_
 intro bN _
 have hl:=ed hx
 subst hc0
 simp +contextual only [go_sem,ak,sevalprocAttr,Ar]
 intro b3 T3 fh fD ja
 refine am (C0 mr hx T3) ?_ (fun _ _ _ _ h=>h.elim)
 rintro r M1 aP bL hr
 unfold Lm oJ
 cases ni:oG cols x with
 | error er=>
  rw [ni] at hr
  obtain ⟨dh,t,rfl⟩:=hr
  simp +contextual only [go_sem,ak,sevalprocAttr,dh]
  exact az fD ⟨rfl,fun e h=>by injection h with h;rw [<- h];exact dh⟩
 | ok t=>
  rw [ni] at hr
  simp only [C2] at hr
  subst hr
  by_cases h2:t=2
  ·subst h2
   simp +contextual only [go_sem,ak,sevalprocAttr]
   exact az fD ⟨rfl,fun e h=>by cases h⟩
  ·by_cases h1:t=1
   ·subst h1
    simp +contextual only [go_sem,ak,sevalprocAttr]
    exact az fD ⟨rfl,fun e h=>by cases h⟩
   ·simp +contextual only [go_sem,ak,sevalprocAttr,h1,h2]
    exact az fD ⟨rfl,fun e h=>by injection h with h;rw [<- h];decide⟩
def HS (res:Except Int (List Int))(v:Value)(M:aV):Prop:=match res with
 | .ok l=>∃ sv,v=.tuple ⟨[sv,.int .i64 0]⟩/\RS M RI 1 l sv
 | .error e=>e≠0/\∃ sv,v=.tuple ⟨[sv,.int .i64 e]⟩
def Vf (res:Except Int (List Int))(v:Value)(M:aV):Prop:=match res with
 | .ok l=>∃ sv,v=.tuple ⟨[sv,.int .i64 0]⟩/\RS M RI 1 l sv
 | .error e=>e≠0/\v=.tuple ⟨[.slice none 0 0,.int .i64 e]⟩
theorem H1 {res:Except Int (List Int)}{v:Value}{M:aV}(h:Vf res v M):HS res v M:=by
 cases res with
 | ok l=>exact h
 | error e=>exact ⟨h.1,_,h.2⟩
theorem L9 {cols:List Int}{x:Ex}{l:List Ex}{t:Int}(h:oG cols x=.ok t):gQ cols (x::l)=Bl t (gQ cols l):=by
 rw [gQ,h];cases gQ cols l<;>rfl
theorem HE {cols:List Int}{x:Ex}{l:List Ex}{e:Int}(h:oG cols x=.error e):gQ cols (x::l)=.error e:=by rw [gQ,h]
theorem Tl {cols:List Int}{x:Ag}{l:List Ag}{t:Int}(h:rM cols x=.ok t):gL cols (x::l)=Bl t (gL cols l):=by
 rw [gL,h];cases gL cols l<;>rfl
theorem Nq {cols:List Int}{x:Ag}{l:List Ag}{e:Int}(h:rM cols x=.error e):gL cols (x::l)=.error e:=by rw [gL,h]
theorem As {M:aV}{b o:Nat}{v0 v1 v2 v3 v4 v5:Value}(h:At M b o [v0,v1,v2,v3,v4,v5]):aL M ⟨b,o,none⟩=some v0/\aL M ⟨b,o+1,none⟩=some v1/\aL M ⟨b,o+2,none⟩=some v2/\aL M ⟨b,o+3,none⟩=some v3/\aL M ⟨b,o+4,none⟩=some v4/\aL M ⟨b,o+5,none⟩=some v5:=
 ⟨h.1,h.2.1,h.2.2.1,h.2.2.2.1,h.2.2.2.2.1,h.2.2.2.2.2.1⟩
theorem zY {M:aV}{cols:List Int}{cv sv:Value}{xs:List Ex}(mr:RS M RI 1 cols cv)(hs:RS M (jL M) 6 xs sv)(T:Tm):
 ep Tryz.prog 83 [cv,sv] T M [] [] (fun r M' _ _=>Vf (iM cols xs) r M') bj:=by
 obtain ⟨lh,a,c,rfl,jo,_,hg⟩:=aI (by decide) (fun _ _=>ed) hs
 unfold iM
 refine aT mx amk Tryz.func83 rfl (by rw [apX];exact Nat.le_of_ble_eq_true rfl) (dr:=aih) (by kernel_rfl) ath ?_
 intro bN _
 by_cases h8:8<xs.length
 ·have E2:(8:Int)<(xs.length:Int):=by omega
  rw [if_pos h8]
  simp +contextual only [go_sem,ak,sevalprocAttr,E2]
  exact az aH.rfl' ⟨by decide,rfl⟩
 have E2:¬ (8:Int)<(xs.length:Int):=by omega
 rw [if_neg h8]
 simp +contextual only [go_sem,ak,sevalprocAttr,E2]
 refine bh xs.length 16 [(0,cv),(14,.slice a xs.length c),(15,.int .i64 (xs.length:Int))] (fun i e h=>∃ N' M' R fv aO,aH T N'/\bG M M'/\h=⟨N',M',[],R⟩/\e 6=fv/\aO.length=i/\nK 3 1 RI [] R fv aO/\rI aO (gQ cols (xs.drop i))=gQ cols xs) 0 (by omega) (by simp only [aG,go_sem,ak,sevalprocAttr]) (by simp only [go_sem,ak,sevalprocAttr]) ⟨T,M,[],_,[],aH.rfl',bG.rfl',rfl,by simp only [go_sem,ak,sevalprocAttr],rfl,ew,pZ _⟩ ?_
 rintro i e h hi aD ht ⟨N1,M1,R1,fv,aO,iy,aP,rfl,e6,lk,cy,ay⟩
 simp only [aG] at aD
 by_cases aF:i<xs.length
 ·obtain ⟨b',o',cs',rfl,cC,eL⟩:=hg i xs[i] (List.getElem?_eq_getElem aF)
  have s9:=bS aP _ _ eL
  obtain ⟨s0,rfl,Ar,oI⟩:=cg s9
  obtain ⟨x0,x1,x2,x3,x4,x5⟩:=As (cC.ext aP)
  have bX:xs.drop i=xs[i]::xs.drop (i+1):=List.drop_eq_getElem_cons aF
  rw [bX] at ay
  simp +contextual only [go_sem,ak,sevalprocAttr,aD,ht,aF,x0,x1,x2,x3,x4,x5,Ar]
  intro b8 T8 sd rV z8
  refine am (C0 (aN aP (fun _ _ h=>h) mr) s9 T8) ?_ (fun _ _ _ _ h=>h.elim)
  rintro r M2 aX aQ hr
  have hT:=iy.trans rV
  cases ni:oG cols xs[i] with
  | error er=>
   rw [ni] at hr
   obtain ⟨dh,t,rfl⟩:=hr
   rw [HE ni] at ay
   rw [<- ay]
   simp +contextual only [go_sem,ak,sevalprocAttr,dh]
   exact az hT ⟨dh,rfl⟩
  | ok t=>
   rw [ni] at hr
   simp only [C2] at hr
   subst hr
   rw [L9 ni,<- oM] at ay
   simp +contextual only [go_sem,ak,sevalprocAttr,aD,ht,aF,e6]
   intro b7 km dj
   refine dH (Tryz.underlying24) kB kl (x:=t) cy rfl (fun _ _=>cW) (i7 rfl) km (by omega) (by decide) ?_
   intro fv' R' cF
   simp +contextual only [go_sem,ak,sevalprocAttr,aD,ht,aF]
   refine bf (al (al (aA ⟨xs.length - (i+1),by omega,rfl,i+1,by omega,rfl,?_,?_,T8,M2,R',fv',aO++[t],hT,aP.trans aX,rfl,?_,?_,cF,ay⟩)))
   ·simp only [aG,aD,go_sem,ak,sevalprocAttr]
   ·simp only [ht,go_sem,ak,sevalprocAttr,aC i (by omega)]
   ·simp only [go_sem,ak,sevalprocAttr]
   ·rw [List.length_append,lk];rfl
 ·have:i=xs.length:=by omega
  subst this
  rw [List.drop_length] at ay
  simp only [gQ,rI,List.append_nil] at ay
  rw [<- ay]
  simp +contextual only [go_sem,ak,sevalprocAttr,aD,ht,aF,e6]
  exact cU cy (by omega) (by decide) bN fun M2 aX aQ ff=>az iy ⟨_,rfl,ff⟩
theorem uS {M:aV}{a:Ag}{cs:List Value}(h:DK M a cs):∃ s,cs=[.int .i64 a.k,.int .i64 a.x.k,.int .i64 a.x.v.k,.int .i64 a.x.v.n,st a.x.v.t,.int .i64 a.x.c,s]/\s.oneCell'=true/\jL M a.x [.int .i64 a.x.k,.int .i64 a.x.v.k,.int .i64 a.x.v.n,st a.x.v.t,.int .i64 a.x.c,s]:=by
 obtain ⟨c,h1,rfl⟩:=h
 obtain ⟨s,rfl,h2,_⟩:=cg h1
 exact ⟨s,rfl,h2,h1⟩
theorem EL {M:aV}{cols:List Int}{cv sv:Value}{l:List Ag}(mr:RS M RI 1 cols cv)(hs:RS M (DK M) 7 l sv)(bQ:l.length<=1048576)(T:Tm):
 ep Tryz.prog 123 [cv,sv] T M [] [] (fun r M' _ _=>Vf (gL cols l) r M') bj:=by
 obtain ⟨lh,a,c,rfl,jo,_,hg⟩:=aI (by decide) (fun _ _=>ml) hs
 refine aT mx aeB Tryz.func123 rfl (by rw [an1];exact Nat.le_of_ble_eq_true rfl) (dr:=Zh) (by kernel_rfl) ajx ?_
 intro bN _
 simp +contextual only [go_sem,ak,sevalprocAttr]
 refine bh l.length 14 [(0,cv),(12,.slice a l.length c),(13,.int .i64 (l.length:Int))] (fun i e h=>∃ N' M' R fv aO,aH T N'/\bG M M'/\h=⟨N',M',[],R⟩/\e 6=fv/\aO.length=i/\nK 3 1 RI [] R fv aO/\rI aO (gL cols (l.drop i))=gL cols l) 0 (by omega) (by simp only [aG,go_sem,ak,sevalprocAttr]) (by simp only [go_sem,ak,sevalprocAttr]) ⟨T,M,[],_,[],aH.rfl',bG.rfl',rfl,by simp only [go_sem,ak,sevalprocAttr],rfl,ew,pZ _⟩ ?_
 rintro i e h hi aD ht ⟨N1,M1,R1,fv,aO,iy,aP,rfl,e6,lk,cy,ay⟩
 simp only [aG] at aD
 by_cases aF:i<l.length
 ·obtain ⟨b',o',cs',rfl,cC,eL⟩:=hg i l[i] (List.getElem?_eq_getElem aF)
  obtain ⟨s0,rfl,Ar,wQ⟩:=uS (ki aP _ _ eL)
  obtain ⟨x0,x1,x2,x3,x4,x5,x6⟩:=At7 (cC.ext aP)
  have bX:l.drop i=l[i]::l.drop (i+1):=List.drop_eq_getElem_cons aF
  rw [bX] at ay
  have Fp:∀ (t:Int),rM cols l[i]=.ok t ->rI (aO++[t]) (gL cols (l.drop (i+1)))=gL cols l:=fun t h=>by rw [Tl h,<- oM] at ay;exact ay
  have Qv:∀ (er:Int),rM cols l[i]=.error er ->gL cols l=.error er:=fun er h=>by rw [Nq h] at ay;exact ay.symm
  simp +contextual only [go_sem,ak,sevalprocAttr,aD,ht,aF,e6,x0,x1,x2,x3,x4,x5,x6,Ar]
  intro b8 T8 sd rV z8
  have hT:=iy.trans rV
  by_cases hk:l[i].k<1\/5<l[i].k
  ·rw [if_pos hk]
   have:=Qv 1 (by unfold rM;rw [if_pos hk])
   rw [this]
   exact az hT ⟨by decide,rfl⟩
  rw [if_neg hk]
  by_cases gB:l[i].k=1
  ·rw [if_pos gB]
   have fG:=Fp 3 (by unfold rM;rw [if_neg hk,if_pos gB])
   intro b7 km dj
   refine dH (Tryz.underlying24) kB kl (x:=(3:Int)) (cs:=[.int .i64 3]) cy rfl (fun _ _=>cW) (i7 rfl) km (by omega) (by decide) ?_
   intro fv' R' cF
   simp +contextual only [go_sem,ak,sevalprocAttr,aD,ht,aF]
   refine bf (al (al (aA ⟨l.length - (i+1),by omega,rfl,i+1,by omega,rfl,?_,?_,T8,M1,R',fv',aO++[3],hT,aP,rfl,?_,?_,cF,fG⟩)))
   ·simp only [aG,aD,go_sem,ak,sevalprocAttr]
   ·simp only [ht,go_sem,ak,sevalprocAttr,aC i (by omega)]
   ·simp only [go_sem,ak,sevalprocAttr]
   ·rw [List.length_append,lk];rfl
  rw [if_neg gB]
  have s9:jL M1 l[i].x [.int .i64 l[i].x.k,.int .i64 l[i].x.v.k,.int .i64 l[i].x.v.n,st l[i].x.v.t,.int .i64 l[i].x.c,s0]:=wQ
  refine am (C0 (aN aP (fun _ _ h=>h) mr) s9 T8) ?_ (fun _ _ _ _ h=>h.elim)
  rintro r M2 aX aQ hr
  cases ni:oG cols l[i].x with
  | error er=>
   rw [ni] at hr
   obtain ⟨dh,t,rfl⟩:=hr
   rw [Qv er (by unfold rM;rw [if_neg hk,if_neg gB,ni])]
   simp +contextual only [go_sem,ak,sevalprocAttr,dh]
   exact az hT ⟨dh,rfl⟩
  | ok t=>
   rw [ni] at hr
   simp only [C2] at hr
   subst hr
   simp only [List.cons_append,List.nil_append,aB,cZ] at aQ
   have hm0:aL M2 ⟨b8,0,none⟩=none:=by first | exact aQ | simp [aL,aQ]
   by_cases g1:l[i].k=3
   ·by_cases g2:t=3
    ·have fG:=Fp 3 (by unfold rM;rw [if_neg hk,if_neg gB,ni];simp [g1,g2])
     simp +contextual only [go_sem,ak,sevalprocAttr,aD,ht,aF,e6,hm0,g1,g2]
     intro b7 km dj
     refine dH (Tryz.underlying24) kB kl (x:=(3:Int)) (cs:=[.int .i64 3]) cy rfl (fun _ _=>cW) (i7 rfl) km (by omega) (by decide) ?_
     intro fv' R' cF
     simp +contextual only [go_sem,ak,sevalprocAttr,aD,ht,aF]
     refine bf (al (al (aA ⟨l.length - (i+1),by omega,rfl,i+1,by omega,rfl,?_,?_,T8,M2,R',fv',aO++[3],hT,aP.trans aX,rfl,?_,?_,cF,fG⟩)))
     ·simp only [aG,aD,go_sem,ak,sevalprocAttr]
     ·simp only [ht,go_sem,ak,sevalprocAttr,aC i (by omega)]
     ·simp only [go_sem,ak,sevalprocAttr]
     ·rw [List.length_append,lk];rfl
    ·by_cases g3:t=1
     ·have fG:=Fp 3 (by unfold rM;rw [if_neg hk,if_neg gB,ni];simp [g1,g3])
      simp +contextual only [go_sem,ak,sevalprocAttr,aD,ht,aF,e6,hm0,g1,g3]
      intro b7 km dj
      refine dH (Tryz.underlying24) kB kl (x:=(3:Int)) (cs:=[.int .i64 3]) cy rfl (fun _ _=>cW) (i7 rfl) km (by omega) (by decide) ?_
      intro fv' R' cF
      simp +contextual only [go_sem,ak,sevalprocAttr,aD,ht,aF]
      refine bf (al (al (aA ⟨l.length - (i+1),by omega,rfl,i+1,by omega,rfl,?_,?_,T8,M2,R',fv',aO++[3],hT,aP.trans aX,rfl,?_,?_,cF,fG⟩)))
      ·simp only [aG,aD,go_sem,ak,sevalprocAttr]
      ·simp only [ht,go_sem,ak,sevalprocAttr,aC i (by omega)]
      ·simp only [go_sem,ak,sevalprocAttr]
      ·rw [List.length_append,lk];rfl
     ·rw [Qv 9 (by unfold rM;rw [if_neg hk,if_neg gB,ni];simp [g1,g2,g3])]
      simp +contextual only [go_sem,ak,sevalprocAttr,aD,ht,aF,e6,hm0,g1,g2,g3]
      exact az hT ⟨by decide,rfl⟩
   ·by_cases g4:4<=l[i].k
    ·have fG:=Fp t (by unfold rM;rw [if_neg hk,if_neg gB,ni];simp [g1,g4])
     simp +contextual only [go_sem,ak,sevalprocAttr,aD,ht,aF,e6,hm0,g1,g4]
     intro b7 km dj
     refine dH (Tryz.underlying24) kB kl (x:=(t:Int)) (cs:=[.int .i64 t]) cy rfl (fun _ _=>cW) (i7 rfl) km (by omega) (by decide) ?_
     intro fv' R' cF
     simp +contextual only [go_sem,ak,sevalprocAttr,aD,ht,aF]
     refine bf (al (al (aA ⟨l.length - (i+1),by omega,rfl,i+1,by omega,rfl,?_,?_,T8,M2,R',fv',aO++[t],hT,aP.trans aX,rfl,?_,?_,cF,fG⟩)))
     ·simp only [aG,aD,go_sem,ak,sevalprocAttr]
     ·simp only [ht,go_sem,ak,sevalprocAttr,aC i (by omega)]
     ·simp only [go_sem,ak,sevalprocAttr]
     ·rw [List.length_append,lk];rfl
    ·have fG:=Fp 3 (by unfold rM;rw [if_neg hk,if_neg gB,ni];simp [g1,g4])
     simp +contextual only [go_sem,ak,sevalprocAttr,aD,ht,aF,e6,hm0,g1,g4]
     intro b7 km dj
     refine dH (Tryz.underlying24) kB kl (x:=(3:Int)) (cs:=[.int .i64 3]) cy rfl (fun _ _=>cW) (i7 rfl) km (by omega) (by decide) ?_
     intro fv' R' cF
     simp +contextual only [go_sem,ak,sevalprocAttr,aD,ht,aF]
     refine bf (al (al (aA ⟨l.length - (i+1),by omega,rfl,i+1,by omega,rfl,?_,?_,T8,M2,R',fv',aO++[3],hT,aP.trans aX,rfl,?_,?_,cF,fG⟩)))
     ·simp only [aG,aD,go_sem,ak,sevalprocAttr]
     ·simp only [ht,go_sem,ak,sevalprocAttr,aC i (by omega)]
     ·simp only [go_sem,ak,sevalprocAttr]
     ·rw [List.length_append,lk];rfl
 ·have:i=l.length:=by omega
  subst this
  rw [List.drop_length] at ay
  simp only [gL,rI,List.append_nil] at ay
  rw [<- ay]
  simp +contextual only [go_sem,ak,sevalprocAttr,aD,ht,aF,e6]
  exact cU cy (by omega) (by decide) bN fun M2 aX aQ ff=>az iy ⟨_,rfl,ff⟩
theorem QD (k:Int){M:aV}(T:Tm):ep Tryz.prog 81 [.int .i64 k] T M [] [] (fun r _ _ _=>r=.int .i64 (iU k)) bj:=by
 refine aT mx ahl Tryz.func81 rfl (by rw [atT];exact Nat.le_of_ble_eq_true rfl) (dr:=aiQ) (by kernel_rfl) ar2 ?_
 intro _ _
 simp +contextual only [go_sem,ak,sevalprocAttr]
 (repeat' split)<;>(refine az aH.rfl' ?_;refine Ds ?_;simp only [iU];grind)
theorem XE {M:aV}{l:List Int}{a:Option Addr}{c:Nat}(hs:RS M RI 1 l (.slice a l.length c)):0<l.length ->∃ b o,a=some ⟨b,o,none⟩/\∀ (i:Nat),i<l.length ->aL M ⟨b,o+i,none⟩=some (.int .i64 (l.getD i 0)):=by
 obtain ⟨_,a',c',h',_,_,hg⟩:=aI (by decide) (fun _ _=>cW) hs
 cases h'
 intro h0
 obtain ⟨b,o,cs,rfl,_⟩:=hg 0 l[0] (List.getElem?_eq_getElem h0)
 refine ⟨b,o,rfl,fun i hi=> ?_⟩
 obtain ⟨b2,o2,cs2,h2,cC,hr⟩:=hg i l[i] (List.getElem?_eq_getElem hi)
 cases h2
 unfold RI at hr;subst hr
 have:=Bu cC
 rw [Nat.mul_one] at this
 rw [this,List.getD_eq_getElem?_getD,List.getElem?_eq_getElem hi];rfl
theorem Ic {a b:List Int}{i:Nat}(hi:i<a.length)(hj:i<b.length):kI (a.drop i) (b.drop i)=match kG a[i] b[i] with
 | none=> .error 9
 | some o=>Bl o (kI (a.drop (i+1)) (b.drop (i+1))):=by
 rw [List.drop_eq_getElem_cons hi,List.drop_eq_getElem_cons hj,kI]
 cases kG a[i] b[i] with
 | none=>rfl
 | some o=>simp only;cases kI (a.drop (i+1)) (b.drop (i+1))<;>rfl
theorem vU {M:aV}{l m:List Int}{lv mv:Value}(hl:RS M RI 1 l lv)(hm:RS M RI 1 m mv)(bQ:l.length<=1048576)(T:Tm):ep Tryz.prog 84 [lv,mv] T M [] [] (fun r M' _ _=>Vf (mw l m) r M') bj:=by
 obtain ⟨lh,a,c,rfl,jo,_,hg⟩:=aI (by decide) (fun _ _=>cW) hl
 obtain ⟨_,a2,c2,rfl,Ax,_,BB⟩:=aI (by decide) (fun _ _=>cW) hm
 have eE:=XE hm
 refine aT mx anq Tryz.func84 rfl (by rw [atQ];exact Nat.le_of_ble_eq_true rfl) (dr:=an5) (by kernel_rfl) apZ ?_
 intro bN _
 unfold mw
 by_cases dh:l.length≠m.length
 ·rw [if_pos dh]
  have kE:¬ (l.length:Int)=(m.length:Int):=by omega
  simp +contextual only [go_sem,ak,sevalprocAttr,kE]
  exact az aH.rfl' ⟨by decide,rfl⟩
 rw [if_neg dh]
 have hlm:l.length=m.length:=by omega
 simp +contextual only [go_sem,ak,sevalprocAttr,hlm]
 refine bh l.length 16 [(1,.slice a2 m.length c2),(14,.slice a l.length c),(15,.int .i64 (l.length:Int))] (fun i e h=>∃ R fv aO,h=⟨T,M,[],R⟩/\e 6=fv/\aO.length=i/\nK 3 1 RI [] R fv aO/\rI aO (kI (l.drop i) (m.drop i))=kI l m) 0 (by omega) (by simp only [aG,go_sem,ak,sevalprocAttr,hlm]) (by simp only [go_sem,ak,sevalprocAttr]) ⟨[],_,[],rfl,by simp only [go_sem,ak,sevalprocAttr],rfl,ew,pZ _⟩ ?_
 rintro i e h hi aD ht ⟨R1,fv,aO,rfl,e6,lk,cy,ay⟩
 simp only [aG] at aD
 by_cases aF:i<l.length
 ·obtain ⟨b',o',cs',rfl,cC,eL⟩:=hg i l[i] (List.getElem?_eq_getElem aF)
  unfold RI at eL;subst eL
  have x0:=Bu cC
  rw [Nat.mul_one] at x0
  have I0:i<m.length:=by omega
  obtain ⟨b2,o2,rfl,hgi⟩:=eE (by omega)
  have y0:=hgi i I0
  rw [List.getD_eq_getElem?_getD,List.getElem?_eq_getElem I0,Option.getD_some] at y0
  rw [Ic aF I0] at ay
  have vP:∀ (o:Int),kG l[i] m[i]=some o ->rI (aO++[o]) (kI (l.drop (i+1)) (m.drop (i+1)))=kI l m:=fun o h=>by rw [h] at ay;rw [oM];exact ay
  by_cases h1:l[i]=m[i]
  ·have fG:=vP m[i] (by unfold kG;rw [if_pos (.inl h1),h1])
   simp +contextual only [go_sem,ak,sevalprocAttr,aD,ht,aF,I0,e6,x0,y0,h1]
   intro b7 km
   refine dH (Tryz.underlying24) kB kl (x:=m[i]) (cs:=[.int .i64 m[i]]) cy rfl (fun _ _=>cW) (i7 rfl) km (by omega) (by decide) ?_
   intro fv' R' cF
   simp +contextual only [go_sem,ak,sevalprocAttr,aD,ht,aF]
   refine bf (al (aA ⟨l.length - (i+1),by omega,rfl,i+1,by omega,rfl,?_,?_,R',fv',aO++[m[i]],rfl,?_,?_,cF,fG⟩))
   ·simp only [aG,aD,go_sem,ak,sevalprocAttr]
   ·simp only [ht,go_sem,ak,sevalprocAttr,aC i (by omega)]
   ·simp only [go_sem,ak,sevalprocAttr]
   ·rw [List.length_append,lk];rfl
  ·by_cases h2:m[i]=1
   ·have fG:=vP l[i] (by unfold kG;rw [if_pos (.inr h2)])
    simp +contextual only [go_sem,ak,sevalprocAttr,aD,ht,aF,I0,e6,x0,y0,h1,h2]
    intro b7 km
    refine dH (Tryz.underlying24) kB kl (x:=l[i]) (cs:=[.int .i64 l[i]]) cy rfl (fun _ _=>cW) (i7 rfl) km (by omega) (by decide) ?_
    intro fv' R' cF
    simp +contextual only [go_sem,ak,sevalprocAttr,aD,ht,aF]
    refine bf (al (aA ⟨l.length - (i+1),by omega,rfl,i+1,by omega,rfl,?_,?_,R',fv',aO++[l[i]],rfl,?_,?_,cF,fG⟩))
    ·simp only [aG,aD,go_sem,ak,sevalprocAttr]
    ·simp only [ht,go_sem,ak,sevalprocAttr,aC i (by omega)]
    ·simp only [go_sem,ak,sevalprocAttr]
    ·rw [List.length_append,lk];rfl
   ·by_cases h3:l[i]=1
    ·have fG:=vP m[i] (by unfold kG;rw [if_neg (fun h=>h.elim h1 h2),if_pos h3])
     have h4:¬ 1=m[i]:=fun h=>h2 h.symm
     simp +contextual only [go_sem,ak,sevalprocAttr,aD,ht,aF,I0,e6,x0,y0,h1,h2,h3,h4]
     intro b7 km
     refine dH (Tryz.underlying24) kB kl (x:=m[i]) (cs:=[.int .i64 m[i]]) cy rfl (fun _ _=>cW) (i7 rfl) km (by omega) (by decide) ?_
     intro fv' R' cF
     simp +contextual only [go_sem,ak,sevalprocAttr,aD,ht,aF]
     refine bf (al (aA ⟨l.length - (i+1),by omega,rfl,i+1,by omega,rfl,?_,?_,R',fv',aO++[m[i]],rfl,?_,?_,cF,fG⟩))
     ·simp only [aG,aD,go_sem,ak,sevalprocAttr]
     ·simp only [ht,go_sem,ak,sevalprocAttr,aC i (by omega)]
     ·simp only [go_sem,ak,sevalprocAttr]
     ·rw [List.length_append,lk];rfl
    ·have:kG l[i] m[i]=none:=by unfold kG;rw [if_neg (fun h=>h.elim h1 h2),if_neg h3]
     rw [this] at ay
     rw [<- ay]
     simp +contextual only [go_sem,ak,sevalprocAttr,aD,ht,aF,I0,e6,x0,y0,h1,h2,h3]
     exact az aH.rfl' ⟨by decide,rfl⟩
 ·have:i=l.length:=by omega
  subst this
  have rP:kI ([]:List Int) []=.ok []:=by simp [kI]
  rw [List.drop_length,List.drop_eq_nil_of_le (by omega),rP] at ay
  simp only [rI,List.append_nil] at ay
  rw [<- ay]
  simp +contextual only [go_sem,ak,sevalprocAttr,aD,ht,aF,e6]
  exact cU cy (by omega) (by decide) bN fun M2 aX aQ ff=>az aH.rfl' ⟨_,rfl,ff⟩
def G2 (M:aV)(t:List Int)(cs:List Value):Prop:=∃ v,cs=[v]/\RS M RI 1 t v
theorem jD {M:aV}{t:List Int}{cs}(h:G2 M t cs):cs.length=1:=by obtain ⟨v,rfl,_⟩:=h;rfl
theorem ms {M M':aV}(hM:bG M M')(t:List Int)(cs)(h:G2 M t cs):G2 M' t cs:=by
 obtain ⟨v,rfl,h⟩:=h
 exact ⟨v,rfl,aN hM (fun _ _ h=>h) h⟩
theorem yj {M:aV}{t:List Int}{cs}(h:G2 M t cs):∀ u∈cs,u.oneCell'=true:=by
 obtain ⟨v,rfl,h⟩:=h
 obtain ⟨_,a,c,rfl,_⟩:=aI (by decide) (fun _ _=>cW) h
 intro u hu
 simp only [List.mem_singleton] at hu
 subst hu;rfl
theorem uk {rels:List Rel}{i:Nat}(hi:i<rels.length):cA (rels.take (i+1))=cA (rels.take i)++(if rels[i].view=true then [] else [rels[i].cols.map (·.ty)]):=by
 rw [<- List.take_append_getElem hi]
 unfold cA
 rw [List.filter_append,List.map_append]
 congr 1
 cases h:rels[i].view<;>simp [List.filter_cons,h]
theorem MT {M:aV}{rels:List Rel}{rv:Value}(hr:RS M (qH M) 14 rels rv)(bQ:rels.length<=1048576)(gy:∀ r∈rels,r.cols.length<=1048576)(T:Tm):
 ep Tryz.prog 18 [rv] T M [] [] (fun r M' _ _=>RS M' (G2 M') 1 (cA rels) r) bj:=by
 obtain ⟨lh,a,c,rfl,jo,_,hg⟩:=aI (by decide) (fun _ _=>jf) hr
 refine aT mx Yj Tryz.func18 rfl (by rw [as9];exact Nat.le_of_ble_eq_true rfl) (dr:=aos) (by kernel_rfl) arB ?_
 intro bN _
 simp +contextual only [go_sem,ak,sevalprocAttr]
 refine bh rels.length 11 [(9,.slice a rels.length c),(10,.int .i64 (rels.length:Int))] (fun i e h=>∃ N' M' R fv,aH T N'/\bG M M'/\h=⟨N',M',[],R⟩/\e 3=fv/\nK 24 1 (G2 M') [] R fv (cA (rels.take i))/\(cA (rels.take i)).length<=i) 0 (by omega) (by simp only [aG,go_sem,ak,sevalprocAttr]) (by simp only [go_sem,ak,sevalprocAttr]) ⟨T,M,[],_,aH.rfl',bG.rfl',rfl,by simp only [go_sem,ak,sevalprocAttr],ew,by simp [cA]⟩ ?_
 rintro i e h hi aD ht ⟨N1,M1,R1,fv,iy,aP,rfl,e3,cy,tT⟩
 simp only [aG] at aD
 by_cases aF:i<rels.length
 ·obtain ⟨b',o',cs',rfl,cC,eL⟩:=hg i rels[i] (List.getElem?_eq_getElem aF)
  obtain ⟨ca,cn,s1,a1,n1,a2,n2,a3,n3,rfl,gH,gU,py⟩:=ln (gb aP _ _ eL)
  obtain ⟨x0,x1,x2,x3,x4,x5,x6,x7,x8,x9,x10,x11,x12,x13⟩:=Ou (cC.ext aP)
  have eW:=uk aF
  simp +contextual only [go_sem,ak,sevalprocAttr,aD,ht,aF,x0,x1,x2,x3,x4,x5,x6,x7,x8,x9,x10,x11,x12,x13,gH]
  intro b5 T5 jH tG zk
  have jt:=iy.trans tG
  by_cases uJ:rels[i].view=true
  ·rw [if_pos uJ]
   rw [if_pos uJ,List.append_nil] at eW
   refine bf (al (aA ⟨rels.length - (i+1),by omega,rfl,i+1,by omega,rfl,?_,?_,T5,M1,R1,fv,jt,aP,rfl,?_,?_,?_⟩))
   ·simp only [aG,aD,go_sem,ak,sevalprocAttr]
   ·simp only [ht,go_sem,ak,sevalprocAttr,aC i (by omega)]
   ·simp only [e3,go_sem,ak,sevalprocAttr]
   ·rw [eW];exact cy
   ·rw [eW];omega
  rw [if_neg uJ]
  rw [if_neg uJ] at eW
  obtain ⟨hcb,_,_,hcx,ai9,_,UF⟩:=aI (by decide) (fun _ _=>ge) gU
  cases hcx
  have YN:=gy rels[i] (List.getElem_mem aF)
  refine bA rels[i].cols.length 20 [(3,fv),(9,.slice (some ⟨b',o',none⟩) rels.length c),(10,.int .i64 (rels.length:Int)),(11,.int .i64 (i:Nat)),(18,.slice ca rels[i].cols.length cn),(19,.int .i64 (rels[i].cols.length:Int))]
   (fun j e h=>∃ N' M' R' tv,aH T N'/\bG M1 M'/\h=⟨N',M',[],R'⟩/\e 6=tv/\(j<rels[i].cols.length ->nK 3 1 RI R1 R' tv ((rels[i].cols.take j).map (·.ty)))/\(j=rels[i].cols.length ->R'=R1/\RS M' RI 1 (rels[i].cols.map (·.ty)) tv))
   0 (by omega) (by simp only [aG,aD,e3,ht,go_sem,ak,sevalprocAttr]) (by simp only [go_sem,ak,sevalprocAttr]) ?_ ?_
  ·exact al (aA ⟨T5,M1,R1,.slice none 0 0,jt,bG.rfl',rfl,by simp only [go_sem,ak,sevalprocAttr],fun _=>ew,fun h0=>⟨rfl,by rw [List.eq_nil_of_length_eq_zero h0.symm];exact bR⟩⟩)
  ·rintro j e h hj du tD ⟨N2,M2,R2,tv,CG,aX,rfl,e6,aas,Rh⟩
   simp only [aG] at du
   by_cases lL:j<rels[i].cols.length
   ·obtain ⟨bc,oc,cc',rfl,TD,Z1⟩:=UF j rels[i].cols[j] (List.getElem?_eq_getElem lL)
    unfold uE at Z1
    subst Z1
    obtain ⟨z0,z1⟩:=SN (TD.ext aX)
    have Ai:=aas lL
    simp +contextual only [go_sem,ak,sevalprocAttr,du,tD,lL,z0,z1,e6]
    intro b8 T8 sd rV z8 b7 km dj
    have AH:(rels[i].cols.take (j+1)).map (·.ty)=(rels[i].cols.take j).map (·.ty)++[rels[i].cols[j].ty]:=by
     rw [<- List.take_append_getElem lL,List.map_append];rfl
    have xk:((rels[i].cols.take j).map (·.ty)).length=j:=by rw [List.length_map,List.length_take];omega
    refine dH (Tryz.underlying24) kB kl (x:=rels[i].cols[j].ty) (cs:=[.int .i64 rels[i].cols[j].ty]) Ai rfl (fun _ _=>cW) (i7 rfl) km (by omega) (by decide) ?_
    intro tv' R' Da
    rw [<- AH] at Da
    simp +contextual only [go_sem,ak,sevalprocAttr,du,tD,lL]
    refine bf (al (al ?_))
    by_cases hje:j+1=rels[i].cols.length
    ·have OY:(rels[i].cols.take (j+1)).map (·.ty)=rels[i].cols.map (·.ty):=by rw [hje,List.take_length]
     rw [OY] at Da
     refine cU Da (by rw [List.length_map];omega) (by decide) trivial fun M3 bD _ ff=>aA ⟨rels[i].cols.length - (j+1),by omega,rfl,j+1,by omega,rfl,?_,?_,T8,M3,R1,tv',CG.trans rV,aX.trans bD,rfl,?_,fun h=>absurd h (by omega),fun _=>⟨rfl,ff⟩⟩
     ·simp only [aG,du,go_sem,ak,sevalprocAttr]
     ·simp only [tD,go_sem,ak,sevalprocAttr,aC j (by omega)]
     ·simp only [go_sem,ak,sevalprocAttr]
    ·refine aA ⟨rels[i].cols.length - (j+1),by omega,rfl,j+1,by omega,rfl,?_,?_,T8,M2,R',tv',CG.trans rV,aX,rfl,?_,fun _=>Da,fun h=>absurd h hje⟩
     ·simp only [aG,du,go_sem,ak,sevalprocAttr]
     ·simp only [tD,go_sem,ak,sevalprocAttr,aC j (by omega)]
     ·simp only [go_sem,ak,sevalprocAttr]
   ·have:j=rels[i].cols.length:=by omega
    subst this
    obtain ⟨rfl,ff⟩:=Rh rfl
    obtain ⟨_,ta,tc,rfl,_⟩:=aI (by decide) (fun _ _=>cW) ff
    simp +contextual only [go_sem,ak,sevalprocAttr,du,tD,lL,e6]
    intro b7 km
    refine dH (Tryz.underlying58) Kk Ke (eX (ms aX) cy) ⟨_,rfl,ff⟩ (fun _ _=>jD) (yj (M:=M2) ⟨_,rfl,ff⟩) km (by omega) (by decide) ?_
    intro fv' R' cF
    simp +contextual only [go_sem,ak,sevalprocAttr,du,tD,lL]
    refine bf (al (aA ⟨rels.length - (i+1),by omega,rfl,i+1,by omega,rfl,?_,?_,N2,M2,R',fv',CG,aP.trans aX,rfl,?_,?_,?_⟩))
    ·simp only [aG,du,go_sem,ak,sevalprocAttr]
    ·simp only [du,go_sem,ak,sevalprocAttr,aC i (by omega)]
    ·simp only [go_sem,ak,sevalprocAttr]
    ·rw [eW];exact cF
    ·rw [eW,List.length_append];simp only [List.length_cons,List.length_nil];omega
 ·have:i=rels.length:=by omega
  subst this
  rw [List.take_length] at cy tT
  simp +contextual only [go_sem,ak,sevalprocAttr,aD,ht,aF,e3]
  exact cU cy (by omega) (by decide) bN fun M2 aX aQ ff=>az iy (aN bG.rfl' (ms aX) ff)
theorem U2 {M:aV}(n:Nat)(hn:n<=1073741824)(T:Tm):
 CtN Tryz.prog 124 [.slice none 0 0,.int .i64 (n:Nat)] T M [] [] 1 (fun v _ _ R'=>∃ a c,v=.slice a 0 c/\R'=[(v,3,1,[])]) bj:=by
 refine KA mx acG Tryz.func124 rfl (by rw [ajB];exact Nat.le_of_ble_eq_true rfl) (dr:=YI) (by kernel_rfl) agF ?_
 intro bN _
 have h0:¬ ((n:Int)<0):=by omega
 by_cases hz:n=0
 ·subst hz
  simp +contextual only [go_sem,ak,sevalprocAttr, -Int.reduceAdd, -Int.reduceSub, -Int.reduceMul,h0]
  exact iu (aM aH.rfl' rfl rfl ⟨none,0,rfl,rfl⟩)
 ·have hp:0<n:=by omega
  have vr:(0:Int)<(n:Int):=by omega
  have hw:IntKind.i64.wrap (n:Int)=(n:Int):=eZ (by omega) (by omega)
  have hw0:IntKind.i64.wrap (0 - 0)=0:=by decide
  have xb:IntKind.i64.wrap ((n:Int) - IntKind.i64.wrap (0 - 0))=(n:Int):=by rw [hw0,Int.sub_zero];exact hw
  have Fe:nP none 0 0 1=none:=rfl
  simp +contextual only [go_sem,ak,sevalprocAttr, -Int.reduceAdd, -Int.reduceSub, -Int.reduceMul,h0]
  rw [xb,if_pos vr,Fe]
  refine RC (ik:=.i64) kB kl Tryz.underlying3 hp (by omega) ?_
  intro a c zs Pw jo
  simp +contextual only [go_sem,ak,sevalprocAttr, -Int.reduceAdd, -Int.reduceSub, -Int.reduceMul]
  have hca:nP a c 0 1=a:=by
   unfold nP
   cases a<;>simp [Addr.add]
  rw [hca]
  exact CH (by decide) (aM aH.rfl' rfl rfl ⟨a,c,rfl,rfl⟩)
theorem NJ {M:aV}{l:List Int}{lv:Value}(hl:RS M RI 1 l lv)(bQ:l.length<=16777216)(T:Tm):
 ep Tryz.prog 41 [lv] T M [] [] (fun v M' _ _=>RS M' RI 1 l v) bj:=by
 obtain ⟨lh,a,c,rfl,jo,Ai,eE⟩:=aI (by decide) (fun _ _=>cW) hl
 refine aT mx af2 Tryz.func41 rfl (by rw [arg];exact Nat.le_of_ble_eq_true rfl) (dr:=aje) (by kernel_rfl) asA ?_
 intro bN _
 by_cases h0:l=[]
 ·subst h0
  cases a with
  | none=>
   cases Ai rfl
   simp +contextual only [go_sem,ak,sevalprocAttr, -Int.reduceAdd, -Int.reduceSub, -Int.reduceMul]
   exact az aH.rfl' bR
  | some p=>
   simp +contextual only [go_sem,ak,sevalprocAttr, -Int.reduceAdd, -Int.reduceSub, -Int.reduceMul]
   intro b hb
   refine EY kB kl (.slice p 0 c [] _ Tryz.underlying24 rfl (by simp)) (by omega) ?_
   simp +contextual only [go_sem,ak,sevalprocAttr, -Int.reduceAdd, -Int.reduceSub, -Int.reduceMul]
   exact aJ fun he eG aQ=>az aH.rfl' (df (fun _ _=>cW) eG (l:=[]) rfl rfl (by omega))
 ·obtain ⟨p,hp⟩:∃ p,a=some p:=by
   cases l with
   | nil=>exact (h0 rfl).elim
   | cons x l=>obtain ⟨b,o,cs,h,_⟩:=eE 0 x rfl;exact ⟨_,h⟩
  subst hp
  obtain ⟨ys,hyl,Vm,Ru⟩:=CI (P:=Tryz.prog) Tryz.underlying24 (fun _ _=>cW) (fun _ _ h=>i7 h) hl
  have gG:0<l.length:=List.length_pos_iff.2 h0
  simp +contextual only [go_sem,ak,sevalprocAttr, -Int.reduceAdd, -Int.reduceSub, -Int.reduceMul]
  intro b hb
  refine qE (n:=0) (xs:=[]) kB kl (Ru _ _ _) rfl (by omega) (by simp only [List.length_nil];omega) ?_
  intro ra rm rc ky
  have jO:rm=l.length:=by simp only [List.length_nil] at ky;omega
  subst jO
  simp +contextual only [go_sem,ak,sevalprocAttr, -Int.reduceAdd, -Int.reduceSub, -Int.reduceMul]
  refine al (dn (fun M2 aX aQ j7=>az aH.rfl' ⟨lh,_,j7,Vm⟩) (by decide))
theorem tN {M:aV}{ls:List (List Int)}{sv:Value}(hs:RS M (G2 M) 1 ls sv)(bQ:ls.length<=64)(hl:∀ l∈ls,l.length<=16777216)(T:Tm):
 ep Tryz.prog 86 [sv] T M [] [] (fun v M' _ _=>RS M' RI 1 ls.flatten v) bj:=by
 obtain ⟨lh,a,c,rfl,jo,_,hg⟩:=aI (by decide) (fun _ _=>jD) hs
 obtain ⟨B,hB⟩:∃ B:Nat,B=16777216:=⟨_,rfl⟩
 rw [<- hB] at hl
 have anc:∀ i,(ls.take i).flatten.length<=i*B:=by
  intro i
  induction i with
  | zero=>simp
  | succ i ih=>
   rw [Nat.succ_mul]
   by_cases hi:i<ls.length
   ·rw [<- List.take_append_getElem hi,List.flatten_append,List.length_append]
    have:=hl ls[i] (List.getElem_mem hi)
    simp only [List.flatten_cons,List.flatten_nil,List.append_nil]
    omega
   ·rw [List.take_of_length_le (by omega)]
    rw [List.take_of_length_le (by omega)] at ih
    omega
 have W1:∀ i,i<=ls.length ->(ls.take i).flatten.length<=1073741824:=by
  intro i hi
  refine Nat.le_trans (anc i) ?_
  rw [hB]
  exact Nat.le_trans (Nat.mul_le_mul_right _ (show i<=64 by omega)) (by decide)
 refine aT mx J3 Tryz.func86 rfl (by rw [asE];exact Nat.le_of_ble_eq_true rfl) (dr:=ale) (by kernel_rfl) asO ?_
 intro bN _
 simp +contextual only [go_sem,ak,sevalprocAttr, -Int.reduceAdd, -Int.reduceSub, -Int.reduceMul]
 refine bh ls.length 11 [(0,.slice a ls.length c),(9,.slice a ls.length c),(10,.int .i64 (ls.length:Int))] (fun i e h=>h=⟨T,M,[],[]⟩/\e 3=.int .i64 ((ls.take i).flatten.length:Int)) 0 (by omega) (by simp only [aG,go_sem,ak,sevalprocAttr, -Int.reduceAdd, -Int.reduceSub, -Int.reduceMul]) (by simp only [go_sem,ak,sevalprocAttr, -Int.reduceAdd, -Int.reduceSub, -Int.reduceMul]) ⟨rfl,by simp only [go_sem,ak,sevalprocAttr, -Int.reduceAdd, -Int.reduceSub, -Int.reduceMul];simp⟩ ?_
 rintro i e h hi aD ht ⟨rfl,e3⟩
 simp only [aG] at aD
 have hsi:=W1 i hi
 by_cases aF:i<ls.length
 ·obtain ⟨b',o',cs',rfl,cC,v,rfl,Bc⟩:=hg i ls[i] (List.getElem?_eq_getElem aF)
  obtain ⟨_,va,vc,rfl,_⟩:=aI (by decide) (fun _ _=>cW) Bc
  have x0:=Bu cC
  rw [Nat.mul_one] at x0
  have eW:(ls.take (i+1)).flatten.length=(ls.take i).flatten.length+ls[i].length:=by
   rw [<- List.take_append_getElem aF,List.flatten_append,List.length_append];simp
  have ai0:=W1 (i+1) aF
  have hw:IntKind.i64.wrap (((ls.take i).flatten.length:Int)+(ls[i].length:Int))=((ls.take (i+1)).flatten.length:Int):=by
   have h1:((ls.take i).flatten.length:Int)+(ls[i].length:Int)=((ls.take (i+1)).flatten.length:Int):=by omega
   rw [h1,eZ (by omega) (by omega)]
  have hng:¬ (((ls.take (i+1)).flatten.length:Int)<0):=by omega
  simp +contextual only [go_sem,ak,sevalprocAttr, -Int.reduceAdd, -Int.reduceSub, -Int.reduceMul,aD,ht,aF,x0,e3,hw,hng]
  refine bf (aA ⟨ls.length - (i+1),by omega,rfl,i+1,by omega,rfl,?_,?_,rfl,?_⟩)
  ·simp only [aG,aD,go_sem,ak,sevalprocAttr, -Int.reduceAdd, -Int.reduceSub, -Int.reduceMul]
  ·simp only [ht,go_sem,ak,sevalprocAttr, -Int.reduceAdd, -Int.reduceSub, -Int.reduceMul,aC i (by omega)]
  ·simp only [go_sem,ak,sevalprocAttr, -Int.reduceAdd, -Int.reduceSub, -Int.reduceMul]
 ·have:i=ls.length:=by omega
  subst this
  rw [List.take_length] at e3 hsi
  simp +contextual only [go_sem,ak,sevalprocAttr, -Int.reduceAdd, -Int.reduceSub, -Int.reduceMul,aD,ht,aF,e3]
  refine Cy (U2 ls.flatten.length hsi T) ?_ (fun _ _ _ _ h=>h.elim)
  rintro v M2 row aX aQ ⟨ga,gc,rfl,fg⟩
  simp only [List.cons.injEq,and_true] at fg
  subst fg
  simp +contextual only [go_sem,ak,sevalprocAttr, -Int.reduceAdd, -Int.reduceSub, -Int.reduceMul,aD]
  refine bh ls.length 27 [(0,.slice a ls.length c),(25,.slice a ls.length c),(26,.int .i64 (ls.length:Int))] (fun i e h=>∃ R fv,h=⟨T,M2,[],R⟩/\e 6=fv/\nK 3 1 RI [] R fv (ls.take i).flatten) 0 (by omega) (by simp only [aG,aD,go_sem,ak,sevalprocAttr, -Int.reduceAdd, -Int.reduceSub, -Int.reduceMul]) (by simp only [go_sem,ak,sevalprocAttr, -Int.reduceAdd, -Int.reduceSub, -Int.reduceMul]) ⟨[(.slice ga 0 gc,3,1,[])],.slice ga 0 gc,rfl,by simp only [go_sem,ak,sevalprocAttr, -Int.reduceAdd, -Int.reduceSub, -Int.reduceMul],by rw [List.take_zero];exact .inr ⟨ga,gc,[],rfl,rfl,rfl⟩⟩ ?_
  clear aD ht e3 aF hi e
  rintro i e h hi aD ht ⟨R1,fv,rfl,e6,cy⟩
  simp only [aG] at aD
  have auu:=W1 i hi
  by_cases aF:i<ls.length
  ·obtain ⟨b',o',cs',rfl,cC,v,rfl,Bc⟩:=hg i ls[i] (List.getElem?_eq_getElem aF)
   obtain ⟨_,va,vc,rfl,_⟩:=aI (by decide) (fun _ _=>cW) Bc
   have x0:=Bu (cC.ext aX)
   rw [Nat.mul_one] at x0
   have eW:(ls.take (i+1)).flatten=(ls.take i).flatten++ls[i]:=by
    rw [<- List.take_append_getElem aF,List.flatten_append];simp
   have ai0:=W1 (i+1) aF
   obtain ⟨ys,hyl,Vm,Ru⟩:=CI (P:=Tryz.prog) Tryz.underlying24 (fun _ _=>cW) (fun _ _ h=>i7 h) (aN aX (fun _ _ h=>h) Bc)
   simp +contextual only [go_sem,ak,sevalprocAttr, -Int.reduceAdd, -Int.reduceSub, -Int.reduceMul,aD,ht,aF,x0,e6]
   refine Tx kB kl cy Vm (fun _=>Ru _ _ _) (fun _ _=>cW) (by rw [eW,List.length_append] at ai0;omega) (by decide) ?_
   intro fv' R' cF
   rw [<- eW] at cF
   simp +contextual only [go_sem,ak,sevalprocAttr, -Int.reduceAdd, -Int.reduceSub, -Int.reduceMul,aD,ht,aF]
   refine bf (aA ⟨ls.length - (i+1),by omega,rfl,i+1,by omega,rfl,?_,?_,R',fv',rfl,?_,cF⟩)
   ·simp only [aG,aD,go_sem,ak,sevalprocAttr, -Int.reduceAdd, -Int.reduceSub, -Int.reduceMul]
   ·simp only [ht,go_sem,ak,sevalprocAttr, -Int.reduceAdd, -Int.reduceSub, -Int.reduceMul,aC i (by omega)]
   ·simp only [go_sem,ak,sevalprocAttr, -Int.reduceAdd, -Int.reduceSub, -Int.reduceMul]
  ·have:i=ls.length:=by omega
   subst this
   rw [List.take_length] at cy auu
   simp +contextual only [go_sem,ak,sevalprocAttr, -Int.reduceAdd, -Int.reduceSub, -Int.reduceMul,aD,ht,aF,e6]
   exact cU cy (by omega) (by decide) aQ fun M3 bD aZ ff=>az aH.rfl' ff
def zZ (k n:Int)(a:List Int)(xs:List Ex)(ags:List Ag):Except Int (List Int):=
 if k=12 then (if 8<xs.length+ags.length then .error 5 else match iM a xs with
  | .error e=> .error e
  | .ok ks=>match gL a ags with | .ok g=> .ok (ks++g) | .error e=> .error e)
 else match iM a xs with
  | .error e=> .error e
  | .ok _=>if n<0\/50<n then .error 3 else .ok a
theorem xR {cols:List Int}:∀ {xs:List Ex} {l:List Int},gQ cols xs=.ok l ->l.length=xs.length
 | [],l,h=>by rw [gQ] at h;cases h;rfl
 | x::xs,l,h=>by
  rw [gQ] at h
  split at h
  ·cases h
  ·split at h
   ·rename_i ts h2
    cases h
    rw [List.length_cons,List.length_cons,xR h2]
   ·cases h
theorem tH {cols:List Int}{xs:List Ex}{l:List Int}(h:iM cols xs=.ok l):l.length=xs.length/\xs.length<=8:=by
 unfold iM at h
 split at h
 ·cases h
 ·exact ⟨xR h,by omega⟩
theorem vv {cols:List Int}:∀ {xs:List Ag} {l:List Int},gL cols xs=.ok l ->l.length=xs.length
 | [],l,h=>by rw [gL] at h;cases h;rfl
 | x::xs,l,h=>by
  rw [gL] at h
  split at h
  ·cases h
  ·split at h
   ·rename_i ts h2
    cases h
    rw [List.length_cons,List.length_cons,vv h2]
   ·cases h
theorem fY {M:aV}{b o:Nat}{v0 v1 v2 v3 v4 v5 v6 v7 v8 v9 v10:Value}(h:At M b o [v0,v1,v2,v3,v4,v5,v6,v7,v8,v9,v10]):aL M ⟨b,o,none⟩=some v0/\aL M ⟨b,o+1,none⟩=some v1/\aL M ⟨b,o+8,none⟩=some v8/\aL M ⟨b,o+9,none⟩=some v9/\aL M ⟨b,o+10,none⟩=some v10:=by
 obtain ⟨h0,h1,h2,h3,h4,h5,h6,h7,h8,h9,Uw,_⟩:=h
 exact ⟨h0,h1,h8,h9,Uw⟩
theorem Jx {M:aV}{cols:List Int}{cv:Value}{p:Pl}{b o:Nat}{cs:List Value}(cC:At M b o cs)(hp:j5 M p cs)(mr:RS M RI 1 cols cv)(hk:p.k=12\/p.k=13)(T:Tm):
 ep Tryz.prog 85 [.pointer (some ⟨b,o,none⟩),cv] T M [] [] (fun r M' _ _=>HS (zZ p.k p.n cols p.xs p.ags) r M') bj:=by
 obtain ⟨s1,a1,n1,a2,n2,a3,n3,rfl,gH,hkx,kD,Au,lD⟩:=gK hp
 obtain ⟨x0,x1,x8,x9,x10⟩:=fY cC
 have hlx:=(aI (by decide) (fun _ _=>ed) kD).1
 have hla:=(aI (by decide) (fun _ _=>ml) Au).1
 obtain ⟨_,ca,cc,rfl,_⟩:=aI (by decide) (fun _ _=>cW) mr
 refine aT mx ah9 Tryz.func85 rfl (by rw [ara];exact Nat.le_of_ble_eq_true rfl) (dr:=am2) (by kernel_rfl) aqF ?_
 intro bN _
 simp +contextual only [go_sem,ak,sevalprocAttr,x0,x1,x8,x9]
 refine bq ?_
 have hw:IntKind.i64.wrap ((p.xs.length:Int)+(p.ags.length:Int))=((p.xs.length+p.ags.length:Nat):Int):=by
  rw [eZ (by omega) (by omega)];omega
 rcases hk with hk | hk
 ·unfold zZ
  rw [if_pos hk]
  by_cases h8:8<p.xs.length+p.ags.length
  ·have E2:(8:Int)<((p.xs.length+p.ags.length:Nat):Int):=by omega
   rw [if_pos h8]
   simp +contextual only [go_sem,ak,sevalprocAttr,x0,x1,x8,x9,hk,hw,E2]
   exact az aH.rfl' ⟨by decide,_,rfl⟩
  ·have E2:¬ (8:Int)<((p.xs.length+p.ags.length:Nat):Int):=by omega
   rw [if_neg h8]
   simp +contextual only [go_sem,ak,sevalprocAttr,x0,x1,x8,x9,hk,hw,E2]
   refine am (zY mr kD T) ?_ (fun _ _ _ _ h=>h.elim)
   rintro r M2 aX aQ hr
   cases ni:iM cols p.xs with
   | error er=>
    rw [ni] at hr
    obtain ⟨dh,rfl⟩:=hr
    simp +contextual only [go_sem,ak,sevalprocAttr,dh]
    exact az aH.rfl' ⟨dh,_,rfl⟩
   | ok ks=>
    rw [ni] at hr
    obtain ⟨kv,rfl,K3⟩:=hr
    have y0:=ax aX x0
    have y9:=ax aX x9
    obtain ⟨xp,_⟩:=tH ni
    obtain ⟨_,ka,kc,rfl,_⟩:=aI (by decide) (fun _ _=>cW) K3
    simp +contextual only [go_sem,ak,sevalprocAttr,y0,y9,hk]
    refine am (EL (aN aX (fun _ _ h=>h) mr) (aN aX (ki aX) Au) (by omega) T) ?_ (fun _ _ _ _ h=>h.elim)
    rintro r M3 bD aZ hr
    have anB:=aN bD (fun _ _ h=>h) K3
    cases adr:gL cols p.ags with
    | error er=>
     rw [adr] at hr
     obtain ⟨dh,rfl⟩:=hr
     simp +contextual only [go_sem,ak,sevalprocAttr]
     intro b1 jK
     refine aW J3 fun M4 ce iR bH=> ?_
     have hls:RS M4 (G2 M4) 1 [ks,[]] (.slice (some ⟨b1,0,none⟩) 2 2):=df (fun _ _=>jD) iR (l:=[ks,[]]) ⟨_,_,rfl,⟨_,rfl,aN ce (fun _ _ h=>h) anB⟩,_,_,rfl,⟨_,rfl,bR⟩,rfl⟩ rfl (by omega)
     refine am (tN hls (by simp) (by intro l hl;simp only [List.mem_cons,List.not_mem_nil,or_false] at hl;rcases hl with rfl | rfl<;>(try simp only [List.length_nil])<;>omega) T) ?_ (fun _ _ _ _ h=>h.elim)
     rintro v M5 dy bE hv
     simp +contextual only [go_sem,ak,sevalprocAttr]
     exact az aH.rfl' ⟨dh,_,rfl⟩
    | ok g=>
     rw [adr] at hr
     obtain ⟨gv,rfl,hgv⟩:=hr
     have Y3:=vv adr
     obtain ⟨_,ga,gc,rfl,_⟩:=aI (by decide) (fun _ _=>cW) hgv
     simp +contextual only [go_sem,ak,sevalprocAttr]
     intro b1 jK
     refine aW J3 fun M4 ce iR bH=> ?_
     have hls:RS M4 (G2 M4) 1 [ks,g] (.slice (some ⟨b1,0,none⟩) 2 2):=df (fun _ _=>jD) iR (l:=[ks,g]) ⟨_,_,rfl,⟨_,rfl,aN ce (fun _ _ h=>h) anB⟩,_,_,rfl,⟨_,rfl,aN ce (fun _ _ h=>h) hgv⟩,rfl⟩ rfl (by omega)
     refine am (tN hls (by simp) (by intro l hl;simp only [List.mem_cons,List.not_mem_nil,or_false] at hl;rcases hl with rfl | rfl<;>(try simp only [List.length_nil])<;>omega) T) ?_ (fun _ _ _ _ h=>h.elim)
     rintro v M5 dy bE hv
     simp +contextual only [go_sem,ak,sevalprocAttr]
     refine az aH.rfl' ⟨_,rfl,?_⟩
     simpa using hv
 ·unfold zZ
  rw [if_neg (by omega)]
  simp +contextual only [go_sem,ak,sevalprocAttr,x0,x1,x8,x9,hk]
  refine am (zY mr kD T) ?_ (fun _ _ _ _ h=>h.elim)
  rintro r M2 aX aQ hr
  cases ni:iM cols p.xs with
  | error er=>
   rw [ni] at hr
   obtain ⟨dh,rfl⟩:=hr
   simp +contextual only [go_sem,ak,sevalprocAttr,dh]
   exact az aH.rfl' ⟨dh,_,rfl⟩
  | ok ks=>
   rw [ni] at hr
   obtain ⟨kv,rfl,K3⟩:=hr
   have y0:=ax aX x0
   have y1:=ax aX x1
   simp +contextual only [go_sem,ak,sevalprocAttr,y0,y1,hk]
   split
   ·exact az aH.rfl' ⟨by decide,_,rfl⟩
   ·exact az aH.rfl' ⟨_,rfl,aN aX (fun _ _ h=>h) mr⟩
mutual
theorem BL (cz:List (List Int))(bU n:Nat):∀ p,n<=60 ->(fz cz bU n p).2<=61/\(∀ t,(fz cz bU n p).1=.ok t ->(fz cz bU n p).2<=60)
 | .mk k c x xs ags kids,hn=>by
  rw [fz]
  split
  ·exact ⟨by simp only;omega,fun t h=>by simp at h⟩
  ·split
   ·exact ⟨by simp only;omega,fun t h=>by simp at h⟩
   ·split
    ·exact ⟨by simp only;omega,fun t h=>by simp at h⟩
    ·have:=Fh cz (bU+1) (n+1) kids (by omega)
     split
     ·rename_i e m hm
      rw [hm] at this
      exact ⟨this.1,fun t h=>by simp at h⟩
     ·rename_i t m hm
      rw [hm] at this
      have h2:=this.2 t rfl
      simp only at h2
      exact ⟨by simp only;omega,fun _ _=>h2⟩
theorem Fh (cz:List (List Int))(bU n:Nat):∀ l,n<=60 ->(gZ cz bU n l).2<=61/\(∀ t,(gZ cz bU n l).1=.ok t ->(gZ cz bU n l).2<=60)
 | [],hn=>by rw [gZ];exact ⟨by simp only;omega,fun _ _=>hn⟩
 | x::l,hn=>by
  rw [gZ]
  have hx:=BL cz bU n x hn
  split
  ·rename_i e m hm
   rw [hm] at hx
   exact ⟨hx.1,fun t h=>by simp at h⟩
  ·rename_i t m hm
   rw [hm] at hx
   have hl:=Fh cz bU m l (hx.2 t rfl)
   split
   ·rename_i e m' LE
    rw [LE] at hl
    exact ⟨hl.1,fun t h=>by simp at h⟩
   ·rename_i ts m' LE
    rw [LE] at hl
    exact ⟨hl.1,fun _ _=>hl.2 ts rfl⟩
end
def zE (aO:List (List Int)):Except Int (List (List Int))×Nat ->Except Int (List (List Int))×Nat
 | (.ok l,m)=>(.ok (aO++l),m)
 | (.error e,m)=>(.error e,m)
theorem MP (r):zE [] r=r:=by obtain ⟨r,m⟩:=r;cases r<;>rfl
theorem PL {cz:List (List Int)}{bU n m:Nat}{x:Pl}{l:List Pl}{t:List Int}{aO:List (List Int)}(h:fz cz bU n x=(.ok t,m)):zE aO (gZ cz bU n (x::l))=zE (aO++[t]) (gZ cz bU m l):=by
 rw [gZ,h]
 simp only
 rcases hl:gZ cz bU m l with ⟨r,m'⟩
 cases r<;>simp [zE]
theorem MG {cz:List (List Int)}{bU n m:Nat}{x:Pl}{l:List Pl}{e:Int}{aO:List (List Int)}(h:fz cz bU n x=(.error e,m)):zE aO (gZ cz bU n (x::l))=(.error e,m):=by
 rw [gZ,h];rfl
theorem FE {cz:List (List Int)}{k n:Int}{x:Ex}{xs:List Ex}{ags:List Ag}{c:List (List Int)}(hk:k=12\/k=13):jA cz k n x xs ags c=zZ k n (c.getD 0 []) xs ags:=by
 unfold jA zZ
 generalize hA:iM (c.getD 0 []) xs=A
 generalize hB:gL (c.getD 0 []) ags=B
 rcases hk with rfl | rfl<;>cases A<;>cases B<;>simp_all
theorem By:∀ {a b l:List Int},kI a b=.ok l ->l.length<=a.length
 | [],b,l,h=>by simp [kI] at h;subst h;exact Nat.le_refl _
 | t::a,[],l,h=>by simp [kI] at h;subst h;simp
 | t::a,u::b,l,h=>by
  rw [kI] at h
  split at h
  ·cases h
  ·split at h
   ·rename_i m hm
    cases h
    have:=By hm
    simp only [List.length_cons];omega
   ·cases h
theorem za {c:List (List Int)}(h:∀ t∈c,t.length<=8)(i:Nat):(c.getD i []).length<=8:=by
 rw [List.getD_eq_getElem?_getD]
 by_cases hi:i<c.length
 ·rw [List.getElem?_eq_getElem hi];exact h _ (List.getElem_mem hi)
 ·rw [List.getElem?_eq_none (by omega)];simp
theorem LP {cz:List (List Int)}{k n:Int}{x:Ex}{xs:List Ex}{ags:List Ag}{c:List (List Int)}{l:List Int}(ht:∀ t∈cz,t.length<=8)(hc:∀ t∈c,t.length<=8)(h:jA cz k n x xs ags c=.ok l):l.length<=8:=by
 have h0:=za hc 0
 have h1:=za hc 1
 unfold jA at h
 simp only at h
 split at h
 ·split at h
  ·injection h with h;rw [<- h];exact za ht _
  ·cases h
 split at h
 ·split at h
  ·injection h with h;rw [<- h];exact h0
  ·cases h
 split at h
 ·have:=tH h;omega
 split at h
 ·unfold mw at h
  split at h
  ·cases h
  ·have:=By h;omega
 split at h
 ·injection h with h;rw [<- h];exact h0
 split at h
 ·split at h
  ·cases h
  ·split at h
   ·cases h
   ·rename_i ks vW
    split at h
    ·rename_i g hg
     injection h with h
     have e1:=tH vW
     have e2:=vv hg
     rw [<- h,List.length_append]
     omega
    ·cases h
 split at h
 ·split at h
  ·cases h
  ·split at h
   ·cases h
   ·injection h with h;rw [<- h];exact h0
 split at h
 ·cases h
 ·split at h
  ·cases h
  ·injection h with h
   rw [<- h]
   split<;>omega
mutual
theorem sT {cz:List (List Int)}(ht:∀ t∈cz,t.length<=8)(bU n:Nat):∀ p {l},(fz cz bU n p).1=.ok l ->l.length<=8
 | .mk k c x xs ags kids,l,h=>by
  rw [fz] at h
  split at h
  ·cases h
  ·split at h
   ·cases h
   ·split at h
    ·cases h
    ·split at h
     ·cases h
     ·rename_i c m hm
      have h2:=BP ht (bU+1) (n+1) kids (l:=c) (by rw [hm])
      exact LP ht h2 h
theorem BP {cz:List (List Int)}(ht:∀ t∈cz,t.length<=8)(bU n:Nat):∀ ps {l},(gZ cz bU n ps).1=.ok l ->∀ t∈l,t.length<=8
 | [],l,h=>by rw [gZ] at h;cases h;intro t ht;cases ht
 | p::ps,l,h=>by
  rw [gZ] at h
  split at h
  ·cases h
  ·rename_i t m hm
   split at h
   ·cases h
   ·rename_i ts m' LE
    injection h with h
    intro u hu
    rw [<- h,List.mem_cons] at hu
    rcases hu with rfl | hu
    ·exact sT ht bU n p (by rw [hm])
    ·exact BP ht bU m ps (by rw [LE]) u hu
end
def BF (l cols:List Int)(x:Ex):Except Int (List Int):=match oJ cols x with | .ok _=> .ok l | .error e=> .error e
theorem JG {cz:List (List Int)}{n:Int}{x:Ex}{xs:List Ex}{ags:List Ag}{c:List (List Int)}:jA cz 2 n x xs ags c=BF (c.getD 0 []) (c.getD 0 []) x:=by
 unfold jA BF
 rw [if_neg (by decide),if_pos rfl]
 cases oJ (c.getD 0 []) x<;>rfl
theorem H8 {cz:List (List Int)}{k n:Int}{x:Ex}{xs:List Ex}{ags:List Ag}{c:List (List Int)}(hk:4<=k/\k<=7):jA cz k n x xs ags c=
 if 8<(c.getD 0 []++c.getD 1 []).length then .error 5 else BF (if k=5\/k=6 then c.getD 0 [] else c.getD 0 []++c.getD 1 []) (c.getD 0 []++c.getD 1 []) x:=by
 unfold jA BF
 simp only
 rw [if_neg (by omega),if_neg (by omega),if_neg (by omega),if_neg (by omega),if_neg (by omega),if_neg (by omega),if_neg (by omega)]
 split
 ·rfl
 ·cases oJ (c.getD 0 []++c.getD 1 []) x<;>rfl
theorem rq {l cols:List Int}{x:Ex}{sv:Value}{M:aV}(hs:RS M RI 1 l sv)(he:∀ e,oJ cols x=.error e ->e≠0):HS (BF l cols x) (.tuple ⟨[sv,.int .i64 (Lm cols x)]⟩) M:=by
 unfold BF Lm
 cases h:oJ cols x with
 | ok u=>exact ⟨sv,rfl,hs⟩
 | error e=>exact ⟨he e h,sv,rfl⟩
theorem ku {M:aV}{b o:Nat}{v0 v1 v2 v3 v4 v5 v6 v7 v8 v9 v10:Value}(h:At M b o [v0,v1,v2,v3,v4,v5,v6,v7,v8,v9,v10]):aL M ⟨b,o+2,none⟩=some v2/\aL M ⟨b,o+3,none⟩=some v3/\aL M ⟨b,o+4,none⟩=some v4/\aL M ⟨b,o+5,none⟩=some v5/\aL M ⟨b,o+6,none⟩=some v6/\aL M ⟨b,o+7,none⟩=some v7:=by
 obtain ⟨h0,h1,h2,h3,h4,h5,h6,h7,h8,h9,Uw,_⟩:=h
 exact ⟨h2,h3,h4,h5,h6,h7⟩
theorem ID {k:Int}(h:0<=iU k)(h1:k≠1):iU k=1\/iU k=2:=by
 unfold iU at h ⊢
 grind
theorem lq {res:Except Int (List Int)}{v:Value}{M:aV}(h:HS res v M):∃ sv er,v=.tuple ⟨[sv,.int .i64 er]⟩:=by
 cases res with
 | ok l=>obtain ⟨sv,rfl,_⟩:=h;exact ⟨_,_,rfl⟩
 | error e=>obtain ⟨_,sv,rfl⟩:=h;exact ⟨_,_,rfl⟩
def ClX (p:Pl):Prop:=∀ (M:aV) (T:Tm) (b o hb bU n:Nat) (cs:List Value) (cz:List (List Int)) (tv:Value),At M b o cs ->j5 M p cs ->RS M (G2 M) 1 cz tv ->(∀ t∈cz,t.length<=8) ->n<=60 ->bU<=16 ->
 ep Tryz.prog 40 [.pointer (some ⟨hb,0,none⟩),.pointer (some ⟨b,o,none⟩),.int .i64 (bU:Int)] T M [(hb,[tv,.int .i64 (n:Int)])] [] (fun r M' L' R'=>HS (fz cz bU n p).1 r M'/\L'=[(hb,[tv,.int .i64 ((fz cz bU n p).2:Int)])]/\R'=[]) bj
theorem clX:∀ (sz:Nat) (p:Pl),SizeOf.sizeOf p<=sz ->ClX p:=by
 intro sz
 induction sz with
 | zero=>intro p hp;cases p;simp at hp
 | succ sz ih=>
  intro p eF M T b o hb bU n cs cz tv cC hp SL JJ hn YL
  obtain ⟨s1,a1,n1,a2,n2,a3,n3,rfl,gH,hkx,kD,Au,lD⟩:=gK hp
  obtain ⟨m0,m1,m8,m9,m10⟩:=fY cC
  obtain ⟨lh,a',c',j7,jo,Ai,hg⟩:=aI (by decide) (fun _ _=>jI) lD
  injection j7 with h1 h2 h3
  subst h1 h3
  cases p with | mk k pn x xs ags kids=>
  simp only [Pl.k,Pl.n,Pl.x,Pl.xs,Pl.ags,Pl.kids] at m0 m1 m8 m9 m10 kD Au lD jo hg lh hkx
  obtain ⟨S,hS⟩:∃ S,S=fz cz bU n (.mk k pn x xs ags kids):=⟨_,rfl⟩
  rw [<- hS]
  rw [fz] at hS
  have hwn:=aC n (by omega)
  have hwd:=aC bU (by omega)
  refine aT mx ajC Tryz.func40 rfl (by rw [atF];exact Nat.le_of_ble_eq_true rfl) (dr:=an2) (by kernel_rfl) asy ?_
  intro bN _
  simp only [aB,and_true] at bN
  simp +contextual only [go_sem,ak,sevalprocAttr,bN,hwn,m0]
  by_cases nV:60<n+1\/15<bU
  ·rw [if_pos nV] at hS
   rw [if_pos (by omega)]
   exact aM aH.rfl' rfl rfl ⟨by rw [hS];exact ⟨by decide,_,rfl⟩,by rw [hS],rfl⟩
  rw [if_neg nV] at hS
  rw [if_neg (by omega)]
  refine am (QD k T) ?_ (fun _ _ _ _ h=>h.elim)
  rintro r M1 aP bL rfl
  simp only [aB,and_true] at bL
  replace m0:=ax aP m0
  replace m1:=ax aP m1
  replace m8:=ax aP m8
  replace m9:=ax aP m9
  replace m10:=ax aP m10
  by_cases oI:iU k<0
  ·rw [if_pos oI] at hS
   simp +contextual only [go_sem,ak,sevalprocAttr,oI]
   exact aM aH.rfl' rfl rfl ⟨by rw [hS];exact ⟨by decide,_,rfl⟩,by rw [hS],rfl⟩
  rw [if_neg oI] at hS
  by_cases xp:(kids.length:Int)=iU k
  ·rw [if_neg (fun h=>h xp)] at hS
   have V9:kids.length<=2:=by
    have:iU k<=2:=by unfold iU;repeat' split<;>omega
    omega
   simp +contextual only [go_sem,ak,sevalprocAttr,oI,xp,m10]
   refine bA kids.length 51 [(0,.pointer (some ⟨hb,0,none⟩)),(1,.pointer (some ⟨b,o,none⟩)),(2,.int .i64 (bU:Int)),(50,.int .i64 (kids.length:Int))]
    (fun i e h=>∃ (M':aV) (n':Nat) (R:RR) (fv:Value) (aO:List (List Int)),bG M1 M'/\M' hb=none/\n'<=60/\h=⟨T,M',[(hb,[tv,.int .i64 (n':Int)])],R⟩/\e 9=fv/\aO.length=i/\(i<kids.length ->nK 24 1 (G2 M') [] R fv aO)/\(i=kids.length ->R=[]/\RS M' (G2 M') 1 aO fv)/\zE aO (gZ cz (bU+1) n' (kids.drop i))=gZ cz (bU+1) (n+1) kids/\∀ t∈aO,t.length<=8)
    0 (by omega) (by simp only [aG,xp,go_sem,ak,sevalprocAttr]) (by simp only [go_sem,ak,sevalprocAttr]) (aA ⟨M1,n+1,[],.slice none 0 0,[],bG.rfl',bL,by omega,rfl,by simp only [go_sem,ak,sevalprocAttr],rfl,fun _=>ew,fun _=>⟨rfl,bR⟩,MP _,by intro t ht;cases ht⟩) ?_
   rintro i e h hi aD ht ⟨M2,n',R2,fv,aO,aX,n2,X9,rfl,e9,lk,cy,zH,ay,WE⟩
   simp only [aG] at aD
   have x10:=ax aX m10
   by_cases aF:i<kids.length
   ·obtain ⟨b',o',cs',rfl,AI,eL⟩:=hg i kids[i] (List.getElem?_eq_getElem aF)
    have gz:=aP.trans aX
    have bX:kids.drop i=kids[i]::kids.drop (i+1):=List.drop_eq_getElem_cons aF
    rw [bX] at ay
    have yW:SizeOf.sizeOf kids[i]<=sz:=by
     have h1:=List.sizeOf_lt_of_mem (List.getElem_mem aF)
     simp only [Pl.mk.sizeOf_spec] at eF
     omega
    have Ax:=BL cz (bU+1) n' kids[i] X9
    have Ai:=cy aF
    simp +contextual only [go_sem,ak,sevalprocAttr,aD,ht,aF,x10,hwd]
    refine dU [] (ih kids[i] yW M2 T b' _ hb (bU+1) n' cs' cz tv (AI.ext gz) (bO gz _ _ eL) (aN gz (ms gz) SL) JJ X9 (by omega)) ?_ (fun _ _ _ _ _ _ h=>h.elim)
    rintro r M3 L' bD yi aZ ⟨hr,rfl, -⟩
    simp only [List.nil_append,aB,and_true] at aZ
    rcases ni:fz cz (bU+1) n' kids[i] with ⟨r1,m⟩
    rw [ni] at hr Ax
    cases r1 with
    | error er=>
     obtain ⟨dh,t,rfl⟩:=hr
     rw [MG ni] at ay
     rw [<- ay] at hS
     simp +contextual only [go_sem,ak,sevalprocAttr,aD,ht,aF,dh]
     refine cG (aM aH.rfl' rfl rfl ⟨?_,?_,rfl⟩)
     ·rw [hS];exact ⟨dh,_,rfl⟩
     ·rw [hS]
    | ok t=>
     simp only [HS] at hr
     obtain ⟨kv,rfl,K3⟩:=hr
     obtain ⟨_,ka,kc,rfl,_⟩:=aI (by decide) (fun _ _=>cW) K3
     rw [PL ni] at ay
     have Ze:∀ u∈aO++[t],u.length<=8:=by
      intro u hu
      rw [List.mem_append,List.mem_singleton] at hu
      rcases hu with hu | rfl
      ·exact WE u hu
      ·exact sT JJ (bU+1) n' kids[i] (by rw [ni])
     simp +contextual only [go_sem,ak,sevalprocAttr,aD,ht,aF,e9]
     intro b7 km dj
     have hT:=aX.trans bD
     refine dH (Tryz.underlying58) Kk Ke (eX (ms bD) Ai) ⟨_,rfl,K3⟩ (fun _ _=>jD) (yj (M:=M3) ⟨_,rfl,K3⟩) km (by omega) (by decide) ?_
     intro fv' R' cF
     simp +contextual only [go_sem,ak,sevalprocAttr,aD,ht,aF]
     refine bf (al ?_)
     by_cases G7:i+1=kids.length
     ·refine cU cF (by rw [List.length_append];simp only [List.length_cons,List.length_nil];omega) (by decide) ⟨aZ,trivial⟩ fun M4 ce bH ff=>aA ⟨kids.length - (i+1),by omega,rfl,i+1,by omega,rfl,?_,?_,M4,m,[],fv',aO++[t],hT.trans ce,bH.1,Ax.2 t rfl,rfl,?_,?_,fun h=>absurd h (by omega),fun _=>⟨rfl,aN bG.rfl' (ms ce) ff⟩,ay,Ze⟩
      ·simp only [aG,aD,go_sem,ak,sevalprocAttr]
      ·simp only [ht,go_sem,ak,sevalprocAttr,aC i (by omega)]
      ·simp only [go_sem,ak,sevalprocAttr]
      ·rw [List.length_append,lk];rfl
     ·refine aA ⟨kids.length - (i+1),by omega,rfl,i+1,by omega,rfl,?_,?_,M3,m,R',fv',aO++[t],hT,aZ,Ax.2 t rfl,rfl,?_,?_,fun _=>cF,fun h=>absurd h G7,ay,Ze⟩
      ·simp only [aG,aD,go_sem,ak,sevalprocAttr]
      ·simp only [ht,go_sem,ak,sevalprocAttr,aC i (by omega)]
      ·simp only [go_sem,ak,sevalprocAttr]
      ·rw [List.length_append,lk];rfl
   ·have:i=kids.length:=by omega
    subst this
    obtain ⟨rfl,YC⟩:=zH rfl
    rw [List.drop_length,gZ] at ay
    simp only [zE,List.append_nil] at ay
    rw [<- ay] at hS
    simp only at hS
    have gz:=aP.trans aX
    replace m0:=ax aX m0
    replace m1:=ax aX m1
    by_cases k1:k=1
    ·subst k1
     unfold jA at hS
     rw [if_pos rfl] at hS
     obtain ⟨_,ta,tc,rfl,htc,_,htg⟩:=aI (by decide) (fun _ _=>jD) SL
     simp +contextual only [go_sem,ak,sevalprocAttr,aD,ht,aF,m0,m1,n2]
     refine bq ?_
     by_cases Vw:pn<0
     ·rw [if_neg (by omega)] at hS
      simp +contextual only [go_sem,ak,sevalprocAttr,aD,m1,n2,Vw]
      refine cG (aM aH.rfl' rfl rfl ⟨?_,by rw [hS],rfl⟩)
      rw [hS];exact ⟨by decide,_,rfl⟩
     ·by_cases hhi:(cz.length:Int)<=pn
      ·rw [if_neg (by omega)] at hS
       simp +contextual only [go_sem,ak,sevalprocAttr,aD,m1,n2,Vw,hhi]
       refine cG (aM aH.rfl' rfl rfl ⟨?_,by rw [hS],rfl⟩)
       rw [hS];exact ⟨by decide,_,rfl⟩
      ·rw [if_pos (by omega)] at hS
       obtain ⟨j,rfl⟩:=Int.eq_ofNat_of_zero_le (show 0<=pn by omega)
       have xk:j<cz.length:=by omega
       obtain ⟨b',o',cs',rfl,AI,v,rfl,Bc⟩:=htg j cz[j] (List.getElem?_eq_getElem xk)
       have z0:=Bu (AI.ext gz)
       rw [Nat.mul_one] at z0
       simp +contextual only [go_sem,ak,sevalprocAttr,aD,m1,n2,Vw,hhi,xk,z0]
       refine bq ?_
       simp +contextual only [go_sem,ak,sevalprocAttr,aD,m1,n2,xk,z0]
       refine aM aH.rfl' rfl rfl ⟨?_,by rw [hS],rfl⟩
       have hgd:cz.getD (j:Int).toNat []=cz[j]:=by simp [List.getD,xk]
       rw [hS,hgd]
       exact ⟨_,rfl,aN gz (fun _ _ h=>h) Bc⟩
    have avM:1<=kids.length:=by
     have:=ID (by omega:0<=iU k) k1
     omega
    obtain ⟨_,fa,fc,rfl,hfc,_,hfg⟩:=aI (by decide) (fun _ _=>jD) YC
    obtain ⟨b0,o0,cs0,rfl,acZ,v0,rfl,KL⟩:=hfg 0 aO[0] (List.getElem?_eq_getElem (by omega))
    obtain ⟨_,c0a,c0c,rfl,_⟩:=aI (by decide) (fun _ _=>cW) KL
    have z0:=Bu acZ
    rw [Nat.zero_mul,Nat.add_zero] at z0
    have tT:0<aO.length:=by omega
    have oH:(0:Int)<(aO.length:Int):=by omega
    have hg0:aO.getD 0 []=aO[0]:=by simp [List.getD,tT]
    by_cases k10:k=10\/k=11
    ·have GZ:jA cz k pn x xs ags aO=.ok (aO.getD 0 []):=by unfold jA;rcases k10 with rfl | rfl<;>simp
     rw [GZ] at hS
     rcases k10 with rfl | rfl
     ·simp +contextual only [go_sem,ak,sevalprocAttr,aD,ht,aF,m0,m1,n2,e9,tT,oH,z0]
      refine aM aH.rfl' rfl rfl ⟨?_,by rw [hS],rfl⟩
      rw [hS,hg0]
      exact ⟨_,rfl,KL⟩
     ·simp +contextual only [go_sem,ak,sevalprocAttr,aD,ht,aF,m0,m1,n2,e9,tT,oH,z0]
      refine aM aH.rfl' rfl rfl ⟨?_,by rw [hS],rfl⟩
      rw [hS,hg0]
      exact ⟨_,rfl,KL⟩
    ·by_cases k12:k=12\/k=13
     ·rw [FE k12,hg0] at hS
      have py:=bO gz _ _ hp
      have aqp:=cC.ext gz
      have D3:=Jx (cols:=aO[0]) aqp py KL k12 T
      simp only [Pl.k,Pl.n,Pl.xs,Pl.ags] at D3
      rcases k12 with rfl | rfl
      ·simp +contextual only [go_sem,ak,sevalprocAttr,aD,ht,aF,m0,m1,n2,e9,tT,oH,z0]
       refine am D3 ?_ (fun _ _ _ _ h=>h.elim)
       rintro r M3 bD aZ hr
       obtain ⟨sv,er,rfl⟩:=lq hr
       simp +contextual only [go_sem,ak,sevalprocAttr]
       exact aM aH.rfl' rfl rfl ⟨by rw [hS];exact hr,by rw [hS],rfl⟩
      ·simp +contextual only [go_sem,ak,sevalprocAttr,aD,ht,aF,m0,m1,n2,e9,tT,oH,z0]
       refine am D3 ?_ (fun _ _ _ _ h=>h.elim)
       rintro r M3 bD aZ hr
       obtain ⟨sv,er,rfl⟩:=lq hr
       simp +contextual only [go_sem,ak,sevalprocAttr]
       exact aM aH.rfl' rfl rfl ⟨by rw [hS];exact hr,by rw [hS],rfl⟩
     ·by_cases k3:k=3
      ·have GZ:jA cz k pn x xs ags aO=iM (aO.getD 0 []) xs:=by unfold jA;subst k3;simp
       rw [GZ,hg0] at hS
       subst k3
       replace m8:=ax aX m8
       simp +contextual only [go_sem,ak,sevalprocAttr,aD,ht,aF,m0,m1,n2,e9,tT,oH,z0]
       refine bq ?_
       simp +contextual only [go_sem,ak,sevalprocAttr,aD,m0,m8,n2,e9,tT,oH,z0]
       refine am (zY KL (aN gz (bS gz) kD) T) ?_ (fun _ _ _ _ h=>h.elim)
       rintro r M3 bD aZ hr
       replace hr:=H1 hr
       obtain ⟨sv,er,rfl⟩:=lq hr
       simp +contextual only [go_sem,ak,sevalprocAttr]
       exact aM aH.rfl' rfl rfl ⟨by rw [hS];exact hr,by rw [hS],rfl⟩
      ·by_cases k2:k=2
       ·subst k2
        rw [JG,hg0] at hS
        obtain ⟨x2,x3,x4,x5,x6,x7⟩:=ku (cC.ext gz)
        have wX:jL M2 x [.int .i64 x.k,.int .i64 x.v.k,.int .i64 x.v.n,st x.v.t,.int .i64 x.c,s1]:=gD.2 ⟨s1,rfl,aN gz (bS gz) hkx⟩
        simp +contextual only [go_sem,ak,sevalprocAttr,aD,ht,aF,m0,m1,n2,e9,tT,oH,z0]
        refine bq ?_
        simp +contextual only [go_sem,ak,sevalprocAttr,aD,m0,n2,e9,tT,oH,z0,x2,x3,x4,x5,x6,x7,gH]
        refine am (wY KL wX T) ?_ (fun _ _ _ _ h=>h.elim)
        rintro r M3 bD aZ ⟨rfl,Wz⟩
        simp +contextual only [go_sem,ak,sevalprocAttr]
        simp only [aB,and_true] at aZ
        exact ⟨dK bD ⟨aZ,trivial⟩,aM aH.rfl' rfl rfl ⟨by rw [hS];exact rq (aN bD (fun _ _ h=>h) KL) Wz,by rw [hS],rfl⟩⟩
       have aul:4<=k/\k<=9:=by
        unfold iU at oI
        grind
       have axv:iU k=2:=by unfold iU;rw [if_neg k1,if_pos aul]
       have HV:1<aO.length:=by omega
       have KP:(1:Int)<(aO.length:Int):=by omega
       have mC:aO.getD 1 []=aO[1]:=by simp [List.getD,HV]
       obtain ⟨b1,o1,cs1,hbo,Hg,v1,rfl,oN⟩:=hfg 1 aO[1] (List.getElem?_eq_getElem HV)
       cases hbo
       obtain ⟨_,c1a,c1c,rfl,_⟩:=aI (by decide) (fun _ _=>cW) oN
       have z1:=Bu Hg
       rw [Nat.one_mul] at z1
       by_cases k8:k=8\/k=9
       ·have GZ:jA cz k pn x xs ags aO=mw (aO.getD 0 []) (aO.getD 1 []):=by unfold jA;rcases k8 with rfl | rfl<;>simp
        rw [GZ,hg0,mC] at hS
        have GS:aO[0].length<=1048576:=Nat.le_trans (WE _ (List.getElem_mem tT)) (by decide)
        rcases k8 with rfl | rfl
        ·simp +contextual only [go_sem,ak,sevalprocAttr,aD,ht,aF,m0,m1,n2,e9,tT,oH,z0]
         refine bq ?_
         simp +contextual only [go_sem,ak,sevalprocAttr,aD,m0,n2,e9,tT,oH,HV,KP,z0,z1]
         refine am (vU KL oN (by omega) T) ?_ (fun _ _ _ _ h=>h.elim)
         rintro r M3 bD aZ hr
         replace hr:=H1 hr
         obtain ⟨sv,er,rfl⟩:=lq hr
         simp +contextual only [go_sem,ak,sevalprocAttr]
         exact aM aH.rfl' rfl rfl ⟨by rw [hS];exact hr,by rw [hS],rfl⟩
        ·simp +contextual only [go_sem,ak,sevalprocAttr,aD,ht,aF,m0,m1,n2,e9,tT,oH,z0]
         refine bq ?_
         simp +contextual only [go_sem,ak,sevalprocAttr,aD,m0,n2,e9,tT,oH,HV,KP,z0,z1]
         refine am (vU KL oN (by omega) T) ?_ (fun _ _ _ _ h=>h.elim)
         rintro r M3 bD aZ hr
         replace hr:=H1 hr
         obtain ⟨sv,er,rfl⟩:=lq hr
         simp +contextual only [go_sem,ak,sevalprocAttr]
         exact aM aH.rfl' rfl rfl ⟨by rw [hS];exact hr,by rw [hS],rfl⟩
       ·have ar8:4<=k/\k<=7:=by omega
        rw [H8 ar8,hg0,mC] at hS
        obtain ⟨x2,x3,x4,x5,x6,x7⟩:=ku (cC.ext gz)
        have wX:jL M2 x [.int .i64 x.k,.int .i64 x.v.k,.int .i64 x.v.n,st x.v.t,.int .i64 x.c,s1]:=gD.2 ⟨s1,rfl,aN gz (bS gz) hkx⟩
        have k8a:¬ k=8:=fun h=>k8 (.inl h)
        have k9a:¬ k=9:=fun h=>k8 (.inr h)
        have k10a:¬ k=10:=fun h=>k10 (.inl h)
        have k11a:¬ k=11:=fun h=>k10 (.inr h)
        have k12a:¬ k=12:=fun h=>k12 (.inl h)
        have k13a:¬ k=13:=fun h=>k12 (.inr h)
        simp +contextual only [go_sem,ak,sevalprocAttr,aD,ht,aF,m0,m1,n2,e9,tT,oH,HV,KP,z0,z1,k1,k2,k3,k8a,k9a,k10a,k11a,k12a,k13a]
        refine bq ?_
        simp +contextual only [go_sem,ak,sevalprocAttr,aD,ht,aF,m0,m1,n2,e9,tT,oH,HV,KP,z0,z1]
        intro b1 jK sO
        refine ⟨iw bG.rfl' ⟨n2,trivial⟩ ⟨sO,trivial⟩,?_⟩
        refine aW J3 fun M4 ce iR bH=> ?_
        simp only [aB,and_true] at bH
        have hls:RS M4 (G2 M4) 1 [aO[0],aO[1]] (.slice (some ⟨b1,0,none⟩) 2 2):=df (fun _ _=>jD) iR (l:=[aO[0],aO[1]]) ⟨_,_,rfl,⟨_,rfl,aN ce (fun _ _ h=>h) KL⟩,_,_,rfl,⟨_,rfl,aN ce (fun _ _ h=>h) oN⟩,rfl⟩ rfl (by omega)
        have GS:=WE _ (List.getElem_mem tT)
        have gF:=WE _ (List.getElem_mem HV)
        refine am (tN hls (by simp) (by intro l hl;simp only [List.mem_cons,List.not_mem_nil,or_false] at hl;rcases hl with rfl | rfl<;>omega) T) ?_ (fun _ _ _ _ h=>h.elim)
        rintro v M5 dy bE hv
        simp only [aB,and_true] at bE
        rw [List.flatten_cons,List.flatten_cons,List.flatten_nil,List.append_nil] at hv
        obtain ⟨_,va,vc,rfl,_⟩:=aI (by decide) (fun _ _=>cW) hv
        have wB:=ce.trans dy
        replace m0:=ax wB m0
        simp +contextual only [go_sem,ak,sevalprocAttr]
        refine ⟨dK wB ⟨bE,trivial⟩,?_⟩
        by_cases h8:8<(aO[0]++aO[1]).length
        ·have E2:(8:Int)<((aO[0]++aO[1]).length:Int):=by omega
         rw [if_pos h8] at hS
         simp +contextual only [go_sem,ak,sevalprocAttr,E2]
         exact aM aH.rfl' rfl rfl ⟨by rw [hS];exact ⟨by decide,_,rfl⟩,by rw [hS],rfl⟩
        have E2:¬ (8:Int)<((aO[0]++aO[1]).length:Int):=by omega
        rw [if_neg h8] at hS
        replace wX:=bS wB _ _ wX
        replace x2:=ax wB x2
        replace x3:=ax wB x3
        replace x4:=ax wB x4
        replace x5:=ax wB x5
        replace x6:=ax wB x6
        replace x7:=ax wB x7
        replace z0:=ax wB z0
        by_cases h56:k=5\/k=6
        ·rw [if_pos h56] at hS
         rcases h56 with rfl | rfl
         ·simp +contextual only [go_sem,ak,sevalprocAttr,aD,E2,m0,e9,bE,tT,oH,z0]
          refine bq ?_
          simp +contextual only [go_sem,ak,sevalprocAttr,aD,m0,bE,e9,tT,oH,z0,x2,x3,x4,x5,x6,x7,gH]
          refine am (wY hv wX T) ?_ (fun _ _ _ _ h=>h.elim)
          rintro r M6 dM bP ⟨rfl,Wz⟩
          simp only [aB,and_true] at bP
          simp +contextual only [go_sem,ak,sevalprocAttr]
          exact ⟨dK dM ⟨bP,trivial⟩,aM aH.rfl' rfl rfl ⟨by rw [hS];exact rq (aN (wB.trans dM) (fun _ _ h=>h) KL) Wz,by rw [hS],rfl⟩⟩
         ·simp +contextual only [go_sem,ak,sevalprocAttr,aD,E2,m0,e9,bE,tT,oH,z0]
          refine bq ?_
          simp +contextual only [go_sem,ak,sevalprocAttr,aD,m0,bE,e9,tT,oH,z0,x2,x3,x4,x5,x6,x7,gH]
          refine am (wY hv wX T) ?_ (fun _ _ _ _ h=>h.elim)
          rintro r M6 dM bP ⟨rfl,Wz⟩
          simp only [aB,and_true] at bP
          simp +contextual only [go_sem,ak,sevalprocAttr]
          exact ⟨dK dM ⟨bP,trivial⟩,aM aH.rfl' rfl rfl ⟨by rw [hS];exact rq (aN (wB.trans dM) (fun _ _ h=>h) KL) Wz,by rw [hS],rfl⟩⟩
        ·rw [if_neg h56] at hS
         have k5a:¬ k=5:=fun h=>h56 (.inl h)
         have k6a:¬ k=6:=fun h=>h56 (.inr h)
         simp +contextual only [go_sem,ak,sevalprocAttr,aD,E2,m0,e9,bE,tT,oH,z0,k5a,k6a]
         simp +contextual only [go_sem,ak,sevalprocAttr,aD,m0,bE,e9,tT,oH,z0,x2,x3,x4,x5,x6,x7,gH]
         refine am (wY hv wX T) ?_ (fun _ _ _ _ h=>h.elim)
         rintro r M6 dM bP ⟨rfl,Wz⟩
         simp only [aB,and_true] at bP
         simp +contextual only [go_sem,ak,sevalprocAttr]
         exact aM aH.rfl' rfl rfl ⟨by rw [hS];exact rq (aN dM (fun _ _ h=>h) hv) Wz,by rw [hS],rfl⟩
  ·rw [if_pos xp] at hS
   simp +contextual only [go_sem,ak,sevalprocAttr,oI,xp,m10]
   exact aM aH.rfl' rfl rfl ⟨by rw [hS];exact ⟨by decide,_,rfl⟩,by rw [hS],rfl⟩
theorem F7:∀ {cz:List (List Int)},Dk cz=0 ->∀ t∈cz,t.length<=8
 | [],_,t,ht=>by cases ht
 | u::l,h,t,ht=>by
  rw [Dk] at h
  split at h
  ·cases h
  ·split at h
   ·rcases List.mem_cons.1 ht with rfl | ht
    ·omega
    ·exact F7 h t ht
   ·cases h
theorem J9 {M:aV}{cz:List (List Int)}{tv:Value}{p:Pl}{cs:List Value}(SL:RS M (G2 M) 1 cz tv)(hp:j5 M p cs)(T:Tm):
 ep Tryz.prog 17 [tv,.agg ⟨cs⟩] T M [] [] (fun r M' _ _=>HS (kQ cz p) r M') bj:=by
 obtain ⟨lh,a,c,rfl,jo,_,hg⟩:=aI (by decide) (fun _ _=>jD) SL
 have dw:=jI hp
 have fk:=yH hp
 obtain ⟨s1,a1,n1,a2,n2,a3,n3,gU,gH,_⟩:=gK hp
 unfold pO at gU
 unfold kQ
 refine aT mx akA Tryz.func17 rfl (by rw [auF];exact Nat.le_of_ble_eq_true rfl) (dr:=alm) (by kernel_rfl) asc ?_
 intro bN _
 by_cases h8:8<cz.length
 ·have E2:(8:Int)<(cz.length:Int):=by omega
  rw [if_pos h8]
  subst gU
  simp +contextual only [go_sem,ak,sevalprocAttr,gH,E2]
  intro b3 T3 fh fD ja
  exact az fD ⟨by decide,_,rfl⟩
 have E2:¬ (8:Int)<(cz.length:Int):=by omega
 rw [if_neg h8]
 rw [gU]
 simp +contextual only [go_sem,ak,sevalprocAttr,gH,E2]
 intro b3 T3 fh fD ja
 refine bA cz.length 17 [(0,.slice a cz.length c),(3,.pointer (some ⟨b3,0,none⟩)),(15,.slice a cz.length c),(16,.int .i64 (cz.length:Int))] (fun i e h=>∃ M',bG M M'/\M' b3=some cs/\h=⟨T3,M',[],[]⟩/\Dk (cz.drop i)=Dk cz) 0 (by omega) (by simp only [aG,go_sem,ak,sevalprocAttr]) (by simp only [go_sem,ak,sevalprocAttr]) (aJ fun he h3 _=>aA ⟨_,he,by rw [gU];exact h3,rfl,rfl⟩) ?_
 rintro i e h hi aD ht ⟨M1,aP,h3,rfl,ay⟩
 simp only [aG] at aD
 by_cases aF:i<cz.length
 ·obtain ⟨b',o',cs',rfl,cC,v,rfl,Bc⟩:=hg i cz[i] (List.getElem?_eq_getElem aF)
  obtain ⟨_,va,vc,rfl,_,_,hvg⟩:=aI (by decide) (fun _ _=>cW) Bc
  have x0:=Bu (cC.ext aP)
  rw [Nat.mul_one] at x0
  have bX:cz.drop i=cz[i]::cz.drop (i+1):=List.drop_eq_getElem_cons aF
  rw [bX,Dk] at ay
  by_cases r9:8<cz[i].length
  ·have abV:(8:Int)<(cz[i].length:Int):=by omega
   rw [if_pos r9] at ay
   rw [<- ay,if_pos (by decide)]
   simp +contextual only [go_sem,ak,sevalprocAttr,aD,ht,aF,x0,abV]
   exact az fD ⟨by decide,_,rfl⟩
  have abV:¬ (8:Int)<(cz[i].length:Int):=by omega
  rw [if_neg r9] at ay
  simp +contextual only [go_sem,ak,sevalprocAttr,aD,ht,aF,x0,abV]
  refine bh cz[i].length 26 [(0,.slice (some ⟨b',o',none⟩) cz.length c),(3,.pointer (some ⟨b3,0,none⟩)),(15,.slice (some ⟨b',o',none⟩) cz.length c),(16,.int .i64 (cz.length:Int)),(17,.int .i64 (i:Int)),(24,.slice va cz[i].length vc),(25,.int .i64 (cz[i].length:Int))] (fun j e h=>h=⟨T3,M1,[],[]⟩/\(cz[i].drop j).all (fun t=>decide (1<=t/\t<=4))=cz[i].all (fun t=>decide (1<=t/\t<=4))) 0 (by omega) (by simp only [aG,aD,ht,go_sem,ak,sevalprocAttr]) (by simp only [go_sem,ak,sevalprocAttr]) ⟨rfl,rfl⟩ ?_
  clear aD ht e
  rintro j e h hj aD ht ⟨rfl,qk⟩
  simp only [aG] at aD
  by_cases Ad:j<cz[i].length
  ·obtain ⟨b2,o2,cs2,eG,C5,eL⟩:=hvg j cz[i][j] (List.getElem?_eq_getElem Ad)
   unfold RI at eL;subst eL eG
   have y0:=Bu (C5.ext aP)
   rw [Nat.mul_one] at y0
   have HJ:cz[i].drop j=cz[i][j]::cz[i].drop (j+1):=List.drop_eq_getElem_cons Ad
   rw [HJ,List.all_cons] at qk
   by_cases hb:1<=cz[i][j]/\cz[i][j]<=4
   ·rw [decide_eq_true hb,Bool.true_and] at qk
    have jK:¬ cz[i][j]<1:=by omega
    have eG:¬ 4<cz[i][j]:=by omega
    simp +contextual only [go_sem,ak,sevalprocAttr,aD,ht,Ad,y0,jK,eG]
    refine bW Ad ?_ ?_ ⟨rfl,qk⟩
    ·simp only [aG,aD,go_sem,ak,sevalprocAttr]
    ·simp only [ht,go_sem,ak,sevalprocAttr,aC j (by omega)]
   ·rw [decide_eq_false hb,Bool.false_and] at qk
    rw [<- qk,if_neg (by decide)] at ay
    rw [<- ay,if_pos (by decide)]
    by_cases jK:cz[i][j]<1
    ·simp +contextual only [go_sem,ak,sevalprocAttr,aD,ht,Ad,y0,jK]
     exact az fD ⟨by decide,_,rfl⟩
    ·have eG:4<cz[i][j]:=by omega
     simp +contextual only [go_sem,ak,sevalprocAttr,aD,ht,Ad,y0,jK,eG]
     exact az fD ⟨by decide,_,rfl⟩
  ·have:j=cz[i].length:=by omega
   subst this
   rw [List.drop_length] at qk
   rw [<- qk,List.all_nil,if_pos rfl] at ay
   simp +contextual only [go_sem,ak,sevalprocAttr,aD,ht,Ad]
   refine bW aF ?_ ?_ ⟨M1,aP,h3,rfl,ay⟩
   ·simp only [aG,aD,go_sem,ak,sevalprocAttr]
   ·simp only [aD,go_sem,ak,sevalprocAttr,aC i (by omega)]
 ·have:i=cz.length:=by omega
  subst this
  rw [List.drop_length,Dk] at ay
  rw [<- ay,if_neg (by simp)]
  have JJ:=F7 ay.symm
  simp +contextual only [go_sem,ak,sevalprocAttr,aD,ht,aF]
  intro b9 T9 rF pG oP
  refine dU [] (clX _ p (Nat.le_refl _) M1 T9 b3 0 b9 1 0 _ cz _ (db h3) (bO aP _ _ hp) (aN aP (ms aP) SL) JJ (by omega) (by omega)) ?_ (fun _ _ _ _ _ _ h=>h.elim)
  rintro r M3 L' bD yi aZ ⟨hr,rfl, -⟩
  have Lu:=fD.trans pG
  cases ni:(fz cz 1 0 p).1 with
  | ok t=>
   rw [ni] at hr
   obtain ⟨kv,rfl,K3⟩:=hr
   have JJ:=sT JJ 1 0 p ni
   simp +contextual only [go_sem,ak,sevalprocAttr]
   refine am (NJ K3 (by omega) _) ?_ (fun _ _ _ _ h=>h.elim)
   rintro r M4 ce bH hr
   simp +contextual only [go_sem,ak,sevalprocAttr]
   exact az Lu ⟨_,rfl,hr⟩
  | error er=>
   rw [ni] at hr
   obtain ⟨dh,t,rfl⟩:=hr
   simp +contextual only [go_sem,ak,sevalprocAttr,dh]
   exact az Lu ⟨dh,_,rfl⟩
open Go Vc Go.RowKit
theorem E6 {F:Fi}{c:Code}{e:dN}{ds:List Deferred}{h:Sh}(hr:cB Tryz.prog F [.code c] e ds h ⟨⟩):Uj Tryz.prog F.dr c F.k e ds h:=hr
def Uc (e:Int)(r:Bool):PanicEntry:={v:=.iface 89 (.agg #[.int .i64 e]),recovered:=r}
theorem Av (p q r:Addr)(w:World):
 CallsD Tryz.prog 28 #[.pointer (some p),.pointer (some q),.pointer (some r)] .returning w fun e u' w'=>e=.returned (.tuple #[])/\u'=.returning/\w'=w:=by
 have mixed:=mx
 refine callsD_of_wpS Tryz.func28 rfl fun c₀ cs hu=> ?_
 apply wpS_seq
 apply wpS_region
 simp [wpOpsS,go_sem,recoverD,hu,ahK,Exit.thenS]
 refine wpS_of_wp ?_
 go_wp2
 cases c₀
 simp_all [bodyPostS,results,aqI]
set_option maxHeartbeats 4000000 in
theorem Dw {w:World}{U:List Nat}{T:Tm}{M:aV}{bs:List (Option Nat)}{b4 b5 b6:Nat}{er:Int}{v0 v1 v10 v2 v3 v4 v5 v6 v7 v8 v9 vc ve:Value}(hi:Hp ⟨w,M,U⟩ ⟨T,M,[(b4,[v0,v1,v2,v3,v4,v5,v6,v7,v8,v9,v10]),(b5,[vc]),(b6,[ve])],[]⟩ w bs):
 CallsD Tryz.prog 28 #[.pointer (some ⟨b4,0,none⟩),.pointer (some ⟨b5,0,none⟩),.pointer (some ⟨b6,0,none⟩)] (.panicking [Uc er false]) w fun e u' w'=>e=.returned (.tuple #[])/\u'=.panicking [Uc er true]/\
  Dv w U T M [b4,b5,b6] 0 M [(b4,[.int .i64 0,.int .i64 0,.int .i64 0,.int .i64 0,.int .i64 0,st [],.int .i64 0,.slice none 0 0,.slice none 0 0,.slice none 0 0,.slice none 0 0]),(b5,[.slice none 0 0]),(b6,[.int .i64 er])] [] w':=by
 have mixed:=mx
 have hTA:∀ (v:Array Value) (w:World),(Instr.typeAssert (.iface 89 (.agg v)) 20 89 true).run Tryz.prog w=.ok (.tuple #[.agg v,.bool true]) w:=fun _ _=>by kernel_rfl
 refine callsD_of_wpS Tryz.func28 rfl fun c₀ cs hu=> ?_
 unfold Uc at hu
 apply wpS_seq
 apply wpS_region
 simp [wpOpsS,go_sem,recoverD,hu,ahK,Exit.thenS]
 refine wpS_of_wp ?_
 go_wp2
 have h2:=hi.alloc (t:=89) [.int .i64 er]
 have iP:=h2.apart
 have mS:=h2.nodup
 have XV:M w.heap.size=none:=(iP _ (by simp)).1
 have Oy:M b4=none:=(iP _ (by simp)).1
 have sM:M b5=none:=(iP _ (by simp)).1
 have nJ:M b6=none:=(iP _ (by simp)).1
 have hp:(¬ w.heap.size=b4/\¬ w.heap.size=b5/\¬ w.heap.size=b6/\¬ b4=b5/\¬ b4=b6/\¬ b5=b6)/\(¬ b4=w.heap.size/\¬ b5=w.heap.size/\¬ b6=w.heap.size/\¬ b5=b4/\¬ b6=b4/\¬ b6=b5):=by
  simp at mS
  grind
 refine wp_mono (kY (c₀:=⟨w,M,U⟩) (n:=15) (dr:=UJ) mx _ (Fi.k ⟨UJ,fun _ ds h=>ds=[]/\cK h (vC T [b4,b5,b6] 0 (fun _ M' L' R'=>M'=M/\L'=[(b4,[.int .i64 0,.int .i64 0,.int .i64 0,.int .i64 0,.int .i64 0,st [],.int .i64 0,.slice none 0 0,.slice none 0 0,.slice none 0 0,.slice none 0 0]),(b5,[.slice none 0 0]),(b6,[.int .i64 er])]/\R'=[]) undef),fun _ _ _ _=>False⟩)
  (fun t=>Array.getD _ t undef) [] _ _ _ (by kernel_rfl) ⟨?_,rfl,fun _=>rfl⟩ ⟨_,h2⟩ ?_) ?_
 ·simp
 ·refine E6 (F:=⟨UJ,_,_⟩) ?_
  generalize hE:(fun t=>Array.getD _ t undef)=env
  have e0:env 0=.pointer (some ⟨b4,0,none⟩):=by rw [<- hE];simp
  have e1:env 1=.pointer (some ⟨b5,0,none⟩):=by rw [<- hE];simp
  have e2:env 2=.pointer (some ⟨b6,0,none⟩):=by rw [<- hE];simp
  have e4:env 4=.pointer (some ⟨w.heap.size,0,none⟩):=by rw [<- hE];simp
  clear hE
  have hT:aH T (T.add w.heap.size 89):=hi.extT
  generalize w.heap.size=bx at*
  simp +contextual only [go_sem,ak,sevalprocAttr,e0,e1,e2,e4,XV,Oy,sM,nJ,hp]
  refine ⟨fun _ _ _ _ _ _ _ _ _ h=>h,?_⟩
  refine eR ⟨T,fun _=>none,[(bx,_)],[]⟩ (gn XV) ?_
  simp +contextual only [go_sem,ak,sevalprocAttr,e0,e1,e2,e4,XV,Oy,sM,nJ,hp]
  repeat refine ⟨gn XV,?_⟩
  exact al (aM hT rfl rfl ⟨rfl,rfl,rfl⟩)
 ·rintro ex act w' hq
  cases ex with
  | normal=>
   obtain ⟨e,ds,h,ha,hw,rfl,dw⟩:=hq
   obtain ⟨h',ix,hT,hk,hR,hM,hL,N0⟩:=dw _ _ hw
   have lJ:=kV hT ix hk hR
   rw [hM,hL,N0] at lJ
   have D4:=ha.2.1
   simp only [Exit.inBlock]
   cases c₀
   exact ⟨D4,_,rfl,.tuple #[],results_none rfl _ _ _,rfl,rfl,lJ⟩
  | ret=>
   obtain ⟨e,ds,h,ha,hw,rfl,dw⟩:=hq
   obtain ⟨h',ix,hT,hk,hR,hM,hL,N0⟩:=dw _ _ hw
   have lJ:=kV hT ix hk hR
   rw [hM,hL,N0] at lJ
   have D4:=ha.2.1
   simp only [Exit.inBlock]
   cases c₀
   exact ⟨D4,_,rfl,.tuple #[],results_none rfl _ _ _,rfl,rfl,lJ⟩
  | panic ch=>obtain ⟨_,_,_,_,_,h⟩:=hq;exact h.elim
  | exit id=>obtain ⟨_,_,_,_,_,h⟩:=hq;exact h.elim
  | goto l=>exact hq.elim
  | outgrown=>exact hq.elim
def qqD (b4 b5 b6:Nat)(ag:Array Value):Deferred:={target:=.fn (.func 28) ⟨[.pointer (some ⟨b4,0,none⟩),.pointer (some ⟨b5,0,none⟩),.pointer (some ⟨b6,0,none⟩)]⟩,args:=ag}
def QP (T:Tm)(ts:List ResultVar)(post:eP)(e:dN)(ds:List Deferred)(h:Sh):Prop:=
 ∃ b4 b5 b6 ag,ds=[qqD b4 b5 b6 ag]/\ag.toList=[]/\eU (oX Tryz.prog e h ts) fun vs=>cK h (vC T [] 0 post (wS vs))
def Et (T:Tm)(post:eP)(ch:List PanicEntry)(e:dN)(ds:List Deferred)(h:Sh):Prop:=
 ∃ b4 b5 b6 ag er,ds=[qqD b4 b5 b6 ag]/\ag.toList=[]/\e 4=.pointer (some ⟨b4,0,none⟩)/\e 5=.pointer (some ⟨b5,0,none⟩)/\e 6=.pointer (some ⟨b6,0,none⟩)/\ch=Gk er/\
  cK h fun h'=>aH T h'.N/\h'.R=[]/\(∃ v0 v1 v2 v3 v4 v5 v6 v7 v8 v9 v10 vc ve,h'.L=[(b4,[v0,v1,v2,v3,v4,v5,v6,v7,v8,v9,v10]),(b5,[vc]),(b6,[ve])])/\post (.tuple ⟨[.agg ⟨[.int .i64 0,.int .i64 0,.int .i64 0,.int .i64 0,.int .i64 0,st [],.int .i64 0,.slice none 0 0,.slice none 0 0,.slice none 0 0,.slice none 0 0]⟩,.slice none 0 0,.int .i64 er]⟩) h'.M [] []
def IA (T:Tm)(dr:List (Nat×Sched))(ts:List ResultVar)(post:eP):Fi:=⟨dr,QP T ts post,Et T post⟩
theorem XH {b4 b5 b6:Nat}{ag:Array Value}(h:ag.toList=[]):ag++(⟨[.pointer (some ⟨b4,0,none⟩),.pointer (some ⟨b5,0,none⟩),.pointer (some ⟨b6,0,none⟩)]⟩:Array Value)= #[.pointer (some ⟨b4,0,none⟩),.pointer (some ⟨b5,0,none⟩),.pointer (some ⟨b6,0,none⟩)]:=by
 apply Array.toList_inj.1
 simp [h]
theorem Bj {a:Array Value}{R:Ending ->World ->Prop}{w:World}{b4 b5 b6:Nat}{ag:Array Value}{u:FrameMode}{fn:Func}(h:ag.toList=[])(hu:u≠ .run)
 (hc:CallsD Tryz.prog 28 #[.pointer (some ⟨b4,0,none⟩),.pointer (some ⟨b5,0,none⟩),.pointer (some ⟨b6,0,none⟩)] u w fun
  | .returned _,u',w'=>Leaves Tryz.prog fn a R [] (settle u') w'
  | .panicked chain,u',w'=>Leaves Tryz.prog fn a R [] (raised u' chain) w'
  | .outgrown,_,w'=>R .outgrown w'):Leaves Tryz.prog fn a R [qqD b4 b5 b6 ag] u w:=by
 refine leaves_cons (f:=28) (args:= #[.pointer (some ⟨b4,0,none⟩),.pointer (some ⟨b5,0,none⟩),.pointer (some ⟨b6,0,none⟩)]) hu ?_ hc
 show (invoke (.fn (.func 28) _) ag).run Tryz.prog w=_
 have PJ:=Tryz.func28
 simp only [invoke,callFunc,Sem.run_bind,Sem.run_pure,Result.andThen_ok,run_program,PJ]
 rw [XH h]
 rfl
theorem XA {fn:Func}{T:Tm}{dr U M post}(hr:fn.results.toList=[.cell 4 42,.cell 5 43,.cell 6 32]){w0:World}{ex:Exit}{a:Act}{w:World}{n:Nat}
 (hq:KontL.toQ ⟨w0,M,U⟩ n (IA T dr fn.results.toList post).k ex a w):bodyPostD Tryz.prog fn (OA U T M [] 0 post bj w0) ex a w:=by
 have GG:∀ {e ds h},Fr n a e ds ->Is ⟨w0,M,U⟩ h w ->QP T fn.results.toList post e ds h ->Leaves Tryz.prog fn a.tmps (OA U T M [] 0 post bj w0) a.defers .returning w:=by
  rintro e ds h ha hw ⟨b4,b5,b6,ag,rfl,r7,hd⟩
  rw [ha.2.1]
  refine Bj r7 (by simp) ?_
  refine (Av _ _ _ w).mono ?_
  rintro en u' w' ⟨rfl,rfl,rfl⟩
  obtain ⟨vs,Ox,dw⟩:=dk hd
  obtain ⟨h',ix,hT,hk,hR,hp⟩:=dw _ _ hw
  exact ⟨_,mN hw Ox ha.2.2,h'.M,h'.L,h'.R,kV hT ix hk hR,hp⟩
 cases ex with
 | normal=>obtain ⟨e,ds,h,ha,hw,hd⟩:=hq;exact GG ha hw hd
 | ret=>obtain ⟨e,ds,h,ha,hw,hd⟩:=hq;exact GG ha hw hd
 | panic ch=>
  obtain ⟨e,ds,h,ha,hw,b4,b5,b6,ag,er,rfl,r7,e4,e5,e6,rfl,dw⟩:=hq
  show Leaves Tryz.prog fn a.tmps _ a.defers (.panicking _) w
  rw [ha.2.1]
  obtain ⟨⟨N,M',L',R'⟩,⟨bs,hi⟩,hT,hR,⟨v0,v1,v2,v3,v4,v5,v6,v7,v8,v9,v10,vc,ve,hL⟩,hp⟩:=dw _ _ hw
  simp only at hT hR hL hp
  subst hR hL
  have hbs:bs=[]:=by simpa using hi.rows.1.symm
  subst hbs
  have nu:Hp ⟨w0,M,U⟩ ⟨N,M',[]++[(b4,[v0,v1,v2,v3,v4,v5,v6,v7,v8,v9,v10]),(b5,[vc]),(b6,[ve])]++[],[]++[]++[]⟩ w ([]++[]++[]):=by simpa using hi
  have tE:=nu.enter rfl rfl
  refine Bj r7 (by simp) ?_
  refine (Dw (er:=er) tE).mono ?_
  rintro en u' w' ⟨rfl,rfl,⟨⟨bp',Di⟩,hk,hRl⟩⟩
  have D5:bp'=[]:=by simpa using Di.rows.1.symm
  subst D5
  have zH:=nu.frame (b1:=[]) (bp:=[]) (b2:=[]) rfl rfl rfl Di hk hRl
  have rN:Hp ⟨w0,M,U⟩ ⟨N,M',[(b4,[.int .i64 0,.int .i64 0,.int .i64 0,.int .i64 0,.int .i64 0,st [],.int .i64 0,.slice none 0 0,.slice none 0 0,.slice none 0 0,.slice none 0 0]),(b5,[.slice none 0 0]),(b6,[.int .i64 er])],[]⟩ w' []:=by simpa using zH
  have hIs:Is ⟨w0,M,U⟩ ⟨N,M',[(b4,[.int .i64 0,.int .i64 0,.int .i64 0,.int .i64 0,.int .i64 0,st [],.int .i64 0,.slice none 0 0,.slice none 0 0,.slice none 0 0,.slice none 0 0]),(b5,[.slice none 0 0]),(b6,[.int .i64 er])],[]⟩ w':=⟨[],rN⟩
  have Oy:M' b4=none:=(rN.apart _ (by simp)).1
  have sM:M' b5=none:=(rN.apart _ (by simp)).1
  have nJ:M' b6=none:=(rN.apart _ (by simp)).1
  have dh:(¬ b4=b5/\¬ b4=b6/\¬ b5=b6)/\(¬ b5=b4/\¬ b6=b4/\¬ b6=b5):=by
   have:=rN.nodup
   simp at this
   grind
  have ay:oX Tryz.prog e ⟨N,M',[(b4,[.int .i64 0,.int .i64 0,.int .i64 0,.int .i64 0,.int .i64 0,st [],.int .i64 0,.slice none 0 0,.slice none 0 0,.slice none 0 0,.slice none 0 0]),(b5,[.slice none 0 0]),(b6,[.int .i64 er])],[]⟩ fn.results.toList=some [.agg ⟨[.int .i64 0,.int .i64 0,.int .i64 0,.int .i64 0,.int .i64 0,st [],.int .i64 0,.slice none 0 0,.slice none 0 0,.slice none 0 0,.slice none 0 0]⟩,.slice none 0 0,.int .i64 er]:=by
   rw [hr]
   simp +contextual only [go_sem,ak,sevalprocAttr,e4,e5,e6,Oy,sM,nJ,dh]
  have OK:settle (.panicking [Uc er true])=.returning:=rfl
  show Leaves Tryz.prog fn a.tmps _ [] (settle (.panicking [Uc er true])) w'
  rw [OK]
  obtain ⟨h',ix,hT',vA,N0,vr⟩:=(az (T:=T) (R:=[]) (L:=[(b4,[.int .i64 0,.int .i64 0,.int .i64 0,.int .i64 0,.int .i64 0,st [],.int .i64 0,.slice none 0 0,.slice none 0 0,.slice none 0 0,.slice none 0 0]),(b5,[.slice none 0 0]),(b6,[.int .i64 er])]) (post:=post) (v:=.tuple ⟨[.agg ⟨[.int .i64 0,.int .i64 0,.int .i64 0,.int .i64 0,.int .i64 0,st [],.int .i64 0,.slice none 0 0,.slice none 0 0,.slice none 0 0,.slice none 0 0]⟩,.slice none 0 0,.int .i64 er]⟩) hT hp) _ _ hIs
  exact ⟨_,mN hIs ay ha.2.2,h'.M,h'.L,h'.R,kV hT' ix vA N0,vr⟩
 | exit id=>obtain ⟨_,_,_,_,_,h⟩:=hq;exact h.elim
 | goto l=>exact hq.elim
 | outgrown=>exact hq.elim
theorem Qu {f:FuncId}{fn:Func}{c:Code}{args:List Value}{dr}{T:Tm}{M post}(BO:aK Tryz.prog f=true)
 (hf:Tryz.prog.funcs[f]?=some fn) (hb:fn.body=some c) (hn:args.length<=fn.ntmps) (hc:fm Tryz.prog fn.ntmps dr c=true) (hr:fn.results.toList=[.cell 4 42,.cell 5 43,.cell 6 32])
 (h:cB Tryz.prog (IA T dr fn.results.toList post) [.code c] (rL args) [] ⟨T,M,[],[]⟩ ⟨⟩):ep Tryz.prog f args T M [] [] post bj:=by
 refine ⟨BO,fun w U hw=>calls_of_wp_defers hf hb ?_⟩
 obtain ⟨h1,h2,h3⟩:=hw.facts
 have:=kY (c₀:=⟨w,M,U⟩) mx c (IA T dr fn.results.toList post).k (rL args) [] ⟨T,M,[],[]⟩ w _ hc (fr0 args.toArray fn.ntmps (by simpa using hn)) h3 h
 exact wp_mono this fun ex a w' hq=>XA hr hq
theorem di {T dr ts post}:(IA T dr ts post).ret=QP T ts post:=(rfl)
theorem dS {T dr ts post}:(IA T dr ts post).pan=Et T post:=(rfl)
theorem dO {T dr ts post}:(IA T dr ts post).dr=dr:=(rfl)
theorem nO {T post}(ops:List Oper)(h:(ops.all fun o=>match o.dst with | some d=>d !=4 && d !=5 && d !=6 | none=>true)=true):ze (Et T post) ops:=by
 intro o ho d hd ch e v ds h' hp
 have:=List.all_eq_true.1 h o ho
 rw [hd] at this
 simp at this
 obtain ⟨b4,b5,b6,ag,er,h1,h2,h4,h5,h6,k5,k6⟩:=hp
 unfold upd at h4 h5 h6
 rw [if_neg (fun h=>(by grind))] at h4
 rw [if_neg (fun h=>(by grind))] at h5
 rw [if_neg (fun h=>(by grind))] at h6
 exact ⟨b4,b5,b6,ag,er,h1,h2,h4,h5,h6,k5,k6⟩
end Go.Proofs.YtmccpbcbofhmlaaGreatDoor

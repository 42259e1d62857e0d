import Derived.Test.YtcpjbohndglclaaGreatDoorH
import Derived.Recover
import Derived.Laws.Pointers
import Derived.Test.YtcpjbohndglclaaGreatDoorB
import Derived.Sort.LotA
set_option linter.all false
namespace Go.Proofs.YtcpjbohndglclaaGreatDoor
open Go Vc
set_option maxRecDepth 10000
theorem FE:∀ {aY:List (List Int)} {data:List (List Z)},data.length=aY.length ->wB aY data=0 ->∀ z∈data,dQ z=0
 | [],[],_,_,z,hz=>by cases hz
 | [],_::_,h,_,z,hz=>by simp at h
 | _::_,[],h,_,z,hz=>by cases hz
 | t::ts,y::zs,h,h0,z,hz=>by
  rw [wB] at h0
  obtain ⟨h1,h2⟩:=z7 h0
  rcases lQ hz with rfl | hz
  ·exact (nX h1).2
  ·exact FE (by simpa using h) h2 z hz
def RU {aY:List (List Int)}{data:List (List Z)}(h:jj aY data=0):data.length=aY.length/\∀ z∈data,dQ z=0:=by
 unfold jj at h
 split at h
 ·rename_i hl;exact ⟨hl,FE hl h⟩
 ·cases h
theorem Bz (aY:List (List Int)):∀ {l:List Pl} {d m:Nat} {cs:List (List Int)} {q:Nat},gT aY d m l=(.ok cs,q) ->cs.length=l.length/\∀ p∈l,∃ m' c q',eV aY d m' p=(.ok c,q')
 | [],d,m,cs,q,h=>by rw [gT] at h;cases h;exact ⟨rfl,fun p hp=>by cases hp⟩
 | x::l,d,m,cs,q,h=>by
  rw [gT] at h
  split at h
  ·cases h
  ·rename_i c1 m1 hp
   split at h
   ·cases h
   ·rename_i cs2 m2 hl
    simp only [Prod.mk.injEq] at h
    obtain ⟨h,_⟩:=h
    injection h with h
    obtain ⟨h1,h2⟩:=Bz aY hl
    refine ⟨by rw [<- h];simp [h1],fun p EC=> ?_⟩
    rcases lQ EC with rfl | EC
    ·exact ⟨_,_,_,hp⟩
    ·exact h2 p EC
def Q1 {aY:List (List Int)}{p:Pl}{d m:Nat}{c:List Int}{q:Nat}(h8:aY.length<=8)(htw:xB aY=0)(h:eV aY (d+1) m p=(.ok c,q)):fH aY p=.ok (gj aY p):=by
 obtain ⟨q',_,h'⟩:=wy aY p (d+1) 1 m 0 c q (by omega) (by omega) h
 have:fH aY p=.ok c:=by unfold fH;rw [if_neg (by omega),if_neg (by simp [htw]),h']
 unfold gj;rw [this]
def J0 (zs:List (List Z))(r:Except Int (List (List Z))):Except Int (List (List Z)):=match r with
 | .ok l=> .ok (zs++l)
 | .error e=> .error e
theorem FI {aY data}{p:Pl}{l:List Pl}{zs:List (List Z)}{z:List Z}(h:wD aY data p=.ok z):J0 zs (j0 aY data (p::l))=J0 (zs++[z]) (j0 aY data l):=by
 rw [j0,h]
 dsimp only
 cases j0 aY data l with
 | ok l'=>simp [J0]
 | error e=>rfl
theorem IX {aY data}{p:Pl}{l:List Pl}{zs:List (List Z)}{e:Int}(h:wD aY data p=.error e):J0 zs (j0 aY data (p::l))=.error e:=by
 rw [j0,h];rfl
def PlB (aY:List (List Int))(data:List (List Z))(p:Pl):Prop:=∀ (M:aR) (T:Tm) (bp op:Nat) (pc:List Value) (tv dv:Value),At M bp op pc ->gP M p pc ->RS M (lZ M) 1 aY tv ->RS M (RD M) 1 data dv ->(∃ d m c q,eV aY d m p=(.ok c,q)) ->wX p=true ->
 bU Tryz.prog 147 [tv,.pointer (some ⟨bp,op,none⟩),dv] T M [] [] (fun v M' _ _=>G5 (wD aY data p) v M') aM
def NH {aY:List (List Int)}{data:List (List Z)}(h8:aY.length<=8)(htw:xB aY=0)(VO:jj aY data=0):∀ (sz:Nat) (p:Pl),SizeOf.sizeOf p<=sz ->PlB aY data p:=by
 obtain ⟨AR,hdz⟩:=RU VO
 intro sz
 induction sz with
 | zero=>intro p hp;cases p;simp at hp
 | succ sz ih=>
  rintro ⟨k,n,x,xs,ags,kids⟩ ed M T bp op pc tv dv bP hp nG SD ⟨d,m,c,q,eD⟩ mm
  rw [wX,Bool.and_eq_true,Bool.or_eq_true,decide_eq_true_eq] at mm
  rw [eV] at eD
  split at eD
  ·cases eD
  split at eD
  ·cases eD
  split at eD
  ·cases eD
  rename_i nU EB lr
  split at eD
  ·cases eD
  rename_i cs m1 cK
  simp only [Prod.mk.injEq] at eD
  obtain ⟨j2,_⟩:=eD
  have xj:=hp
  obtain ⟨s1,a1,n1,a2,n2,a3,n3,rfl,ox,_,fq,FO,mV⟩:=dj hp
  have uk:=bP
  obtain ⟨y0,y1,y2,y3,y4,y5,y6,y7,y8,y9,y10,_⟩:=bP
  simp only [Pl.k,Pl.n,Pl.kids] at y0 y1 y10 mV
  obtain ⟨_,da,dc,rfl,_⟩:=ax (by decide) (fun _ _=>gW) SD
  obtain ⟨S,hS⟩:∃ S,S=wD aY data (.mk k n x xs ags kids):=⟨_,rfl⟩
  rw [<- hS]
  rw [wD] at hS
  refine az ad5 rfl rfl ?_
  intro bj _
  by_cases hk:k=1
  ·rw [if_pos hk] at hS
   unfold lj at j2
   simp only [if_pos hk] at j2
   split at j2
   rotate_left
   ·cases j2
   rename_i hn
   obtain ⟨db,do',v0,rfl,m0,uU⟩:=oJ SD (i:=n.toNat) (by omega)
   have VT:n<(data.length:Int):=by omega
   have pr:data.getD n.toNat []∈data:=by
    rw [List.getD_eq_getElem?_getD,gq (by omega)];exact gm (by omega)
   obtain ⟨hz4,hz8⟩:=kT (hdz _ pr)
   simp +contextual only [go_sem,aD,sevalprocAttr,y0,y1,hk,hn.1,VT,m0]
   refine aF (vm uU (by omega) (fun r hr=>by have:=hz8 r hr;omega) _) ?_
   rintro v M1 aW bD hv
   rw [<- hS] at hv
   obtain ⟨s,e,rfl⟩:=mw hv
   simp +contextual only [go_sem,sevalprocAttr]
   exact ak aG.rfl' hv
  ·rw [if_neg hk] at hS
   simp +contextual only [go_sem,aD,sevalprocAttr,y0,y10,hk]
   obtain ⟨apI,akE⟩:=Bz aY cK
   obtain ⟨_,ka,kc,hke,ak3,_,hkg⟩:=ax (by decide) (fun _ _=>jx) mV
   cases hke
   have vG:j0 aY data kids=J0 [] (j0 aY data (kids.drop 0)):=by rw [List.drop_zero];cases j0 aY data kids<;>rfl
   have rV:kids.length<=2:=by
    have hh:=lr
    simp only [ne_eq,Decidable.not_not] at hh
    unfold iF at hh
    repeat' split at hh
    all_goals omega
   refine bR kids.length 35 [(0,tv),(1,.pointer (some ⟨bp,op,none⟩)),(2,.slice da data.length dc),(34,.int .i64 (kids.length:Int))] (fun i e h=>∃ N' M' L' R' cv zv zs,aG T N'/\bm M M'/\h=⟨N',M',L',R'⟩/\e 8=cv/\e 9=zv/\kY 53 1 (lZ M') [] R' cv ((kids.take i).map (gj aY))/\eo 32 1 (RD M') M' N' zs zv L'/\zs.length=i/\j0 aY data kids=J0 zs (j0 aY data (kids.drop i))) 0 (by omega) (by simp only [aE,go_sem,sevalprocAttr]) (by simp only [go_sem,sevalprocAttr]) (aC ⟨T,M,[],[],_,_,[],aG.rfl',bm.rfl',rfl,by simp only [go_sem,sevalprocAttr],by simp only [go_sem,sevalprocAttr],cV,.inl ⟨rfl,rfl,rfl⟩,rfl,vG⟩) ?_
   rintro i e h hi aI lO ⟨T1,M1,L1,R1,cv,zv,zs,cY,aW,rfl,e8,e9,bq,LC,pD,Zt⟩
   simp only [aE] at aI
   rw [Zt] at hS
   by_cases aL:i<kids.length
   ·obtain ⟨b',o',kcs,rfl,vz,SW⟩:=hkg i kids[i] (gq aL)
    have pr:=gm aL
    obtain ⟨mk,ck,qk,hck⟩:=akE _ pr
    have hcK:=Q1 h8 htw hck
    have Jt:SizeOf.sizeOf kids[i]<=sz:=by
     have:=List.sizeOf_lt_of_mem pr
     simp at ed;omega
    have y10':=ay aW y10
    rw [dq aL] at hS Zt
    simp +contextual only [go_sem,aD,sevalprocAttr,aI,lO,aL,y10']
    refine aF (ih kids[i] Jt M1 _ b' _ kcs tv _ (vz.ext aW) (bA aW _ _ SW) (aH aW (cO aW) nG) (aH aW (dD aW) SD) ⟨_,_,_,_,hck⟩ (Ar mm.2 _ pr)) ?_
    rintro v M2 bh aZ hv
    have eb:=aW.trans bh
    have y10'':=ay eb y10
    cases hz:wD aY data kids[i] with
    | error er=>
     rw [hz] at hv
     obtain ⟨cm,rfl⟩:=hv
     rw [IX hz] at hS
     simp +contextual only [go_sem,aD,sevalprocAttr,cm]
     refine bY (bM (ak cY ?_))
     rw [hS];exact ⟨cm,rfl⟩
    | ok z=>
     rw [hz] at hv
     obtain ⟨zs',rfl,agy⟩:=hv
     rw [FI hz] at hS Zt
     obtain ⟨t1,p1,m1',p2,m2',p3,m3',rfl,ox2,_⟩:=dj SW
     obtain ⟨x0,x1,x2,x3,x4,x5,x6,x7,x8,x9,x10,_⟩:=vz.ext eb
     simp +contextual only [go_sem,aD,sevalprocAttr,aI,aL,y10'',x0,x1,x2,x3,x4,x5,x6,x7,x8,x9,x10]
     refine aF (tO (aH eb (cO eb) nG) (bA eb _ _ SW) _) ?_
     rintro v3 M3 bG bC H0
     rw [hcK] at H0
     obtain ⟨sv,rfl,sW⟩:=H0
     have tw:=eb.trans bG
     have Zg:=bh.trans bG
     obtain ⟨_,sva,svc,rfl,_⟩:=ax (by decide) (fun _ _=>cE) sW
     obtain ⟨_,za,zc,rfl,_⟩:=ax (by decide) (fun _ _=>bi) agy
     simp +contextual only [go_sem,sevalprocAttr,e8]
     intro b67 akq amR
     refine cB (Tryz.underlying130) An zX (x:=gj aY kids[i]) (fY (cO Zg) bq) ⟨_,rfl,sW⟩ (fun _ _=>cQ) (by simp [Value.oneCell']) akq (by rw [List.length_map,List.length_take];omega) (by decide) ?_
     intro cv' R' bw
     simp +contextual only [go_sem,sevalprocAttr,e9]
     intro b71 Jg ly
     have acd:eo 32 1 (RD M3) M3 T1 zs zv L1:=fC (dD Zg) bC LC
     have al5:=cz bG agy
     refine qO (L1:=[(b67,[.slice sva (gj aY kids[i]).length svc])]) (Tryz.underlying87) wW wS (x:=z) acd ⟨_,rfl,al5⟩ rfl (by simp [Value.oneCell']) Jg (by omega) (by decide) ?_
     intro N4 lv' g cs' B4 uj ace
     simp +contextual only [go_sem,sevalprocAttr,lO]
     have fQ:(kids.take i).map (gj aY)++[gj aY kids[i]]=(kids.take (i+1)).map (gj aY):=by
      rw [<- List.take_append_getElem aL,List.map_append];rfl
     rw [fQ] at bw
     refine aS (dk (List.perm_append_comm (l₁:=[_])) (al (al (aC ⟨kids.length - (i+1),by omega,rfl,i+1,by omega,rfl,?_,?_,N4,M3,_,R',cv',lv',zs++[z],cY.trans B4,tw,rfl,?_,?_,bw,ace,?_,?_⟩))))
     ·simp only [aE,aI,go_sem,sevalprocAttr]
     ·simp only [go_sem,sevalprocAttr,aA i (by omega)]
     ·simp only [go_sem,sevalprocAttr]
     ·simp only [go_sem,sevalprocAttr]
     ·rw [List.length_append];simp [pD]
     ·exact Zt
   ·have:i=kids.length:=by omega
    subst this
    rw [List.drop_length,j0] at hS
    rw [List.take_length] at bq
    simp only [J0,List.append_nil] at hS
    obtain ⟨_,_,rfl⟩:=eI bq
    obtain ⟨_,_,rfl⟩:=di LC
    simp +contextual only [go_sem,aD,sevalprocAttr,aI,lO,aL,e8,e9]
    have bD:aJ M1 L1:=by
     rcases LC with ⟨_,_,rfl⟩ | ⟨g,cap,cs0,junk,_,rfl,_,_,_,_,_,hg⟩
     ·trivial
     ·exact ⟨hg,trivial⟩
    refine kJ P7.bd bq (by rw [List.length_map];omega) (by decide) bD fun M2 bh aZ cH=> ?_
    have acb:=fC (dD bh) aZ LC
    refine cD (k:=fun h'=>∃ M3,bm M2 M3/\RS M3 (RD M3) 1 zs (.slice _ zs.length _)/\h'=⟨T1,M3,[],[]⟩) (by
     rw [<- List.append_nil L1]
     exact kZ (L2:=[]) acb (by omega) trivial fun M3 bG _ ZJ=>aC ⟨M3,bG,aH bm.rfl' (dD bG) ZJ,rfl⟩) ?_ P7.bd
    rintro h' ⟨M3,bG,ZJ,rfl⟩
    have Zg:=bh.trans bG
    have tw:=aW.trans Zg
    have hkk:1<=kids.length/\(4<=k/\k<=9 ->2<=kids.length):=by
     have hh:=lr
     simp only [ne_eq,Decidable.not_not] at hh
     unfold iF at hh EB
     repeat' split at hh
     all_goals (repeat' split at EB)<;>(constructor<;>omega)
    have hml:(kids.map (gj aY)).length=kids.length:=List.length_map ..
    refine aF (Ra (p:=.mk k n x xs ags kids) (uk.ext tw) (bA tw _ _ xj) (aH bG (cO bG) (aH bm.rfl' (cO bh) cH)) ZJ (by omega) (fun h=>by have:=hkk.2 h;omega) (mm.1.resolve_left hk) _) ?_
    rintro v M4 dz de hv
    have hSS:S=se (.mk k n x xs ags kids) (kids.map (gj aY)) zs:=hS
    rw [<- hSS] at hv
    obtain ⟨s,e,rfl⟩:=mw hv
    simp +contextual only [go_sem,sevalprocAttr]
    exact ak cY hv
variable {M:aR}
def UX {res:Except Int (List Int)}{v:Value}{M:aR}(h:Hu res v M):∃ s,v=.tuple ⟨[s,.int .i64 (xb res)]⟩:=by
 cases res with
 | ok l=>obtain ⟨s,h,_⟩:=h;exact ⟨s,h⟩
 | error e=>obtain ⟨_,s,h⟩:=h;exact ⟨s,h⟩
def WF {aY:List (List Int)}{data:List (List Z)}{p:Pl}{pc:List Value}{tv dv:Value}(nG:RS M (lZ M) 1 aY tv)(hp:gP M p pc)(SD:RS M (RD M) 1 data dv)(cm:∀ e,fH aY p=.error e ->e≠0)(mm:wX p=true)(T:Tm):
 bU Tryz.prog 95 [tv,.agg ⟨pc⟩,dv] T M [] [] (fun v M' _ _=>G5 (BS aY p data) v M') aM:=by
 have xj:=hp
 obtain ⟨s1,a1,n1,a2,n2,a3,n3,rfl,ox,_⟩:=dj hp
 obtain ⟨S,hS⟩:∃ S,S=BS aY p data:=⟨_,rfl⟩
 rw [<- hS]
 unfold BS at hS
 unfold O3 at xj
 refine az F95 rfl rfl ?_
 intro bj _
 unfold O3
 simp +contextual only [go_sem,sevalprocAttr]
 intro b4 T4 eH fE iJ
 refine aF (tO nG xj _) ?_
 rintro v0 M0 AQ ab5 rX
 obtain ⟨s0,rfl⟩:=UX rX
 cases hc:fH aY p with
 | error er=>
  rw [hc] at hS
  have he:xb (fH aY p)=er:=by rw [hc];rfl
  have her:=cm _ hc
  simp +contextual only [go_sem,aD,sevalprocAttr,xb,her]
  refine al (ak fE ?_)
  rw [hS];exact ⟨her,rfl⟩
 | ok c=>
  rw [hc] at hS
  simp +contextual only [go_sem,aD,sevalprocAttr,xb]
  refine aP (Dw (aH AQ (cO AQ) nG) (aH AQ (dD AQ) SD) _) ?_
  by_cases hd:jj aY data=0
  rotate_left
  ·simp only [if_neg hd] at hS
   simp +contextual only [go_sem,aD,sevalprocAttr,hd]
   refine al (ak fE ?_)
   rw [hS];exact ⟨hd,rfl⟩
  simp only [if_pos hd] at hS
  have h8:aY.length<=8:=by
   have:=hc;unfold fH at this
   split at this
   ·cases this
   ·omega
  have htw:xB aY=0:=by
   have:=hc;unfold fH at this
   split at this
   ·cases this
   split at this
   ·cases this
   ·rename_i h;simpa using h
  have hcp:∃ d m c q,eV aY d m p=(.ok c,q):=by
   have:=hc;unfold fH at this
   rw [if_neg (by omega),if_neg (by simp [htw])] at this
   exact ⟨1,0,c,(eV aY 1 0 p).2,Prod.ext this rfl⟩
  simp +contextual only [go_sem,aD,sevalprocAttr,hd]
  refine o9 [] ad5.bd fun M1 aW akn _=> ?_
  have B3:=AQ.trans aW
  refine aF (NH h8 htw hd _ p (Nat.le_refl _) M1 _ b4 0 _ _ _ (jJ akn _ 0 (fun i v h=>by rw [Nat.zero_add];exact h)) (bA B3 _ _ xj) (aH B3 (cO B3) nG) (aH B3 (dD B3) SD) hcp mm) ?_
  rintro v M2 bh _ hv
  rw [<- hS] at hv
  obtain ⟨s,e,rfl⟩:=mw hv
  simp +contextual only [go_sem,sevalprocAttr]
  exact ak fE hv
variable {M:aR}
theorem Rd {l:List Z}{av bv:Value}(ha:RS M (RZ M) 2 l av)(hb:RS M (RZ M) 2 l bv)(T:Tm):bU Tryz.prog 9 [av,bv] T M [] [] (fun r _ _ _=>r=.bool true) aM:=by
 obtain ⟨fp,aa,ac,rfl,cX,_,hg⟩:=ax (by decide) (fun _ _=>bi) ha
 obtain ⟨_,ba,bc,rfl,pq,_,xh⟩:=ax (by decide) (fun _ _=>bi) hb
 refine az F9 rfl rfl ?_
 intro bj _
 simp +contextual only [go_sem,aD,sevalprocAttr]
 refine aO l.length 14 [(0,.slice aa l.length ac),(1,.slice ba l.length bc),(13,.int .i64 (l.length:Int))] (fun i e h=>h=⟨T,M,[],[]⟩) 0 (by omega) (by simp only [aE,go_sem,sevalprocAttr]) (by simp only [go_sem,sevalprocAttr]) rfl ?_
 rintro i e h hi aI ht rfl
 simp only [aE] at aI
 by_cases aL:i<l.length
 ·obtain ⟨b',o',cs',rfl,bP,v1,hr1,rfl⟩:=hg i l[i] (gq aL)
  obtain ⟨b2,o2,cs2,rfl,oU,v2,hr2,rfl⟩:=xh i l[i] (gq aL)
  obtain ⟨y0,y1,_⟩:=bP
  obtain ⟨x0,x1,_⟩:=oU
  obtain ⟨_,pa,pc,rfl,_,_,hp⟩:=ax (by decide) (fun _ _=>eK) hr1
  obtain ⟨_,qa,qc,rfl,_,_,hq⟩:=ax (by decide) (fun _ _=>eK) hr2
  simp +contextual only [go_sem,aD,sevalprocAttr,aI,ht,aL]
  refine aT ?_
  simp +contextual only [go_sem,aD,sevalprocAttr,aI,aL,y0,y1,x0,x1]
  refine aO l[i].row.length 49 [(0,.slice (some ⟨b',o',none⟩) l.length ac),(1,.slice (some ⟨b2,o2,none⟩) l.length bc),(13,.int .i64 (l.length:Int)),(14,.int .i64 (i:Int)),(5,.int .i64 (i:Int)),(48,.int .i64 (l[i].row.length:Int))] (fun j e h=>h=⟨T,M,[],[]⟩) 0 (by omega) (by simp only [aE,go_sem,sevalprocAttr,aI,ht]) (by simp only [go_sem,sevalprocAttr]) rfl ?_
  clear aI ht
  rintro j e h hj aI ht rfl
  simp only [aE] at aI
  by_cases xV:j<l[i].row.length
  ·obtain ⟨pb,po,pcs,rfl,abt,j3⟩:=hp j l[i].row[j] (gq xV)
   obtain ⟨qb,qo,qcs,rfl,akc,nu⟩:=hq j l[i].row[j] (gq xV)
   unfold RV V.cs at j3 nu
   subst j3 nu
   obtain ⟨z0,z1,z2,_⟩:=abt
   obtain ⟨w0,w1,w2,_⟩:=akc
   simp +contextual only [go_sem,aD,sevalprocAttr,aI,ht,xV]
   refine aT ?_
   simp +contextual only [go_sem,aD,sevalprocAttr,aI,ht,aL,xV,y0,x0,z0,z1,z2,w0,w1,w2,acF]
   refine aS (aC ⟨l[i].row.length - (j+1),by omega,rfl,j+1,by omega,rfl,?_,?_,rfl⟩)
   ·simp only [aE,aI,go_sem,sevalprocAttr]
   ·simp only [go_sem,sevalprocAttr,aA j (by omega)]
  ·have:j=l[i].row.length:=by omega
   subst this
   simp +contextual only [go_sem,aD,sevalprocAttr,aI,ht,xV]
   refine aS (aC ⟨l.length - (i+1),by omega,rfl,i+1,by omega,rfl,?_,?_,rfl⟩)
   ·simp only [aE,aI,go_sem,sevalprocAttr]
   ·simp only [go_sem,sevalprocAttr,aA i (by omega)]
 ·have:i=l.length:=by omega
  subst this
  simp +contextual only [go_sem,aD,sevalprocAttr,aI,ht,aL]
  exact ak aG.rfl' rfl
open Go Vc Go.RowKit
def HJ {F:Fi}{c:Code}{e:dx}{ds:List Deferred}{h:Sh}(hr:cA Tryz.prog F [.code c] e ds h ⟨⟩):VW Tryz.prog F.dr c F.k e ds h:=hr
def TN (e:Int)(r:Bool):PanicEntry:={v:=.iface 172 (.agg #[.int .i64 e]),recovered:=r}
def Bh (p q r:Addr)(w:World):
 CallsD Tryz.prog 90 #[.pointer (some p),.pointer (some q),.pointer (some r)] .returning w fun e u' w'=>e=.returned (.tuple #[])/\u'=.returning/\w'=w:=by
 have mixed:=mx
 refine callsD_of_wpS Tryz.func90 rfl fun c₀ cs hu=> ?_
 apply wpS_seq
 apply wpS_region
 simp [wpOpsS,go_sem,recoverD,hu,Exit.thenS]
 refine wpS_of_wp ?_
 go_wp2
 cases c₀
 simp_all [bodyPostS,results]
set_option maxHeartbeats 4000000 in
def Ev {w:World}{U:List Nat}{T:Tm}{M:aR}{bs:List (Option Nat)}{b4 b5 b6:Nat}{er:Int}{v0 v1 v10 v2 v3 v4 v5 v6 v7 v8 v9 vc ve:Value}(hi:Hp ⟨w,M,U⟩ ⟨T,M,[(b4,[v0,v1,v2,v3,v4,v5,v6,v7,v8,v9,v10]),(b5,[vc]),(b6,[ve])],[]⟩ w bs):
 CallsD Tryz.prog 90 #[.pointer (some ⟨b4,0,none⟩),.pointer (some ⟨b5,0,none⟩),.pointer (some ⟨b6,0,none⟩)] (.panicking [TN er false]) w fun e u' w'=>e=.returned (.tuple #[])/\u'=.panicking [TN er true]/\
  AU w U T M [b4,b5,b6] 0 M [(b4,[.int .i64 0,.int .i64 0,.int .i64 0,.int .i64 0,.int .i64 0,st [],.int .i64 0,.slice none 0 0,.slice none 0 0,.slice none 0 0,.slice none 0 0]),(b5,[.slice none 0 0]),(b6,[.int .i64 er])] [] w':=by
 have mixed:=mx
 have hTA:∀ (v:Array Value) (w:World),(Instr.typeAssert (.iface 172 (.agg v)) 20 172 true).run Tryz.prog w=.ok (.tuple #[.agg v,.bool true]) w:=fun _ _=>by kernel_rfl
 refine callsD_of_wpS Tryz.func90 rfl fun c₀ cs hu=> ?_
 unfold TN at hu
 apply wpS_seq
 apply wpS_region
 simp [wpOpsS,go_sem,recoverD,hu,Exit.thenS]
 refine wpS_of_wp ?_
 go_wp2
 have h2:=hi.alloc (t:=172) [.int .i64 er]
 have iC:=h2.apart
 have jo:=h2.nodup
 have hns:M w.heap.size=none:=(iC _ (by simp)).1
 have hn0:M b4=none:=(iC _ (by simp)).1
 have A3:M b5=none:=(iC _ (by simp)).1
 have pt:M b6=none:=(iC _ (by simp)).1
 have hp:(¬ w.heap.size=b4/\¬ w.heap.size=b5/\¬ w.heap.size=b6/\¬ b4=b5/\¬ b4=b6/\¬ b5=b6)/\(¬ b4=w.heap.size/\¬ b5=w.heap.size/\¬ b6=w.heap.size/\¬ b5=b4/\¬ b6=b4/\¬ b6=b5):=by
  simp at jo
  grind
 refine wp_mono (jR (c₀:=⟨w,M,U⟩) (n:=15) (dr:=[(7,.take 0<| .take 1<| .take 2<| .eff 3 false (.eff 4 false (.eff 5 true (.done)<| .no)<| .no)<| .no)]) mx _ (Fi.k ⟨[(7,.take 0<| .take 1<| .take 2<| .eff 3 false (.eff 4 false (.eff 5 true (.done)<| .no)<| .no)<| .no)],fun _ ds h=>ds=[]/\cq h (vt T [b4,b5,b6] 0 (fun _ M' L' R'=>M'=M/\L'=[(b4,[.int .i64 0,.int .i64 0,.int .i64 0,.int .i64 0,.int .i64 0,st [],.int .i64 0,.slice none 0 0,.slice none 0 0,.slice none 0 0,.slice none 0 0]),(b5,[.slice none 0 0]),(b6,[.int .i64 er])]/\R'=[]) undef),fun _ _ _ _=>False⟩)
  (fun t=>Array.getD _ t undef) [] _ _ _ (by kernel_rfl) ⟨?_,rfl,fun _=>rfl⟩ ⟨_,h2⟩ ?_) ?_
 ·simp
 ·refine HJ (F:=⟨[(7,.take 0<| .take 1<| .take 2<| .eff 3 false (.eff 4 false (.eff 5 true (.done)<| .no)<| .no)<| .no)],_,_⟩) ?_
  generalize hE:(fun t=>Array.getD _ t undef)=env
  have e0:env 0=.pointer (some ⟨b4,0,none⟩):=by rw [<- hE];simp
  have e1:env 1=.pointer (some ⟨b5,0,none⟩):=by rw [<- hE];simp
  have e2:env 2=.pointer (some ⟨b6,0,none⟩):=by rw [<- hE];simp
  have e4:env 4=.pointer (some ⟨w.heap.size,0,none⟩):=by rw [<- hE];simp
  clear hE
  have hT:aG T (T.add w.heap.size 172):=hi.extT
  generalize w.heap.size=bx at*
  simp +contextual only [go_sem,sevalprocAttr]
  refine ⟨fun _ _ _ _ _ _ _ _ _ h=>h,?_⟩
  refine eG ⟨T,fun _=>none,[(bx,_)],[]⟩ (gH hns) ?_
  simp +contextual only [go_sem,sevalprocAttr,e0,e1,e2,e4,hp]
  repeat refine ⟨gH hns,?_⟩
  exact al (aQ hT rfl rfl ⟨rfl,rfl,rfl⟩)
 ·rintro ex act w' hq
  cases ex with
  | normal=>
   obtain ⟨e,ds,h,ha,hw,rfl,cK⟩:=hq
   obtain ⟨h',gn,hT,hk,hR,hM,hL,Om⟩:=cK _ _ hw
   have iP:=kF hT gn hk hR
   rw [hM,hL,Om] at iP
   have uS:=ha.2.1
   simp only [Exit.inBlock]
   cases c₀
   exact ⟨uS,_,rfl,.tuple #[],results_none rfl _ _ _,rfl,rfl,iP⟩
  | ret=>
   obtain ⟨e,ds,h,ha,hw,rfl,cK⟩:=hq
   obtain ⟨h',gn,hT,hk,hR,hM,hL,Om⟩:=cK _ _ hw
   have iP:=kF hT gn hk hR
   rw [hM,hL,Om] at iP
   have uS:=ha.2.1
   simp only [Exit.inBlock]
   cases c₀
   exact ⟨uS,_,rfl,.tuple #[],results_none rfl _ _ _,rfl,rfl,iP⟩
  | panic ch=>obtain ⟨_,_,_,_,_,h⟩:=hq;exact h.elim
  | exit id=>obtain ⟨_,_,_,_,_,h⟩:=hq;exact h.elim
  | goto l=>exact hq.elim
  | outgrown=>exact hq.elim
def qqD (b4 b5 b6:Nat)(ag:Array Value):Deferred:={target:=.fn (.func 90) ⟨[.pointer (some ⟨b4,0,none⟩),.pointer (some ⟨b5,0,none⟩),.pointer (some ⟨b6,0,none⟩)]⟩,args:=ag}
def Ua (T:Tm)(ts:List ResultVar)(post:ep)(e:dx)(ds:List Deferred)(h:Sh):Prop:=
 ∃ b4 b5 b6 ag,ds=[qqD b4 b5 b6 ag]/\ag.toList=[]/\ea (mu Tryz.prog e h ts) fun vs=>cq h (vt T [] 0 post (uM vs))
def GU (T:Tm)(post:ep)(ch:List PanicEntry)(e:dx)(ds:List Deferred)(h:Sh):Prop:=
 ∃ b4 b5 b6 ag er,ds=[qqD b4 b5 b6 ag]/\ag.toList=[]/\e 4=.pointer (some ⟨b4,0,none⟩)/\e 5=.pointer (some ⟨b5,0,none⟩)/\e 6=.pointer (some ⟨b6,0,none⟩)/\ch=GH er/\
  cq h fun h'=>aG T h'.N/\h'.R=[]/\(∃ v0 v1 v2 v3 v4 v5 v6 v7 v8 v9 v10 vc ve,h'.L=[(b4,[v0,v1,v2,v3,v4,v5,v6,v7,v8,v9,v10]),(b5,[vc]),(b6,[ve])])/\post (.tuple ⟨[.agg ⟨[.int .i64 0,.int .i64 0,.int .i64 0,.int .i64 0,.int .i64 0,st [],.int .i64 0,.slice none 0 0,.slice none 0 0,.slice none 0 0,.slice none 0 0]⟩,.slice none 0 0,.int .i64 er]⟩) h'.M [] []
def J2 (T:Tm)(dr:List (Nat×Sched))(ts:List ResultVar)(post:ep):Fi:=⟨dr,Ua T ts post,GU T post⟩
def Yj {b4 b5 b6:Nat}{ag:Array Value}(h:ag.toList=[]):ag++(⟨[.pointer (some ⟨b4,0,none⟩),.pointer (some ⟨b5,0,none⟩),.pointer (some ⟨b6,0,none⟩)]⟩:Array Value)= #[.pointer (some ⟨b4,0,none⟩),.pointer (some ⟨b5,0,none⟩),.pointer (some ⟨b6,0,none⟩)]:=by
 apply Array.toList_inj.1
 simp [h]
theorem Cy {a:Array Value}{R:Ending ->World ->Prop}{w:World}{b4 b5 b6:Nat}{ag:Array Value}{u:FrameMode}{fn:Func}(h:ag.toList=[])(hu:u≠ .run)
 (hc:CallsD Tryz.prog 90 #[.pointer (some ⟨b4,0,none⟩),.pointer (some ⟨b5,0,none⟩),.pointer (some ⟨b6,0,none⟩)] u w fun
  | .returned _,u',w'=>Leaves Tryz.prog fn a R [] (settle u') w'
  | .panicked chain,u',w'=>Leaves Tryz.prog fn a R [] (raised u' chain) w'
  | .outgrown,_,w'=>R .outgrown w'):Leaves Tryz.prog fn a R [qqD b4 b5 b6 ag] u w:=by
 refine leaves_cons (f:=90) (args:= #[.pointer (some ⟨b4,0,none⟩),.pointer (some ⟨b5,0,none⟩),.pointer (some ⟨b6,0,none⟩)]) hu ?_ hc
 show (invoke (.fn (.func 90) _) ag).run Tryz.prog w=_
 have SH:=Tryz.func90
 simp only [invoke,callFunc,Sem.run_bind,Result.andThen_ok,run_program,SH]
 rw [Yj h]
 rfl
def Yk {fn:Func}{T:Tm}{dr U M post}(hr:fn.results.toList=[.cell 4 120,.cell 5 51,.cell 6 33]){w0:World}{ex:Exit}{a:Act}{w:World}{n:Nat}
 (hq:KontL.toQ ⟨w0,M,U⟩ n (J2 T dr fn.results.toList post).k ex a w):bodyPostD Tryz.prog fn (PO U T M [] 0 post aM w0) ex a w:=by
 have F0:∀ {e ds h},Fr n a e ds ->Is ⟨w0,M,U⟩ h w ->Ua T fn.results.toList post e ds h ->Leaves Tryz.prog fn a.tmps (PO U T M [] 0 post aM w0) a.defers .returning w:=by
  rintro e ds h ha hw ⟨b4,b5,b6,ag,rfl,PU,hd⟩
  rw [ha.2.1]
  refine Cy PU (by simp) ?_
  refine (Bh _ _ _ w).mono ?_
  rintro en u' w' ⟨rfl,rfl,rfl⟩
  obtain ⟨vs,H1,cK⟩:=cJ hd
  obtain ⟨h',gn,hT,hk,hR,hp⟩:=cK _ _ hw
  exact ⟨_,j8 hw H1 ha.2.2,h'.M,h'.L,h'.R,kF hT gn hk hR,hp⟩
 cases ex with
 | normal=>obtain ⟨e,ds,h,ha,hw,hd⟩:=hq;exact F0 ha hw hd
 | ret=>obtain ⟨e,ds,h,ha,hw,hd⟩:=hq;exact F0 ha hw hd
 | panic ch=>
  obtain ⟨e,ds,h,ha,hw,b4,b5,b6,ag,er,rfl,PU,e4,e5,e6,rfl,cK⟩:=hq
  show Leaves Tryz.prog fn a.tmps _ a.defers (.panicking _) w
  rw [ha.2.1]
  obtain ⟨⟨N,M',L',R'⟩,⟨bs,hi⟩,hT,hR,⟨v0,v1,v2,v3,v4,v5,v6,v7,v8,v9,v10,vc,ve,hL⟩,hp⟩:=cK _ _ hw
  simp only at hT hR hL hp
  subst hR hL
  have hbs:bs=[]:=by simpa using hi.rows.1.symm
  subst hbs
  have ku:Hp ⟨w0,M,U⟩ ⟨N,M',[]++[(b4,[v0,v1,v2,v3,v4,v5,v6,v7,v8,v9,v10]),(b5,[vc]),(b6,[ve])]++[],[]++[]++[]⟩ w ([]++[]++[]):=by simpa using hi
  have zm:=ku.enter rfl rfl
  refine Cy PU (by simp) ?_
  refine (Ev (er:=er) zm).mono ?_
  rintro en u' w' ⟨rfl,rfl,⟨⟨bp',sT⟩,hk,hRl⟩⟩
  have Zm:bp'=[]:=by simpa using sT.rows.1.symm
  subst Zm
  have nF:=ku.frame (b1:=[]) (bp:=[]) (b2:=[]) rfl rfl rfl sT hk hRl
  have vD:Hp ⟨w0,M,U⟩ ⟨N,M',[(b4,[.int .i64 0,.int .i64 0,.int .i64 0,.int .i64 0,.int .i64 0,st [],.int .i64 0,.slice none 0 0,.slice none 0 0,.slice none 0 0,.slice none 0 0]),(b5,[.slice none 0 0]),(b6,[.int .i64 er])],[]⟩ w' []:=by simpa using nF
  have hIs:Is ⟨w0,M,U⟩ ⟨N,M',[(b4,[.int .i64 0,.int .i64 0,.int .i64 0,.int .i64 0,.int .i64 0,st [],.int .i64 0,.slice none 0 0,.slice none 0 0,.slice none 0 0,.slice none 0 0]),(b5,[.slice none 0 0]),(b6,[.int .i64 er])],[]⟩ w':=⟨[],vD⟩
  have hn0:M' b4=none:=(vD.apart _ (by simp)).1
  have A3:M' b5=none:=(vD.apart _ (by simp)).1
  have pt:M' b6=none:=(vD.apart _ (by simp)).1
  have cm:(¬ b4=b5/\¬ b4=b6/\¬ b5=b6)/\(¬ b5=b4/\¬ b6=b4/\¬ b6=b5):=by
   have:=vD.nodup
   simp at this
   grind
  have am:mu Tryz.prog e ⟨N,M',[(b4,[.int .i64 0,.int .i64 0,.int .i64 0,.int .i64 0,.int .i64 0,st [],.int .i64 0,.slice none 0 0,.slice none 0 0,.slice none 0 0,.slice none 0 0]),(b5,[.slice none 0 0]),(b6,[.int .i64 er])],[]⟩ fn.results.toList=some [.agg ⟨[.int .i64 0,.int .i64 0,.int .i64 0,.int .i64 0,.int .i64 0,st [],.int .i64 0,.slice none 0 0,.slice none 0 0,.slice none 0 0,.slice none 0 0]⟩,.slice none 0 0,.int .i64 er]:=by
   rw [hr]
   simp +contextual only [go_sem,sevalprocAttr,e4,e5,e6,hn0,A3,pt,cm]
  have S0:settle (.panicking [TN er true])=.returning:=rfl
  show Leaves Tryz.prog fn a.tmps _ [] (settle (.panicking [TN er true])) w'
  rw [S0]
  obtain ⟨h',gn,hT',Oy,Om,EC⟩:=(ak (T:=T) (R:=[]) (L:=[(b4,[.int .i64 0,.int .i64 0,.int .i64 0,.int .i64 0,.int .i64 0,st [],.int .i64 0,.slice none 0 0,.slice none 0 0,.slice none 0 0,.slice none 0 0]),(b5,[.slice none 0 0]),(b6,[.int .i64 er])]) (post:=post) (v:=.tuple ⟨[.agg ⟨[.int .i64 0,.int .i64 0,.int .i64 0,.int .i64 0,.int .i64 0,st [],.int .i64 0,.slice none 0 0,.slice none 0 0,.slice none 0 0,.slice none 0 0]⟩,.slice none 0 0,.int .i64 er]⟩) hT hp) _ _ hIs
  exact ⟨_,j8 hIs am ha.2.2,h'.M,h'.L,h'.R,kF hT' gn Oy Om,EC⟩
 | exit id=>obtain ⟨_,_,_,_,_,h⟩:=hq;exact h.elim
 | goto l=>exact hq.elim
 | outgrown=>exact hq.elim
def Ru {f:FuncId}{fn:Func}{c:Code}{args:List Value}{dr}{T:Tm}{M post}(xS:du Tryz.prog f=true)
 (hf:Tryz.prog.funcs[f]?=some fn) (hb:fn.body=some c) (hn:args.length<=fn.ntmps) (hc:eu Tryz.prog fn.ntmps dr c=true) (hr:fn.results.toList=[.cell 4 120,.cell 5 51,.cell 6 33])
 (h:cA Tryz.prog (J2 T dr fn.results.toList post) [.code c] (mE args) [] ⟨T,M,[],[]⟩ ⟨⟩):bU Tryz.prog f args T M [] [] post aM:=by
 refine ⟨xS,fun w U hw=>calls_of_wp_defers hf hb ?_⟩
 obtain ⟨h1,h2,h3⟩:=hw.facts
 have:=jR (c₀:=⟨w,M,U⟩) mx c (J2 T dr fn.results.toList post).k (mE args) [] ⟨T,M,[],[]⟩ w _ hc (fr0 args.toArray fn.ntmps (by simpa using hn)) h3 h
 exact wp_mono this fun ex a w' hq=>Yk hr hq
theorem GT {T dr ts post}:(J2 T dr ts post).ret=Ua T ts post:=(rfl)
theorem j7 {T dr ts post}:(J2 T dr ts post).pan=GU T post:=(rfl)
theorem rj {T dr ts post}:(J2 T dr ts post).dr=dr:=(rfl)
def nI {T post}(ops:List Oper)(h:(ops.all fun o=>match o.dst with | some d=>d !=4 && d !=5 && d !=6 | none=>true)=true):wm (GU T post) ops:=by
 intro o ho d hd ch e v ds h' hp
 have:=List.all_eq_true.1 h o ho
 rw [hd] at this
 simp at this
 obtain ⟨b4,b5,b6,ag,er,h1,h2,h4,h5,h6,k5,k6⟩:=hp
 unfold upd at h4 h5 h6
 rw [if_neg (fun h=>(by grind))] at h4
 rw [if_neg (fun h=>(by grind))] at h5
 rw [if_neg (fun h=>(by grind))] at h6
 exact ⟨b4,b5,b6,ag,er,h1,h2,h4,h5,h6,k5,k6⟩
def nA (rels:List Rel)(q:Q):ep:=fun r M' _ _=>match iN rels q with
 | .ok w=>∃ cs cv,r=.tuple ⟨[.agg ⟨cs⟩,cv,.int .i64 0]⟩/\gP M' w.1 cs/\RS M' tF 2 w.2 cv
 | .error e=>e≠0/\∃ cs,r=.tuple ⟨[.agg ⟨cs⟩,.slice none 0 0,.int .i64 e]⟩/\gP M' pj cs
def pH {M:aR}:gP M pj Ew:=by
 refine jV.2 ⟨[.int .i64 0,.int .i64 0,.int .i64 0,st [],.int .i64 0,.slice none 0 0],.slice none 0 0,.slice none 0 0,.slice none 0 0,rfl,?_,bz,bz,bz⟩
 exact iZ.2 ⟨_,rfl,bz⟩
def GV {T N:Tm}{M:aR}{rels:List Rel}{q:Q}{A B:LL}{R:RR}{b4 b5 b6:Nat}{v0 v1 v2 v3 v4 v5 v6 v7 v8 v9 v10 vc ve:Value}{er:Int}{ag:Array Value}{e:dx}(hr:iN rels q=.error er)(h0:er≠0)(hT:aG T N)(DM:ag.toList=[])
 (e4:e 4=.pointer (some ⟨b4,0,none⟩)) (e5:e 5=.pointer (some ⟨b5,0,none⟩)) (e6:e 6=.pointer (some ⟨b6,0,none⟩)):
 GU T (nA rels q) (GH er) e [qqD b4 b5 b6 ag] ⟨N,M,A++(b6,[ve])::(b5,[vc])::(b4,[v0,v1,v2,v3,v4,v5,v6,v7,v8,v9,v10])::B,R⟩:=by
 refine ⟨b4,b5,b6,ag,er,rfl,DM,e4,e5,e6,rfl,gS A (bY (dk (L':=B++[(b4,[v0,v1,v2,v3,v4,v5,v6,v7,v8,v9,v10]),(b5,[vc]),(b6,[ve])]) ?_ (gS B (aC ⟨hT,rfl,⟨_,_,_,_,_,_,_,_,_,_,_,_,_,rfl⟩,?_⟩))))⟩
 ·refine List.Perm.trans (l₂:=[(b4,[v0,v1,v2,v3,v4,v5,v6,v7,v8,v9,v10]),(b5,[vc]),(b6,[ve])]++B) ?_ List.perm_append_comm
  have h3:([(b6,[ve]),(b5,[vc]),(b4,[v0,v1,v2,v3,v4,v5,v6,v7,v8,v9,v10])]:LL).Perm [(b4,[v0,v1,v2,v3,v4,v5,v6,v7,v8,v9,v10]),(b5,[vc]),(b6,[ve])]:=by
   have:=List.reverse_perm ([(b4,[v0,v1,v2,v3,v4,v5,v6,v7,v8,v9,v10]),(b5,[vc]),(b6,[ve])]:LL)
   simpa using this
  exact h3.append_right B
 ·unfold nA
  rw [hr]
  exact ⟨h0,_,rfl,pH⟩
def Yl {T N:Tm}{M:aR}{rels:List Rel}{q:Q}{A B:LL}{R:RR}{b4 b5 b6:Nat}{v0 v1 v2 v3 v4 v5 v6 v7 v8 v9 v10 vc ve:Value}{er:Int}{ag:Array Value}{e:dx}{dr ts}(hr:iN rels q=.error er)(h0:er≠0)(hT:aG T N)(DM:ag.toList=[])
 (e4:e 4=.pointer (some ⟨b4,0,none⟩)) (e5:e 5=.pointer (some ⟨b5,0,none⟩)) (e6:e 6=.pointer (some ⟨b6,0,none⟩)):
 (J2 T dr ts (nA rels q)).pan (GH er) e [qqD b4 b5 b6 ag] ⟨N,M,A++(b6,[ve])::(b5,[vc])::(b4,[v0,v1,v2,v3,v4,v5,v6,v7,v8,v9,v10])::B,R⟩:=by
 rw [j7]
 exact GV hr h0 hT DM e4 e5 e6
def Pi {rels:List Rel}(hc:∀ r∈rels,r.cols.length<=1048576){s:Se}(ce:OkSe s){r:Pl×List Bs}(h:th rels s=.ok r):r.2.length<=16777216:=by
 unfold th at h
 split at h
 ·cases h
 ·rename_i f hf
  have h1:=B0 hc hf
  have h2:=ce.src
  split at h
  ·cases h
  ·simp only at h
   split at h
   ·cases h
   ·injection h with h
    rw [<- h]
    simp only
    split
    ·rw [List.length_map];omega
    ·rename_i hs
     have h3:=(ce.its (by simpa using hs)).1
     have h4:∀ (l:List It) (i:Nat),(jc i l).length=l.length:=by
      intro l
      induction l with
      | nil=>intro i;rfl
      | cons x l ih=>intro i;rw [jc,List.length_cons,List.length_cons,ih]
     rw [h4];omega
theorem D9 {rels:List Rel}{ops:List Int}{p:Pl}{names:List Bs}{s:Se}{l:List Se}{r:Pl×List Bs}(h:th rels s=.ok r):j6 rels ops 0 p names (s::l)=j6 rels ops 1 r.1 r.2 l:=by
 rw [j6,h];rfl
def Ea {rels:List Rel}{ops:List Int}{i:Nat}{p:Pl}{names:List Bs}{s:Se}{l:List Se}{r:Pl×List Bs}(h:th rels s=.ok r)(h0:i≠0):j6 rels ops i p names (s::l)=j6 rels ops (i+1) (YA (ops.getD (i - 1) 0) p r.1) names l:=by
 rw [j6,h];simp only;rw [if_neg h0]
def JY {rels:List Rel}{ops:List Int}{i:Nat}{p:Pl}{names:List Bs}{s:Se}{l:List Se}{e:Int}(h:th rels s=.error e):j6 rels ops i p names (s::l)=.error e:=by
 rw [j6,h]
theorem Bj {N:Tm}{L:LL}{R:RR}{k:Sh ->Prop}:∀ {A:LL} {M:aR},aJ M (A++L) ->(∀ M',bm M M' ->mj M' A ->aJ M' L ->cq ⟨N,M',L,R⟩ k) ->cq ⟨N,M,A++L,R⟩ k
 | [],M,hn,h=>h M bm.rfl' trivial hn
 | (b,cs)::A,M,hn,h=>aU fun he hb bj=>Bj bj fun M' mG hA hL=>h M' (he.trans mG) ⟨mG _ _ hb,hA⟩ hL
def Kl {q:Q}{r:Pl×List Bs}(h:¬ 0<=q.limit):Ep q r=.ok r.1:=by unfold Ep;rw [if_neg h]
def UW {q:Q}{r:Pl×List Bs}{e:Int}(h:0<=q.limit)(he:eN (r.2.map fun n=>([],n)) q.order=.error e):Ep q r=.error e:=by unfold Ep;rw [if_pos h,he]
def Mx {q:Q}{r:Pl×List Bs}{xs:List Ex}(h:0<=q.limit)(he:eN (r.2.map fun n=>([],n)) q.order=.ok xs):Ep q r=.ok (.mk 13 q.limit dR xs [] [r.1]):=by unfold Ep;rw [if_pos h,he]
def QbQ (rels:List Rel)(q:Q)(T:Tm)(M:aR)(b3 b4 b5 b6:Nat)(r0 nv:Value)(names:List Bs)(e:dx)(ds:List Deferred)(h:Sh):Prop:=
 ds=[qqD b4 b5 b6 #[]]/\aE e [(0,r0),(3,.pointer (some ⟨b3,0,none⟩)),(4,.pointer (some ⟨b4,0,none⟩)),(5,.pointer (some ⟨b5,0,none⟩)),(6,.pointer (some ⟨b6,0,none⟩)),(8,nv)]/\
 ∃ N' M' p' A c0 c1 c2 c3 c4 c5 c6 c7 c8 c9 c10,aG T N'/\bm M M'/\aJ M' (A++[(b6,[.int .i64 0]),(b5,[.slice none 0 0]),(b4,[c0,c1,c2,c3,c4,c5,c6,c7,c8,c9,c10])])/\bf b4 A/\
  (∀ M'',bm M' M'' ->mj M'' A ->gP M'' p' [c0,c1,c2,c3,c4,c5,c6,c7,c8,c9,c10])/\jF rels q=.ok (p',names)/\h=⟨N',M',A++[(b6,[.int .i64 0]),(b5,[.slice none 0 0]),(b4,[c0,c1,c2,c3,c4,c5,c6,c7,c8,c9,c10])],[]⟩
theorem Qc {c:Co}{cs:List Value}(h:tF c cs):∀ u∈cs,u.oneCell'=true:=by
 rw [h];intro u hu;simp only [mn] at hu;rcases hu with rfl | rfl<;>rfl
theorem HP:∀ {l:List Bs} {m:List Int} {i:Nat} (h:i<m.length) (hl:m.length<=l.length),(uQ l m)[i]?=some ⟨l[i],m[i]⟩
 | a::l,t::m,0,_,_=>rfl
 | a::l,t::m,i+1,h,hl=>by
  rw [uQ,List.getElem?_cons_succ,HP (by simpa using h) (by simpa using hl)];rfl
 | [],t::m,_,_,hl=>by simp at hl
theorem C6:∀ {l:List Bs} {m:List Int},m.length<=l.length ->(uQ l m).length=m.length
 | [],[],_=>rfl
 | a::l,[],_=>rfl
 | a::l,t::m,h=>by rw [uQ,List.length_cons,List.length_cons,C6 (by simpa using h)]
 | [],t::m,hl=>by simp at hl
def vo {M:aR}{rels:List Rel}{rv:Value}{q:Q}{cs:List Value}(hr:RS M (ig M) 14 rels rv)(hq:RQ M q cs)(bu:rels.length<=1048576)(eD:∀ r∈rels,r.cols.length<=1048576)(ce:∀ s∈q.parts,OkSe s)
 (af9:q.parts.length<=q.ops.length+1) (tA:q.parts.length<=1048576) (XO:0<=q.limit ->q.order.length<=1048576/\∀ x∈q.order,GB x) (cm:∀ e,jF rels q=.error e ->e≠0) (acu:∀ r t,jF rels q=.ok r ->fH (bO rels) r.1=.ok t ->t.length<=r.2.length) (T:Tm):
 bU Tryz.prog 51 [rv,.agg ⟨cs⟩] T M [] [] (nA rels q) aM:=by
 obtain ⟨_,ra,rc,rfl,_⟩:=ax (by decide) (fun _ _=>ii) hr
 obtain ⟨pv,ov,dv,hps,hos,uS,gC⟩:=hq
 obtain ⟨hpb,pa,pc,rfl,aqt,_,hpg⟩:=ax (by decide) (fun _ _=>lF) hps
 obtain ⟨_,oa,oc,rfl,_,_,hog⟩:=ax (by decide) (fun _ _=>cE) hos
 obtain ⟨_,da,dc,rfl,_⟩:=ax (by decide) (fun _ _=>dX) uS
 subst gC
 refine Ru F51.bd Tryz.func51 rfl (by rw [F51.nt];exact Nat.le_of_ble_eq_true rfl) (dr:=[(10,.take 0<| .take 2<| .take 3<| .take 1<| .take 4<| .take 5<| .take 6<| .take 7<| .eff 8 false (.eff 9 true (.done)<| .no)<| .no),(19,.take 0<| .take 2<| .take 3<| .take 1<| .take 4<| .take 6<| .eff 5 false (.eff 7 false (.take 8<| .eff 9 true (.done)<| .no)<| .no)<| .eff 7 false (.eff 5 false (.take 8<| .eff 9 true (.done)<| .no)<| .no)<| .no),(20,.take 0<| .take 2<| .eff 1 false (.eff 3 true (.take 4<| .take 5<| .take 6<| .take 7<| .eff 8 true (.done)<| .no)<| .no)<| .no),(22,.take 0<| .take 1<| .eff 2 false (.eff 3 false (.eff 4 true (.done)<| .no)<| .no)<| .no),(26,.take 1<| .take 2<| .take 3<| .take 5<| .take 0<| .take 4<| .take 6<| .eff 7 false (.eff 8 false (.eff 9 true (.done)<| .no)<| .no)<| .no),(28,.take 0<| .take 1<| .eff 2 false (.eff 3 true (.eff 4 true (.done)<| .no)<| .no)<| .no)]) (by kernel_rfl) F51.rs ?_
 rw [F51.rs]
 simp +contextual only [go_sem,aD,sevalprocAttr]
 intro b3 T3 gK fU gB b4 T4 eH em fE iJ b5 T5 jz eg ko nq b6 T6 pA gR ug DL b7 T7 mU jD B5 Ja
 have hT:=(((fU.trans fE).trans ko).trans ug).trans B5
 have iC:(¬ b6=b5/\¬ b5=b6)/\(¬ b6=b4/\¬ b4=b6)/\(¬ b5=b4/\¬ b4=b5):=⟨gR.1,gR.2.1,eg.1⟩
 refine bR q.parts.length 25 [(0,.slice ra rels.length rc),(3,.pointer (some ⟨b3,0,none⟩)),(4,.pointer (some ⟨b4,0,none⟩)),(5,.pointer (some ⟨b5,0,none⟩)),(6,.pointer (some ⟨b6,0,none⟩)),(7,.pointer (some ⟨b7,0,none⟩)),(24,.int .i64 (q.parts.length:Int))]
  (fun i e h=>∃ N' M' p names nv c0 c1 c2 c3 c4 c5 c6 c7 c8 c9 c10,aG T N'/\bm M M'/\M' b7=some [.slice ra rels.length rc]/\M' b3=some [.slice pa q.parts.length pc,.slice oa q.ops.length oc,.slice da q.order.length dc,.int .i64 q.limit]/\M' b6=none/\M' b5=none/\M' b4=none/\
   gP M' p [c0,c1,c2,c3,c4,c5,c6,c7,c8,c9,c10]/\e 8=nv/\RS M' rC 1 names nv/\names.length<=16777216/\j6 rels q.ops i p names (q.parts.drop i)=j6 rels q.ops 0 pj [] q.parts/\h=⟨N',M',[(b6,[.int .i64 0]),(b5,[.slice none 0 0]),(b4,[c0,c1,c2,c3,c4,c5,c6,c7,c8,c9,c10])],[]⟩)
  0 (by omega) (by simp only [aE,go_sem,sevalprocAttr]) (by simp only [go_sem,sevalprocAttr])
  (dk (L':=[(b7,[.slice ra rels.length rc]),(b3,[.slice pa q.parts.length pc,.slice oa q.ops.length oc,.slice da q.order.length dc,.int .i64 q.limit]),(b6,[.int .i64 0]),(b5,[.slice none 0 0]),(b4,Ew)]) ((List.perm_append_comm (l₁:=[(b6,_),(b5,_),(b4,_)]) (l₂:=[(b3,_)])).cons _) (aU fun zk h7 bD=>aU fun pC h3 aZ=>aC ⟨T7,_,pj,[],.slice none 0 0,_,_,_,_,_,_,_,_,_,_,_,hT,zk.trans pC,pC _ _ h7,h3,aZ.1,aZ.2.1,aZ.2.2.1,pH,by simp only [go_sem,sevalprocAttr],bz,by simp,rfl,rfl⟩)) ?_
 rintro i e h hi aI ht ⟨T8,M1,p,names,nv,c0,c1,c2,c3,c4,c5,c6,c7,c8,c9,c10,nE,aW,h7,h3,n6,n5,n4,hp,e8,OB,zu,am,rfl⟩
 simp only [aE] at aI
 have apt:=eD
 by_cases aL:i<q.parts.length
 ·obtain ⟨b',o',cs',rfl,bP,eh⟩:=hpg i q.parts[i] (gq aL)
  have bK:q.parts.drop i=q.parts[i]::q.parts.drop (i+1):=dq aL
  rw [bK] at am
  have af5:=ce q.parts[i] (gm aL)
  simp +contextual only [go_sem,aD,sevalprocAttr,aI,ht,aL,bg h3]
  refine bX (WP (aH aW (dV aW) hr) h7 eD (bP.ext aW) (lE aW _ _ eh) af5 T8) ?_ ?_
  rotate_left
  ·rintro ch M2 bh aZ ⟨er,he,rfl⟩
   rw [JY he] at am
   have hqe:jF rels q=.error er:=by unfold jF;rw [<- am]
   refine Yl (A:=[]) (B:=[]) (by unfold iN;rw [hqe]) (cm er hqe) nE rfl ?_ ?_ ?_
   ·simp only [aI,go_sem,sevalprocAttr]
   ·simp only [aI,go_sem,sevalprocAttr]
   ·simp only [aI,go_sem,sevalprocAttr]
  rintro v M2 bh aZ ⟨⟨r,rn⟩,xk,qs,rnv,rfl,hrp,XU⟩
  simp only at hrp XU
  simp only [aJ] at aZ
  obtain ⟨_,rna,rnc,rfl,_⟩:=ax (by decide) (fun _ _=>fu) XU
  obtain ⟨d0,d1,d2,d3,d4,d5,d6,d7,d8,d9,d10,rfl,hd⟩:=cT hrp
  have FN:=aW.trans bh
  replace h3:=bh _ _ h3
  replace h7:=bh _ _ h7
  rcases Nat.eq_zero_or_pos i with vE | vE
  ·subst vE
   rw [D9 xk] at am
   simp +contextual only [go_sem,aD,sevalprocAttr,aI,ht,hd,iC]
   intro b10 T10 abz Ll abk Zi
   refine aS (al (aC ⟨q.parts.length - 1,by omega,rfl,1,by omega,rfl,?_,?_,T10,M2,r,rn,_,d0,d1,d2,d3,d4,d5,d6,d7,d8,d9,d10,nE.trans abk,FN,h7,h3,aZ.1,aZ.2.1,aZ.2.2.1,hrp,?_,XU,Pi eD af5 xk,am,rfl⟩))
   ·simp only [aE,aI,go_sem,sevalprocAttr]
   ·simp only [go_sem,sevalprocAttr];rfl
   ·simp only [go_sem,sevalprocAttr]
  ·have HW:i≠0:=by omega
   have ku:¬ ((i:Int)=0):=by omega
   rw [Ea xk HW] at am
   have XM:i - 1<q.ops.length:=by omega
   obtain ⟨b2,o2,cs2,rfl,oU,SY⟩:=hog (i - 1) q.ops[i - 1] (gq XM)
   unfold RI at SY;subst SY
   have z0:=xC (oU.ext FN)
   rw [Nat.mul_one] at z0
   have XI:q.ops.getD (i - 1) 0=q.ops[i - 1]:=by simp [List.getD,XM]
   have hwi:IntKind.i64.wrap ((i:Int) - 1)=((i - 1:Nat):Int):=by rw [bJ (by omega) (by omega)];omega
   rw [XI] at am
   simp +contextual only [go_sem,aD,sevalprocAttr,rj,hd,ku]
   intro b10 T10 abz Ll abk Zi
   rw [j7]
   refine ⟨nI _ rfl,aT ?_⟩
   have hz:=Ll
   simp +contextual only [go_sem,sevalprocAttr,aI,iC,aZ,bg h3,hwi,XM,z0,Ll,abz]
   have hpM:=bA bh _ _ hp
   refine aF (WQ (op:=q.ops[i - 1]) hpM hrp T10) ?_
   rintro v M3 bG bC ⟨gs,rfl,hgp⟩
   obtain ⟨g0,g1,g2,g3,g4,g5,g6,g7,g8,g9,g10,rfl,hg⟩:=cT hgp
   simp only [aJ] at bC
   simp +contextual only [go_sem,sevalprocAttr,aI,ht,iC,Ll,hg]
   repeat refine ⟨dL bG ⟨bC.1,bC.2.1,bC.2.2.1,bC.2.2.2.1,trivial⟩,?_⟩
   refine aS (al (aC ⟨q.parts.length - (i+1),by omega,rfl,i+1,by omega,rfl,?_,?_,T10,M3,_,names,_,g0,g1,g2,g3,g4,g5,g6,g7,g8,g9,g10,nE.trans abk,FN.trans bG,bG _ _ h7,bG _ _ h3,bC.2.1,bC.2.2.1,bC.2.2.2.1,hgp,?_,aH (bh.trans bG) (fun _ _ h=>h) OB,zu,am,rfl⟩))
   ·simp only [aE,aI,go_sem,sevalprocAttr]
   ·simp only [go_sem,sevalprocAttr,aA i (by omega)]
   ·simp only [e8,go_sem,sevalprocAttr]
 ·have:i=q.parts.length:=by omega
  subst this
  rw [List.drop_length,j6] at am
  obtain ⟨_,na,nc,rfl,_,_,ZF⟩:=ax (by decide) (fun _ _=>fu) OB
  have XR:jF rels q=(match Ep q (p,names) with | .error e=> .error e | .ok p=> .ok (p,names)):=by unfold jF;rw [<- am];simp only;cases Ep q (p,names)<;>rfl
  simp +contextual only [go_sem,sevalprocAttr,aI,ht,aL]
  rw [dM]
  simp +contextual only [go_sem,sevalprocAttr,aI,bg h3]
  refine fg (QbQ rels q T M1 b3 b4 b5 b6 (.slice ra rels.length rc) (.slice na names.length nc) names) (fun S' fh=> ?_) ?_
  ·rw [dM]
   by_cases un:0<=q.limit
   ·simp +contextual only [go_sem,aD,sevalprocAttr,un,e8]
    intro b12 T12 Xz Zl aj3 amF
    refine aO names.length 58 [(0,.slice ra rels.length rc),(3,.pointer (some ⟨b3,0,none⟩)),(4,.pointer (some ⟨b4,0,none⟩)),(5,.pointer (some ⟨b5,0,none⟩)),(6,.pointer (some ⟨b6,0,none⟩)),(8,.slice na names.length nc),(12,.pointer (some ⟨b12,0,none⟩)),(56,.slice na names.length nc),(57,.int .i64 (names.length:Int))]
     (fun j e h=>∃ N' R cv,aG T12 N'/\kY 186 2 HR [] R cv ((names.take j).map fun n=>([],n))/\h=⟨N',M1,[(b12,[cv,.slice none 0 0,.pointer none,.pointer none]),(b6,[.int .i64 0]),(b5,[.slice none 0 0]),(b4,[c0,c1,c2,c3,c4,c5,c6,c7,c8,c9,c10])],R⟩)
     0 (by omega) (by simp only [aE,aI,e8,go_sem,sevalprocAttr]) (by simp only [go_sem,sevalprocAttr]) ⟨T12,[],_,aG.rfl',cV,rfl⟩ ?_
    clear aI ht e8 aL hi e
    rintro j e h hj aI ht ⟨N9,R9,cv,VN,bq,rfl⟩
    simp only [aE] at aI
    by_cases aL:j<names.length
    ·obtain ⟨bn,on,cn,rfl,abv,XU⟩:=ZF j names[j] (gq aL)
     unfold rC at XU;subst XU
     have z0:=xC abv
     rw [Nat.mul_one] at z0
     obtain ⟨va,vc,rfl⟩:=eI bq
     have gZ:((names.take j).map fun n=>(([]:Bs),n)).length=j:=by rw [List.length_map,List.length_take];omega
     simp +contextual only [go_sem,aD,sevalprocAttr,aI,ht,aL,z0,Xz]
     intro b14 Sx pZ
     refine cB (x:=(([]:Bs),names[j])) Tryz.underlying181 Ef D6 bq rfl (fun _ _=>qJ) (yi (c:=(([]:Bs),names[j])) rfl) Sx (by rw [gZ];omega) (by decide) ?_
     intro fv' R' bw
     obtain ⟨wa,wc,Zw⟩:=eI bw
     have eP:((names.take (j+1)).map fun n=>(([]:Bs),n))=((names.take j).map fun n=>(([]:Bs),n))++[([],names[j])]:=by
      rw [List.take_succ_eq_append_getElem aL,List.map_append];rfl
     rw [<- eP] at bw
     subst Zw
     simp +contextual only [go_sem,sevalprocAttr,ht,pZ]
     refine aS (al (aC ⟨names.length - (j+1),by omega,rfl,j+1,by omega,rfl,?_,?_,N9,R',_,VN,bw,rfl⟩))
     ·simp only [aE,aI,go_sem,sevalprocAttr]
     ·simp only [go_sem,sevalprocAttr,aA j (by omega)]
    ·have:j=names.length:=by omega
     subst this
     rw [List.take_length] at bq
     obtain ⟨va,vc,rfl⟩:=eI bq
     simp +contextual only [go_sem,aD,sevalprocAttr,rj,j7,aI,ht,aL]
     have Ez:(b4≠b12/\b12≠b4)/\(b4≠b6/\b6≠b4)/\(b4≠b5/\b5≠b4):=by
      refine ⟨⟨Zl.2.2.2,Zl.2.2.1⟩,⟨iC.2.1.2,iC.2.1.1⟩,⟨iC.2.2.2,iC.2.2.1⟩⟩
     refine ⟨nI _ rfl,eG ⟨T,M1,[(b4,[c0,c1,c2,c3,c4,c5,c6,c7,c8,c9,c10])],[]⟩ (eZ [(b12,_),(b6,_),(b5,_)] bm.rfl' n4 ⟨Ez.1,Ez.2.1,Ez.2.2,trivial⟩) ?_⟩
     simp +contextual only [go_sem,sevalprocAttr,aI,bg h3,n4]
     have hml:(names.map fun n=>(([]:Bs),n)).length<=16777216:=by rw [List.length_map];exact zu
     have FU:∀ {M5:aR},bm M1 M5 ->RS M5 HR 2 (names.map fun n=>(([]:Bs),n)) (.slice va (names.map fun n=>(([]:Bs),n)).length vc) ->M5 b12=some [.slice va (names.map fun n=>(([]:Bs),n)).length vc,.slice none 0 0,.pointer none,.pointer none] ->
      bU Tryz.prog 93 [.pointer (some ⟨b12,0,none⟩),.slice da q.order.length dc] N9 M5 [] [] (wU (fun l v M=>RS M (hY M) 6 l v) (eN (names.map fun n=>([],n)) q.order)) (rK (eN (names.map fun n=>([],n)) q.order)):=by
      intro M5 h5 cH hb
      exact Dz (fun x hx=>exB _ _ x (Nat.le_refl _) ((XO un).2 x hx)) (XO un).1 cH hb (aH (aW.trans h5) (bL (aW.trans h5)) uS) N9
     have XQ:∀ {er:Int} {N:Tm} {M5:aR} {A:LL} {e:dx},eN (names.map fun n=>([],n)) q.order=.error er ->aG T N ->e 4=.pointer (some ⟨b4,0,none⟩) ->e 5=.pointer (some ⟨b5,0,none⟩) ->e 6=.pointer (some ⟨b6,0,none⟩) ->
      GU T (nA rels q) (GH er) e [qqD b4 b5 b6 #[]] ⟨N,M5,A++(b6,[.int .i64 0])::(b5,[.slice none 0 0])::(b4,[c0,c1,c2,c3,c4,c5,c6,c7,c8,c9,c10])::[],[]⟩:=by
      intro er N M5 A e he hN e4 e5 e6
      have hqe:jF rels q=.error er:=by rw [XR,UW un he]
      exact GV (by unfold iN;rw [hqe]) (cm er hqe) hN rfl e4 e5 e6
     have hTN:=(nE.trans aj3).trans VN
     have vC:∀ {xs:List Ex} {M6 M'':aR} {xv:Value} {b81:Nat},RS M6 (hY M6) 6 xs xv ->bm M1 M6 ->bm M6 M'' ->mj M'' [(b81,[c0,c1,c2,c3,c4,c5,c6,c7,c8,c9,c10])] ->
      gP M'' (.mk 13 q.limit dR xs [] [p]) [.int .i64 13,.int .i64 q.limit,.int .i64 0,.int .i64 0,.int .i64 0,st [],.int .i64 0,.slice none 0 0,xv,.slice none 0 0,.slice (some ⟨b81,0,none⟩) 1 1]:=by
      intro xs M6 M'' xv b81 fq xQ h6 hh
      refine jV.2 ⟨[.int .i64 0,.int .i64 0,.int .i64 0,st [],.int .i64 0,.slice none 0 0],xv,.slice none 0 0,.slice (some ⟨b81,0,none⟩) 1 1,rfl,iZ.2 ⟨_,rfl,bz⟩,aH h6 (cN h6) fq,bz,?_⟩
      exact dE (fun _ _=>jx) hh.1 (l:=[p]) (dm (bA (xQ.trans h6) _ _ hp)) rfl (by omega)
     refine ⟨?_,?_⟩
     ·refine cD (k:=fun h'=>∃ M5,bm M1 M5/\RS M5 HR 2 (names.map fun n=>(([]:Bs),n)) (.slice va (names.map fun n=>(([]:Bs),n)).length vc)/\M5 b12=some [.slice va (names.map fun n=>(([]:Bs),n)).length vc,.slice none 0 0,.pointer none,.pointer none]/\h'=⟨N9,M5,[(b6,[.int .i64 0]),(b5,[.slice none 0 0]),(b4,[c0,c1,c2,c3,c4,c5,c6,c7,c8,c9,c10])],[]⟩)
       (ct bq (by omega) (by decide) ⟨Xz,n6,n5,n4,trivial⟩ fun M5 dN bS cH=>aU fun he hb bj=>aC ⟨_,dN.trans he,aH he (fun _ _ h=>h) cH,hb,rfl⟩) ?_ F93.bd
      rintro h' ⟨M5,xd,acj,abB,rfl⟩
      refine bX (FU xd acj abB) ?_ ?_
      ·rintro r M6 eO bW ⟨xs,xm,fq⟩
       obtain ⟨_,xa,xc,rfl,_⟩:=ax (by decide) (fun _ _=>dS) fq
       simp only [aJ] at bW
       simp +contextual only [go_sem,sevalprocAttr,aI,iC]
       refine ⟨eZ [(b6,_),(b5,_)] (xd.trans eO) bW.2.2.1 ⟨Ez.2.1,Ez.2.2,trivial⟩,?_⟩
       intro b81 Ot uh
       refine ⟨eZ [(b81,_),(b6,_),(b5,_)] (xd.trans eO) bW.2.2.1 ⟨⟨uh.2.2.2,uh.2.2.1⟩,Ez.2.1,Ez.2.2,trivial⟩,?_⟩
       refine fh _ _ _ ⟨rfl,?_,N9,M6,.mk 13 q.limit dR xs [] [p],[(b81,_)],_,_,_,_,_,_,_,_,_,_,_,hTN,xd.trans eO,⟨Ot,bW.1,bW.2.1,bW.2.2.1,trivial⟩,⟨⟨uh.2.2.2,uh.2.2.1⟩,trivial⟩,fun M'' h6 hh=>vC fq (xd.trans eO) h6 hh,by rw [XR,Mx un xm],rfl⟩
       simp only [aE,aI,go_sem,sevalprocAttr]
      ·rintro ch M6 eO bW ⟨er,he,rfl⟩
       rw [j7]
       refine XQ (A:=[]) he hTN ?_ ?_ ?_<;>simp only [aI,go_sem,sevalprocAttr]
     ·intro b81 Ot uh
      have Xp:b4≠b81/\b81≠b4:=⟨uh.2.2.2.2,uh.2.2.2.1⟩
      refine ⟨eZ [(b81,_),(b12,_),(b6,_),(b5,_)] bm.rfl' n4 ⟨Xp,Ez.1,Ez.2.1,Ez.2.2,trivial⟩,?_⟩
      refine cD (k:=fun h'=>∃ M5,bm M1 M5/\RS M5 HR 2 (names.map fun n=>(([]:Bs),n)) (.slice va (names.map fun n=>(([]:Bs),n)).length vc)/\M5 b12=some [.slice va (names.map fun n=>(([]:Bs),n)).length vc,.slice none 0 0,.pointer none,.pointer none]/\h'=⟨N9,M5,[(b81,[c0,c1,c2,c3,c4,c5,c6,c7,c8,c9,c10]),(b6,[.int .i64 0]),(b5,[.slice none 0 0]),(b4,[c0,c1,c2,c3,c4,c5,c6,c7,c8,c9,c10])],[]⟩)
       (ct bq (by omega) (by decide) ⟨Ot,Xz,n6,n5,n4,trivial⟩ fun M5 dN bS cH=>dk (List.Perm.swap _ _ _) (aU fun he hb bj=>aC ⟨_,dN.trans he,aH he (fun _ _ h=>h) cH,hb,rfl⟩)) ?_ F93.bd
      rintro h' ⟨M5,xd,acj,abB,rfl⟩
      refine bX (FU xd acj abB) ?_ ?_
      ·rintro r M6 eO ZH ⟨xs,xm,fq⟩
       obtain ⟨_,xa,xc,rfl,_⟩:=ax (by decide) (fun _ _=>dS) fq
       simp only [aJ] at ZH
       obtain ⟨afl,bW⟩:=ZH
       simp +contextual only [go_sem,sevalprocAttr,aI,iC,Xp]
       refine ⟨eZ [(b81,_),(b6,_),(b5,_)] (xd.trans eO) bW.2.2.1 ⟨Xp,Ez.2.1,Ez.2.2,trivial⟩,?_⟩
       refine fh _ _ _ ⟨rfl,?_,N9,M6,.mk 13 q.limit dR xs [] [p],[(b81,_)],_,_,_,_,_,_,_,_,_,_,_,hTN,xd.trans eO,⟨afl,bW.1,bW.2.1,bW.2.2.1,trivial⟩,⟨Xp,trivial⟩,fun M'' h6 hh=>vC fq (xd.trans eO) h6 hh,by rw [XR,Mx un xm],rfl⟩
       simp only [aE,aI,go_sem,sevalprocAttr]
      ·rintro ch M6 eO bW ⟨er,he,rfl⟩
       rw [j7]
       refine XQ (A:=[(b81,_)]) he hTN ?_ ?_ ?_<;>simp only [aI,go_sem,sevalprocAttr]
   ·simp +contextual only [go_sem,sevalprocAttr,un]
    refine fh _ _ _ ⟨rfl,?_,T8,M1,p,[],c0,c1,c2,c3,c4,c5,c6,c7,c8,c9,c10,nE,bm.rfl',⟨n6,n5,n4,trivial⟩,trivial,fun M'' ajZ _=>bA ajZ _ _ hp,?_,rfl⟩
    ·simp only [aE,aI,e8,go_sem,sevalprocAttr]
    ·rw [XR,Kl un]
  ·clear aI ht e8 aL hi e am XR hp n6 n5 n4
   rintro e ds h ⟨rfl,aI,N,M2,p',A,c0,c1,c2,c3,c4,c5,c6,c7,c8,c9,c10,hN,bh,hnn,akb,alu,XR,rfl⟩
   simp only [aE] at aI
   have Ez:(b4≠b6/\b6≠b4)/\(b4≠b5/\b5≠b4):=⟨⟨iC.2.1.2,iC.2.1.1⟩,⟨iC.2.2.2,iC.2.2.1⟩⟩
   have iD:∀ {N:Tm} {M:aR} {A:LL},M b4=none ->bf b4 A ->Vc.fW ⟨T,fun _=>none,[(b4,[c0,c1,c2,c3,c4,c5,c6,c7,c8,c9,c10])],[]⟩ ⟨N,M,A++[(b6,[.int .i64 0]),(b5,[.slice none 0 0]),(b4,[c0,c1,c2,c3,c4,c5,c6,c7,c8,c9,c10])],[]⟩:=by
    intro N M A h4 hA
    have PR:∀ {A:LL},bf b4 A ->bf b4 (A++[(b6,[.int .i64 0]),(b5,[.slice none 0 0])]):=by
     intro A
     induction A with
     | nil=>intro _;exact ⟨Ez.1,Ez.2,trivial⟩
     | cons x A ih=>intro h;exact ⟨h.1,ih h.2⟩
    have:=jX (T0:=T) (T:=N) (M:=M) (A++[(b6,[.int .i64 0]),(b5,[.slice none 0 0])]) (L2:=[]) (R:=[]) (cs:=[c0,c1,c2,c3,c4,c5,c6,c7,c8,c9,c10]) h4 (PR hA)
    simpa using this
   have de:∀ {A:LL},aJ M2 (A++[(b6,[.int .i64 0]),(b5,[.slice none 0 0]),(b4,[c0,c1,c2,c3,c4,c5,c6,c7,c8,c9,c10])]) ->M2 b4=none:=by
    intro A h
    exact ri h b4 (by simp [aV])
   simp +contextual only [go_sem,sevalprocAttr,rj,j7]
   refine ⟨nI _ rfl,eG ⟨T,fun _=>none,[(b4,[c0,c1,c2,c3,c4,c5,c6,c7,c8,c9,c10])],[]⟩ (iD (de hnn) akb) ?_⟩
   simp +contextual only [go_sem,sevalprocAttr,aI]
   refine cD (k:=fun h'=>∃ M3,bm M2 M3/\M3 b6=none/\M3 b5=none/\M3 b4=none/\gP M3 p' [c0,c1,c2,c3,c4,c5,c6,c7,c8,c9,c10]/\h'=⟨N,M3,[(b6,[.int .i64 0]),(b5,[.slice none 0 0]),(b4,[c0,c1,c2,c3,c4,c5,c6,c7,c8,c9,c10])],[]⟩)
    (Bj hnn fun M3 bG hA bj=>aC ⟨M3,bG,bj.1,bj.2.1,bj.2.2.1,alu M3 bG hA,rfl⟩) ?_ F53.bd
   rintro h' ⟨M3,bG,n6,n5,n4,hp,rfl⟩
   have h03:=(aW.trans bh).trans bG
   refine aF (vn (aH h03 (dV h03) hr) bu eD N) ?_
   rintro tv M4 dz de nG
   obtain ⟨_,ta,tc,rfl,_⟩:=ax (by decide) (fun _ _=>cQ) nG
   simp only [aJ] at de
   simp +contextual only [go_sem,sevalprocAttr]
   refine ⟨eZ (M:=fun _=>none) [(b6,_),(b5,_)] (fun _ _ h=>by cases h) de.2.2.1 ⟨Ez.1,Ez.2,trivial⟩,?_⟩
   refine aF (tO nG (bA dz _ _ hp) N) ?_
   rintro r M5 dN bS XT
   obtain ⟨sv,er,rfl⟩:=lW XT
   simp only [aJ] at bS
   have apj:=iC
   cases Lv:fH (bO rels) p' with
   | error er2=>
    rw [Lv] at XT
    obtain ⟨XL,sv2,sW⟩:=XT
    injection sW with sW
    simp only [Array.mk.injEq,List.cons.injEq,and_true,Value.int.injEq,true_and] at sW
    obtain ⟨rfl,rfl⟩:=sW
    have XF:iN rels q=.error er:=by unfold iN;rw [XR];simp only;rw [Lv]
    simp +contextual only [go_sem,aD,sevalprocAttr,rj,j7,aI,bS,XL]
    refine ⟨nI _ rfl,eG ⟨T,fun _=>none,[(b6,[.int .i64 er])],[]⟩ (gH bS.1) ?_⟩
    simp +contextual only [go_sem,sevalprocAttr,GT,aI,iC]
    refine ⟨gH bS.1,gH bS.1,b4,b5,b6,_,rfl,rfl,?_⟩
    simp +contextual only [go_sem,sevalprocAttr,aI,bS,iC]
    refine ak hN ?_
    unfold nA
    rw [XF]
    exact ⟨XL,_,rfl,pH⟩
   | ok t=>
    rw [Lv] at XT
    obtain ⟨sv2,sW,XX⟩:=XT
    injection sW with sW
    simp only [Array.mk.injEq,List.cons.injEq,and_true,Value.int.injEq,true_and] at sW
    obtain ⟨rfl,rfl⟩:=sW
    have XF:iN rels q=.ok (p',uQ names t):=by unfold iN;rw [XR];simp only;rw [Lv]
    have DS:t.length<=names.length:=acu _ _ XR Lv
    have pD:=C6 DS
    obtain ⟨_,sa,sc,rfl,_,_,hsg⟩:=ax (by decide) (fun _ _=>cE) XX
    have hp5:=bA (dz.trans dN) _ _ hp
    have xd:=(bh.trans bG).trans (dz.trans dN)
    simp +contextual only [go_sem,aD,sevalprocAttr,aI,bS]
    refine aO t.length 96 [(4,.pointer (some ⟨b4,0,none⟩)),(5,.pointer (some ⟨b5,0,none⟩)),(6,.pointer (some ⟨b6,0,none⟩)),(8,.slice na names.length nc),(94,.slice sa t.length sc),(95,.int .i64 (t.length:Int))]
     (fun i e h=>∃ R cv,kY 109 2 tF [] R cv ((uQ names t).take i)/\h=⟨N,M5,[(b6,[.int .i64 0]),(b5,[cv]),(b4,[c0,c1,c2,c3,c4,c5,c6,c7,c8,c9,c10])],R⟩) 0 (by omega) (by simp only [aE,aI,go_sem,sevalprocAttr]) (by simp only [go_sem,sevalprocAttr]) ⟨[],_,cV,rfl⟩ ?_
    clear aI e
    rintro i e h hi aI ht ⟨R,cv,bq,rfl⟩
    simp only [aE] at aI
    obtain ⟨wa,wc,rfl⟩:=eI bq
    have hzi:((uQ names t).take i).length=i:=by rw [List.length_take];omega
    by_cases aL:i<t.length
    ·obtain ⟨bn,on,cn,rfl,abv,XU⟩:=ZF i names[i] (gq (by omega))
     unfold rC at XU;subst XU
     have z0:=xC (abv.ext xd)
     rw [Nat.mul_one] at z0
     obtain ⟨bt,ot,ct',rfl,Xy,HZ⟩:=hsg i t[i] (gq aL)
     unfold RI at HZ;subst HZ
     have z1:=xC Xy
     rw [Nat.mul_one] at z1
     have hin:i<names.length:=by omega
     simp +contextual only [go_sem,aD,sevalprocAttr,rj,j7,aI,ht,aL,z1]
     refine ⟨nI _ rfl,eG ⟨T,M5,[(b5,[.slice wa ((uQ names t).take i).length wc])],[]⟩ (eZ [(b6,_)] bm.rfl' bS.2.1 ⟨⟨iC.1.2,iC.1.1⟩,trivial⟩) ?_⟩
     simp +contextual only [go_sem,sevalprocAttr,aI,z0,bS,hin]
     intro b8 pp eC
     refine ⟨eZ [(b8,_),(b6,_)] bm.rfl' bS.2.1 ⟨⟨eC.2.1.2,eC.2.1.1⟩,⟨iC.1.2,iC.1.1⟩,trivial⟩,?_⟩
     refine cB (x:=(⟨names[i],t[i]⟩:Co)) Tryz.underlying51 Ml L8 bq rfl (fun _ _=>fZ) (Qc (c:=⟨names[i],t[i]⟩) rfl) pp (by rw [hzi];omega) (by decide) ?_
     intro fv' R' bw
     obtain ⟨va,vc,Zw⟩:=eI bw
     have eP:(uQ names t).take (i+1)=(uQ names t).take i++[⟨names[i],t[i]⟩]:=by
      rw [List.take_succ,HP aL DS];rfl
     rw [<- eP] at bw
     subst Zw
     simp +contextual only [go_sem,sevalprocAttr,aI,ht,iC,eC]
     refine ⟨eZ [(b8,_),(b6,_)] bm.rfl' bS.2.1 ⟨⟨eC.2.1.2,eC.2.1.1⟩,⟨iC.1.2,iC.1.1⟩,trivial⟩,?_⟩
     refine aS (al (aC ⟨t.length - (i+1),by omega,rfl,i+1,by omega,rfl,?_,?_,R',_,bw,rfl⟩))
     ·simp only [aE,aI,go_sem,sevalprocAttr]
     ·simp only [go_sem,sevalprocAttr,aA i (by omega)]
    ·have:i=t.length:=by omega
     subst this
     simp +contextual only [go_sem,aD,sevalprocAttr,rj,j7,aI,ht,aL]
     refine ⟨nI _ rfl,aT ?_⟩
     simp +contextual only [go_sem,sevalprocAttr,GT,aI,bS,iC]
     obtain ⟨_,_,_,_,_,_,_,_,_,_,_,hcx,hc⟩:=cT hp5
     cases hcx
     refine ⟨hc,fW.refl _,b4,b5,b6,_,rfl,rfl,?_⟩
     simp +contextual only [go_sem,sevalprocAttr,aI,bS,iC]
     refine ct bq (by omega) (by decide) ⟨bS.1,bS.2.1,bS.2.2.1,trivial⟩ fun M6 eO bW cH=>ak hN ?_
     have LH:(uQ names t).take t.length=uQ names t:=List.take_of_length_le (by omega)
     rw [LH] at cH
     unfold nA
     rw [XF]
     refine ⟨_,_,rfl,bA eO _ _ hp5,?_⟩
     rw [LH];exact cH
variable {M:aR}
def NU {xv zv:Value}{xs:List Ex}{z:List Z}(hx:RS M (hY M) 6 xs xv)(hz:RS M (RZ M) 2 z zv)(ce:∀ x∈xs,nw x)(VP:Zd 8 z)(hx8:xs.length<=8)(hz4:z.length<=400)(T:Tm):bU Tryz.prog 274 [xv,zv] T M [] [] (fun v M' _ _=>RS M' (RZ M') 2 (dZ (lh xs z)) v) aM:=by
 obtain ⟨fp,a,c,rfl,cX,_,hg⟩:=ax (by decide) (fun _ _=>bi) hz
 refine az ajp rfl rfl ?_
 intro bj _
 simp +contextual only [go_sem,aD,sevalprocAttr]
 refine aO z.length 10 [(0,xv),(8,.slice a z.length c),(9,.int .i64 (z.length:Int))] (fun i e h=>∃ N' M' R' fv,aG T N'/\bm M M'/\h=⟨N',M',[],R'⟩/\e 5=fv/\kY 37 2 (RZ M') [] R' fv (lh xs (z.take i))) 0 (by omega) (by simp only [aE,go_sem,sevalprocAttr]) (by simp only [go_sem,sevalprocAttr]) ⟨T,M,[],_,aG.rfl',bm.rfl',rfl,by simp only [go_sem,sevalprocAttr],cV⟩ ?_
 rintro i e h hi aI lO ⟨T1,M1,R1,fv,cY,aW,rfl,e11,bq⟩
 simp only [aE] at aI
 by_cases aL:i<z.length
 ·obtain ⟨b',o',cs',rfl,bP,s,cH,rfl⟩:=hg i z[i] (gq aL)
  obtain ⟨y0,y1,_⟩:=bP.ext aW
  obtain ⟨sa,sc,rfl⟩:=dH cH
  simp +contextual only [go_sem,aD,sevalprocAttr,aI,lO,aL,y0,y1]
  intro b13 T13 Jc DK Sr
  have hT:=cY.trans DK
  refine aT ?_
  simp +contextual only [go_sem,sevalprocAttr,aI,e11,aB Jc]
  refine aF (lV (tH aW hx) (jW aW cH) ce (VP _ (gm aL)).2 _) ?_
  rintro v M2 bh aZ hv
  simp only [aJ] at aZ
  obtain ⟨va,vc,rfl⟩:=dH hv
  simp +contextual only [go_sem,sevalprocAttr]
  refine ⟨dL bh aZ,?_⟩
  intro b3 gK cZ
  refine ⟨dJ bh aZ ⟨cZ,trivial⟩,?_⟩
  refine cB (Tryz.underlying32) ix iw (x:=⟨dw xs z[i].row,z[i].w⟩) (fY (eU bh) bq) ⟨_,hv,rfl⟩ (fun _ _=>bi) (gh (z:=⟨dw xs z[i].row,z[i].w⟩) ⟨_,hv,rfl⟩) gK (by simp [lh];omega) (by decide) ?_
  intro fv' R' bw
  have fQ:lh xs (z.take i)++[⟨dw xs z[i].row,z[i].w⟩]=lh xs (z.take (i+1)):=by
   unfold lh;rw [<- List.take_append_getElem aL,List.map_append];rfl
  rw [fQ] at bw
  simp +contextual only [go_sem,sevalprocAttr,lO]
  refine ⟨dJ bh aZ ⟨cZ,trivial⟩,aS (al (al (aC ⟨z.length - (i+1),by omega,rfl,i+1,by omega,rfl,?_,?_,T13,M2,R',fv',hT,aW.trans bh,rfl,?_,bw⟩)))⟩
  ·simp only [aE,aI,go_sem,sevalprocAttr]
  ·simp only [go_sem,sevalprocAttr,aA i (by omega)]
  ·simp only [go_sem,sevalprocAttr]
 ·have:i=z.length:=by omega
  subst this
  rw [List.take_length] at bq
  simp +contextual only [go_sem,aD,sevalprocAttr,aI,lO,aL,e11]
  have hml:(lh xs z).length<=400:=by simp [lh];omega
  refine kJ ad6.bd bq (by omega) (by decide) trivial fun M2 bh aZ cH=> ?_
  refine aF (yK (aH bm.rfl' (eU bh) cH) (by omega) (fun r hr=>by obtain ⟨r0,_,rfl⟩:=List.mem_map.1 hr;simp [dw];omega) _) ?_
  rintro v M3 bG _ hv
  obtain ⟨_,va,vc,rfl,_⟩:=ax (by decide) (fun _ _=>bi) hv
  simp +contextual only [go_sem,sevalprocAttr]
  exact ak cY hv
structure OrdC {α:Type} (f:α ->α ->Int):Prop where
 neg:∀ x y,f x y<0 ↔ 0<f y x
 tr:∀ x y z,f x y<=0 ->f y z<=0 ->f x z<=0
section
variable {α β:Type} {f:α ->α ->Int}
def OrdC.sym (h:OrdC f){x y:α}:f x y=0 ↔ f y x=0:=by
 have:=h.neg x y;have:=h.neg y x;omega
def OrdC.lt_le (h:OrdC f){x y z:α}(h1:f x y<0)(h2:f y z<=0):f x z<0:=by
 have h3:=h.tr x y z (by omega) h2
 by_cases h4:f x z=0
 ·have:=h.tr y z x h2 (by have:=h.sym.1 h4;omega)
  have:=(h.neg x y).1 h1
  omega
 ·omega
def OrdC.le_lt (h:OrdC f){x y z:α}(h1:f x y<=0)(h2:f y z<0):f x z<0:=by
 have h3:=h.tr x y z h1 (by omega)
 by_cases h4:f x z=0
 ·have:=h.tr z x y (by have:=h.sym.1 h4;omega) h1
  have:=(h.neg y z).1 h2
  omega
 ·omega
def OrdC.self (h:OrdC f)(x:α):f x x=0:=by have:=h.neg x x;omega
def OrdC.ez (h:OrdC f){x y z:α}(h1:f x y=0)(h2:f y z=0):f x z=0:=by
 have:=h.tr x y z (by omega) (by omega)
 have:=h.tr z y x (by have:=h.sym.1 h2;omega) (by have:=h.sym.1 h1;omega)
 have:=h.neg x z
 omega
def OrdC.swo (h:OrdC f):Sort.SWO (fun x y=>decide (f x y<0)) where
 irrefl x:=by have:=h.self x;simp;omega
 trans x y z h1 h2:=by
  simp only [decide_eq_true_eq] at*
  exact h.lt_le h1 (by omega)
 ntrans x y z h1 h2:=by
  simp only [decide_eq_false_iff_not] at*
  have:=h.neg x y;have:=h.neg y z;have:=h.neg x z
  have:=h.tr z y x
  omega
def OrdC.comap (h:OrdC f)(g:β ->α):OrdC (fun x y=>f (g x) (g y)):=⟨fun _ _=>h.neg _ _,fun _ _ _=>h.tr _ _ _⟩
end
def Mb {p q p' q':Int}(h1:p<0 ↔ 0<p')(h2:p'<0 ↔ 0<p)(h3:q<0 ↔ 0<q'):kg p q<0 ↔ 0<kg p' q':=by
 unfold kg;split<;>split<;>omega
def TP {p q r p' q' r':Int}(h1:p<=0 ->q<=0 ->r<=0)(h2:p<0 ->q<=0 ->r<0)(h3:p<=0 ->q<0 ->r<0)(h4:p=0 ->q=0 ->r=0)(h5:p'<=0 ->q'<=0 ->r'<=0)
 (a:kg p p'<=0) (b:kg q q'<=0):kg r r'<=0:=by
 unfold kg at*
 split at a<;>split at b<;>split<;>first | omega | (have:=h4 (by omega) (by omega);omega)
theorem OrdC.lex {α:Type}{f g:α ->α ->Int}(h:OrdC f)(k:OrdC g):OrdC (fun x y=>kg (f x y) (g x y)) where
 neg x y:=Mb (h.neg x y) (h.neg y x) (k.neg x y)
 tr x y z:=TP (h.tr x y z) h.lt_le h.le_lt h.ez (k.tr x y z)
theorem Mc:OrdC fx where
 neg x y:=by unfold fx;split<;>split<;>(try split)<;>omega
 tr x y z:=by unfold fx;(repeat' split)<;>omega
def O2:OrdC kb where
 neg x:=by
  unfold kb
  induction x with
  | nil=>intro y;cases y<;>simp [Lib.compareBytes]
  | cons a x ih=>
   intro y
   cases y with
   | nil=>simp [Lib.compareBytes]
   | cons b y=>
    unfold Lib.compareBytes
    by_cases h1:a<b
    ·have h2:¬ b<a:=by rw [UInt8.lt_iff_toNat_lt] at*;omega
     simp [h1,h2]
    ·by_cases h2:b<a
     ·simp [h1,h2]
     ·simp only [h1,h2,if_false];exact ih y
 tr x:=by
  unfold kb
  induction x with
  | nil=>intro y z;cases y<;>cases z<;>simp [Lib.compareBytes]
  | cons a x ih=>
   intro y z
   cases y with
   | nil=>simp [Lib.compareBytes]
   | cons b y=>
    cases z with
    | nil=>simp [Lib.compareBytes]
    | cons c z=>
     have ih':=ih y z
     unfold Lib.compareBytes
     simp only [UInt8.lt_iff_toNat_lt] at*
     (repeat' split)<;>first | omega | (intro h1 h2;first | omega | exact ih' h1 h2)
def z8:OrdC pQ:=(Mc.comap fun v=>(bQ v).k).lex ((Mc.comap fun v=>(bQ v).n).lex (O2.comap fun v=>(bQ v).t))
def ey:OrdC cC where
 neg x:=by
  induction x with
  | nil=>intro y;cases y<;>simp [cC]
  | cons a x ih=>
   intro y
   cases y with
   | nil=>simp [cC]
   | cons b y=>rw [cC,cC];exact Mb (z8.neg a b) (z8.neg b a) (ih y)
 tr x:=by
  induction x with
  | nil=>intro y z;cases y<;>cases z<;>simp [cC]
  | cons a x ih=>
   intro y z
   cases y with
   | nil=>simp [cC]
   | cons b y=>
    cases z with
    | nil=>simp [cC]
    | cons c z=>rw [cC,cC,cC];exact TP (z8.tr a b c) z8.lt_le z8.le_lt z8.ez (ih y z)
theorem Dq:∀ {s t:Bs},kb s t=0 ->s=t
 | [],[],_=>rfl
 | [],_::_,h=>by simp [kb,Lib.compareBytes] at h
 | _::_,[],h=>by simp [kb,Lib.compareBytes] at h
 | a::s,b::t,h=>by
  unfold kb Lib.compareBytes at h
  split at h
  ·omega
  split at h
  ·omega
  ·rename_i h1 h2
   rw [UInt8.lt_iff_toNat_lt] at h1 h2
   rw [Dq (s:=s) (t:=t) h,UInt8.toNat_inj.1 (show a.toNat=b.toNat by omega)]
def GL {a b:Int}(h:kg a b=0):a=0/\b=0:=by unfold kg at h;split at h<;>omega
def WC {a b:V}(h:pQ a b=0):bQ a=bQ b:=by
 obtain ⟨h1,h⟩:=GL h
 obtain ⟨h2,h3⟩:=GL h
 have e1:(bQ a).k=(bQ b).k:=by unfold fx at h1;(repeat' split at h1)<;>omega
 have e2:(bQ a).n=(bQ b).n:=by unfold fx at h2;(repeat' split at h2)<;>omega
 have e3:=Dq h3
 cases ha:bQ a;cases hb:bQ b
 rw [ha,hb] at e1 e2 e3
 simp only at e1 e2 e3
 rw [e1,e2,e3]
theorem uE:∀ {a b:List V},cC a b=0 ->a.map bQ=b.map bQ
 | [],[],_=>rfl
 | [],_::_,h=>by simp [cC] at h
 | _::_,[],h=>by simp [cC] at h
 | x::a,y::b,h=>by
  rw [cC] at h
  obtain ⟨h1,h2⟩:=GL h
  rw [List.map_cons,List.map_cons,WC h1,uE h2]
section
variable {α:Type} [Inhabited α] {cf:α ->α ->Int}
theorem Cd (a:Nat):∀ (j:Nat) (l:List α),Sort.insInner (fun x y=>decide (cf x y<0)) a j l.toArray=(lB cf a j l).toArray
 | 0,l=>rfl
 | j+1,l=>by
  have hl:∀ i,l.toArray[i]! =l.getD i default:=fun i=>by simp [List.getD_eq_getElem?_getD]
  rw [Sort.insInner,lB]
  by_cases h:a<j+1/\pw cf l (j+1) j=true
  ·have h':(decide (j+1>a) && decide (cf l.toArray[j+1]! l.toArray[j]!<0))=true:=by
    simp only [Bool.and_eq_true,decide_eq_true_eq]
    refine ⟨h.1,?_⟩
    rw [hl,hl];simpa [pw] using h.2
   have hs:Sort.swp l.toArray (j+1) j=(sw l (j+1) j).toArray:=by
    unfold Sort.swp sw
    rw [hl,hl,List.setIfInBounds_toArray,List.setIfInBounds_toArray]
   rw [if_pos h',if_pos h,hs]
   exact Cd a j _
  ·have h':¬ (decide (j+1>a) && decide (cf l.toArray[j+1]! l.toArray[j]!<0))=true:=by
    simp only [Bool.and_eq_true,decide_eq_true_eq]
    rintro ⟨h1,h2⟩
    refine h ⟨h1,?_⟩
    rw [hl,hl] at h2
    simpa [pw] using h2
   rw [if_neg h',if_neg h]
theorem Gf (a b:Nat):∀ (f i:Nat) (l:List α),i+f=b ->Sort.insOuter (fun x y=>decide (cf x y<0)) a b i l.toArray=(xo cf a f i l).toArray
 | 0,i,l,h=>by rw [Sort.insOuter,if_neg (by omega)];rfl
 | f+1,i,l,h=>by
  rw [Sort.insOuter,if_pos (by omega),Cd]
  exact Gf a b f (i+1) _ (by omega)
def Jx (h:OrdC cf)(l:List α):(qh cf l 0 l.length).Perm l/\(qh cf l 0 l.length).Pairwise fun x y=>cf x y<=0:=by
 have e:Sort.insertionSort (fun x y=>decide (cf x y<0)) l.toArray 0 l.length=(qh cf l 0 l.length).toArray:=by
  cases l with
  | nil=>simp [Sort.insertionSort,Sort.insOuter,qh,xo]
  | cons x l=>exact Gf 0 _ _ _ _ (by simp only [List.length_cons];omega)
 obtain ⟨⟨h1,_,h2⟩,h3⟩:=Sort.insertionSort_holds (lt:=fun x y=>decide (cf x y<0)) h.swo l.toArray 0 l.length (Nat.zero_le _) (by simp)
 rw [e] at h1 h2 h3
 simp only [List.size_toArray] at h1
 refine ⟨?_,?_⟩
 ·have ex:∀ (L:List α) n,n=L.length ->(L.toArray.extract 0 n).toList=L:=by rintro L _ rfl;simp
  rw [ex _ _ h1.symm,ex _ _ rfl] at h2
  exact h2
 ·refine List.pairwise_iff_getElem.2 fun i j hi hj zp=> ?_
  have:=h3 i j (Nat.zero_le _) zp (by omega)
  simp only [decide_eq_false_iff_not] at this
  have hg:∀ (L:List α) k (hk:k<L.length),L.toArray[k]! =L[k]:=fun L k hk=>by simp [hk]
  rw [hg _ i hi,hg _ j hj] at this
  have:=h.neg (qh cf l 0 l.length)[j] (qh cf l 0 l.length)[i]
  have:=h.neg (qh cf l 0 l.length)[i] (qh cf l 0 l.length)[j]
  omega
def Hl {l:List α}(hl:l.length<20):fk cf l=qh cf l 0 l.length:=by
 unfold fk
 rw [Pm,if_neg (by omega),P3,if_neg (by omega)]
def qz (h:OrdC cf){l:List α}(hl:l.length<20):(fk cf l).Perm l/\(fk cf l).Pairwise fun x y=>cf x y<=0:=by
 rw [Hl hl];exact Jx h l
end
instance:DecidableEq V:=fun a b=>if h:a.k=b.k/\a.n=b.n/\a.t=b.t then .isTrue (by cases a;cases b;simp_all) else .isFalse (by rintro rfl;exact h ⟨rfl,rfl,rfl⟩)
def wt (r:List V):List Z ->Int
 | []=>0
 | z::l=>(if z.row=r then z.w else 0)+wt r l
theorem rB (r:List V):∀ (a b:List Z),wt r (a++b)=wt r a+wt r b
 | [],b=>by simp [wt]
 | z::a,b=>by rw [List.cons_append,wt,wt,rB r a b];omega
def MN (r:List V){a b:List Z}(h:a.Perm b):wt r a=wt r b:=by
 induction h with
 | nil=>rfl
 | cons x _ ih=>rw [wt,wt,ih]
 | swap x y l=>simp only [wt];omega
 | trans _ _ h1 h2=>rw [h1,h2]
theorem yd {r:List V}:∀ {l:List Z},(∀ z∈l,z.row≠r) ->wt r l=0
 | [],_=>rfl
 | z::l,h=>by
  rw [wt,if_neg (h z (by simp)),yd fun z hz=>h z (tC hz)];rfl
def lf (l:List Z):Prop:=l.Pairwise (fun x y=>cC x.row y.row<0)/\∀ z∈l,z.w≠0/\z.row.map bQ=z.row
def l5 {x:Z}{l:List Z}(h:lf (x::l)):lf l:=⟨(List.pairwise_cons.1 h.1).2,fun z hz=>h.2 z (tC hz)⟩
def kE {x:Z}{l:List Z}(h:lf (x::l)):wt x.row l=0:=yd fun z hz he=>by
 have h1:=(List.pairwise_cons.1 h.1).1 z hz
 rw [he,ey.self] at h1
 omega
theorem lU:∀ {a b:List Z},lf a ->lf b ->(∀ r,wt r a=wt r b) ->a=b
 | [],[],_,_,_=>rfl
 | [],y::b,_,hb,h=>absurd (by simpa [wt,kE hb] using (h y.row).symm) (hb.2 y (by simp)).1
 | x::a,[],ha,_,h=>absurd (by simpa [wt,kE ha] using h x.row) (ha.2 x (by simp)).1
 | x::a,y::b,ha,hb,h=>by
  have hxw:=(ha.2 x (by simp)).1
  have hyw:=(hb.2 y (by simp)).1
  have less:∀ {x:Z} {a:List Z} {y:Z} {b:List Z},lf (x::a) ->lf (y::b) ->x.w≠0 ->(∀ r,wt r (x::a)=wt r (y::b)) ->¬ cC x.row y.row<0:=by
   intro x a y b ha hb hw h aL
   have h1:=h x.row
   rw [wt,if_pos rfl,kE ha,yd (l:=y::b)] at h1
   ·omega
   ·intro z hz he
    rcases lQ hz with rfl | hz
    ·rw [he,ey.self] at aL;omega
    ·have h2:=(List.pairwise_cons.1 hb.1).1 z hz
     have:=ey.lt_le aL (Int.le_of_lt h2)
     rw [he,ey.self] at this;omega
  have n1:=less ha hb hxw h
  have n2:=less hb ha hyw fun r=>(h r).symm
  have hz:cC x.row y.row=0:=by have:=ey.neg y.row x.row;omega
  have hr:x.row=y.row:=by rw [<- (ha.2 x (by simp)).2,<- (hb.2 y (by simp)).2];exact uE hz
  have hw:x.w=y.w:=by
   have h1:=h x.row
   rw [wt,wt,if_pos rfl,if_pos hr.symm,kE ha,hr,kE hb] at h1
   omega
  have LG:x=y:=by cases x;cases y;simp only at hr hw;rw [hr,hw]
  subst LG
  rw [lU (l5 ha) (l5 hb) fun r=>by have:=h r;simp only [wt] at this;omega]
def dt:List Z ->Nat
 | []=>0
 | z::l=>z.w.natAbs+dt l
def uZ {a b:List Z}(h:a.Perm b):dt a=dt b:=by
 induction h with
 | nil=>rfl
 | cons x _ ih=>rw [dt,dt,ih]
 | swap x y l=>simp only [dt];omega
 | trans _ _ h1 h2=>rw [h1,h2]
theorem qj:∀ (l:List Z) (x:Z),(x::l).Pairwise (fun x y=>cC x.row y.row<=0) ->(∀ z∈x::l,z.row.map bQ=z.row) ->dt (x::l)<4611686018427387904 ->
 lf (fV x l)/\(∀ z∈fV x l,∃ y∈x::l,z.row=y.row)/\∀ r,wt r (fV x l)=wt r (x::l)
 | [],x,_,hb,_=>by
  rw [fV]
  unfold pf
  split
  ·rename_i h0
   exact ⟨⟨List.Pairwise.nil,fun z hz=>by cases hz⟩,fun z hz=>(by cases hz),fun r=>by simp [wt,h0]⟩
  ·rename_i h0
   exact ⟨⟨List.pairwise_singleton ..,fun z hz=>by simp only [mn] at hz;subst hz;exact ⟨h0,hb _ (by simp)⟩⟩,fun z hz=>⟨z,by simpa using hz,rfl⟩,fun r=>rfl⟩
 | y::l,x,hp,hb,ha=>by
  obtain ⟨p1,p2⟩:=List.pairwise_cons.1 hp
  rw [fV]
  simp only [dt] at ha
  by_cases h0:cC y.row x.row=0
  ·rw [if_pos h0]
   have hw:IntKind.i64.wrap (x.w+y.w)=x.w+y.w:=bJ (by omega) (by omega)
   rw [hw]
   have hyx:y.row=x.row:=by rw [<- hb y (by simp),<- hb x (by simp)];exact uE h0
   obtain ⟨i1,i2,i3⟩:=qj l ⟨x.row,x.w+y.w⟩ (List.pairwise_cons.2 ⟨fun z hz=>p1 z (tC hz),(List.pairwise_cons.1 p2).2⟩)
    (fun z hz=>by
     rcases lQ hz with rfl | hz
     ·exact hb x (by simp)
     ·exact hb z (by simp [hz])) (by simp only [dt];omega)
   refine ⟨i1,fun z hz=> ?_,fun r=> ?_⟩
   ·obtain ⟨u,hu,he⟩:=i2 z hz
    rcases lQ hu with rfl | hu
    ·exact ⟨x,by simp,he⟩
    ·exact ⟨u,by simp [hu],he⟩
   ·rw [i3]
    simp only [wt,hyx]
    split<;>omega
  ·rw [if_neg h0]
   obtain ⟨i1,i2,i3⟩:=qj l y p2 (fun z hz=>hb z (tC hz)) (by simp only [dt];omega)
   have LG:∀ z∈fV y l,cC x.row z.row<0:=by
    intro z hz
    obtain ⟨u,hu,he⟩:=i2 z hz
    have h1:cC x.row y.row<0:=by have:=p1 y (by simp);have:=ey.sym (x:=x.row) (y:=y.row);omega
    rw [he]
    rcases lQ hu with rfl | hu
    ·exact h1
    ·exact ey.lt_le h1 ((List.pairwise_cons.1 p2).1 u hu)
   unfold pf
   split
   ·rename_i hx0
    refine ⟨by simpa using i1,fun z hz=> ?_,fun r=> ?_⟩
    ·obtain ⟨u,hu,he⟩:=i2 z (by simpa using hz)
     exact ⟨u,tC hu,he⟩
    ·rw [List.nil_append,i3];simp [wt,hx0]
   ·rename_i hx0
    refine ⟨⟨?_,?_⟩,fun z hz=> ?_,fun r=> ?_⟩
    ·exact List.pairwise_cons.2 ⟨LG,i1.1⟩
    ·intro z hz
     rcases lQ hz with rfl | hz
     ·exact ⟨hx0,hb _ (by simp)⟩
     ·exact i1.2 z hz
    ·rcases lQ hz with rfl | hz
     ·exact ⟨z,by simp,rfl⟩
     ·obtain ⟨u,hu,he⟩:=i2 z hz
      exact ⟨u,tC hu,he⟩
    ·show wt r (x::fV y l)=_
     rw [wt,i3];rfl
def rz (v:V):bQ (bQ v)=bQ v:=by unfold bQ;by_cases h1:v.k=1<;>by_cases h4:v.k=4<;>simp [h1,h4]
def Nr (z:Z):(fG z).row.map bQ=(fG z).row:=by
 unfold fG
 rw [List.map_map]
 exact List.map_congr_left fun v _=>rz v
def Ht {l:List Z}(hl:l.length<20)(ha:dt l<4611686018427387904):lf (dZ l)/\∀ r,wt r (dZ l)=wt r (l.map fG):=by
 have Xq:dt (l.map fG)=dt l:=by
  clear ha hl
  induction l with
  | nil=>rfl
  | cons z l ih=>rw [List.map_cons,dt,dt,ih];rfl
 obtain ⟨h1,h2⟩:=qz (cf:=PP) (ey.comap Z.row) (l:=l.map fG) (by rw [List.length_map];exact hl)
 unfold dZ
 have h3:∀ r,wt r (fk PP (l.map fG))=wt r (l.map fG):=fun r=>MN r h1
 have h4:=uZ h1
 have h5:∀ z∈fk PP (l.map fG),z.row.map bQ=z.row:=fun z hz=>by
  obtain ⟨u,_,rfl⟩:=List.mem_map.1 (h1.mem_iff.1 hz)
  exact Nr u
 cases hs:fk PP (l.map fG) with
 | nil=>
  rw [hs] at h3
  exact ⟨⟨List.Pairwise.nil,fun z hz=>by cases hz⟩,fun r=>h3 r⟩
 | cons x s=>
  rw [hs] at h2 h3 h4 h5
  obtain ⟨i1,_,i3⟩:=qj s x h2 h5 (by omega)
  exact ⟨i1,fun r=>by rw [o4,i3,h3]⟩
variable {M:aR}
theorem aab:∀ {z:List Z} {i:Nat} (hi:i<z.length),lf z ->wt z[i].row z=z[i].w
 | x::l,0,_,hc=>by simp only [List.getElem_cons_zero,wt,if_true,kE hc];omega
 | x::l,i+1,hi,hc=>by
  have DO:i<l.length:=by simpa using hi
  simp only [List.getElem_cons_succ]
  have aL:=(List.pairwise_cons.1 hc.1).1 l[i] (gm DO)
  rw [wt,if_neg (by intro h;rw [h,ey.self] at aL;omega),aab DO (l5 hc)]
  omega
def lk (g:List V ->Int):List Z ->Int
 | []=>0
 | z::l=>g z.row*z.w+lk g l
theorem qB (g:List V ->Int):∀ (a b:List Z),lk g (a++b)=lk g a+lk g b
 | [],b=>by simp [lk]
 | z::a,b=>by rw [List.cons_append,lk,lk,qB g a b];omega
theorem AB (g:List V ->Int)(r:List V):∀ (l:List Z),lk g l=g r*wt r l+lk g (l.filter fun z=>decide (z.row≠r))
 | []=>by simp [lk,wt]
 | z::l=>by
  rw [lk,wt,AB g r l,List.filter_cons]
  by_cases h:z.row=r
  ·simp only [h,ne_eq,not_true_eq_false,decide_false,if_true,Bool.false_eq_true,if_false]
   rw [Int.mul_add];omega
  ·simp only [h,ne_eq,not_false_eq_true,decide_true,if_true,if_false,lk]
   rw [Int.zero_add];omega
theorem pe (r q:List V)(h:q≠r):∀ (l:List Z),wt q (l.filter fun z=>decide (z.row≠r))=wt q l
 | []=>rfl
 | z::l=>by
  rw [List.filter_cons]
  by_cases hz:z.row=r
  ·have hq:¬ z.row=q:=fun he=>h (he.symm.trans hz)
   simp only [hz,ne_eq,not_true_eq_false,decide_false,Bool.false_eq_true,if_false,wt]
   rw [if_neg (fun he=>h he.symm),pe r q h l];omega
  ·simp only [hz,ne_eq,not_false_eq_true,decide_true,if_true,wt]
   rw [pe r q h l]
def AO (r:List V)(l:List Z):wt r (l.filter fun z=>decide (z.row≠r))=0:=yd fun z hz=>by
 simpa using (List.mem_filter.1 hz).2
theorem CJ (g:List V ->Int):∀ (n:Nat) (l:List Z),l.length<=n ->(∀ r,wt r l=0) ->lk g l=0
 | _,[],_,_=>rfl
 | n+1,z::l,hn,h=>by
  rw [AB g z.row,h z.row,Int.mul_zero,Int.zero_add]
  refine CJ g n _ ?_ fun q=> ?_
  ·rw [List.filter_cons]
   simp only [ne_eq,not_true_eq_false,decide_false,Bool.false_eq_true,if_false]
   exact Nat.le_trans (List.length_filter_le _ _) (by simpa using hn)
  ·by_cases hq:q=z.row
   ·subst hq;exact AO _ _
   ·rw [pe _ _ hq];exact h q
def TD (l:List Z):List Z:=l.map fun z=>⟨z.row, -z.w⟩
theorem MM (r:List V):∀ (l:List Z),wt r (TD l)= - wt r l
 | []=>rfl
 | z::l=>by
  show (if z.row=r then -z.w else 0)+wt r (TD l)=_
  rw [wt,MM r l];split<;>omega
theorem CI (g:List V ->Int):∀ (l:List Z),lk g (TD l)= - lk g l
 | []=>rfl
 | z::l=>by
  show g z.row*(-z.w)+lk g (TD l)=_
  rw [lk,CI g l,Int.mul_neg];omega
def UM {g:List V ->Int}{a b c:List Z}(h:∀ r,wt r a=wt r b+wt r c):lk g a=lk g b+lk g c:=by
 have:=CJ g _ (a++TD (b++c)) (Nat.le_refl _) fun r=>by rw [rB,MM,rB,h r];omega
 rw [qB,CI,qB] at this
 omega
def UN {g:List V ->Int}{a b:List Z}(h:∀ r,wt r a=wt r b):lk g a=lk g b:=by
 have:=UM (g:=g) (a:=a) (b:=b) (c:=[]) fun r=>by rw [h r];simp [wt]
 rw [this];simp [lk]
theorem Vw (f:List V ->List V)(r:List V):∀ (l:List Z),wt r (l.map fun z=>⟨f z.row,z.w⟩)=lk (fun q=>if f q=r then 1 else 0) l
 | []=>rfl
 | z::l=>by
  rw [List.map_cons,wt,lk,Vw f r l]
  dsimp only
  split<;>omega
theorem qP:∀ {l:List Z},(∀ z∈l,z.row.map bQ=z.row) ->l.map fG=l
 | [],_=>rfl
 | z::l,h=>by
  rw [List.map_cons,qP fun y hy=>h y (tC hy)]
  unfold fG
  rw [h z (by simp)]
theorem pK:∀ (a b:List Z),dt (a++b)=dt a+dt b
 | [],b=>by simp [dt]
 | z::a,b=>by rw [List.cons_append,dt,dt,pK a b];omega
theorem tN:∀ {l:List Z} {z:Z},z∈l ->z.w.natAbs<=dt l
 | y::l,z,h=>by
  rw [dt]
  rcases lQ h with rfl | h
  ·omega
  ·have:=tN h;omega
theorem LR:∀ {l:List Z},(∀ z∈l,z.w≠0) ->l.length<=dt l
 | [],_=>Nat.le_refl _
 | z::l,h=>by
  have:=LR (l:=l) fun y hy=>h y (tC hy)
  have:=h z (by simp)
  rw [dt,List.length_cons];omega
theorem sY:∀ (l:List Z) (x:Z),dt (x::l)<4611686018427387904 ->dt (fV x l)<=dt (x::l)
 | [],x,_=>by
  rw [fV];unfold pf;split<;>simp [dt]
 | y::l,x,h=>by
  rw [fV]
  simp only [dt] at h ⊢
  split
  ·have hw:IntKind.i64.wrap (x.w+y.w)=x.w+y.w:=bJ (by omega) (by omega)
   rw [hw]
   have:=sY l ⟨x.row,x.w+y.w⟩ (by simp only [dt];omega)
   simp only [dt] at this;omega
  ·have:=sY l y (by simp only [dt];omega)
   rw [pK]
   simp only [dt] at this
   unfold pf;split<;>simp only [dt]<;>omega
theorem qi:∀ (l:List Z) (x:Z),∀ z∈fV x l,∃ y∈x::l,z.row=y.row
 | [],x,z,hz=>by
  rw [fV] at hz
  unfold pf at hz
  split at hz
  ·cases hz
  ·exact ⟨z,by simpa using hz,rfl⟩
 | y::l,x,z,hz=>by
  rw [fV] at hz
  split at hz
  ·obtain ⟨u,hu,he⟩:=qi l _ z hz
   rcases lQ hu with rfl | hu
   ·exact ⟨x,by simp,he⟩
   ·exact ⟨u,by simp [hu],he⟩
  ·rcases xY hz with hz | hz
   ·unfold pf at hz
    split at hz
    ·cases hz
    ·exact ⟨x,by simp,by rw [List.mem_singleton.1 hz]⟩
   ·obtain ⟨u,hu,he⟩:=qi l _ z hz
    exact ⟨u,tC hu,he⟩
theorem Bo:∀ (l:List Z),dt (l.map fG)=dt l
 | []=>rfl
 | z::l=>by rw [List.map_cons,dt,dt,Bo l];rfl
structure Fine (P:List V ->Prop) (N:Nat) (z:List Z):Prop where
 can:lf z
 abs:dt z<=N
 row:∀ x∈z,P x.row
def Fine.len {P N z}(h:Fine P N z):z.length<=N:=Nat.le_trans (LR fun y hy=>(h.can.2 y hy).1) h.abs
def Fine.bare {P N z}(h:Fine P N z):∀ y∈z,y.row.map bQ=y.row:=fun y hy=>(h.can.2 y hy).2
def Fine.mono {P P':List V ->Prop}{N N' z}(h:Fine P N z)(hP:∀ r,P r ->P' r)(hN:N<=N'):Fine P' N' z:=⟨h.can,Nat.le_trans h.abs hN,fun x hx=>hP _ (h.row x hx)⟩
def Fine.nil {P N}:Fine P N []:=⟨⟨List.Pairwise.nil,fun z hz=>by cases hz⟩,Nat.zero_le _,fun z hz=>by cases hz⟩
def pd {P:List V ->Prop}{N:Nat}{l:List Z}(hl:l.length<20)(ha:dt l<=N)(hN:N<=1000000)(hr:∀ x∈l,P (x.row.map bQ)):Fine P N (dZ l)/\∀ r,wt r (dZ l)=wt r (l.map fG):=by
 obtain ⟨h1,h2⟩:=Ht hl (by omega)
 have hp:=(qz (cf:=PP) (ey.comap Z.row) (l:=l.map fG) (by rw [List.length_map];exact hl)).1
 have ha2:=uZ hp
 rw [Bo] at ha2
 refine ⟨⟨h1,?_,?_⟩,h2⟩
 ·unfold dZ
  cases hs:fk PP (l.map fG) with
  | nil=>exact Nat.zero_le _
  | cons x s=>
   rw [hs] at ha2
   exact Nat.le_trans (sY s x (by omega)) (by omega)
 ·unfold dZ
  cases hs:fk PP (l.map fG) with
  | nil=>intro x hx;cases hx
  | cons x s=>
   intro z hz
   obtain ⟨y,hy,he⟩:=qi s x z hz
   rw [<- hs] at hy
   obtain ⟨u,hu,rfl⟩:=List.mem_map.1 (hp.mem_iff.1 hy)
   rw [he];exact hr u hu
def Si {P:List V ->Prop}{N:Nat}{z:List Z}(h:Fine P N z)(hN:N<=400):Xe z=.ok z:=by
 have:DH z=0:=by
  unfold DH
  have hl:=h.len
  rw [if_neg,if_neg (by omega)]
  simp only [List.any_eq_true,Bool.not_eq_true',not_exists,not_and,Bool.not_eq_false]
  intro x hx
  have:=tN hx
  have:=h.abs
  unfold gF
  simp only [Bool.and_eq_true,decide_eq_true_eq]
  omega
 unfold Xe
 rw [if_pos this]
def AC {P:List V ->Prop}{N:Nat}{l:List Z}(hl:l.length<20)(ha:dt l<=N)(hN:N<=400)(hr:∀ x∈l,P (x.row.map bQ)):∃ z,oC l=.ok z/\Fine P N z/\∀ r,wt r z=wt r (l.map fG):=by
 obtain ⟨h1,h2⟩:=pd hl ha (by omega) hr
 exact ⟨_,by unfold oC;exact Si h1 hN,h1,h2⟩
theorem VI:∀ (l:List Z) (p:Option (List V)),l.Pairwise (fun x y=>cC x.row y.row<0) ->(∀ r,p=some r ->∀ z∈l,cC r z.row<0) ->(∀ z∈l,jT z.row=0/\z.w≠0/\gF z.w=true) ->Y3 p l=0
 | [],_,_,_,_=>rfl
 | x::l,p,hs,hp,hr=>by
  obtain ⟨h1,h2,h3⟩:=hr x (by simp)
  obtain ⟨s1,s2⟩:=List.pairwise_cons.1 hs
  rw [Y3]
  have:HQ p x=0:=by
   unfold HQ
   rw [h1,o6,if_neg (by simp [h2,h3])]
   cases p with
   | none=>rfl
   | some r=>have:=hp r rfl x (by simp);simp only;rw [if_neg (by omega)]
  rw [this,o6]
  exact VI l _ s2 (fun r xW z hz=>by injection xW with xW;subst xW;exact s1 z hz) fun z hz=>hr z (tC hz)
def Fine.wrong {P:List V ->Prop}{N:Nat}{z:List Z}(h:Fine P N z)(hN:N<=400)(hP:∀ r,P r ->jT r=0):dQ z=0:=by
 have hl:=h.len
 unfold dQ
 rw [if_neg (by omega)]
 refine VI z none h.can.1 (fun r hr=>by cases hr) fun x hx=>⟨hP _ (h.row x hx),(h.can.2 x hx).1,?_⟩
 have:=tN hx
 have:=h.abs
 unfold gF
 simp only [Bool.and_eq_true,decide_eq_true_eq]
 omega
theorem FL {α:Type}{f:α ->Int}:∀ {l:List α},(∀ x∈l,f x=0) ->mF f l=0
 | [],_=>rfl
 | x::l,h=>by rw [mF,h x (by simp),o6];exact FL fun y hy=>h y (tC hy)
theorem BZ:∀ {row:List V} {cols:List Int},row.length=cols.length ->tZ row cols=0 ->mF eR row=0
 | [],_,_,_=>rfl
 | v::row,[],h,_=>by simp at h
 | v::row,c::cols,h,h0=>by
  rw [tZ] at h0
  obtain ⟨h1,h2⟩:=z7 h0
  split at h2
  ·cases h2
  ·rw [mF,h1,o6];exact BZ (by simpa using h) h2
def qU {cols:List Int}{row:List V}(hc:cols.length<=8)(h:mS cols row=0):jT row=0:=by
 unfold mS at h
 split at h
 ·cases h
 rename_i hl
 unfold jT
 rw [if_neg (by omega)]
 exact BZ (by omega) h
def Fine.input {P:List V ->Prop}{N:Nat}{z:List Z}{cols:List Int}(h:Fine P N z)(hN:N<=400)(hc:cols.length<=8)(hP:∀ r,P r ->mS cols r=0):iE cols z=0:=by
 unfold iE
 rw [if_neg (by omega),h.wrong hN fun r hr=>qU hc (hP r hr),o6]
 exact FL fun x hx=>hP _ (h.row x hx)
variable {M:aR}
def K5 {zs:List (List Z)}{v:Value}(hz:RS M (RD M) 1 zs v)(bu:zs.length<=64)(hl:∀ l∈zs,l.length<=16777216/\∀ z∈l,z.row.length<=4294967296)(T:Tm):bU Tryz.prog 275 [v] T M [] [] (fun v M' _ _=>RS M' (RZ M') 2 (dZ zs.flatten) v) aM:=by
 obtain ⟨_,a,c,rfl,_⟩:=ax (by decide) (fun _ _=>gW) hz
 have Jk:zs.flatten.length<=64*16777216:=by
  rw [List.length_flatten]
  have:∀ l:List (List Z),(∀ x∈l,x.length<=16777216) ->(l.map List.length).sum<=l.length*16777216:=by
   intro l
   induction l with
   | nil=>intro _;simp
   | cons x l ih=>
    intro h
    have:=ih fun y hy=>h y (tC hy)
    have:=h x (by simp)
    rw [List.map_cons,List.sum_cons,List.length_cons,Nat.add_mul];omega
  exact Nat.le_trans (this _ fun x hx=>(hl x hx).1) (Nat.mul_le_mul_right _ bu)
 refine az aaq rfl rfl ?_
 intro bj _
 simp +contextual only [go_sem,sevalprocAttr]
 refine aF (yH hz bu (fun l h=>(hl l h).1) _) ?_
 rintro v M1 aW bD hv
 simp +contextual only [go_sem,sevalprocAttr]
 refine aF (yK hv (by omega) (by intro z hz';obtain ⟨l,h1,h2⟩:=List.mem_flatten.1 hz';exact (hl l h1).2 z h2) _) ?_
 rintro v M2 bh _ hv
 obtain ⟨_,va,vc,rfl,_⟩:=ax (by decide) (fun _ _=>bi) hv
 simp +contextual only [go_sem,sevalprocAttr]
 exact ak aG.rfl' hv
def AT {α:Type}(el:TypeId)(sz:Nat)(r:α ->List Value ->Prop)(R0 R:RR)(fv:Value)(acc:List α):Prop:=
 (acc=[]/\R=R0/\(fv=.slice none 0 0\/∃ b,fv=.slice (some ⟨b,0,none⟩) 0 0))\/∃ a c xs,fv=.slice a acc.length c/\RL r acc xs/\R=(fv,el,sz,xs)::R0
section
variable {α:Type} {el:TypeId} {sz:Nat} {r:α ->List Value ->Prop} {R0 R:RR} {fv:Value} {acc:List α}
theorem eT (h:AT el sz r R0 R fv acc):∃ a c,fv=.slice a acc.length c:=by
 rcases h with ⟨rfl,_,rfl | ⟨b,rfl⟩⟩ | ⟨a,c,xs,rfl,_⟩<;>exact ⟨_,_,rfl⟩
def qH {r':α ->List Value ->Prop}(hr:∀ x cs,r x cs ->r' x cs)(h:AT el sz r R0 R fv acc):AT el sz r' R0 R fv acc:=by
 rcases h with h | ⟨a,c,xs,h1,h2,h3⟩
 ·exact .inl h
 ·exact .inr ⟨a,c,xs,h1,dl hr h2,h3⟩
theorem KJ {M:aR}{b:Nat}:RS M r sz [] (.slice (some ⟨b,0,none⟩) 0 0):=⟨by simp,[],.inr ⟨b,0,0,0,rfl,Nat.le_refl _,by simp,trivial⟩,rfl⟩
def yq {P:Program}{F:Fi}{s:List Vc.Item}{e:dx}{ds:List Deferred}{dd:Option Nat}{T:Tm}{M:aR}{L:LL}{t:TypeId}{z:List Value}{b:Nat}{x:α}{cs:List Value}(hu:P.underlying t=some (.slice el))(bN:dY P t=some (el,sz,z))(ce:kz P t=true)
 (h:AT el sz r R0 R fv acc) (hx:r x cs) (bu:∀ x cs,r x cs ->cs.length=sz) (dB:∀ u∈cs,u.oneCell'=true) (hb:M b=none) (hl:acc.length*sz+sz<=4398046511104) (dK:0<sz)
 (k:∀ fv' R',AT el sz r R0 R' fv' (acc++[x]) ->cA P F s (cI e dd fv') ds ⟨T,M,(b,cs)::L,R'⟩ ⟨⟩):om P F t t fv (.slice (some ⟨b,0,none⟩) 1 1) dd s e ds ⟨T,M,(b,cs)::L,R⟩ ⟨⟩:=by
 have cK:=bu x cs hx
 rcases h with ⟨rfl,rfl,rfl | ⟨b2,rfl⟩⟩ | ⟨a,c,xs,rfl,h3,rfl⟩
 ·refine cB hu bN ce cV hx bu dB hb hl dK ?_
  rintro fv' R' (⟨h,_⟩ | h)
  ·simp at h
  ·exact k _ _ (.inr h)
 ·refine ld (n:=0) (xs:=[]) bN ce (.slice _ 1 _ _ _ hu (cF [] hb trivial (by rw [cK,Nat.one_mul])) dB) (by rw [Nat.zero_mul];rfl) (by omega) (by simp only [List.length_nil] at hl ⊢;omega) ?_
  intro ra rm rc jl
  have hm1:rm=1:=by
   simp only [List.length_nil,Nat.zero_add] at jl
   rw [cK] at jl
   exact Nat.eq_of_mul_eq_mul_right dK (by omega)
  subst hm1
  exact k _ _ (.inr ⟨ra,rc,_,rfl,⟨cs,[],by simp,hx,rfl⟩,rfl⟩)
 ·refine cB hu bN ce (.inr ⟨a,c,xs,rfl,h3,rfl⟩) hx bu dB hb hl dK ?_
  rintro fv' R' (⟨h,_⟩ | h)
  ·simp at h
  ·exact k _ _ (.inr h)
def iM {N:Tm}{M:aR}{L:LL}{k:Sh ->Prop}(h:AT el sz r R0 R fv acc)(hb:acc.length*sz<=4398046511104)(dK:0<sz)(bj:aJ M L)(hk:∀ M',bm M M' ->aJ M' L ->RS M' r sz acc fv ->cq ⟨N,M',L,R0⟩ k):cq ⟨N,M,L,R⟩ k:=by
 rcases h with ⟨rfl,rfl,rfl | ⟨b,rfl⟩⟩ | ⟨a,c,xs,rfl,h3,rfl⟩
 ·exact hk M bm.rfl' bj bz
 ·exact hk M bm.rfl' bj KJ
 ·exact cP (fun M' hM ut iR=>hk M' hM ut ⟨hb,xs,iR,h3⟩) dK
end
variable {M:aR}
theorem NS {w:Int}{rv:Value}(h1:rv.oneCell'=true)(hw:0<w)(T:Tm):bU Tryz.prog 326 [.agg ⟨[rv,.int .i64 w]⟩] T M [] [] (fun r _ _ _=>r=.bool false) aM:=by
 have hn:¬ w<=0:=by omega
 refine az ajy rfl rfl ?_
 intro bj _
 simp +contextual only [go_sem,sevalprocAttr]
 intro b1 T1 fO cY gu
 simp +contextual only [go_sem,sevalprocAttr,hn]
 exact ak cY rfl
theorem AY {z:List Z}{zv:Value}(hz:RS M (RZ M) 2 z zv)(hw:∀ r∈z,0<r.w)(T:Tm):bU Tryz.prog 243 [zv,.func (.func 326) #[] #[]] T M [] [] (fun r _ _ _=>r=.int .i64 (-1)) aM:=by
 obtain ⟨fp,a,c,rfl,cX,_,hg⟩:=ax (by decide) (fun _ _=>bi) hz
 refine az aeh rfl rfl ?_
 intro bj _
 simp +contextual only [go_sem,aD,sevalprocAttr]
 refine aO z.length 8 [(0,.slice a z.length c),(1,.func (.func 326) #[] #[]),(7,.int .i64 (z.length:Int))] (fun i e h=>h=⟨T,M,[],[]⟩) 0 (by omega) (by simp only [aE,go_sem,sevalprocAttr]) (by simp only [go_sem,sevalprocAttr]) rfl ?_
 rintro i e h hi aI ht rfl
 simp only [aE] at aI
 by_cases aL:i<z.length
 ·obtain ⟨b',o',cs',rfl,bP,s,bN,rfl⟩:=hg i z[i] (gq aL)
  obtain ⟨y0,y1,_⟩:=bP
  simp +contextual only [go_sem,aD,sevalprocAttr,aI,ht,aL,y0,y1]
  refine aP (NS (dy bN).1 (hw _ (gm aL)) _) ?_
  simp +contextual only [go_sem,aD,sevalprocAttr,ht]
  refine bT aL ?_ ?_ rfl
  ·simp only [aE,aI,go_sem,sevalprocAttr]
  ·simp only [go_sem,sevalprocAttr,aA i (by omega)]
 ·have:i=z.length:=by omega
  subst this
  simp +contextual only [go_sem,aD,sevalprocAttr,aI,ht,aL]
  exact ak aG.rfl' rfl
theorem wz {z:List Z}{zv:Value}(hz:RS M (RZ M) 2 z zv)(hw:∀ r∈z,0<r.w)(T:Tm):bU Tryz.prog 324 [zv,.func (.func 326) #[] #[]] T M [] [] (fun r _ _ _=>r=zv) aM:=by
 have uU:=hz
 obtain ⟨_,a,c,rfl,_⟩:=ax (by decide) (fun _ _=>bi) hz
 refine az aar rfl rfl ?_
 intro bj _
 simp +contextual only [go_sem,sevalprocAttr]
 refine aP (AY uU hw _) ?_
 simp +contextual only [go_sem,aD,sevalprocAttr]
 exact ak aG.rfl' rfl
def ID {zv:Value}(hz:RS M (RZ M) 2 [] zv)(T:Tm):bU Tryz.prog 325 [zv] T M [] [] (fun v M' _ _=>RS M' (RZ M') 2 [] v) aM:=by
 obtain ⟨fp,a,c,rfl,cX,wH,gl⟩:=ax (by decide) (fun _ _=>bi) hz
 refine az aep rfl rfl ?_
 intro bj _
 cases a with
 | none=>
  cases wH rfl
  simp +contextual only [go_sem,aD,sevalprocAttr]
  exact ak aG.rfl' bz
 | some p=>
  simp +contextual only [go_sem,aD,sevalprocAttr]
  intro b hb
  refine pO ix iw (.slice p 0 c [] _ Tryz.underlying32 rfl (by simp)) (by omega) ?_
  simp +contextual only [go_sem,sevalprocAttr]
  exact al (ak aG.rfl' KJ)
theorem Nz {z:List Z}{zv:Value}(hz:RS M (RZ M) 2 z zv)(h0:z≠[])(bu:z.length<=16777216)(T:Tm):
 PN Tryz.prog 325 [zv] T M [] [] 1 (fun v M' _ R'=>∃ a c xs,v=.slice a z.length c/\RL (RZ M') z xs/\R'=[(v,37,2,xs)]) aM:=by
 obtain ⟨fp,a,c,rfl,cX,wH,gl⟩:=ax (by decide) (fun _ _=>bi) hz
 refine l6 aep rfl rfl ?_
 intro bj _
 obtain ⟨p,hp⟩:∃ p,a=some p:=by
  cases z with
  | nil=>exact (h0 rfl).elim
  | cons x l=>obtain ⟨b,o,cs,h,_⟩:=gl 0 x rfl;exact ⟨_,h⟩
 subst hp
 obtain ⟨ys,H4,xn,xl⟩:=gE (P:=Tryz.prog) Tryz.underlying32 (fun _ _=>bi) (fun _ _ h=>gh h) hz
 have dK:0<z.length:=List.length_pos_iff.2 h0
 simp +contextual only [go_sem,aD,sevalprocAttr]
 intro b hb
 refine ld (n:=0) (xs:=[]) ix iw (xl _ _ _) rfl (by omega) (by simp only [List.length_nil];omega) ?_
 intro ra rm rc jl
 have jm:rm=z.length:=by simp only [List.length_nil] at jl;omega
 subst jm
 simp +contextual only [go_sem,sevalprocAttr]
 exact al (aQ aG.rfl' rfl rfl ⟨_,_,_,rfl,xn,rfl⟩)
theorem Fv {p:Pl}{bp op:Nat}{pc:List Value}{b2:Nat}{x y:Z}{xv yv:Value}(dO:M b2=some [.pointer (some ⟨bp,op,none⟩)])(bP:At M bp op pc)(hp:gP M p pc)(hx:RS M RV 3 x.row xv)(hy:RS M RV 3 y.row yv)(ce:∀ x∈p.xs,nw x)(eh:jN x.row)(hry:jN y.row)(T:Tm):
 bU Tryz.prog 327 [.agg ⟨[xv,.int .i64 x.w]⟩,.agg ⟨[yv,.int .i64 y.w]⟩,.pointer (some ⟨b2,0,none⟩)] T M [] [] (fun r _ _ _=>r=.int .i64 (wx p.xs x y)) aM:=by
 obtain ⟨s1,a1,n1,a2,n2,a3,n3,rfl,ox,_,fq,FO,mV⟩:=dj hp
 obtain ⟨y0,y1,y2,y3,y4,y5,y6,y7,y8,y9,y10,_⟩:=bP
 obtain ⟨xa,xc,rfl⟩:=dH hx
 obtain ⟨ya,yc,rfl⟩:=dH hy
 refine az aeq rfl rfl ?_
 intro bj _
 simp +contextual only [go_sem,sevalprocAttr]
 intro b3 T3 gK fU gB b4 T4 eH em fE iJ
 refine aT ?_
 simp +contextual only [go_sem,sevalprocAttr,bg dO,aB gK,aB eH,em,y8]
 refine aF (lV fq hx ce eh _) ?_
 rintro v1 M1 aW bD j3
 obtain ⟨va,vc,rfl⟩:=dH j3
 have afi:=aW _ _ dO
 have y8':=ay aW y8
 simp +contextual only [go_sem,sevalprocAttr]
 refine ⟨dL aW bD,?_⟩
 refine aF (lV (tH aW fq) (jW aW hy) ce hry _) ?_
 rintro v2 M2 bh aZ nu
 obtain ⟨ua,uc,rfl⟩:=dH nu
 simp +contextual only [go_sem,sevalprocAttr]
 refine ⟨dL (aW.trans bh) aZ,?_⟩
 refine aP (pV (jW bh j3) nu _) ?_
 simp +contextual only [go_sem,sevalprocAttr]
 refine ⟨dL (aW.trans bh) aZ,al (al (ak (fU.trans fE) rfl))⟩
theorem ajE {p:Pl}{bp op:Nat}{pc:List Value}{b2:Nat}(dO:M b2=some [.pointer (some ⟨bp,op,none⟩)])(bP:At M bp op pc)(hp:gP M p pc)(ce:∀ x∈p.xs,nw x):CmpOk M ij 327 [.pointer (some ⟨b2,0,none⟩)] (fun x y=>wx p.xs x.1 y.1) (fun e=>RS M RV 3 e.1.row e.2/\jN e.1.row) where
 bod:=aeq.bd
 one:=fun x hx=>⟨(dy hx.1).1,rfl⟩
 call:=fun x y hx hy T=>Fv dO bP hp hx.1 hy.1 ce hx.2 hy.2 T
variable {M:aR}
def fy (p:Pl)(z:List Z):List Z:=eA p.n (fk (wx p.xs) z)
theorem uL:∀ (l:List Z),eA 0 l=[]
 | []=>rfl
 | r::l=>by rw [eA,if_neg (by decide),uL l]
def BF {p:Pl}{bp op:Nat}{pc:List Value}{z:List Z}{zv:Value}(bP:At M bp op pc)(hp:gP M p pc)(ce:∀ x∈p.xs,nw x)(hz:RS M (RZ M) 2 z zv)(hw:∀ r∈z,0<r.w)(hr:∀ r∈z,jN r.row)(hl:z.length<=400)(hn:0<=p.n/\p.n<=1000000)(T:Tm):
 bU Tryz.prog 305 [.pointer (some ⟨bp,op,none⟩),zv] T M [] [] (fun v M' _ _=>RS M' (RZ M') 2 (fy p z) v) aM:=by
 have uk:=bP
 have xj:=hp
 have uU:=hz
 obtain ⟨s1,a1,n1,a2,n2,a3,n3,rfl,ox,_,fq,FO,mV⟩:=dj hp
 obtain ⟨y0,y1,y2,y3,y4,y5,y6,y7,y8,y9,y10,_⟩:=bP
 obtain ⟨_,za,zc,rfl,_⟩:=ax (by decide) (fun _ _=>bi) hz
 obtain ⟨Q,hQ⟩:∃ Q,Q=fy p z:=⟨_,rfl⟩
 rw [<- hQ]
 refine az ajw rfl rfl ?_
 intro bj _
 simp +contextual only [go_sem,sevalprocAttr]
 intro b2 T2 dO dA ef
 by_cases h0:z=[]
 ·subst h0
  have tB:fk (wx p.xs) ([]:List Z)=[]:=List.eq_nil_of_length_eq_zero (by rw [(gy (wx p.xs) ([]:List Z)).1];rfl)
  have hQ0:Q=[]:=by rw [hQ];unfold fy;rw [tB,eA]
  refine aF (ID uU _) ?_
  rintro v M1 aW bD hv
  have rX:=hv
  obtain ⟨_,va,vc,rfl,_⟩:=ax (by decide) (fun _ _=>bi) hv
  have y1':=ay aW y1
  simp +contextual only [go_sem,sevalprocAttr]
  refine aP (wz rX (by simp) _) ?_
  simp +contextual only [go_sem,sevalprocAttr]
  refine aP (FB .z _) ?_
  simp +contextual only [go_sem,aD,sevalprocAttr,aB bD.1,y1']
  refine aO 0 22 [(20,.slice va 0 vc),(21,.int .i64 ((0:Nat):Int))] (fun i e h=>h=⟨T2,M1,[(b2,[.pointer (some ⟨bp,op,none⟩)])],[]⟩/\e 7=.slice none 0 0) 0 (by omega) (by simp only [aE,go_sem,sevalprocAttr]) (by simp only [go_sem,sevalprocAttr]) ⟨rfl,by simp only [go_sem,sevalprocAttr]⟩ ?_
  rintro i e h hi aI ht ⟨rfl,e7⟩
  obtain rfl:i=0:=by omega
  simp only [aE] at aI
  simp +contextual only [go_sem,aD,sevalprocAttr,aI,ht,e7]
  rw [hQ0]
  exact al (ak dA bz)
 refine Aj (Nz uU h0 (by omega) _) ?_ (fun _ _ _ _ h=>h.elim)
 rintro v M1 row aW bD nF ⟨xa,xc,xs,rfl,fq,bN⟩
 simp only [List.cons.injEq,and_true] at bN
 subst bN
 simp +contextual only [go_sem,sevalprocAttr]
 refine o9 [] aar.bd fun M2 bh XA _=> ?_
 obtain ⟨zs,rH,rfl,hze⟩:=Dd fq
 have pD:zs.length=z.length:=by rw [<- rH,List.length_map]
 have hzp:0<z.length:=List.length_pos_iff.2 h0
 refine cD (k:=fun h'=>∃ g cap junk,Value.slice xa z.length xc=.slice (some ⟨g,0,none⟩) zs.length cap/\M2 g=none/\zs.length<=cap/\(fl ij zs++junk).length=cap*2/\h'=⟨T2,M2,[(g,fl ij zs++junk)],[]⟩) (yf (by decide) (by rw [ee,pD];omega) nF fun g n cap junk hv' hg uj hn cX cK=>aC ⟨g,cap,junk,?_,hg,?_,cK,rfl⟩) ?_ aar.bd
 ·rw [ee] at hn
  have:n=zs.length:=by omega
  rw [<- this];exact hv'
 ·rw [ee] at hn;omega
 rintro h' ⟨g,cap,junk,hgv,hg,cX,cK,rfl⟩
 rw [hgv]
 have S7:∀ e∈zs,RS M2 RV 3 e.1.row e.2:=fun e he=>jW bh (hze e he)
 have hpf:Pfx (fl ij zs) junk:=by
  rcases zs with _ | ⟨e,zs⟩
  ·simp at pD;omega
  ·obtain ⟨a',c',h'⟩:=dH (hze e (by simp))
   exact .inr ⟨e.2,_,rfl,fun k n=>by rw [h'];simp⟩
 have hE:bm M2 (eM M2 [(g,fl ij zs)]):=gG ⟨hg,trivial⟩
 have agj:RS (eM M2 [(g,fl ij zs)]) (RZ (eM M2 [(g,fl ij zs)])) 2 z (.slice (some ⟨g,0,none⟩) zs.length cap):=by
  have hRL:=KF fun e hm=>jW hE (S7 e hm)
  rw [rH] at hRL
  exact ⟨by omega,fl ij zs,.inr ⟨g,0,zs.length,cap,rfl,cX,ee _,jJ (show eM M2 [(g,fl ij zs)] g=some (fl ij zs) by simp [eM,aR.add]) _ 0 (fun i v hv=>by rw [Nat.zero_add];exact hv)⟩,hRL⟩
 refine kK [] [(g,fl ij zs)] ⟨rfl,⟨junk,rfl,hpf⟩,trivial⟩ (wz agj hw _) ?_
 rintro r M3 L2 bG FV bC rfl
 obtain rfl:L2=[]:=by simpa [aV] using FV
 have h3:bm M2 (ke M3 [(g,fl ij zs)]):=lX ⟨hg,trivial⟩ bG
 generalize dz:ke M3 [(g,fl ij zs)]=M4 at*
 obtain ⟨ng,_⟩:=bC
 have Lg:=bh.trans h3
 have h04:=aW.trans Lg
 obtain ⟨zt,LH⟩:∃ zt,zt=fk (fun x y:Z×Value=>wx p.xs x.1 y.1) zs:=⟨_,rfl⟩
 have lA:=gy (fun x y:Z×Value=>wx p.xs x.1 y.1) zs
 rw [<- LH] at lA
 obtain ⟨l,hlz⟩:∃ l,l=fk (wx p.xs) z:=⟨_,rfl⟩
 have hm:zt.map Prod.fst=l:=by rw [LH,hlz,<- rH];exact (vV (f:=Prod.fst) rfl (fun _ _=>rfl) zs).symm
 have H2:∀ r∈l,0<r.w:=by rw [hlz];exact (gy (wx p.xs) z).2 _ hw
 have hll:zt.length=l.length:=by rw [<- hm,List.length_map]
 have al6:=lA.2 _ S7
 have Lv:=yR .z (ajE (h3 _ _ XA) (uk.ext h04) (bA h04 _ _ xj) ce) (db:=g) (cap:=cap) (junk:=junk) (l:=zs) rfl cX (fun x hx=>⟨jW h3 (S7 x hx),hr _ (by rw [<- rH];exact List.mem_map.2 ⟨x,hx,rfl⟩)⟩) (by omega) T2
 rw [<- LH] at Lv
 simp +contextual only [go_sem,sevalprocAttr]
 refine iI Lv ?_
 have y1':=ay h04 y1
 have akk:=h3 _ _ XA
 have al4:zs.length=l.length:=by rw [<- hll,lA.1]
 rw [al4]
 unfold fy at hQ
 rw [<- hlz] at hQ
 simp +contextual only [go_sem,aD,sevalprocAttr,bg akk,y1']
 refine bR l.length 22 [(20,.slice (some ⟨g,0,none⟩) l.length cap),(21,.int .i64 (l.length:Int))] (fun i e h=>∃ N' M' R' fv acc left,aG T N'/\bm M M'/\RS M' (RZ M') 2 l (.slice (some ⟨g,0,none⟩) l.length cap)/\h=⟨N',M',[],R'⟩/\e 7=fv/\e 6=.int .i64 left/\0<=left/\left<=1000000/\kY 37 2 (RZ M') [] R' fv acc/\acc.length<=i/\Q=acc++eA left (l.drop i)) 0 (by omega) (by simp only [aE,go_sem,sevalprocAttr]) (by simp only [go_sem,sevalprocAttr]) (aU fun he h1 h2=>aC ⟨T2,_,[],_,[],p.n,dA,h04.trans he,?_,rfl,by simp only [go_sem,sevalprocAttr],by simp only [go_sem,sevalprocAttr],hn.1,hn.2,cV,by simp,hQ⟩) ?_
 ·have hRL:=KF fun e hm=>jW (h3.trans he) (al6 e hm)
  rw [hm] at hRL
  refine ⟨by omega,fl ij zt,.inr ⟨g,0,l.length,cap,rfl,by omega,by rw [ee,hll],?_⟩,hRL⟩
  exact jJ h1 _ 0 (fun i v hv=>by
   rw [Nat.zero_add,List.getElem?_append_left (by exact (List.getElem?_eq_some_iff.1 hv).1)];exact hv)
 rintro i e h hi aI ht ⟨T1,M5,R1,fv,acc,left,cY,dN,Jm,rfl,e7,e6,hn0,A3,bq,js,am⟩
 simp only [aE] at aI
 obtain ⟨aky,g5,c5,abR,ak7,_,hgg⟩:=ax (by decide) (fun _ _=>bi) Jm
 cases abR
 by_cases aL:i<l.length
 ·obtain ⟨b',o',cs',A1,sQ,s,cH,rfl⟩:=hgg i l[i] (gq aL)
  cases A1
  obtain ⟨x0,x1,_⟩:=sQ
  simp only [Nat.zero_add] at x0 x1
  obtain ⟨sa,sc,rfl⟩:=dH cH
  simp +contextual only [go_sem,aD,sevalprocAttr,aI,ht,aL,x0,x1]
  intro b9 T9 qY uR pY
  have hT:=cY.trans uR
  by_cases un:left=0
  ·subst un
   rw [uL,List.append_nil] at am
   simp +contextual only [go_sem,aD,sevalprocAttr,e6,e7]
   rw [am]
   exact al (ct bq (by omega) (by decide) trivial fun M6 eO _ cH=>ak hT (aH bm.rfl' (eU eO) cH))
  ·have hlp:0<left:=by omega
   rw [dq aL,eA,if_pos hlp] at am
   obtain ⟨w,gn⟩:∃ w,w=if left<l[i].w then left else l[i].w:=⟨_,rfl⟩
   rw [<- gn] at am
   simp +contextual only [go_sem,aD,sevalprocAttr,e6,e7,un,aB qY,<- gn]
   intro b3 gK cZ
   have hz:RZ M5 ⟨l[i].row,w⟩ [.slice sa l[i].row.length sc,.int .i64 w]:=⟨_,cH,rfl⟩
   refine cB (Tryz.underlying32) ix iw (x:=⟨l[i].row,w⟩) bq hz (fun _ _=>bi) (gh hz) gK (by omega) (by decide) ?_
   intro fv' R' bw
   have EF:0<l[i].w:=H2 _ (gm aL)
   have XZ:0<=left - w/\left - w<=1000000:=by rw [gn];split<;>omega
   have OH:IntKind.i64.wrap (left - w)=left - w:=bJ (by omega) (by omega)
   rw [OH] at am
   simp +contextual only [go_sem,sevalprocAttr,ht,e6,OH]
   refine aS (al (al (aC ⟨l.length - (i+1),by omega,rfl,i+1,by omega,rfl,?_,?_,T9,M5,R',fv',acc++[⟨l[i].row,w⟩],left - w,hT,dN,Jm,rfl,?_,?_,XZ.1,XZ.2,bw,?_,?_⟩)))
   ·simp only [aE,aI,go_sem,sevalprocAttr]
   ·simp only [go_sem,sevalprocAttr,aA i (by omega)]
   ·simp only [go_sem,sevalprocAttr]
   ·simp only [go_sem,sevalprocAttr,e6,OH]
   ·rw [List.length_append];simp only [ln];omega
   ·rw [am,List.append_assoc];rfl
 ·have:i=l.length:=by omega
  subst this
  rw [List.drop_length,eA,List.append_nil] at am
  simp +contextual only [go_sem,aD,sevalprocAttr,aI,ht,aL,e7]
  rw [am]
  exact ct bq (by omega) (by decide) trivial fun M6 eO _ cH=>ak cY (aH bm.rfl' (eU eO) cH)
section
variable {α:Type} {el:TypeId} {sz:Nat} {r:α ->List Value ->Prop} {M:aR} {N:Tm} {l:List α} {lv:Value} {L:LL}
def Bt {P:Program}{F:Fi}{s:List Vc.Item}{e:dx}{ds:List Deferred}{dd:Option Nat}{R:RR}{t:TypeId}{z:List Value}{b:Nat}{x:α}{cs:List Value}{L1 L2:LL}(hu:P.underlying t=some (.slice el))(bN:dY P t=some (el,sz,z))(ce:kz P t=true)
 (h:eo el sz r M N l lv L) (hx:r x cs) (bu:cs.length=sz) (dB:∀ u∈cs,u.oneCell'=true) (hb:M b=none) (hl:l.length*sz+sz<=4398046511104) (dK:0<sz)
 (k:∀ N' lv' g cs',aG N N' ->bf g ((b,cs)::(L1++L2)) ->eo el sz r M N' (l++[x]) lv' [(g,cs')] ->cA P F s (cI e dd lv') ds ⟨N',M,(g,cs')::(b,cs)::(L1++L2),R⟩ ⟨⟩):om P F t t lv (.slice (some ⟨b,0,none⟩) 1 1) dd s e ds ⟨N,M,(b,cs)::(L1++(L++L2)),R⟩ ⟨⟩:=by
 have hs:∀ L2:LL,Srcs P t sz ⟨N,M,(b,cs)::L2,R⟩ (.slice (some ⟨b,0,none⟩) 1 1) cs:=fun L2=> .slice _ 1 _ _ _ hu (cF [] hb trivial (by rw [bu,Nat.one_mul])) dB
 have fin:∀ (xs:List Value),RL r l xs ->xs.length=l.length*sz ->MV lv el sz xs ⟨N,M,(b,cs)::(L1++(L++L2)),R⟩ ((b,cs)::(L1++L2)) ->om P F t t lv (.slice (some ⟨b,0,none⟩) 1 1) dd s e ds ⟨N,M,(b,cs)::(L1++(L++L2)),R⟩ ⟨⟩:=by
  intro xs fq iY zw
  refine Dm bN ce zw (hs _) (hs _) (by omega) (by omega) ?_
  intro N' g m c junk km hNg hMg uj hm hmc cX
  have DR:m=(l++[x]).length:=by
   rw [List.length_append];simp only [ln]
   rw [iY,bu] at hm
   exact Nat.eq_of_mul_eq_mul_right dK (by rw [Nat.add_mul];omega)
  subst DR
  exact k N' _ g _ km uj (.inr ⟨g,c,xs++cs,junk,rfl,rfl,hNg,cS fq ⟨cs,[],by simp,hx,rfl⟩,by rw [List.length_append,List.length_append,iY,bu,Nat.add_mul];simp,cX,hmc,hMg⟩)
 rcases h with ⟨rfl,rfl,rfl⟩ | ⟨g,cap,xs,junk,rfl,rfl,hN,fq,iY,hc,cX,_⟩
 ·exact fin [] rfl (by simp) (.inl ⟨rfl,rfl,by simp⟩)
 ·exact fin xs fq iY (.inr ⟨g,_,cap,junk,(b,cs)::L1,L2,rfl,hN,by simp,by simp,iY,hc,cX⟩)
end
theorem Ck {M:aR}:∀ {A B:LL},aJ M A ->aJ M B ->aJ M (A++B)
 | [],_,_,h=>h
 | (_,_)::_,_,h,h2=>⟨h.1,Ck h.2 h2⟩
def mL (aY:List (List Int))(data more:List (List Z))(p:Pl)(zo d:List Z):Prop:=∀ (M:aR) (T:Tm) (sb bp op:Nat) (pc:List Value) (tv dv mv:Value),M sb=some [tv,dv,mv] ->At M bp op pc ->gP M p pc ->RS M (lZ M) 1 aY tv ->RS M (RD M) 1 data dv ->RS M (RD M) 1 more mv ->
 bU Tryz.prog 212 [.pointer (some ⟨sb,0,none⟩),.pointer (some ⟨bp,op,none⟩)] T M [] [] (fun v M' _ _=>∃ ov cv,v=.tuple ⟨[ov,cv,.int .i64 0]⟩/\RS M' (RZ M') 2 zo ov/\RS M' (RZ M') 2 d cv) aM
def tE (p:Pl)(c:List (List Int))(was is:List (List Z))(d:List Z):Prop:=∀ (M:aR) (T:Tm) (sv:Value) (bp op:Nat) (pc:List Value) (cv wv iv:Value),At M bp op pc ->gP M p pc ->RS M (lZ M) 1 c cv ->RS M (RD M) 1 was wv ->RS M (RD M) 1 is iv ->
 bU Tryz.prog 247 [sv,.pointer (some ⟨bp,op,none⟩),cv,wv,iv] T M [] [] (fun v M' _ _=>RS M' (RZ M') 2 d v) aM
variable {aY:List (List Int)} {data more:List (List Z)}
def JP {n:Nat}(hn:n<data.length)(pt:n<more.length):mL aY data more (AD n) (data.getD n []) (more.getD n []):=by
 intro M T sb bp op pc tv dv mv Ga bP hp nG SD hmv
 obtain ⟨s1,a1,n1,a2,n2,a3,n3,rfl,ox,_⟩:=dj hp
 obtain ⟨y0,y1,_⟩:=bP
 have x0:aN M ⟨sb,0,none⟩=some tv:=by simp [aN,Ga]
 have x1:aN M ⟨sb,1,none⟩=some dv:=by simp [aN,Ga]
 have x2:aN M ⟨sb,2,none⟩=some mv:=by simp [aN,Ga]
 obtain ⟨_,da,dc,rfl,_⟩:=ax (by decide) (fun _ _=>gW) SD
 obtain ⟨_,ma,mc,rfl,_⟩:=ax (by decide) (fun _ _=>gW) hmv
 obtain ⟨db,do',v0,rfl,m0,uU⟩:=oJ SD hn
 obtain ⟨mb,mo,v1,rfl,m1,ZP⟩:=oJ hmv pt
 simp only [AD,Pl.k,Pl.n] at y0 y1
 refine az aao rfl rfl ?_
 intro bj _
 simp +contextual only [go_sem,aD,sevalprocAttr,y0]
 refine aT ?_
 simp +contextual only [go_sem,sevalprocAttr,y1,x1,x2,m0,m1,hn,pt]
 exact ak aG.rfl' ⟨_,_,rfl,uU,ZP⟩
theorem s4 {M:aR}:∀ {A B:LL},aJ M (A++B) ->aJ M A
 | [],_,_=>trivial
 | (_,_)::_,_,h=>⟨h.1,s4 h.2⟩
theorem jM {M:aR}:∀ {A B:LL},aJ M (A++B) ->aJ M B
 | [],_,h=>h
 | (_,_)::_,_,h=>jM h.2
def agF {α:Type}(a b c d:α):[a,b,c,d].Perm [b,d,c,a]:=(List.Perm.swap b a [c,d]).trans ((List.reverse_perm [a,c,d]).symm.cons b)
theorem CO {α:Type}{l:List (List α)}{i:Nat}(h:i<l.length):l.take i++[l.getD i []]=l.take (i+1):=by
 rw [List.getD_eq_getElem?_getD,gq h,<- List.take_append_getElem h];rfl
set_option maxHeartbeats 1000000 in
def K2 {p:Pl}{zs ds:List (List Z)}{zo d:List Z}(hk:p.k≠1)(mm:Yx p.k=true)(rV:p.kids.length<=2)(EB:1<=p.kids.length)(h2:4<=p.k/\p.k<=9 ->2<=p.kids.length)(pD:zs.length=p.kids.length)(AR:ds.length=p.kids.length)(rF:∀ q∈p.kids,fH aY q=.ok (gj aY q))
 (ak1:∀ i (h:i<p.kids.length),mL aY data more p.kids[i] (zs.getD i []) (ds.getD i [])) (dB:se p (p.kids.map (gj aY)) zs=.ok zo) (hch:tE p (p.kids.map (gj aY)) zs ds d):mL aY data more p zo d:=by
 intro M T sb bp op pc tv dv mv Ga bP hp nG SD hmv
 have uk:=bP
 have xj:=hp
 obtain ⟨s1,a1,n1,a2,n2,a3,n3,rfl,ox,_,fq,FO,mV⟩:=dj hp
 obtain ⟨y0,y1,y2,y3,y4,y5,y6,y7,y8,y9,y10,_⟩:=bP
 have x0:aN M ⟨sb,0,none⟩=some tv:=by simp [aN,Ga]
 obtain ⟨_,ka,kc,hke,ak3,_,hkg⟩:=ax (by decide) (fun _ _=>jx) mV
 cases hke
 refine az aao rfl rfl ?_
 intro bj _
 simp +contextual only [go_sem,aD,sevalprocAttr,y0,y10,hk]
 refine aO p.kids.length 46 [(0,.pointer (some ⟨sb,0,none⟩)),(1,.pointer (some ⟨bp,op,none⟩)),(45,.int .i64 (p.kids.length:Int))] (fun i e h=>∃ N' M' Lw Li R' cv wv iv,aG T N'/\bm M M'/\h=⟨N',M',Lw++Li,R'⟩/\e 7=wv/\e 8=iv/\e 9=cv/\kY 53 1 (lZ M') [] R' cv ((p.kids.take i).map (gj aY))/\eo 32 1 (RD M') M' N' (zs.take i) wv Lw/\eo 32 1 (RD M') M' N' (ds.take i) iv Li) 0 (by omega) (by simp only [aE,go_sem,sevalprocAttr]) (by simp only [go_sem,sevalprocAttr]) ⟨T,M,[],[],[],_,_,_,aG.rfl',bm.rfl',rfl,by simp only [go_sem,sevalprocAttr],by simp only [go_sem,sevalprocAttr],by simp only [go_sem,sevalprocAttr],cV,.inl ⟨rfl,rfl,rfl⟩,.inl ⟨rfl,rfl,rfl⟩⟩ ?_
 rintro i e h hi aI lO ⟨T1,M1,Lw,Li,R1,cv,wv,iv,cY,aW,rfl,e7,e8,e9,bq,how,XM⟩
 simp only [aE] at aI
 by_cases aL:i<p.kids.length
 ·obtain ⟨b',o',kcs,rfl,vz,SW⟩:=hkg i p.kids[i] (gq aL)
  have pr:=gm aL
  have y10':=ay aW y10
  simp +contextual only [go_sem,aD,sevalprocAttr,aI,lO,aL,y10']
  refine aF (ak1 i aL M1 _ sb b' _ kcs tv dv mv (aW _ _ Ga) (vz.ext aW) (bA aW _ _ SW) (aH aW (cO aW) nG) (aH aW (dD aW) SD) (aH aW (dD aW) hmv)) ?_
  rintro v M2 bh aZ ⟨ov,dv',rfl,hov,afA⟩
  have eb:=aW.trans bh
  have y10'':=ay eb y10
  have x0'':=ay eb x0
  obtain ⟨t1,p1,m1',p2,m2',p3,m3',rfl,ox2,_⟩:=dj SW
  obtain ⟨u0,u1,u2,u3,u4,u5,u6,u7,u8,u9,u10,_⟩:=vz.ext eb
  obtain ⟨_,oa,oc,rfl,_⟩:=ax (by decide) (fun _ _=>bi) hov
  obtain ⟨_,da',dc',rfl,_⟩:=ax (by decide) (fun _ _=>bi) afA
  simp +contextual only [go_sem,aD,sevalprocAttr]
  refine aT ?_
  simp +contextual only [go_sem,sevalprocAttr,aI,aL,y10'',x0'',u0,u1,u2,u3,u4,u5,u6,u7,u8,u9,u10]
  refine aF (tO (aH eb (cO eb) nG) (bA eb _ _ SW) _) ?_
  rintro v3 M3 bG bC H0
  rw [rF _ pr] at H0
  obtain ⟨sv,rfl,sW⟩:=H0
  have tw:=eb.trans bG
  have Zg:=bh.trans bG
  obtain ⟨_,sva,svc,rfl,_⟩:=ax (by decide) (fun _ _=>cE) sW
  simp +contextual only [go_sem,sevalprocAttr,e7]
  refine ⟨dL bG bC,?_⟩
  intro b81 Ot uh
  have als:eo 32 1 (RD M3) M3 T1 (zs.take i) wv Lw:=fC (dD (bh.trans bG)) (s4 bC) how
  have ab7:eo 32 1 (RD M3) M3 T1 (ds.take i) iv Li:=fC (dD (bh.trans bG)) (jM bC) XM
  have alq:=cz bG hov
  have akI:=cz bG afA
  have hlw:(zs.take i).length=i:=by rw [List.length_take];omega
  have hli:(ds.take i).length=i:=by rw [List.length_take];omega
  refine Bt (L1:=[]) (Tryz.underlying87) wW wS (x:=zs.getD i []) als ⟨_,rfl,alq⟩ rfl (by simp [Value.oneCell']) Ot (by omega) (by decide) ?_
  intro N4 wv' gw cw B4 apm af8
  simp +contextual only [go_sem,sevalprocAttr,e8]
  intro b85 afm afc
  refine qO (L1:=[(gw,cw),(b81,[.slice oa (zs.getD i []).length oc])]) (Tryz.underlying87) wW wS (x:=ds.getD i []) (ew B4 ab7) ⟨_,rfl,akI⟩ rfl (by simp [Value.oneCell']) afm (by omega) (by decide) ?_
  intro N5 iv' gi ci sO apl af4
  simp +contextual only [go_sem,sevalprocAttr,e9]
  intro b89 aks amV
  refine cB (Tryz.underlying130) An zX (x:=gj aY p.kids[i]) (fY (cO Zg) bq) ⟨_,rfl,sW⟩ (fun _ _=>cQ) (by simp [Value.oneCell']) aks (by rw [List.length_map,List.length_take];omega) (by decide) ?_
  intro cv' R' bw
  have fQ:(p.kids.take i).map (gj aY)++[gj aY p.kids[i]]=(p.kids.take (i+1)).map (gj aY):=by
   rw [<- List.take_append_getElem aL,List.map_append];rfl
  rw [fQ] at bw
  rw [CO (by omega)] at af8 af4
  simp +contextual only [go_sem,sevalprocAttr,lO]
  refine aS (al (dk (agF _ _ _ _) (al (al (aC ⟨p.kids.length - (i+1),by omega,rfl,i+1,by omega,rfl,?_,?_,N5,M3,[(gw,cw)],[(gi,ci)],R',cv',wv',iv',(cY.trans B4).trans sO,tw,rfl,?_,?_,?_,bw,ew sO af8,af4⟩)))))
  ·simp only [aE,aI,go_sem,sevalprocAttr]
  ·simp only [go_sem,sevalprocAttr,aA i (by omega)]
  ·simp only [go_sem,sevalprocAttr]
  ·simp only [go_sem,sevalprocAttr]
  ·simp only [go_sem,sevalprocAttr]
 ·have:i=p.kids.length:=by omega
  subst this
  rw [List.take_length] at bq
  rw [<- pD,List.take_length] at how
  rw [<- AR,List.take_length] at XM
  obtain ⟨_,_,rfl⟩:=eI bq
  obtain ⟨_,_,rfl⟩:=di how
  obtain ⟨_,_,rfl⟩:=di XM
  simp +contextual only [go_sem,aD,sevalprocAttr,aI,lO,aL,e7,e9]
  refine kJ P7.bd bq (by rw [List.length_map];omega) (by decide) (Ck (jA how) (jA XM)) fun M2 bh aZ cH=> ?_
  have alr:=fC (dD bh) (s4 aZ) how
  have alm:=fC (dD bh) (jM aZ) XM
  refine cD (k:=fun h'=>∃ M3,bm M2 M3/\RS M3 (RD M3) 1 zs (.slice _ zs.length _)/\RS M3 (RD M3) 1 ds (.slice _ ds.length _)/\h'=⟨T1,M3,[],[]⟩) (kZ (L2:=Li) alr (by omega) (jM aZ) fun M3 bG Jo ZJ=>by
   have ab7:=fC (dD bG) Jo alm
   rw [<- List.append_nil Li]
   exact kZ (L2:=[]) ab7 (by omega) trivial fun M4 dz _ hrd=>aC ⟨M4,bG.trans dz,aH dz (dD (bG.trans dz)) ZJ,aH bm.rfl' (dD dz) hrd,rfl⟩) ?_ P7.bd
  rintro h' ⟨M3,bG,ZJ,hrd,rfl⟩
  have Zg:=bh.trans bG
  have tw:=aW.trans Zg
  have hml:(p.kids.map (gj aY)).length=p.kids.length:=List.length_map ..
  have XV:=aH bG (cO bG) (aH bm.rfl' (cO bh) cH)
  refine aF (Ra (uk.ext tw) (bA tw _ _ xj) XV ZJ (by omega) (fun h=>by have:=h2 h;omega) mm _) ?_
  rintro v M4 dz de hv
  rw [dB] at hv
  obtain ⟨sv,rfl,sW⟩:=hv
  have Lg:=tw.trans dz
  simp +contextual only [go_sem,aD,sevalprocAttr,aI,e7,e8,e9]
  refine aF (hch M4 _ _ bp op _ _ _ _ (uk.ext Lg) (bA Lg _ _ xj) (aH dz (cO dz) XV) (aH dz (dD dz) ZJ) (aH dz (dD dz) hrd)) ?_
  rintro v M5 dN bS hv
  obtain ⟨_,va,vc,rfl,_⟩:=ax (by decide) (fun _ _=>bi) hv
  obtain ⟨_,sa,sc,rfl,_⟩:=ax (by decide) (fun _ _=>bi) sW
  simp +contextual only [go_sem,sevalprocAttr]
  exact ak cY ⟨_,_,rfl,cz dN sW,hv⟩
variable {p:Pl} {c:List (List Int)} {was is:List (List Z)}
def Iy (hk:p.k=3)(HW:1<=is.length)(ce:∀ x∈p.xs,nw x)(VP:Zd 8 (is.getD 0 []))(hx8:p.xs.length<=8)(hz4:(is.getD 0 []).length<=400):tE p c was is (dZ (lh p.xs (is.getD 0 []))):=by
 intro M T sv bp op pc cv wv iv bP hp hc hw hi
 obtain ⟨s1,a1,n1,a2,n2,a3,n3,rfl,ox,_,fq,FO,mV⟩:=dj hp
 obtain ⟨y0,y1,y2,y3,y4,y5,y6,y7,y8,y9,y10,_⟩:=bP
 obtain ⟨_,ia,ic,rfl,_⟩:=ax (by decide) (fun _ _=>gW) hi
 obtain ⟨ib,io,w0,rfl,k0,uU⟩:=oJ hi (i:=0) (by omega)
 have g0:(0:Int)<(is.length:Int):=by omega
 rw [Nat.add_zero] at k0
 refine az aej rfl rfl ?_
 intro bj _
 simp +contextual only [go_sem,aD,sevalprocAttr,y0,hk]
 refine aT ?_
 simp +contextual only [go_sem,sevalprocAttr,y8,k0,g0]
 refine aF (NU fq uU ce VP hx8 hz4 _) ?_
 rintro v M1 aW bD hv
 simp +contextual only [go_sem,sevalprocAttr]
 exact ak aG.rfl' hv
variable {M:aR}
def s8 (z:List Z):List Z:=z.map fun r=>⟨r.row,IntKind.i64.wrap (0 - r.w)⟩
def Fl {z:List Z}{zv:Value}(hz:RS M (RZ M) 2 z zv)(hz4:z.length<=1000000)(T:Tm):bU Tryz.prog 276 [zv] T M [] [] (fun v M' _ _=>RS M' (RZ M') 2 (s8 z) v) aM:=by
 obtain ⟨fp,a,c,rfl,cX,_,hg⟩:=ax (by decide) (fun _ _=>bi) hz
 refine az ajq rfl rfl ?_
 intro bj _
 simp +contextual only [go_sem,aD,sevalprocAttr]
 refine aO z.length 8 [(6,.slice a z.length c),(7,.int .i64 (z.length:Int))] (fun i e h=>∃ N' R' fv,aG T N'/\h=⟨N',M,[],R'⟩/\e 3=fv/\kY 37 2 (RZ M) [] R' fv (s8 (z.take i))) 0 (by omega) (by simp only [aE,go_sem,sevalprocAttr]) (by simp only [go_sem,sevalprocAttr]) ⟨T,[],_,aG.rfl',rfl,by simp only [go_sem,sevalprocAttr],cV⟩ ?_
 rintro i e h hi aI lO ⟨T1,R1,fv,cY,rfl,e3,bq⟩
 simp only [aE] at aI
 by_cases aL:i<z.length
 ·obtain ⟨b',o',cs',rfl,bP,s,cH,rfl⟩:=hg i z[i] (gq aL)
  obtain ⟨y0,y1,_⟩:=bP
  obtain ⟨sa,sc,rfl⟩:=dH cH
  simp +contextual only [go_sem,aD,sevalprocAttr,aI,lO,aL,y0,y1]
  intro b5 T5 jz ko nq
  simp +contextual only [go_sem,sevalprocAttr,e3]
  intro b3 gK cZ
  have hx:RZ M ⟨z[i].row,IntKind.i64.wrap (0 - z[i].w)⟩ [.slice sa z[i].row.length sc,.int .i64 (IntKind.i64.wrap (0 - z[i].w))]:=⟨_,cH,rfl⟩
  refine cB (Tryz.underlying32) ix iw (x:=⟨z[i].row,IntKind.i64.wrap (0 - z[i].w)⟩) bq hx (fun _ _=>bi) (gh hx) gK (by simp [s8];omega) (by decide) ?_
  intro fv' R' bw
  have fQ:s8 (z.take i)++[⟨z[i].row,IntKind.i64.wrap (0 - z[i].w)⟩]=s8 (z.take (i+1)):=by
   unfold s8;rw [<- List.take_append_getElem aL,List.map_append];rfl
  rw [fQ] at bw
  simp +contextual only [go_sem,sevalprocAttr,lO]
  refine aS (al (al (aC ⟨z.length - (i+1),by omega,rfl,i+1,by omega,rfl,?_,?_,T5,R',fv',cY.trans ko,rfl,?_,bw⟩)))
  ·simp only [aE,aI,go_sem,sevalprocAttr]
  ·simp only [go_sem,sevalprocAttr,aA i (by omega)]
  ·simp only [go_sem,sevalprocAttr]
 ·have:i=z.length:=by omega
  subst this
  rw [List.take_length] at bq
  simp +contextual only [go_sem,aD,sevalprocAttr,aI,lO,aL,e3]
  exact ct bq (by simp [s8];omega) (by decide) trivial fun M2 bh _ cH=>ak cY (aH bm.rfl' (eU bh) cH)
structure Firm (z:List Z):Prop where
 pos:∀ r∈z,0<r.w
 ok:∀ r∈z,jN r.row
 len:z.length<=400
 row:∀ r∈z,r.row.length<=8
def yX (p:Pl)(z:List Z):(fy p z).length<=z.length:=by
 unfold fy
 rw [<- (gy (wx p.xs) z).1]
 exact rp
def yY {p:Pl}{z:List Z}{n:Nat}(h:∀ r∈z,r.row.length<=n):∀ r∈fy p z,r.row.length<=n:=rq ((gy (wx p.xs) z).2 _ h)
def W8 {p:Pl}{bp op:Nat}{pc:List Value}{was now:List Z}{wv nv:Value}(bP:At M bp op pc)(hp:gP M p pc)(ce:∀ x∈p.xs,nw x)(hw:RS M (RZ M) 2 was wv)(hn:RS M (RZ M) 2 now nv)(fw:Firm was)(fn:Firm now)(h0:0<=p.n/\p.n<=1000000)(T:Tm):
 bU Tryz.prog 281 [.pointer (some ⟨bp,op,none⟩),wv,nv] T M [] [] (fun v M' _ _=>RS M' (RZ M') 2 (dZ (fy p now++s8 (fy p was))) v) aM:=by
 obtain ⟨_,wa,wc,rfl,_⟩:=ax (by decide) (fun _ _=>bi) hw
 obtain ⟨_,na,nc,rfl,_⟩:=ax (by decide) (fun _ _=>bi) hn
 have hlw:=yX p was
 have hln:=yX p now
 have flw:=fw.len
 have fln:=fn.len
 refine az ajr rfl rfl ?_
 intro bj _
 simp +contextual only [go_sem,sevalprocAttr]
 refine aF (BF bP hp ce hn fn.pos fn.ok fn.len h0 _) ?_
 rintro v1 M1 aW bD j3
 obtain ⟨_,va,vc,rfl,_⟩:=ax (by decide) (fun _ _=>bi) j3
 simp +contextual only [go_sem,sevalprocAttr]
 refine aF (BF (bP.ext aW) (bA aW _ _ hp) ce (cz aW hw) fw.pos fw.ok fw.len h0 _) ?_
 rintro v2 M2 bh aZ nu
 simp +contextual only [go_sem,sevalprocAttr]
 refine aF (Fl nu (by omega) _) ?_
 rintro v3 M3 bG bC H0
 obtain ⟨_,ua,uc,rfl,_⟩:=ax (by decide) (fun _ _=>bi) H0
 simp +contextual only [go_sem,sevalprocAttr]
 intro b8 pp
 refine jh aaq.bd fun M4 dz hL4=> ?_
 have ZP:=cz (bh.trans (bG.trans dz)) j3
 have hz3:=cz dz H0
 have Jk:[fy p now,s8 (fy p was)].flatten=fy p now++s8 (fy p was):=by simp
 refine aF (K5 (zs:=[fy p now,s8 (fy p was)]) (dE (by rintro _ _ ⟨_,rfl,_⟩;rfl) hL4.1 ⟨_,_,rfl,⟨_,rfl,ZP⟩,_,[],rfl,⟨_,rfl,hz3⟩,rfl⟩ rfl (by simp)) (by simp) ?_ _) ?_
 ·intro l hl
  simp only [mn] at hl
  rcases hl with rfl | rfl
  ·exact ⟨by omega,fun r hr=>Nat.le_trans (yY fn.row r hr) (by decide)⟩
  ·refine ⟨by simp [s8];omega,fun r hr=> ?_⟩
   obtain ⟨r0,h1,rfl⟩:=List.mem_map.1 hr
   exact Nat.le_trans (yY fw.row r0 h1) (by decide)
 rintro v5 M5 dN bS hv5
 rw [Jk] at hv5
 obtain ⟨_,xa,xc,rfl,_⟩:=ax (by decide) (fun _ _=>bi) hv5
 simp +contextual only [go_sem,sevalprocAttr]
 exact ak aG.rfl' hv5
variable {p:Pl} {c:List (List Int)} {was is:List (List Z)}
def Iz (hk:p.k=13)(ce:∀ x∈p.xs,nw x)(EF:1<=was.length)(HW:1<=is.length)(fw:Firm (was.getD 0 []))(fi:(is.getD 0 []).length<=400/\∀ r∈is.getD 0 [],r.row.length<=8)(fn:Firm (dZ (was.getD 0 []++is.getD 0 [])))(h0:0<=p.n/\p.n<=1000000):
 tE p c was is (dZ (fy p (dZ (was.getD 0 []++is.getD 0 []))++s8 (fy p (was.getD 0 [])))):=by
 intro M T sv bp op pc cv wv iv bP hp hc hw hi
 have uk:=bP
 have xj:=hp
 obtain ⟨s1,a1,n1,a2,n2,a3,n3,rfl,ox,_,fq,FO,mV⟩:=dj hp
 obtain ⟨y0,y1,y2,y3,y4,y5,y6,y7,y8,y9,y10,_⟩:=bP
 obtain ⟨_,ia,ic,rfl,_⟩:=ax (by decide) (fun _ _=>gW) hi
 obtain ⟨_,wa,wc,rfl,_⟩:=ax (by decide) (fun _ _=>gW) hw
 obtain ⟨ib,io,w0,rfl,k0,uU⟩:=oJ hi (i:=0) (by omega)
 obtain ⟨wb,wo,w1,rfl,k1,ZP⟩:=oJ hw (i:=0) (by omega)
 have g0:(0:Int)<(is.length:Int):=by omega
 have g1:(0:Int)<(was.length:Int):=by omega
 rw [Nat.add_zero] at k0 k1
 obtain ⟨_,qa0,qc0,rfl,_⟩:=ax (by decide) (fun _ _=>bi) uU
 obtain ⟨_,qa1,qc1,rfl,_⟩:=ax (by decide) (fun _ _=>bi) ZP
 have Jk:[was.getD 0 [],is.getD 0 []].flatten=was.getD 0 []++is.getD 0 []:=by simp
 refine az aej rfl rfl ?_
 intro bj _
 simp +contextual only [go_sem,aD,sevalprocAttr,y0,hk]
 refine aT ?_
 simp +contextual only [go_sem,sevalprocAttr,k0,g0,k1,g1]
 intro b129 amY
 refine ⟨dJ bm.rfl' trivial trivial,?_⟩
 refine jh aaq.bd fun M1 aW hL1=> ?_
 have agw:=cz aW ZP
 refine aF (K5 (zs:=[was.getD 0 [],is.getD 0 []]) (dE (by rintro _ _ ⟨_,rfl,_⟩;rfl) hL1.1 ⟨_,_,rfl,⟨_,rfl,agw⟩,_,[],rfl,⟨_,rfl,cz aW uU⟩,rfl⟩ rfl (by simp)) (by simp) ?_ _) ?_
 ·intro l hl
  simp only [mn] at hl
  have f1:=fw.len
  have f2:=fi.1
  rcases hl with rfl | rfl
  ·exact ⟨by omega,fun r hr=>Nat.le_trans (fw.row r hr) (by decide)⟩
  ·exact ⟨by omega,fun r hr=>Nat.le_trans (fi.2 r hr) (by decide)⟩
 rintro v2 M2 bh aZ nu
 rw [Jk] at nu
 have eb:=aW.trans bh
 obtain ⟨_,va,vc,rfl,_⟩:=ax (by decide) (fun _ _=>bi) nu
 simp +contextual only [go_sem,sevalprocAttr]
 refine ⟨dL eb trivial,?_⟩
 refine aF (W8 (uk.ext eb) (bA eb _ _ xj) ce (cz bh agw) nu fw fn h0 _) ?_
 rintro v3 M3 bG bC H0
 simp +contextual only [go_sem,sevalprocAttr]
 exact ⟨dL (eb.trans bG) trivial,ak aG.rfl' H0⟩
variable {M:aR} {aY:List (List Int)} {data more now:List (List Z)}
def Fe {dv mv:Value}(hd:RS M (RD M) 1 data dv)(hm:RS M (RD M) 1 more mv)(hl:more.length=data.length)(zu:now.length=data.length)(h64:data.length<=1000)(On:∀ i,i<data.length ->addM (data.getD i []) (more.getD i [])=.ok (now.getD i []))(T:Tm):
 bU Tryz.prog 153 [dv,mv] T M [] [] (fun v M' _ _=>∃ nv,v=.tuple ⟨[nv,.int .i64 0]⟩/\RS M' (RD M') 1 now nv/\yZ M nv) aM:=by
 obtain ⟨_,da,dc,rfl,_⟩:=ax (by decide) (fun _ _=>gW) hd
 obtain ⟨_,ma,mc,rfl,_⟩:=ax (by decide) (fun _ _=>gW) hm
 refine az aiq rfl rfl ?_
 intro bj _
 simp +contextual only [go_sem,aD,sevalprocAttr,hl]
 refine aO data.length 18 [(0,.slice da data.length dc),(1,.slice ma more.length mc),(16,.slice da data.length dc),(17,.int .i64 (data.length:Int))] (fun i e h=>∃ N' M' L' fv,aG T N'/\bm M M'/\h=⟨N',M',L',[]⟩/\e 6=fv/\eo 32 1 (RD M') M' N' (now.take i) fv L') 0 (by omega) (by simp only [aE,go_sem,sevalprocAttr,hl]) (by simp only [go_sem,sevalprocAttr]) ⟨T,M,[],_,aG.rfl',bm.rfl',rfl,by simp only [go_sem,sevalprocAttr],.inl ⟨rfl,rfl,rfl⟩⟩ ?_
 rintro i e h hi aI lO ⟨T1,M1,L1,fv,cY,aW,rfl,e6,bq⟩
 simp only [aE] at aI
 by_cases aL:i<data.length
 ·have FX:i<more.length:=by omega
  obtain ⟨db,do',v0,rfl,m0,uU⟩:=oJ hd aL
  obtain ⟨mb,mo,v1,rfl,m1,ZP⟩:=oJ hm FX
  have m0':=ay aW m0
  have m1':=ay aW m1
  simp +contextual only [go_sem,aD,sevalprocAttr,aI,lO,aL,FX,m0',m1']
  refine aF (Dt (cz aW uU) (cz aW ZP) _) ?_
  rintro v M2 bh aZ hv
  rw [On i aL] at hv
  obtain ⟨s,rfl,hs⟩:=hv
  obtain ⟨_,sa,sc,rfl,_⟩:=ax (by decide) (fun _ _=>bi) hs
  simp +contextual only [go_sem,aD,sevalprocAttr,e6]
  intro b3 gK cZ
  refine qO (L1:=[]) (Tryz.underlying87) wW wS (x:=now.getD i []) (fC (dD bh) aZ bq) ⟨_,rfl,hs⟩ rfl (by simp [Value.oneCell']) gK (by rw [List.length_take];omega) (by decide) ?_
  intro N4 fv' g cs' B4 uj bw
  rw [CO (by omega)] at bw
  simp +contextual only [go_sem,sevalprocAttr,lO]
  refine aS (dk (List.perm_append_comm (l₁:=[_])) (al (aC ⟨data.length - (i+1),by omega,rfl,i+1,by omega,rfl,?_,?_,N4,M2,_,fv',cY.trans B4,aW.trans bh,rfl,?_,bw⟩)))
  ·simp only [aE,aI,go_sem,sevalprocAttr]
  ·simp only [go_sem,sevalprocAttr,aA i (by omega)]
  ·simp only [go_sem,sevalprocAttr]
 ·have:i=data.length:=by omega
  subst this
  rw [<- zu,List.take_length] at bq
  simp +contextual only [go_sem,aD,sevalprocAttr,aI,lO,aL,e6]
  rw [<- List.append_nil L1]
  exact kZ (L2:=[]) bq (by omega) trivial fun M2 bh _ cH=>ak cY ⟨_,rfl,aH bm.rfl' (dD bh) cH,wl aW bq⟩
def aaR {p:Pl}{pc:List Value}{c:List Int}{zo d d':List Z}{tv dv mv:Value}(nG:RS M (lZ M) 1 aY tv)(hp:gP M p pc)(hd:RS M (RD M) 1 data dv)(hm:RS M (RD M) 1 more mv)(rF:fH aY p=.ok c)(VO:jj aY data=0)(ZE:jj aY more=0)
 (hl:more.length=data.length) (zu:now.length=data.length) (h64:data.length<=1000) (On:∀ i,i<data.length ->addM (data.getD i []) (more.getD i [])=.ok (now.getD i [])) (j2:mL aY data more p zo d) (AR:d.length<=4294967296) (B6:∀ z∈d,z.row.length<=4294967296) (mp:oC d=.ok d') (T:Tm):
 bU Tryz.prog 152 [tv,.agg ⟨pc⟩,dv,mv] T M [] [] (fun v M' _ _=>∃ rv,v=.tuple ⟨[rv,.int .i64 0]⟩/\RS M' (RZ M') 2 d' rv) aM:=by
 have xj:=hp
 obtain ⟨s1,a1,n1,a2,n2,a3,n3,rfl,ox,_⟩:=dj hp
 obtain ⟨_,da,dc,rfl,_⟩:=ax (by decide) (fun _ _=>gW) hd
 obtain ⟨_,ma,mc,rfl,_⟩:=ax (by decide) (fun _ _=>gW) hm
 obtain ⟨_,ta,tc,rfl,_⟩:=ax (by decide) (fun _ _=>cQ) nG
 unfold O3 at xj
 refine az aip rfl rfl ?_
 intro bj _
 unfold O3
 simp +contextual only [go_sem,sevalprocAttr]
 intro b4 T4 eH fE iJ
 refine aF (tO nG xj _) ?_
 rintro v0 M0 AQ ab5 rX
 rw [rF] at rX
 obtain ⟨s0,rfl,_⟩:=rX
 simp +contextual only [go_sem,aD,sevalprocAttr]
 intro b31 Je amN
 refine aO 2 33 [(0,.slice ta aY.length tc),(2,.slice da data.length dc),(3,.slice ma more.length mc),(5,.pointer (some ⟨b4,0,none⟩)),(31,.slice (some ⟨b31,0,none⟩) 2 2),(32,.int .i64 2)] (fun i e h=>h=⟨T4,M0,[(b31,[.slice da data.length dc,.slice ma more.length mc]),(b4,O3 p s1 (.slice a1 p.xs.length n1) (.slice a2 p.ags.length n2) (.slice a3 p.kids.length n3))],[]⟩) 0 (by omega) (by simp only [aE,go_sem,sevalprocAttr]) (by simp only [go_sem,sevalprocAttr]) rfl ?_
 rintro i e h hi aI lO rfl
 simp only [aE] at aI
 have acq:=aH AQ (cO AQ) nG
 have Zr:=aH AQ (dD AQ) hd
 have VS:=aH AQ (dD AQ) hm
 have kq:i=0\/i=1\/i=2:=by omega
 rcases kq with rfl | rfl | rfl
 ·simp +contextual only [go_sem,aD,sevalprocAttr,aI,lO,aB Je]
  refine aP (Dw acq Zr _) ?_
  simp +contextual only [go_sem,aD,sevalprocAttr,lO,VO]
  refine aS (aC ⟨1,by omega,rfl,1,by omega,rfl,?_,?_,rfl⟩)
  ·simp only [aE,aI,go_sem,sevalprocAttr]
  ·simp only [go_sem,sevalprocAttr];rfl
 ·simp +contextual only [go_sem,aD,sevalprocAttr,aI,lO,aB Je]
  refine aP (Dw acq VS _) ?_
  simp +contextual only [go_sem,aD,sevalprocAttr,lO,ZE]
  refine aS (aC ⟨0,by omega,rfl,2,by omega,rfl,?_,?_,rfl⟩)
  ·simp only [aE,aI,go_sem,sevalprocAttr]
  ·simp only [go_sem,sevalprocAttr];rfl
 simp +contextual only [go_sem,aD,sevalprocAttr,aI,lO]
 refine aF (Fe Zr VS hl zu h64 On _) ?_
 rintro v M1 aW bD ⟨nv,rfl,_,_⟩
 simp +contextual only [go_sem,aD,sevalprocAttr,aI]
 intro b58 T58 apq amQ aj6 amI
 refine jh aao.bd fun M2 bh hL2=> ?_
 have rD:=aW.trans bh
 refine aF (j2 M2 _ b58 b4 0 _ _ _ _ hL2.1 (jJ hL2.2.2.1 _ 0 (by simp)) (bA (AQ.trans rD) _ _ xj) (aH rD (cO rD) acq) (aH rD (dD rD) Zr) (aH rD (dD rD) VS)) ?_
 rintro v M3 bG bC ⟨ov,cv,rfl,_,lz⟩
 obtain ⟨_,va,vc,rfl,_⟩:=ax (by decide) (fun _ _=>bi) lz
 simp +contextual only [go_sem,aD,sevalprocAttr]
 refine aF (vm lz AR B6 _) ?_
 rintro v M4 dz de hv
 rw [mp] at hv
 obtain ⟨s,rfl,hs⟩:=hv
 simp +contextual only [go_sem,sevalprocAttr]
 exact ak (fE.trans aj6) ⟨_,rfl,hs⟩
variable {M:aR} {aY:List (List Int)} {data more now:List (List Z)}
def iy (tv:Value)(pc:List Value)(dv rv:Value):List Value:=[tv]++pc++[dv,rv]
def yG {bv:Nat}{p:Pl}{pc:List Value}{c:List Int}{zo d d' rows rows':List Z}{tv dv mv rv:Value}(nG:RS M (lZ M) 1 aY tv)(hp:gP M p pc)(hd:RS M (RD M) 1 data dv)(hr:RS M (RZ M) 2 rows rv)(hm:RS M (RD M) 1 more mv)(rF:fH aY p=.ok c)(VO:jj aY data=0)(ZE:jj aY more=0)
 (hl:more.length=data.length) (zu:now.length=data.length) (h64:data.length<=1000) (On:∀ i,i<data.length ->addM (data.getD i []) (more.getD i [])=.ok (now.getD i [])) (j2:mL aY data more p zo d) (AR:d.length<=4294967296) (B6:∀ z∈d,z.row.length<=4294967296) (mp:oC d=.ok d') (bN:addM rows d'=.ok rows') (T:Tm):
 bU Tryz.prog 100 [.pointer (some ⟨bv,0,none⟩),mv] T M [(bv,iy tv pc dv rv)] [] (fun v M' L' _=>v=.int .i64 0/\∃ nv rv',L'=[(bv,iy tv pc nv rv')]/\RS M' (RD M') 1 now nv/\yZ M nv/\RS M' (RZ M') 2 rows' rv') aM:=by
 have xj:=hp
 obtain ⟨s1,a1,n1,a2,n2,a3,n3,rfl,ox,_⟩:=dj hp
 obtain ⟨_,da,dc,rfl,_⟩:=ax (by decide) (fun _ _=>gW) hd
 obtain ⟨_,ma,mc,rfl,_⟩:=ax (by decide) (fun _ _=>gW) hm
 obtain ⟨_,ta,tc,rfl,_⟩:=ax (by decide) (fun _ _=>cQ) nG
 obtain ⟨_,ra,rc,rfl,_⟩:=ax (by decide) (fun _ _=>bi) hr
 unfold iy O3 at*
 simp only [nn] at*
 refine az ahX rfl rfl ?_
 intro bj _
 simp +contextual only [go_sem,sevalprocAttr]
 refine aT ?_
 simp +contextual only [go_sem,sevalprocAttr,aB bj.1]
 refine aF (aaR nG xj hd hm rF VO ZE hl zu h64 On j2 AR B6 mp _) ?_
 rintro v M1 aW bD ⟨cv,rfl,lz⟩
 obtain ⟨_,va,vc,rfl,_⟩:=ax (by decide) (fun _ _=>bi) lz
 simp +contextual only [go_sem,aD,sevalprocAttr,aB bD.1]
 refine aF (Dt (cz aW hr) lz _) ?_
 rintro v M2 bh aZ hv
 rw [bN] at hv
 obtain ⟨s,rfl,hs⟩:=hv
 obtain ⟨_,sa,sc,rfl,_⟩:=ax (by decide) (fun _ _=>bi) hs
 have eb:=aW.trans bh
 simp +contextual only [go_sem,aD,sevalprocAttr,aB aZ.1]
 refine aF (Fe (aH eb (dD eb) hd) (aH eb (dD eb) hm) hl zu h64 On _) ?_
 rintro v M3 bG bC ⟨nv,rfl,OB,nF⟩
 obtain ⟨_,na,nc,rfl,_⟩:=ax (by decide) (fun _ _=>gW) OB
 simp +contextual only [go_sem,sevalprocAttr]
 refine aQ aG.rfl' rfl rfl ⟨rfl,_,_,rfl,OB,?_,cz bG hs⟩
 intro b o n c he
 have:=nF b o n c he
 cases h0:M b with
 | none=>rfl
 | some x=>rw [eb _ _ h0] at this;cases this
def my (M2:aR)(Lp:LL):Prop:=∀ b c,(b,c)∈Lp ->M2 b=some c/\∀ u∈c,ni u
section
variable {M2:aR} {Lp:LL}
theorem tI {α:Type}{r r':α ->List Value ->Prop}:∀ {l:List α} {xs:List Value},(∀ x∈l,∀ cs,r x cs ->r' x cs) ->RL r l xs ->RL r' l xs
 | [],_,_,h=>h
 | x::l,_,hr,⟨cs,rest,h1,h2,h3⟩=>⟨cs,rest,h1,hr x (by simp) cs h2,tI (fun y hy=>hr y (tC hy)) h3⟩
def uX {α:Type}{r r':α ->List Value ->Prop}{sz:Nat}{l:List α}{v:Value}(hz:my M2 Lp)(hr:∀ x∈l,∀ cs,r x cs ->r' x cs)(hx:∀ x∈l,∀ cs,r x cs ->∃ (i:Nat) (k:IntKind) (n:Int),cs[i]?=some (.int k n)/\n≠0)(h:RS M2 r sz l v):RS (ke M2 Lp) r' sz l v:=by
 obtain ⟨hb,xs,iR,zy⟩:=h
 refine ⟨hb,xs,Il hz ?_ iR,tI hr zy⟩
 intro h0
 cases l with
 | nil=>exact absurd zy h0
 | cons x l=>
  obtain ⟨cs,rest,rfl,h2,_⟩:=zy
  obtain ⟨i,k,n,hi,hn⟩:=hx x (by simp) cs h2
  exact ⟨i,k,n,by rw [List.getElem?_append_left (List.getElem?_eq_some_iff.1 hi).1];exact hi,hn⟩
def aaz {r:List V}{v:Value}(hz:my M2 Lp)(hk:∀ x∈r,x.k≠0)(h:RS M2 RV 3 r v):RS (ke M2 Lp) RV 3 r v:=
 uX hz (fun _ _ _ h=>h) (fun x hx cs h=>⟨0,.i64,x.k,by unfold RV V.cs at h;subst h;rfl,hk x hx⟩) h
def mT (z:List Z):Prop:=∀ x∈z,x.w≠0/\∀ v∈x.row,v.k≠0
def Dg {z:List Z}{v:Value}(hz:my M2 Lp)(hg:mT z)(h:RS M2 (RZ M2) 2 z v):RS (ke M2 Lp) (RZ (ke M2 Lp)) 2 z v:=
 uX hz (fun x hx cs h=>by obtain ⟨s,h1,h2⟩:=h;exact ⟨s,aaz hz (hg x hx).2 h1,h2⟩) (fun x hx cs h=>by obtain ⟨s,h1,rfl⟩:=h;exact ⟨1,.i64,x.w,rfl,(hg x hx).1⟩) h
theorem Qe {zs:List (List Z)}{v:Value}(hz:my M2 Lp)(hg:∀ z∈zs,mT z)(hf:∀ b o n c,v=.slice (some ⟨b,o,none⟩) n c ->b∉aV Lp)(h:RS M2 (RD M2) 1 zs v):RS (ke M2 Lp) (RD (ke M2 Lp)) 1 zs v:=by
 obtain ⟨hb,xs,iR,zy⟩:=h
 refine ⟨hb,xs,?_,tI (fun x hx cs h=>by obtain ⟨s,h1,h2⟩:=h;exact ⟨s,h1,Dg hz (hg x hx) h2⟩) zy⟩
 rcases iR with h | ⟨b,o,n,c,rfl,h2,h3,h4⟩
 ·exact .inl h
 ·refine .inr ⟨b,o,n,c,rfl,h2,h3,xD ?_ h4⟩
  show (if b∈aV Lp then none else M2 b)=_
  rw [if_neg (hf b o n c rfl)]
theorem jY {M M':aR}(he:bm M M'):∀ (Lp:LL),bm (eM M Lp) (eM M' Lp)
 | []=>he
 | (k,c)::l=>fun b x h=>by
  have h:(if b=k then some c else eM M l b)=some x:=h
  show (if b=k then some c else eM M' l b)=some x
  split
  ·rename_i hb;rw [if_pos hb] at h;exact h
  ·rename_i hb;rw [if_neg hb] at h;exact jY he l b x h
def sN {M:aR}{v:Value}(h:yZ (eM M Lp) v):∀ b o n c,v=.slice (some ⟨b,o,none⟩) n c ->b∉aV Lp:=by
 intro b o n c he hk
 have h0:=h b o n c he
 have:∀ l:LL,b∈aV l ->eM M l b≠none:=by
  intro l
  induction l with
  | nil=>intro h;cases h
  | cons p l ih=>
   obtain ⟨k,cs⟩:=p
   intro lr
   show (if b=k then some cs else eM M l b)≠none
   split
   ·simp
   ·rename_i cm
    simp only [aV,List.map_cons,List.mem_cons] at lr
    rcases lr with h | h
    ·exact absurd h cm
    ·exact ih h
 exact this _ hk h0
end
variable {M:aR} {aY:List (List Int)}
def oQ (rv:Value)(gd dcap gk kc:Nat)(sv:Value):List Value:=[rv,.slice (some ⟨gd,0,none⟩) 2 dcap,.slice (some ⟨gk,0,none⟩) 1 kc,sv]
def Qf {b:Nat}{x y:List Z}{xv yv:Value}(hb:M b=some [xv,yv])(hx:RS M (RZ M) 2 x xv)(hy:RS M (RZ M) 2 y yv):RS M (RD M) 1 [x,y] (.slice (some ⟨b,0,none⟩) 2 2):=
 dE (fun _ _=>gW) hb ⟨[xv],[yv],rfl,⟨xv,rfl,hx⟩,[yv],[],rfl,⟨yv,rfl,hy⟩,rfl⟩ rfl (by decide)
def IF {be gd bv gk n:Nat}{kc dcap:Nat}{junk:List Value}{p:Pl}{pc:List Value}{c:List Int}{D0 D1 m0 m1 N0 N1 z zo d d' rows rows':List Z}{rv sv tv dv rwv d0 d1 zv:Value}(hn:n=0/\m0=z/\m1=[]/\N1=D1\/n=1/\m0=[]/\m1=z/\N0=D0)
 (ns:ni rv/\∀ k m,rv≠ .int k m) (sW:ni sv)
 (nG:RS M (lZ M) 1 aY tv) (hp:gP M p pc) (h0:RS M (RZ M) 2 D0 d0) (h1:RS M (RZ M) 2 D1 d1) (A5:RS M (RZ M) 2 z zv) (hr:RS M (RZ M) 2 rows rwv) (Zx:aN M ⟨gk,0,none⟩=some (.pointer (some ⟨bv,0,none⟩)))
 (hd:RS (eM M [(be,oQ rv gd dcap gk kc sv),(gd,[d0,d1])]) (RD (eM M [(be,oQ rv gd dcap gk kc sv),(gd,[d0,d1])])) 1 [D0,D1] dv)
 (rF:fH aY p=.ok c) (VO:jj aY [D0,D1]=0) (ZE:jj aY [m0,m1]=0) (Zj:addM D0 m0=.ok N0) (PT:addM D1 m1=.ok N1) (j2:mL aY [D0,D1] [m0,m1] p zo d) (AR:d.length<=4294967296) (B6:∀ z∈d,z.row.length<=4294967296) (mp:oC d=.ok d') (bN:addM rows d'=.ok rows')
 (HT:mT N0) (lM:mT N1) (ul:mT rows') (T:Tm):
 bU Tryz.prog 57 [.pointer (some ⟨be,0,none⟩),.int .i64 (n:Int),zv] T M [(bv,iy tv pc dv rwv),(be,oQ rv gd dcap gk kc sv),(gd,d0::d1::junk)] []
  (fun v M' L' _=>v=.int .i64 0/\∃ nv rv' w0 w1,L'=[(bv,iy tv pc nv rv'),(be,oQ rv gd dcap gk kc sv),(gd,w0::w1::junk)]/\RS M' (RZ M') 2 N0 w0/\RS M' (RZ M') 2 N1 w1/\RS M' (RD M') 1 [N0,N1] nv/\RS M' (RZ M') 2 rows' rv') aM:=by
 obtain ⟨_,a0,c0,rfl,_⟩:=ax (by decide) (fun _ _=>bi) h0
 obtain ⟨_,a1,c1,rfl,_⟩:=ax (by decide) (fun _ _=>bi) h1
 obtain ⟨_,za,zc,rfl,_⟩:=ax (by decide) (fun _ _=>bi) A5
 unfold oQ at*
 rcases hn with ⟨rfl,rfl,rfl,rfl⟩ | ⟨rfl,rfl,rfl,rfl⟩
 ·refine az F57 rfl rfl ?_
  intro bj iC
  obtain ⟨nb,ne,ng,_⟩:=bj
  obtain ⟨ap1,ap2,_⟩:=iC
  simp only [bf,and_true] at ap1 ap2
  simp +contextual only [go_sem,sevalprocAttr,aB ne,aB ng,ap1,ap2]
  refine aF (Dt h0 A5 _) ?_
  rintro v M1 aW bD hv
  rw [Zj] at hv
  obtain ⟨s,rfl,hs⟩:=hv
  obtain ⟨nb1,ne1,ng1,_⟩:=bD
  obtain ⟨_,sa,sc,rfl,_⟩:=ax (by decide) (fun _ _=>bi) hs
  simp +contextual only [go_sem,aD,sevalprocAttr,aB ne1,ap1]
  rw [show (2:Int)=((2:Nat):Int) from rfl,Al,show ((List.range 2).flatMap fun _=>[Value.slice none 0 0])=[.slice none 0 0,.slice none 0 0] from rfl]
  refine ⟨by decide,?_⟩
  intro b33 akm FQ
  simp only [bf,and_true] at FQ
  have k0:aN M1 ⟨gk,0,none⟩=some (.pointer (some ⟨bv,0,none⟩)):=ay aW Zx
  simp +contextual only [go_sem,aD,sevalprocAttr,aB ne1,ap1,FQ]
  refine bR 1 43 [(0,.pointer (some ⟨be,0,none⟩)),(1,.int .i64 0),(7,.slice sa N0.length sc),(9,.slice (some ⟨b33,0,none⟩) 2 2),(41,.slice (some ⟨gk,0,none⟩) 1 kc),(42,.int .i64 1)]
   (fun i e h=>∃ M' nv rv',bm M1 M'/\h=⟨T,M',[(bv,iy tv pc nv rv'),(be,[rv,.slice (some ⟨gd,0,none⟩) 2 dcap,.slice (some ⟨gk,0,none⟩) 1 kc,sv]),(gd,.slice a0 D0.length c0:: .slice a1 N1.length c1::junk)],[]⟩/\aJ M' h.L/\(i=0 ->nv=dv/\rv'=rwv/\M' b33=some [.slice za m0.length zc,.slice none 0 0])/\(i=1 ->RS M' (RD M') 1 [N0,N1] nv/\RS M' (RZ M') 2 rows' rv'))
   0 (by omega) (by simp only [aE,go_sem,sevalprocAttr]) (by simp only [go_sem,sevalprocAttr]) (aU fun he h5 hn5=>aC ⟨_,dv,rwv,he,rfl,hn5,fun _=>⟨rfl,rfl,h5⟩,fun h=>by omega⟩) ?_
  rintro i e h hi aI lO ⟨M2,nv,rv',bh,rfl,aZ,vE,HW⟩
  simp only [aE] at aI
  have eb:=aW.trans bh
  have k2:=ay bh k0
  have wJ:i=0\/i=1:=by omega
  rcases wJ with rfl | rfl
  ·obtain ⟨rfl,rfl,hb⟩:=vE rfl
   have FY:aJ M2 [(be,[rv,.slice (some ⟨gd,0,none⟩) 2 dcap,.slice (some ⟨gk,0,none⟩) 1 kc,sv]),(gd,[.slice a0 D0.length c0,.slice a1 N1.length c1])]:=⟨aZ.2.1,aZ.2.2.1,trivial⟩
   have vw:=gG FY
   have hE:=eb.trans vw
   have rM:∀ {M3:aR},bm (eM M2 [(be,[rv,.slice (some ⟨gd,0,none⟩) 2 dcap,.slice (some ⟨gk,0,none⟩) 1 kc,sv]),(gd,[.slice a0 D0.length c0,.slice a1 N1.length c1])]) M3 ->my M3 [(be,[rv,.slice (some ⟨gd,0,none⟩) 2 dcap,.slice (some ⟨gk,0,none⟩) 1 kc,sv]),(gd,[.slice a0 D0.length c0,.slice a1 N1.length c1])]:=by
    intro M3 bG b c PW
    simp only [List.mem_cons,Prod.mk.injEq,List.not_mem_nil,or_false] at PW
    rcases PW with ⟨rfl,rfl⟩ | ⟨rfl,rfl⟩
    ·exact ⟨bG _ _ (by simp [eM,aR.add]),by intro u hu;simp only [mn] at hu;rcases hu with rfl | rfl | rfl | rfl<;>first | exact ns.1 | exact sW | trivial⟩
    ·exact ⟨bG _ _ (by simp [eM,aR.add,ap2]),by simp [ni]⟩
   simp +contextual only [go_sem,aD,sevalprocAttr,aI,lO,k2]
   refine kK [(bv,iy tv pc nv rv')] [(be,[rv,.slice (some ⟨gd,0,none⟩) 2 dcap,.slice (some ⟨gk,0,none⟩) 1 kc,sv]),(gd,[.slice a0 D0.length c0,.slice a1 N1.length c1])] ?_ (yG (now:=[N0,N1]) ?_ ?_ ?_ ?_ ?_ rF VO ZE rfl rfl (by simp) ?_ j2 AR B6 mp bN _) ?_
   ·exact ⟨rfl,⟨[],(List.append_nil _).symm,.inl rfl⟩,rfl,⟨junk,rfl,.inr ⟨_,_,rfl,fun k n h=>by cases h⟩⟩,trivial⟩
   ·exact aH hE (cO hE) nG
   ·exact bA hE _ _ hp
   ·exact aH (jY eb _) (dD (jY eb _)) hd
   ·exact cz hE hr
   ·exact aH vw (dD vw) (Qf hb (cz eb A5) bz)
   ·intro i hi
    have wJ:i=0\/i=1:=by simp at hi;omega
    rcases wJ with rfl | rfl
    ·exact Zj
    ·exact PT
   rintro r M3 L2 bG FV bC ⟨rfl,nv',rv'',rfl,OB,nF,Jr⟩
   have hE3:=lX FY bG
   simp +contextual only [go_sem,aD,sevalprocAttr,lO]
   refine aS (aC ⟨0,by omega,rfl,1,by omega,rfl,?_,?_,_,nv',rv'',bh.trans hE3,rfl,bC,fun h=>by omega,fun _=>⟨Qe (rM bG) (by simp [HT,lM]) (sN nF) OB,Dg (rM bG) ul Jr⟩⟩)
   ·simp only [aE,aI,go_sem,sevalprocAttr]
   ·simp only [go_sem,sevalprocAttr];rfl
  ·obtain ⟨OB,Jr⟩:=HW rfl
   obtain ⟨nb2,ne2,ng2,_⟩:=aZ
   simp +contextual only [go_sem,aD,sevalprocAttr,aI,lO,aB ne2,ap1,ap2]
   exact aQ aG.rfl' rfl rfl ⟨rfl,_,_,_,_,rfl,cz bh hs,cz eb h1,OB,Jr⟩
 ·refine az F57 rfl rfl ?_
  intro bj iC
  obtain ⟨nb,ne,ng,_⟩:=bj
  obtain ⟨ap1,ap2,_⟩:=iC
  simp only [bf,and_true] at ap1 ap2
  simp +contextual only [go_sem,sevalprocAttr,aB ne,aB ng,ap1,ap2]
  refine aF (Dt h1 A5 _) ?_
  rintro v M1 aW bD hv
  rw [PT] at hv
  obtain ⟨s,rfl,hs⟩:=hv
  obtain ⟨nb1,ne1,ng1,_⟩:=bD
  obtain ⟨_,sa,sc,rfl,_⟩:=ax (by decide) (fun _ _=>bi) hs
  simp +contextual only [go_sem,aD,sevalprocAttr,aB ne1,ap1]
  rw [show (2:Int)=((2:Nat):Int) from rfl,Al,show ((List.range 2).flatMap fun _=>[Value.slice none 0 0])=[.slice none 0 0,.slice none 0 0] from rfl]
  refine ⟨by decide,?_⟩
  intro b33 akm FQ
  simp only [bf,and_true] at FQ
  have k0:aN M1 ⟨gk,0,none⟩=some (.pointer (some ⟨bv,0,none⟩)):=ay aW Zx
  simp +contextual only [go_sem,aD,sevalprocAttr,aB ne1,ap1,FQ]
  refine bR 1 43 [(0,.pointer (some ⟨be,0,none⟩)),(1,.int .i64 1),(7,.slice sa N1.length sc),(9,.slice (some ⟨b33,0,none⟩) 2 2),(41,.slice (some ⟨gk,0,none⟩) 1 kc),(42,.int .i64 1)]
   (fun i e h=>∃ M' nv rv',bm M1 M'/\h=⟨T,M',[(bv,iy tv pc nv rv'),(be,[rv,.slice (some ⟨gd,0,none⟩) 2 dcap,.slice (some ⟨gk,0,none⟩) 1 kc,sv]),(gd,.slice a0 N0.length c0:: .slice a1 D1.length c1::junk)],[]⟩/\aJ M' h.L/\(i=0 ->nv=dv/\rv'=rwv/\M' b33=some [.slice none 0 0,.slice za m1.length zc])/\(i=1 ->RS M' (RD M') 1 [N0,N1] nv/\RS M' (RZ M') 2 rows' rv'))
   0 (by omega) (by simp only [aE,go_sem,sevalprocAttr]) (by simp only [go_sem,sevalprocAttr]) (aU fun he h5 hn5=>aC ⟨_,dv,rwv,he,rfl,hn5,fun _=>⟨rfl,rfl,h5⟩,fun h=>by omega⟩) ?_
  rintro i e h hi aI lO ⟨M2,nv,rv',bh,rfl,aZ,vE,HW⟩
  simp only [aE] at aI
  have eb:=aW.trans bh
  have k2:=ay bh k0
  have wJ:i=0\/i=1:=by omega
  rcases wJ with rfl | rfl
  ·obtain ⟨rfl,rfl,hb⟩:=vE rfl
   have FY:aJ M2 [(be,[rv,.slice (some ⟨gd,0,none⟩) 2 dcap,.slice (some ⟨gk,0,none⟩) 1 kc,sv]),(gd,[.slice a0 N0.length c0,.slice a1 D1.length c1])]:=⟨aZ.2.1,aZ.2.2.1,trivial⟩
   have vw:=gG FY
   have hE:=eb.trans vw
   have rM:∀ {M3:aR},bm (eM M2 [(be,[rv,.slice (some ⟨gd,0,none⟩) 2 dcap,.slice (some ⟨gk,0,none⟩) 1 kc,sv]),(gd,[.slice a0 N0.length c0,.slice a1 D1.length c1])]) M3 ->my M3 [(be,[rv,.slice (some ⟨gd,0,none⟩) 2 dcap,.slice (some ⟨gk,0,none⟩) 1 kc,sv]),(gd,[.slice a0 N0.length c0,.slice a1 D1.length c1])]:=by
    intro M3 bG b c PW
    simp only [List.mem_cons,Prod.mk.injEq,List.not_mem_nil,or_false] at PW
    rcases PW with ⟨rfl,rfl⟩ | ⟨rfl,rfl⟩
    ·exact ⟨bG _ _ (by simp [eM,aR.add]),by intro u hu;simp only [mn] at hu;rcases hu with rfl | rfl | rfl | rfl<;>first | exact ns.1 | exact sW | trivial⟩
    ·exact ⟨bG _ _ (by simp [eM,aR.add,ap2]),by simp [ni]⟩
   simp +contextual only [go_sem,aD,sevalprocAttr,aI,lO,k2]
   refine kK [(bv,iy tv pc nv rv')] [(be,[rv,.slice (some ⟨gd,0,none⟩) 2 dcap,.slice (some ⟨gk,0,none⟩) 1 kc,sv]),(gd,[.slice a0 N0.length c0,.slice a1 D1.length c1])] ?_ (yG (now:=[N0,N1]) ?_ ?_ ?_ ?_ ?_ rF VO ZE rfl rfl (by simp) ?_ j2 AR B6 mp bN _) ?_
   ·exact ⟨rfl,⟨[],(List.append_nil _).symm,.inl rfl⟩,rfl,⟨junk,rfl,.inr ⟨_,_,rfl,fun k n h=>by cases h⟩⟩,trivial⟩
   ·exact aH hE (cO hE) nG
   ·exact bA hE _ _ hp
   ·exact aH (jY eb _) (dD (jY eb _)) hd
   ·exact cz hE hr
   ·exact aH vw (dD vw) (Qf hb bz (cz eb A5))
   ·intro i hi
    have wJ:i=0\/i=1:=by simp at hi;omega
    rcases wJ with rfl | rfl
    ·exact Zj
    ·exact PT
   rintro r M3 L2 bG FV bC ⟨rfl,nv',rv'',rfl,OB,nF,Jr⟩
   have hE3:=lX FY bG
   simp +contextual only [go_sem,aD,sevalprocAttr,lO]
   refine aS (aC ⟨0,by omega,rfl,1,by omega,rfl,?_,?_,_,nv',rv'',bh.trans hE3,rfl,bC,fun h=>by omega,fun _=>⟨Qe (rM bG) (by simp [HT,lM]) (sN nF) OB,Dg (rM bG) ul Jr⟩⟩)
   ·simp only [aE,aI,go_sem,sevalprocAttr]
   ·simp only [go_sem,sevalprocAttr];rfl
  ·obtain ⟨OB,Jr⟩:=HW rfl
   obtain ⟨nb2,ne2,ng2,_⟩:=aZ
   simp +contextual only [go_sem,aD,sevalprocAttr,aI,lO,aB ne2,ap1,ap2]
   exact aQ aG.rfl' rfl rfl ⟨rfl,_,_,_,_,rfl,cz eb h0,cz bh hs,OB,Jr⟩
variable {M:aR}
def Rk {r:Rel}{cs:List Value}{name:Bs}{b:Nat}(hr:ig M r cs)(hb:M b=some [st name])(T:Tm):bU Tryz.prog 133 [.agg ⟨cs⟩,.pointer (some ⟨b,0,none⟩)] T M [] [] (fun v _ _ _=>v=.bool (decide (r.name=name))) aM:=by
 obtain ⟨ca,cn,s1,a1,n1,a2,n2,a3,n3,rfl,iQ,_⟩:=iz hr
 have k0:aN M ⟨b,0,none⟩=some (st name):=by simp [aN,hb]
 refine az aif rfl rfl ?_
 intro bj _
 simp +contextual only [go_sem,sevalprocAttr]
 intro b2 T2 dO dA ef
 simp +contextual only [go_sem,sevalprocAttr,k0]
 exact al (ak dA (by simp))
theorem NE {rels:List Rel}{rv:Value}{name:Bs}{b:Nat}(hr:RS M (ig M) 14 rels rv)(hb:M b=some [st name])(hn:∀ r∈rels,r.name≠name)(T:Tm):bU Tryz.prog 132 [rv,.func (.func 133) #[] #[.pointer (some ⟨b,0,none⟩)]] T M [] [] (fun v _ _ _=>v=.int .i64 (-1)) aM:=by
 obtain ⟨fp,a,c,rfl,cX,_,hg⟩:=ax (by decide) (fun _ _=>ii) hr
 refine az ad1 rfl rfl ?_
 intro bj _
 simp +contextual only [go_sem,aD,sevalprocAttr]
 refine aO rels.length 8 [(0,.slice a rels.length c),(1,.func (.func 133) #[] #[.pointer (some ⟨b,0,none⟩)]),(7,.int .i64 (rels.length:Int))] (fun i e h=>h=⟨T,M,[],[]⟩) 0 (by omega) (by simp only [aE,go_sem,sevalprocAttr]) (by simp only [go_sem,sevalprocAttr]) rfl ?_
 rintro i e h hi aI ht rfl
 simp only [aE] at aI
 by_cases aL:i<rels.length
 ·obtain ⟨b',o',cs',rfl,bP,eh⟩:=hg i rels[i] (gq aL)
  have cm:=hn _ (gm aL)
  obtain ⟨ca,cn,s1,a1,n1,a2,n2,a3,n3,he,iQ,_⟩:=iz eh
  have hc:=Rk eh hb T
  subst he
  have y:=C7 bP
  simp +contextual only [go_sem,aD,sevalprocAttr,aI,ht,aL,y]
  refine aP hc ?_
  simp +contextual only [go_sem,aD,sevalprocAttr,ht,cm]
  refine bT aL ?_ ?_ rfl
  ·simp only [aE,aI,go_sem,sevalprocAttr]
  ·simp only [go_sem,sevalprocAttr,aA i (by omega)]
 ·have:i=rels.length:=by omega
  subst this
  simp +contextual only [go_sem,aD,sevalprocAttr,aI,ht,aL]
  exact ak aG.rfl' rfl
theorem Rl {rels:List Rel}{be:Nat}{rv dv kv sv:Value}{name:Bs}(sS:M be=some [rv,dv,kv,sv])(hr:RS M (ig M) 14 rels rv)(hn:∀ r∈rels,r.name≠name)(T:Tm):bU Tryz.prog 88 [.pointer (some ⟨be,0,none⟩),st name] T M [] [] (fun v _ _ _=>v=.int .i64 (-1)) aM:=by
 have k0:aN M ⟨be,0,none⟩=some rv:=by simp [aN,sS]
 obtain ⟨_,a,c,rfl,_⟩:=ax (by decide) (fun _ _=>ii) hr
 refine az F88 rfl rfl ?_
 intro bj _
 simp +contextual only [go_sem,sevalprocAttr]
 intro b3 T3 gK fU gB
 simp +contextual only [go_sem,sevalprocAttr,k0]
 refine cW ad1.bd (fun M' he hL _=>NE (aH he (dV he) hr) hL.1 hn _) ?_
 simp +contextual only [go_sem,sevalprocAttr]
 exact al (ak fU rfl)
def tG {c:Co}{cs:List Value}(h:tF c cs):cs=[st c.name,.int .i64 c.ty]:=h
def Ob {n n':Bs}{t t':Int}{b:Nat}(hb:M b=some [st n',.int .i64 t'])(T:Tm):bU Tryz.prog 135 [.agg ⟨[st n,.int .i64 t]⟩,.pointer (some ⟨b,0,none⟩)] T M [] [] (fun v _ _ _=>v=.bool (decide (n=n'))) aM:=by
 have k0:aN M ⟨b,0,none⟩=some (st n'):=by simp [aN,hb]
 refine az aig rfl rfl ?_
 intro bj _
 simp +contextual only [go_sem,sevalprocAttr]
 intro b2 T2 dO dA ef
 simp +contextual only [go_sem,sevalprocAttr,k0]
 exact al (ak dA (by simp))
theorem NC {cols:List Co}{cv:Value}{n':Bs}{t':Int}{b:Nat}(hr:RS M tF 2 cols cv)(hb:M b=some [st n',.int .i64 t'])(hn:∀ r∈cols,r.name≠n')(T:Tm):bU Tryz.prog 192 [cv,.func (.func 135) #[] #[.pointer (some ⟨b,0,none⟩)]] T M [] [] (fun v _ _ _=>v=.int .i64 (-1)) aM:=by
 obtain ⟨fp,a,c,rfl,cX,_,hg⟩:=ax (by decide) (fun _ _=>fZ) hr
 refine az aiQ rfl rfl ?_
 intro bj _
 simp +contextual only [go_sem,aD,sevalprocAttr]
 refine aO cols.length 8 [(0,.slice a cols.length c),(1,.func (.func 135) #[] #[.pointer (some ⟨b,0,none⟩)]),(7,.int .i64 (cols.length:Int))] (fun i e h=>h=⟨T,M,[],[]⟩) 0 (by omega) (by simp only [aE,go_sem,sevalprocAttr]) (by simp only [go_sem,sevalprocAttr]) rfl ?_
 rintro i e h hi aI ht rfl
 simp only [aE] at aI
 by_cases aL:i<cols.length
 ·obtain ⟨b',o',cs',rfl,bP,eh⟩:=hg i cols[i] (gq aL)
  have cm:=hn _ (gm aL)
  obtain rfl:=tG eh
  obtain ⟨y0,y1,_⟩:=bP
  simp +contextual only [go_sem,aD,sevalprocAttr,aI,ht,aL,y0,y1]
  refine aP (Ob hb T) ?_
  simp +contextual only [go_sem,aD,sevalprocAttr,ht,cm]
  refine bT aL ?_ ?_ rfl
  ·simp only [aE,aI,go_sem,sevalprocAttr]
  ·simp only [go_sem,sevalprocAttr,aA i (by omega)]
 ·have:i=cols.length:=by omega
  subst this
  simp +contextual only [go_sem,aD,sevalprocAttr,aI,ht,aL]
  exact ak aG.rfl' rfl
theorem EL {α:Type}{r:α ->List Value ->Prop}{sz:Nat}(ed:∀ x cs,r x cs ->cs.length=sz):∀ {l:List α} {xs:List Value} (k:Nat),RL r l xs ->RL r (l.take k) (xs.take (k*sz))
 | [],xs,k,h=>by have:xs=[]:=h;subst this;simp [RL]
 | x::l,xs,0,h=>by simp [RL]
 | x::l,xs,k+1,h=>by
  obtain ⟨cs,rest,rfl,h1,h2⟩:=h
  have gC:=ed x cs h1
  have:(cs++rest).take ((k+1)*sz)=cs++rest.take (k*sz):=by
   rw [Nat.add_mul,Nat.one_mul,Nat.add_comm,<- gC,List.take_append,List.take_of_length_le (Nat.le_add_right _ _),Nat.add_sub_cancel_left]
  rw [this]
  exact ⟨cs,_,rfl,h1,EL ed k h2⟩
def yl {α:Type}{r:α ->List Value ->Prop}{sz:Nat}(dK:0<sz)(ed:∀ x cs,r x cs ->cs.length=sz){M:aR}{l:List α}{a:Option Addr}{n c k:Nat}(h:RS M r sz l (.slice a n c))(hk:k<=l.length):
 RS M r sz (l.take k) (.slice a k c):=by
 obtain ⟨hb,xs,hs,hl⟩:=h
 have bu:=eJ ed hl
 refine ⟨by rw [List.length_take];exact Nat.le_trans (Nat.mul_le_mul_right _ (Nat.min_le_right ..)) hb,xs.take (k*sz),?_,EL ed k hl⟩
 rcases hs with ⟨a',c',hv,rfl,wH⟩ | ⟨b,o,n',c',hv,cX,hn,ha⟩
 ·injection hv with h1 h2 h3
  subst h1 h2 h3
  left
  have nU:k=0:=by
   have:l.length=0:=by
    simp only [List.length_nil] at bu
    rcases Nat.mul_eq_zero.1 bu.symm with h | h
    ·exact h
    ·omega
   omega
  subst nU
  exact ⟨a,c,rfl,by simp,wH⟩
 ·injection hv with h1 h2 h3
  subst h1 h2 h3
  right
  have zu:n=l.length:=Nat.eq_of_mul_eq_mul_right dK (hn.symm.trans bu)
  have pq:k*sz<=xs.length:=by rw [hn];exact Nat.mul_le_mul_right _ (by omega)
  refine ⟨b,o,k,c,rfl,by omega,by rw [List.length_take];omega,?_⟩
  have h2:xs=xs.take (k*sz)++xs.drop (k*sz):=(List.take_append_drop _ _).symm
  rw [h2] at ha
  exact (fF.1 ha).1
def DE (a:Option Addr)(c sz:Nat):kG a c 0 sz=a:=by
 unfold kG
 split
 ·rfl
 ·cases a<;>simp [Addr.add]
def Q5 {cols:List Co}{cv:Value}{n':Bs}{t':Int}{b:Nat}(hr:RS M tF 2 cols cv)(hb:M b=some [st n',.int .i64 t'])(hn:∀ r∈cols,r.name≠n')(T:Tm):bU Tryz.prog 134 [cv,.func (.func 135) #[] #[.pointer (some ⟨b,0,none⟩)]] T M [] [] (fun v _ _ _=>v=.bool false) aM:=by
 refine az ad2 rfl rfl ?_
 intro bj _
 simp +contextual only [go_sem,sevalprocAttr]
 refine aP (NC hr hb hn _) ?_
 simp +contextual only [go_sem,sevalprocAttr]
 exact ak aG.rfl' (by simp)
theorem RH {cols:List Co}{cv:Value}(hr:RS M tF 2 cols cv)(hn:(cols.map (·.name)).Nodup)(bu:cols.length<=1000000)(T:Tm):bU Tryz.prog 89 [cv] T M [] [] (fun v _ _ _=>v=.bool false) aM:=by
 have uT:=hr
 obtain ⟨fp,a,c,rfl,cX,_,hg⟩:=ax (by decide) (fun _ _=>fZ) hr
 refine az F89 rfl rfl ?_
 intro bj _
 simp +contextual only [go_sem,aD,sevalprocAttr]
 refine aO cols.length 7 [(0,.slice a cols.length c),(5,.slice a cols.length c),(6,.int .i64 (cols.length:Int))] (fun i e h=>∃ N',aG T N'/\h=⟨N',M,[],[]⟩) 0 (by omega) (by simp only [aE,go_sem,sevalprocAttr]) (by simp only [go_sem,sevalprocAttr]) ⟨T,aG.rfl',rfl⟩ ?_
 rintro i e h hi aI ht ⟨T1,cY,rfl⟩
 simp only [aE] at aI
 by_cases aL:i<cols.length
 ·obtain ⟨b',o',cs',rfl,bP,eh⟩:=hg i cols[i] (gq aL)
  obtain rfl:=tG eh
  obtain ⟨y0,y1,_⟩:=bP
  have hic:i<=c:=by omega
  simp +contextual only [go_sem,aD,sevalprocAttr,aI,ht,aL,y0,y1,hic]
  intro b4 T4 eH fE iJ
  rw [DE]
  refine cW ad2.bd (fun M' he hL _=>Q5 (aH he (fun _ _ h=>h) (yl (by decide) (fun _ _=>fZ) uT (k:=i) (by omega))) hL.1 (fun r xW=> ?_) _) ?_
  ·obtain ⟨j,hj,rfl⟩:=List.getElem_of_mem xW
   have hj':j<i:=by rw [List.length_take] at hj;omega
   rw [List.getElem_take]
   have:=List.pairwise_iff_getElem.1 hn j i (by rw [List.length_map];omega) (by rw [List.length_map];omega) hj'
   simpa using this
  simp +contextual only [go_sem,aD,sevalprocAttr,ht]
  refine aS (al (aC ⟨cols.length - (i+1),by omega,rfl,i+1,by omega,rfl,?_,?_,T4,cY.trans fE,rfl⟩))
  ·simp only [aE,aI,go_sem,sevalprocAttr]
  ·simp only [go_sem,sevalprocAttr,aA i (by omega)]
 ·have:i=cols.length:=by omega
  subst this
  simp +contextual only [go_sem,aD,sevalprocAttr,aI,ht,aL]
  exact ak cY rfl
theorem yL {rels:List Rel}{r:Rel}{cs:List Value}{be:Nat}{rv kv sv:Value}{da:Option Addr}{dn dc:Nat}(sS:M be=some [rv,.slice da dn dc,kv,sv])(cH:RS M (ig M) 14 rels rv)(hr:ig M r cs)(hn:∀ x∈rels,x.name≠r.name)(jo:(r.cols.map (·.name)).Nodup)(cK:r.cols.length<=1000000)(hl:rels.length<16)(hd:dn<8)(T:Tm):
 bU Tryz.prog 49 [.pointer (some ⟨be,0,none⟩),.agg ⟨cs⟩] T M [] [] (fun v _ _ _=>v=.int .i64 0) aM:=by
 have k0:aN M ⟨be,0,none⟩=some rv:=by simp [aN,sS]
 have k1:aN M ⟨be,1,none⟩=some (.slice da dn dc):=by simp [aN,sS]
 obtain ⟨ca,cn,s1,a1,n1,a2,n2,a3,n3,rfl,iQ,hco,_⟩:=iz hr
 have alG:=cH
 obtain ⟨_,a,c,rfl,_⟩:=ax (by decide) (fun _ _=>ii) cH
 refine az F49 rfl rfl ?_
 intro bj _
 simp +contextual only [go_sem,aD,sevalprocAttr]
 intro b3 T3 gK fU gB
 refine aP (Rl sS alG hn _) ?_
 simp +contextual only [go_sem,sevalprocAttr,aB gK]
 refine aP (RH hco jo cK _) ?_
 simp +contextual only [go_sem,aD,sevalprocAttr,aB gK,k0,k1]
 rw [if_neg (by omega)]
 exact al (ak fU rfl)
def NZ {rels:List Rel}{be i:Nat}{rv dv kv sv:Value}{name:Bs}{gr n c:Nat}{cs:List Value}(sS:M be=some [rv,dv,kv,sv])(cH:RS M (ig M) 14 rels rv)(hi:i<rels.length)(uq:rels[i].name=name)(cm:∀ (j:Nat) (h:j<rels.length),j<i ->rels[j].name≠name)(rY:∀ (j:Nat) (h:j<rels.length),j<=i ->rels[j].view=false)(bu:rels.length<=1000)
 (ns:rv=.slice (some ⟨gr,0,none⟩) n c) (bP:At M gr (i*14) cs) (gC:ig M rels[i] cs) (T:Tm):bU Tryz.prog 54 [.pointer (some ⟨be,0,none⟩),st name] T M [] [] (fun v _ _ _=>v=.tuple ⟨[.agg ⟨cs⟩,.int .i64 (i:Int),.bool true]⟩) aM:=by
 have k0:aN M ⟨be,0,none⟩=some rv:=by simp [aN,sS]
 obtain ⟨fp,a,c',he,cX,_,hg⟩:=ax (by decide) (fun _ _=>ii) cH
 obtain rfl:=ns
 cases he
 obtain ⟨ca,cn,s1,a1,n1,a2,n2,a3,n3,rfl,iQ,_⟩:=iz gC
 have y:=C7 bP
 have ZN:=rY i hi (Nat.le_refl _)
 refine az F54 rfl rfl ?_
 intro bj _
 simp +contextual only [go_sem,aD,sevalprocAttr,k0]
 intro b4 T4 eH fE iJ
 refine aO rels.length 15 [(1,st name),(4,.pointer (some ⟨b4,0,none⟩)),(13,.slice (some ⟨gr,0,none⟩) rels.length c),(14,.int .i64 (rels.length:Int))] (fun j e h=>j<=i/\e 7=.int .i64 (j:Int)/\∃ N',aG T4 N'/\h=⟨N',M,[(b4,[.string (bs []),.slice none 0 0,.bool false,.int .i64 0,.int .i64 0,.int .i64 0,.int .i64 0,.int .i64 0,.string (bs []),.int .i64 0,.slice none 0 0,.slice none 0 0,.slice none 0 0,.slice none 0 0])],[]⟩) 0 (by omega) (by simp only [aE,go_sem,sevalprocAttr]) (by simp only [go_sem,sevalprocAttr]) ⟨by omega,by simp only [go_sem,sevalprocAttr],T4,aG.rfl',rfl⟩ ?_
 rintro j e h hj aI ht ⟨xU,e7,N',km,rfl⟩
 simp only [aE] at aI
 have aL:j<rels.length:=by omega
 by_cases zp:j=i
 ·subst zp
  simp +contextual only [go_sem,aD,sevalprocAttr,aI,ht,aL,y,iQ,uq,ZN]
  intro b9 T9 qY gY uR pY
  refine eG ⟨T,fun _=>none,[(b9,_)],[]⟩ (gH qY) ?_
  simp +contextual only [go_sem,sevalprocAttr,aI,iQ,uq,ZN,eH,gY,e7]
  refine ⟨gH qY,al (al (ak ((fE.trans km).trans uR) ?_))⟩
  rfl
 ·obtain ⟨b',o',cs',A1,sQ,eh⟩:=hg j rels[j] (gq aL)
  cases A1
  obtain ⟨ca',cn',s1',a1',n1',a2',n2',a3',n3',rfl,ack,_⟩:=iz eh
  rw [Nat.zero_add] at sQ
  have y':=C7 sQ
  have A3:=cm j aL (by omega)
  have j3:=rY j aL xU
  simp +contextual only [go_sem,aD,sevalprocAttr,aI,ht,aL,y',ack,A3,j3,e7]
  intro b9 T9 qY gY uR pY
  refine aS (al (aC ⟨rels.length - (j+1),by omega,rfl,j+1,by omega,rfl,?_,?_,by omega,?_,T9,km.trans uR,rfl⟩))
  ·simp only [aE,aI,go_sem,sevalprocAttr]
  ·simp only [go_sem,sevalprocAttr,aA j (by omega)]
  ·simp only [go_sem,sevalprocAttr,aA j (by omega)]
end Go.Proofs.YtcpjbohndglclaaGreatDoor

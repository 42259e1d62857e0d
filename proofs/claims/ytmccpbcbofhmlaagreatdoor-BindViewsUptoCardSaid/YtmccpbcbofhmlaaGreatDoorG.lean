import Derived.Test.YtmccpbcbofhmlaaGreatDoorF
set_option linter.all false
namespace Go.Proofs.YtmccpbcbofhmlaaGreatDoor
open Go Vc
set_option maxRecDepth 10000
theorem FB {M:aS}{rels:List Rel}{rv:Value}(hr:RS M (mD M) 14 rels rv)(bw:rels.length<=1048576)(eI:∀ r∈rels,r.cols.length<=1048576)(T:Tm):
 cw Tryz.prog 27 [rv] T M [] [] (fun r M' _ _=>RS M' (xC M') 1 (bQ rels) r) aO:=by
 obtain ⟨fS,a,c,rfl,dJ,_,hg⟩:=aF (by decide) (fun _ _=>ew) hr
 refine aC F27 rfl rfl ?_
 intro bi _
 simp +contextual only [go_sem,aE,sevalprocAttr]
 refine aY rels.length 11 [(9,.slice a rels.length c),(10,.int .i64 (rels.length:Int))] (fun i e h=>∃ N' M' R fv,aH T N'/\bh M M'/\h=⟨N',M',[],R⟩/\e 3=fv/\kV 24 1 (xC M') [] R fv (bQ (rels.take i))/\(bQ (rels.take i)).length<=i) 0 (by omega) (by simp only [aG,go_sem,sevalprocAttr]) (by simp only [go_sem,sevalprocAttr]) ⟨T,M,[],_,aH.rfl',bh.rfl',rfl,by simp only [go_sem,sevalprocAttr],dg,by simp [bQ]⟩ ?_
 rintro i e h hi aI ht ⟨N1,M1,R1,fv,tH,aV,rfl,e3,bC,GI⟩
 simp only [aG] at aI
 by_cases aN:i<rels.length
 ·obtain ⟨b',o',cs',rfl,cG,fy⟩:=hg i rels[i] (gq aN)
  obtain ⟨ca,cn,s1,a1,n1,a2,n2,a3,n3,rfl,gF,iE,oF⟩:=jx (eu aV _ _ fy)
  obtain ⟨x0,x1,x2,x3,x4,x5,x6,x7,x8,x9,x10,x11,x12,x13⟩:=I4 (cG.ext aV)
  have eG:=r4 aN
  simp +contextual only [go_sem,aE,sevalprocAttr,aI,ht,aN,x0,x1,x2,x3,x4,x5,x6,x7,x8,x9,x10,x11,x12,x13,gF]
  intro b5 T5 mp nw o9
  have cV:=tH.trans nw
  by_cases r7:rels[i].view=true
  ·rw [if_pos r7]
   rw [if_pos r7,List.append_nil] at eG
   refine aR (ak (az ⟨rels.length - (i+1),by omega,rfl,i+1,by omega,rfl,?_,?_,T5,M1,R1,fv,cV,aV,rfl,?_,?_,?_⟩))
   ·simp only [aG,aI,go_sem,sevalprocAttr]
   ·simp only [go_sem,sevalprocAttr,aB i (by omega)]
   ·simp only [e3,go_sem,sevalprocAttr]
   ·rw [eG];exact bC
   ·rw [eG];omega
  rw [if_neg r7]
  rw [if_neg r7] at eG
  obtain ⟨Ve,_,_,hcx,acg,_,TQ⟩:=aF (by decide) (fun _ _=>eU) iE
  cases hcx
  have XQ:=eI rels[i] (gm aN)
  refine br rels[i].cols.length 21 [(3,fv),(9,.slice (some ⟨b',o',none⟩) rels.length c),(10,.int .i64 (rels.length:Int)),(11,.int .i64 (i:Nat)),(19,.slice ca rels[i].cols.length cn),(20,.int .i64 (rels[i].cols.length:Int))]
   (fun j e h=>∃ N' M' R' tv,aH T N'/\bh M1 M'/\h=⟨N',M',[],R'⟩/\e 6=tv/\(j<rels[i].cols.length ->kV 3 1 RI R1 R' tv ((rels[i].cols.take j).map (·.ty)))/\(j=rels[i].cols.length ->R'=R1/\RS M' RI 1 (rels[i].cols.map (·.ty)) tv))
   0 (by omega) (by simp only [aG,aI,e3,ht,go_sem,sevalprocAttr]) (by simp only [go_sem,sevalprocAttr]) ?_ ?_
  ·exact ak (az ⟨T5,M1,R1,.slice none 0 0,cV,bh.rfl',rfl,by simp only [go_sem,sevalprocAttr],fun _=>dg,fun h0=>⟨rfl,by rw [List.eq_nil_of_length_eq_zero h0.symm];exact bu⟩⟩)
  ·rintro j e h hj dH GG ⟨N2,M2,R2,tv,zC,bg,rfl,e6,aa0,Si⟩
   simp only [aG] at dH
   by_cases nB:j<rels[i].cols.length
   ·obtain ⟨bc,oc,cc',rfl,RG,XX⟩:=TQ j rels[i].cols[j] (gq nB)
    unfold sA at XX
    subst XX
    obtain ⟨z0,z1⟩:=Wa (RG.ext bg)
    have wr:=aa0 nB
    simp +contextual only [go_sem,aE,sevalprocAttr,dH,GG,nB,z0,z1,e6]
    intro b8 T8 mG qI vH b7 iN iV
    have tu:(rels[i].cols.take (j+1)).map (·.ty)=(rels[i].cols.take j).map (·.ty)++[rels[i].cols[j].ty]:=by
     rw [<- List.take_append_getElem nB,List.map_append];rfl
    have I5:((rels[i].cols.take j).map (·.ty)).length=j:=by rw [List.length_map,List.length_take];omega
    refine cy (Tryz.underlying24) jL jD (x:=rels[i].cols[j].ty) (cs:=[.int .i64 rels[i].cols[j].ty]) wr rfl (fun _ _=>bV) (gY rfl) iN (by omega) (by decide) ?_
    intro tv' R' Ci
    rw [<- tu] at Ci
    simp +contextual only [go_sem,sevalprocAttr,GG]
    refine aR (ak (ak ?_))
    by_cases hje:j+1=rels[i].cols.length
    ·have Ro:(rels[i].cols.take (j+1)).map (·.ty)=rels[i].cols.map (·.ty):=by rw [hje,List.take_length]
     rw [Ro] at Ci
     refine ct Ci (by rw [List.length_map];omega) (by decide) trivial fun M3 bM _ cC=>az ⟨rels[i].cols.length - (j+1),by omega,rfl,j+1,by omega,rfl,?_,?_,T8,M3,R1,tv',zC.trans qI,bg.trans bM,rfl,?_,fun h=>absurd h (by omega),fun _=>⟨rfl,cC⟩⟩
     ·simp only [aG,dH,go_sem,sevalprocAttr]
     ·simp only [go_sem,sevalprocAttr,aB j (by omega)]
     ·simp only [go_sem,sevalprocAttr]
    ·refine az ⟨rels[i].cols.length - (j+1),by omega,rfl,j+1,by omega,rfl,?_,?_,T8,M2,R',tv',zC.trans qI,bg,rfl,?_,fun _=>Ci,fun h=>absurd h hje⟩
     ·simp only [aG,dH,go_sem,sevalprocAttr]
     ·simp only [go_sem,sevalprocAttr,aB j (by omega)]
     ·simp only [go_sem,sevalprocAttr]
   ·have:j=rels[i].cols.length:=by omega
    subst this
    obtain ⟨rfl,cC⟩:=Si rfl
    obtain ⟨_,ta,tc,rfl,_⟩:=aF (by decide) (fun _ _=>bV) cC
    simp +contextual only [go_sem,aE,sevalprocAttr,dH,GG,nB,e6]
    intro b7 iN
    refine cy (Tryz.underlying58) F3 FP (gJ (fV bg) bC) ⟨_,rfl,cC⟩ (fun _ _=>fI) (xk (M:=M2) ⟨_,rfl,cC⟩) iN (by omega) (by decide) ?_
    intro fv' R' bI
    simp +contextual only [go_sem,sevalprocAttr,dH]
    refine aR (ak (az ⟨rels.length - (i+1),by omega,rfl,i+1,by omega,rfl,?_,?_,N2,M2,R',fv',zC,aV.trans bg,rfl,?_,?_,?_⟩))
    ·simp only [aG,dH,go_sem,sevalprocAttr]
    ·simp only [go_sem,sevalprocAttr,aB i (by omega)]
    ·simp only [go_sem,sevalprocAttr]
    ·rw [eG];exact bI
    ·rw [eG,List.length_append];simp only [ln];omega
 ·have:i=rels.length:=by omega
  subst this
  rw [List.take_length] at bC GI
  simp +contextual only [go_sem,aE,sevalprocAttr,aI,ht,aN,e3]
  exact ct bC (by omega) (by decide) bi fun M2 bg aZ cC=>am tH (aL bh.rfl' (fV bg) cC)
def px (e f:Int):Int:=if e=0 then f else e
def xy (l:List (Bs×Bs))(tab name:Bs):Int:=match kP tab name 0 none l with | some k=>oO k | none=> -1
def OM (rels:List Rel)(name:Bs):Pl×List Co:=(iR name 0 rels).getD (jw,[])
mutual
def kS (names:List (Bs×Bs)):X ->Int ->Ex×Int
 | .mk k v tab name kids,e=>if 19<=k then (.mk k qP 0 [],px e 8)
  else if k=2 then (.mk 2 qP (xy names tab name) [],if xy names tab name<0 then px e 7 else e)
  else if k=1 then (.mk 1 v 0 [],e)
  else (.mk k qP 0 (io names kids e).1,(io names kids e).2)
def io (names:List (Bs×Bs)):List X ->Int ->List Ex×Int
 | [],e=>([],e)
 | x::l,e=>((kS names x e).1::(io names l (kS names x e).2).1,(io names l (kS names x e).2).2)
end
theorem Al {L2:LL}{a:Addr}{x:Option Value}:∀ {L1:LL},dK L1 a=some x ->dK (L1++L2) a=some x
 | [],h=>by simp [dK] at h
 | (k,cs)::L1,h=>by
  rw [List.cons_append]
  simp only [dK] at h ⊢
  split
  ·rename_i hk;rw [if_pos hk] at h;exact h
  ·rename_i hk;rw [if_neg hk] at h;exact Al h
theorem iq {T0 T:Tm}{M M':aS}{L1 L2:LL}{R0 R:RR}(h:bh M M')(hn:aJ M' L1):Vc.fZ ⟨T0,M,L1,R0⟩ ⟨T,M',L1++L2,R⟩:=by
 intro a v hv
 have h1:=em (T0:=T0) (T:=T) (R0:=R0) (R:=R) h hn a v hv
 simp only [Sh.cell] at h1 ⊢
 cases hm:aQ M' a with
 | some w=>rw [hm] at h1;exact h1
 | none=>
  rw [hm] at h1
  simp only at h1 ⊢
  cases hl:dK L1 a with
  | none=>rw [hl] at h1;simp at h1
  | some x=>rw [Al hl];rw [hl] at h1;exact h1
def VG (names:List (Bs×Bs))(kids:List X)(e:Int):Ex×Int:=match kids with
 | []=>(ei,e)
 | x::_=>kS names x e
mutual
def pR (names:List (Bs×Bs))(keys:List X):X ->Int ->List Ag ->Ex×Int×List Ag
 | .mk k v tab name kids,e,ags=>match keys.findIdx? (fun y=>gW y (.mk k v tab name kids)) with
  | some i=>(DP i,e,ags)
  | none=>if 19<=k then (DP (keys.length+ags.length),(VG names kids e).2,ags++[⟨k - 18,(VG names kids e).1⟩])
   else if k=2 then (.mk 2 qP 0 [],px e 8,ags) else if k=1 then (.mk 1 v 0 [],e,ags)
   else (.mk k qP 0 (kn names keys kids e ags).1,(kn names keys kids e ags).2)
def kn (names:List (Bs×Bs))(keys:List X):List X ->Int ->List Ag ->List Ex×Int×List Ag
 | [],e,ags=>([],e,ags)
 | x::l,e,ags=>((pR names keys x e ags).1::(kn names keys l (pR names keys x e ags).2.1 (pR names keys x e ags).2.2).1,(kn names keys l (pR names keys x e ags).2.1 (pR names keys x e ags).2.2).2)
end
def kO (a:Bs):Bs:=[124]++a++[124]
def adk (gy pat:Bs)(n:Nat):Bool:=(List.range n).any fun k=>decide ((gy.drop k).take pat.length=pat)
def IU (gy pat:Bs):Bool:=adk gy pat (gy.length+1 - pat.length)
def nj (rels:List Rel):List So ->Nat ->Pl ->List (Bs×Bs) ->Bs ->Int ->(Pl×List (Bs×Bs))×Int
 | [],_,p,names,_,e=>((p,names),e)
 | s::l,i,p,names,gy,e=>
  let q:=OM rels s.name
  let e1:=if (iR s.name 0 rels).isSome=true then e else px e 7
  let e2:=if IU gy (kO (dp s))=true then px e1 7 else e1
  let all:=names++q.2.map fun c=>(dp s,c.name)
  if i=0 then nj rels l 1 q.1 all (gy++kO (dp s)) e2
  else nj rels l (i+1) (.mk (kU s.k) 0 (kS all s.on e2).1 [] [] [p,q.1]) (if s.k=2\/s.k=5 then all else names) (gy++kO (dp s)) (kS all s.on e2).2
theorem yN (rels:List Rel)(s:So)(l:List So)(i:Nat)(p:Pl)(names:List (Bs×Bs))(gy:Bs)(e:Int){q:Pl×List Co}{e1 e2:Int}{all:List (Bs×Bs)}(hq:q=OM rels s.name)(h1:e1=if (iR s.name 0 rels).isSome=true then e else px e 7)(h2:e2=if IU gy (kO (dp s))=true then px e1 7 else e1)(ha:all=names++q.2.map fun c=>(dp s,c.name)):
 nj rels (s::l) i p names gy e=if i=0 then nj rels l 1 q.1 all (gy++kO (dp s)) e2
 else nj rels l (i+1) (.mk (kU s.k) 0 (kS all s.on e2).1 [] [] [p,q.1]) (if s.k=2\/s.k=5 then all else names) (gy++kO (dp s)) (kS all s.on e2).2:=by
 subst hq h1
 subst h2
 subst ha
 rw [nj]
def aaS:List (Nat×Sched):=[(28,.take 1<| .take 2<| .take 5<| .take 6<| .effN 0 false (.take 3<| .take 4<| .eff 7 false (.eff 8 false (.eff 9 true (.done)<| .no)<| .no)<| .no)<| .eff 7 false (.effN 0 false (.take 3<| .take 4<| .eff 8 false (.eff 9 true (.done)<| .no)<| .no)<| .no)<| .no)]
attribute [go_sem] aaS
def evX (grp:Bool)(names:List (Bs×Bs))(keys:List X)(x:X)(e:Int)(ags:List Ag):Ex×Int×List Ag:=if grp=true then pR names keys x e ags else ((kS names x e).1,(kS names x e).2,ags)
def E2 (grp:Bool)(names:List (Bs×Bs))(keys:List X):List X ->Int ->List Ag ->List Ex×Int×List Ag
 | [],e,ags=>([],e,ags)
 | x::l,e,ags=>let y:=evX grp names keys x e ags;let z:=E2 grp names keys l y.2.1 y.2.2;(y.1::z.1,z.2.1,z.2.2)
theorem Bq (names:List (Bs×Bs))(keys:List X):∀ (l:List X) (e:Int) (ags:List Ag),E2 true names keys l e ags=kn names keys l e ags
 | [],e,ags=>by rw [E2,kn]
 | x::l,e,ags=>by
  rw [E2,kn]
  simp only [Bq names keys l,evX,if_true]
theorem yg (names:List (Bs×Bs))(keys:List X):∀ (l:List X) (e:Int) (ags:List Ag),E2 false names keys l e ags=((io names l e).1,(io names l e).2,ags)
 | [],e,ags=>by rw [E2,io]
 | x::l,e,ags=>by
  rw [E2,io]
  simp only [yg names keys l,evX,if_false,Bool.false_eq_true]
end Go.Proofs.YtmccpbcbofhmlaaGreatDoor

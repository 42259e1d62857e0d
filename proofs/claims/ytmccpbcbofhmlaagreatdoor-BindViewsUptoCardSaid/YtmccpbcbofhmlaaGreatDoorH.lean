import Derived.Test.YtmccpbcbofhmlaaGreatDoorG
set_option linter.all false
namespace Go.Proofs.YtmccpbcbofhmlaaGreatDoor
open Go Vc
set_option maxRecDepth 10000
def whR (names:List (Bs×Bs))(s:Se)(p:Pl)(e:Int):Pl×Int:=if s.hasW=true then (.mk 2 0 (kS names s.wh e).1 [] [] [p],(kS names s.wh e).2) else (p,e)
def hvR (names:List (Bs×Bs))(s:Se)(e:Int)(ags:List Ag):Ex×Int×List Ag:=if s.hasH=true then pR names s.group s.hv e ags else (ei,e,ags)
def afd (names:List (Bs×Bs))(s:Se)(e:Int):List Ex×Int:=if eQ s=true then io names s.group e else ([],e)
def K5 (s:Se)(p:Pl)(names:List (Bs×Bs))(e:Int):(Pl×List Bs)×Int:=
 if s.star=true then ((p,names.map (·.2)),if eQ s=true then px e 8 else e)
 else
  let k:=afd names s e
  let it:=E2 (eQ s) names s.group (s.items.map (·.x)) k.2 []
  if eQ s=true then
   let h:=hvR names s it.2.1 it.2.2
   let g:Pl:=.mk 12 0 ei k.1 h.2.2 [p]
   ((.mk 3 0 ei it.1 [] [if s.hasH=true then .mk 2 0 h.1 [] [] [g] else g],eT 0 s.items),h.2.1)
  else ((.mk 3 0 ei it.1 [] [p],eT 0 s.items),it.2.1)
def Ow (s:Se)(p:Pl)(names:List (Bs×Bs))(e:Int):(Pl×List Bs)×Int:=let b:=K5 s p names e;((if s.distinct=true then .mk 11 0 ei [] [] [b.1.1] else b.1.1,b.1.2),b.2)
def zW (rels:List Rel)(s:Se)(e:Int):(Pl×List Bs)×Int:=
 let f:=nj rels s.src 0 jw [] [] e
 let w:=whR f.1.2 s f.1.1 f.2
 Ow s w.1 f.1.2 w.2
abbrev z6:List Value:=[.int .i64 0,.int .i64 0,.int .i64 0,st [],.int .i64 0,.slice none 0 0]
def aa5 (op:Int)(a b:Pl):Pl:=if op=1 then qU 8 a b else if op=2 then jy 11 (qU 8 a b) else if op=3 then jy 10 (qU 9 a b) else jy 10 (qU 9 (jy 11 a) (jy 11 b))
def mq (rels:List Rel)(ops:List Int):Nat ->Pl ->List Bs ->Int ->List Se ->(Pl×List Bs)×Int
 | _,p,names,e,[]=>((p,names),e)
 | i,p,names,e,s::l=>if i=0 then mq rels ops 1 (zW rels s e).1.1 (zW rels s e).1.2 (zW rels s e).2 l else mq rels ops (i+1) (aa5 (ops.getD (i - 1) 0) p (zW rels s e).1.1) names (zW rels s e).2 l
def SM (q:Q)(p:Pl)(names:List Bs)(e:Int):Pl×Int:=if 0<=q.limit then (.mk 13 q.limit ei (io (names.map fun n=>([],n)) q.order e).1 [] [p],(io (names.map fun n=>([],n)) q.order e).2) else (p,e)
def QS (rels:List Rel)(q:Q):(Pl×List Bs)×Int:=let r:=mq rels q.ops 0 jw [] 0 q.parts;(((SM q r.1.1 r.1.2 r.2).1,r.1.2),(SM q r.1.1 r.1.2 r.2).2)
def sO (rels:List Rel)(r:Rel):Prop:=(∀ c∈r.cols,1<=c.ty/\c.ty<=4)/\(r.view=true ->gh (bQ rels) r.plan=.ok (r.cols.map (·.ty)))
def BV (rels:List Rel):Prop:=(∀ r∈rels,sO rels r)/\(bQ rels).length<=8
set_option maxHeartbeats 4000000 in
theorem P4 {M:aS}{rels:List Rel}{rv:Value}(hr:RS M (mD M) 14 rels rv)(bw:rels.length<=1048576)(eI:∀ r∈rels,r.cols.length<=1048576)(T:Tm):
 cw Tryz.prog 9 [rv] T M [] [] (fun r _ _ _=>∃ b,r=.bool b/\(b=true ->BV rels)) aO:=by
 have tB:=hr
 obtain ⟨fS,ra,rc,rfl,dJ,_,hg⟩:=aF (by decide) (fun _ _=>ew) hr
 refine aC F9 rfl rfl ?_
 intro bi _
 simp +contextual only [go_sem,sevalprocAttr]
 refine aD (FB tB bw eI T) ?_
 rintro tv M0 zp V6 zl
 obtain ⟨TW,ta,tc,rfl,_⟩:=aF (by decide) (fun _ _=>fI) zl
 simp +contextual only [go_sem,aE,sevalprocAttr]
 refine aY rels.length 15 [(3,.slice ta (bQ rels).length tc),(13,.slice ra rels.length rc),(14,.int .i64 (rels.length:Int))]
  (fun i e h=>∃ N' M',aH T N'/\bh M0 M'/\(∀ (j:Nat) (hj:j<rels.length),j<i ->sO rels rels[j])/\h=⟨N',M',[],[]⟩)
  0 (by omega) (by simp only [aG,go_sem,sevalprocAttr]) (by simp only [go_sem,sevalprocAttr]) ⟨T,M0,aH.rfl',bh.rfl',fun j _ h=>by omega,rfl⟩ ?_
 rintro i e h hi aI ht ⟨N1,M1,tH,aV,jM,rfl⟩
 simp only [aG] at aI
 by_cases aN:i<rels.length
 ·obtain ⟨b',o',cs',rfl,cG,fy⟩:=hg i rels[i] (gq aN)
  obtain ⟨ca,cn,s1,a1,n1,a2,n2,a3,n3,rfl,gF,iE,oF⟩:=jx (eu (zp.trans aV) _ _ fy)
  obtain ⟨Ve,_,TQ⟩:rels[i].cols.length*2<=4398046511104/\rels[i].cols.length<=cn/\∀ (j:Nat) (x:Co),rels[i].cols[j]?=some x ->∃ b o cs,ca=some ⟨b,o,none⟩/\At M1 b (o+j*2) cs/\sA x cs:=by
   obtain ⟨h1,a',c',h2,h3,_,h4⟩:=aF (by decide) (fun _ _=>eU) iE
   injection h2 with h5 h6 h7
   subst h5 h7
   exact ⟨h1,h3,h4⟩
  have y:=I4 (cG.ext (zp.trans aV))
  simp +contextual only [go_sem,aE,sevalprocAttr,aI,ht,aN,y,gF]
  intro b5 T5 mp nw o9
  have H2:=tH.trans nw
  refine br rels[i].cols.length 22 [(3,.slice ta (bQ rels).length tc),(5,.pointer (some ⟨b5,0,none⟩)),(13,.slice (some ⟨b',o',none⟩) rels.length rc),(14,.int .i64 (rels.length:Int)),(15,.int .i64 (i:Int)),(20,.slice ca rels[i].cols.length cn),(21,.int .i64 (rels[i].cols.length:Int))]
   (fun j e h=>∃ N' M',aH T5 N'/\bh M1 M'/\M' b5=some [st rels[i].name,.slice ca rels[i].cols.length cn,.bool rels[i].view,.int .i64 rels[i].plan.k,.int .i64 rels[i].plan.n,.int .i64 rels[i].plan.x.k,.int .i64 rels[i].plan.x.v.k,.int .i64 rels[i].plan.x.v.n,st rels[i].plan.x.v.t,.int .i64 rels[i].plan.x.c,s1,.slice a1 rels[i].plan.xs.length n1,.slice a2 rels[i].plan.ags.length n2,.slice a3 rels[i].plan.kids.length n3]/\(∀ (j':Nat) (hj:j'<rels[i].cols.length),j'<j ->1<=rels[i].cols[j'].ty/\rels[i].cols[j'].ty<=4)/\h=⟨N',M',[],[]⟩)
   0 (by omega) (by simp only [aG,aI,ht,go_sem,sevalprocAttr]) (by simp only [go_sem,sevalprocAttr]) (aT fun he h5 _=>az ⟨T5,_,aH.rfl',he,h5,fun j' _ h=>by omega,rfl⟩) ?_
  clear aI ht
  rintro j e h hj aI ht ⟨N2,M2,zC,bg,h5,kN,rfl⟩
  simp only [aG] at aI
  have w:=I4 (sY h5)
  simp only [Nat.zero_add] at w
  by_cases S4:j<rels[i].cols.length
  ·obtain ⟨b'',o'',cs'',rfl,kf,wG⟩:=TQ j rels[i].cols[j] (gq S4)
   unfold sA at wG;subst wG
   obtain ⟨x0,x1⟩:=Wa (kf.ext bg)
   simp +contextual only [go_sem,aE,sevalprocAttr,aI,ht,S4,x0,x1]
   intro b7 T7 iN mX tj
   by_cases hA:rels[i].cols[j].ty<1
   ·simp +contextual only [go_sem,sevalprocAttr,hA]
    exact ak (am (H2.trans (zC.trans mX)) ⟨false,rfl,fun h=>by cases h⟩)
   ·by_cases hB:4<rels[i].cols[j].ty
    ·simp +contextual only [go_sem,sevalprocAttr,hA,hB]
     exact ak (am (H2.trans (zC.trans mX)) ⟨false,rfl,fun h=>by cases h⟩)
    ·simp +contextual only [go_sem,sevalprocAttr,hA,hB]
     refine aR (ak (az ⟨rels[i].cols.length - (j+1),by omega,rfl,j+1,by omega,rfl,?_,?_,T7,M2,zC.trans mX,bg,h5,?_,rfl⟩))
     ·simp only [aG,aI,go_sem,sevalprocAttr]
     ·simp only [go_sem,sevalprocAttr,aB j (by omega)]
     ·intro j' hj' kD
      rcases Nat.lt_or_ge j' j with h1 | h1
      ·exact kN j' hj' h1
      ·have:j'=j:=by omega
       subst this
       omega
  ·have:j=rels[i].cols.length:=by omega
   subst this
   have aeV:∀ c∈rels[i].cols,1<=c.ty/\c.ty<=4:=by
    intro c hc
    obtain ⟨j',hj',rfl⟩:=List.getElem_of_mem hc
    exact kN j' hj' hj'
   have qT:sO rels rels[i] ->∀ (j:Nat) (hj:j<rels.length),j<i+1 ->sO rels rels[j]:=by
    intro hri j hj kD
    rcases Nat.lt_or_ge j i with h1 | h1
    ·exact jM j hj h1
    ·have:j=i:=by omega
     subst this
     exact hri
   cases hV:rels[i].view with
   | false=>
    simp +contextual only [go_sem,aE,sevalprocAttr,aI,ht,S4,w,hV]
    refine aR (az ⟨rels.length - (i+1),by omega,rfl,i+1,by omega,rfl,?_,?_,N2,M2,H2.trans zC,aV.trans bg,qT ⟨aeV,fun h=>by rw [hV] at h;cases h⟩,rfl⟩)
    ·simp only [aG,aI,go_sem,sevalprocAttr]
    ·simp only [go_sem,sevalprocAttr,aB i (by omega)]
   | true=>
    simp +contextual only [go_sem,aE,sevalprocAttr,aI,ht,S4,w,hV]
    refine aD (vT (aL (aV.trans bg) (fV (aV.trans bg)) zl) (bY bg _ _ oF) N2) ?_
    rintro r M3 bM bj Ge
    obtain ⟨sv,er,rfl⟩:=kj Ge
    replace h5:=bM _ _ h5
    replace w:=I4 (sY h5)
    simp only [Nat.zero_add] at w
    have fB:=H2.trans zC
    cases Dl:gh (bQ rels) rels[i].plan with
    | error er2=>
     rw [Dl] at Ge
     obtain ⟨Lf,sv2,wj⟩:=Ge
     injection wj with wj
     simp only [Array.mk.injEq,List.cons.injEq,and_true,Value.int.injEq,true_and] at wj
     obtain ⟨rfl,rfl⟩:=wj
     simp +contextual only [go_sem,aE,sevalprocAttr,Lf]
     exact am fB ⟨false,rfl,fun h=>by cases h⟩
    | ok t=>
     rw [Dl] at Ge
     obtain ⟨sv2,wj,CW⟩:=Ge
     injection wj with wj
     simp only [Array.mk.injEq,List.cons.injEq,and_true,Value.int.injEq,true_and] at wj
     obtain ⟨rfl,rfl⟩:=wj
     obtain ⟨ag8,wa,wc,rfl,_,_,htg⟩:=aF (by decide) (fun _ _=>bV) CW
     by_cases hl:t.length=rels[i].cols.length
     ·simp +contextual only [go_sem,aE,sevalprocAttr,aI,w,hl]
      refine aY rels[i].cols.length 57 [(3,.slice ta (bQ rels).length tc),(5,.pointer (some ⟨b5,0,none⟩)),(13,.slice (some ⟨b',o',none⟩) rels.length rc),(14,.int .i64 (rels.length:Int)),(15,.int .i64 (i:Int)),(8,.slice wa rels[i].cols.length wc),(56,.int .i64 (rels[i].cols.length:Int))]
       (fun j e h=>(∀ (j':Nat) (hj:j'<rels[i].cols.length),j'<j ->t[j']?=some rels[i].cols[j'].ty)/\h=⟨N2,M3,[],[]⟩)
       0 (by omega) (by simp only [aG,aI,hl,go_sem,sevalprocAttr]) (by simp only [go_sem,sevalprocAttr]) ⟨fun j' _ h=>by omega,rfl⟩ ?_
      clear aI ht S4 hj e
      rintro j e h hj aI ht ⟨hcm,rfl⟩
      simp only [aG] at aI
      by_cases S4:j<rels[i].cols.length
      ·obtain ⟨b'',o'',cs'',rfl,kf,wG⟩:=TQ j rels[i].cols[j] (gq S4)
       unfold sA at wG;subst wG
       obtain ⟨x0,x1⟩:=Wa (kf.ext (bg.trans bM))
       have qJ:j<t.length:=by omega
       obtain ⟨bt,ot,ctt,rfl,Z2,HD⟩:=htg j t[j] (gq qJ)
       unfold RI at HD;subst HD
       have w0:=tV Z2
       rw [Nat.mul_one] at w0
       simp +contextual only [go_sem,aE,sevalprocAttr,aI,ht,S4]
       refine aU ?_
       by_cases he:t[j]=rels[i].cols[j].ty
       ·simp +contextual only [go_sem,aE,sevalprocAttr,aI,ht,S4,x1,w0,w,he]
        refine aR (az ⟨rels[i].cols.length - (j+1),by omega,rfl,j+1,by omega,rfl,?_,?_,?_,rfl⟩)
        ·simp only [aG,aI,go_sem,sevalprocAttr]
        ·simp only [go_sem,sevalprocAttr,aB j (by omega)]
        ·intro j' hj' kD
         rcases Nat.lt_or_ge j' j with h1 | h1
         ·exact hcm j' hj' h1
         ·have:j'=j:=by omega
          subst this
          rw [gq qJ,he]
       ·simp +contextual only [go_sem,aE,sevalprocAttr,aI,S4,x1,w0,w,he]
        exact am fB ⟨false,rfl,fun h=>by cases h⟩
      ·have:j=rels[i].cols.length:=by omega
       subst this
       have htt:t=rels[i].cols.map (·.ty):=by
        apply List.ext_getElem?
        intro j
        rcases Nat.lt_or_ge j rels[i].cols.length with h1 | h1
        ·rw [hcm j h1 h1,List.getElem?_map,gq h1];rfl
        ·rw [List.getElem?_eq_none (by omega),List.getElem?_eq_none (by rw [List.length_map];exact h1)]
       simp +contextual only [go_sem,aE,sevalprocAttr,aI,ht,S4]
       refine aR (az ⟨rels.length - (i+1),by omega,rfl,i+1,by omega,rfl,?_,?_,N2,M3,fB,(aV.trans bg).trans bM,qT ⟨aeV,fun _=>by rw [Dl,htt]⟩,rfl⟩)
       ·simp only [aG,aI,go_sem,sevalprocAttr]
       ·simp only [go_sem,sevalprocAttr,aB i (by omega)]
     ·have gG:¬ ((t.length:Int)=(rels[i].cols.length:Int)):=by omega
      simp +contextual only [go_sem,aE,sevalprocAttr,aI,w,gG]
      exact am fB ⟨false,rfl,fun h=>by cases h⟩
 ·have:i=rels.length:=by omega
  subst this
  simp +contextual only [go_sem,aE,sevalprocAttr,aI,ht,aN]
  refine am tH ⟨_,rfl,fun h=>⟨fun r hr=> ?_,by have h2:=of_decide_eq_true h;omega⟩⟩
  obtain ⟨j,hj,rfl⟩:=List.getElem_of_mem hr
  exact jM j hj hj
def qF {α:Type}(r:Except Int α)(v:α×Int):Prop:=match r with
 | .ok y=>v=(y,0)
 | .error e=>e≠0/\v.2=e
theorem pV {e f:Int}(h:e≠0):px e f=e:=by unfold px;rw [if_neg h]
theorem lx (f:Int):px 0 f=f:=by unfold px;rw [if_pos rfl]
theorem I1 (names:List (Bs×Bs))(tab name:Bs):(∃ i:Nat,lG names tab name=.ok i/\xy names tab name=i)\/(lG names tab name=.error 7/\xy names tab name= -1):=by
 unfold lG xy
 cases kP tab name 0 none names with
 | none=>exact .inr ⟨rfl,rfl⟩
 | some k=>
  cases k with
  | none=>exact .inr ⟨rfl,rfl⟩
  | some i=>exact .inl ⟨i,rfl,rfl⟩
mutual
theorem jp (names:List (Bs×Bs)):∀ (x:X),qF (jJ names x) (kS names x 0)/\∀ e,e≠0 ->(kS names x e).2=e
 | .mk k v tab name kids=>by
  obtain ⟨h1,h2⟩:=kH names kids
  constructor
  ·rw [jJ,kS]
   by_cases p7:19<=k
   ·rw [if_pos p7,if_pos p7,lx];exact ⟨by decide,rfl⟩
   ·rw [if_neg p7,if_neg p7]
    by_cases iJ:k=2
    ·rw [if_pos iJ,if_pos iJ]
     rcases I1 names tab name with ⟨i,ha,hb⟩ | ⟨ha,hb⟩
     ·rw [ha,hb,if_neg (by omega)];rfl
     ·rw [ha,hb,if_pos (by decide),lx];exact ⟨by decide,rfl⟩
    ·rw [if_neg iJ,if_neg iJ]
     by_cases kY:k=1
     ·rw [if_pos kY,if_pos kY];subst kY;rfl
     ·rw [if_neg kY,if_neg kY]
      revert h1
      cases dn names kids with
      | ok l=>intro h1;unfold qF at h1;simp only at h1;rw [h1];rfl
      | error e=>intro h1;exact h1
  ·intro e he
   rw [kS]
   by_cases p7:19<=k
   ·rw [if_pos p7];exact pV he
   ·rw [if_neg p7]
    by_cases iJ:k=2
    ·rw [if_pos iJ]
     simp only
     split
     ·exact pV he
     ·rfl
    ·rw [if_neg iJ]
     by_cases kY:k=1
     ·rw [if_pos kY]
     ·rw [if_neg kY];exact h2 e he
theorem kH (names:List (Bs×Bs)):∀ (l:List X),qF (dn names l) (io names l 0)/\∀ e,e≠0 ->(io names l e).2=e
 | []=>⟨by rw [dn,io];rfl,fun e he=>by rw [io]⟩
 | x::l=>by
  obtain ⟨h1,h2⟩:=jp names x
  obtain ⟨h3,h4⟩:=kH names l
  constructor
  ·rw [dn,io]
   revert h1
   cases jJ names x with
   | error e=>intro h1;exact ⟨h1.1,by simp only;rw [h1.2];exact h4 e h1.1⟩
   | ok y=>
    intro h1
    unfold qF at h1
    simp only at h1
    rw [h1]
    simp only
    revert h3
    cases dn names l with
    | error e=>intro h3;exact h3
    | ok m=>intro h3;unfold qF at h3;simp only at h3;rw [h3];rfl
  ·intro e he
   rw [io]
   simp only
   rw [h2 e he];exact h4 e he
end
theorem nx {α:Type}[DecidableEq α](a b:α):decide (a=b)=decide (b=a):=by
 by_cases h:a=b
 ·subst h;rfl
 ·rw [decide_eq_false h,decide_eq_false (fun h2=>h h2.symm)]
theorem Ip (a b:V):BP a b=BP b a:=by unfold BP;rw [nx a.k,nx a.n,nx a.t]
mutual
theorem uF:∀ (x y:X),gW x y=gW y x
 | .mk k v tab name kids,.mk k' v' tab' name' kids'=>by
  rw [gW,gW,nx k k',nx tab tab',nx name name',Ip,uK kids kids']
  by_cases h:k'=k
  ·subst h;rfl
  ·rw [decide_eq_false h];rfl
theorem uK:∀ (l m:List X),im l m=im m l
 | [],[]=>rfl
 | [],y::m=>by rw [im,im]<;>simp
 | x::l,[]=>by rw [im,im]<;>simp
 | x::l,y::m=>by rw [im,im,uF x y,uK l m]
end
def EV {α:Type}(r:Except Int (α×List Ag))(v:α×Int×List Ag):Prop:=match r with
 | .ok y=>v=(y.1,0,y.2)
 | .error e=>e≠0/\v.2.1=e
theorem Bv (names:List (Bs×Bs))(kids:List X):qF (Df names kids) (VG names kids 0)/\∀ e,e≠0 ->(VG names kids e).2=e:=by
 cases kids with
 | nil=>exact ⟨rfl,fun _ _=>rfl⟩
 | cons x l=>exact jp names x
mutual
theorem rq (names:List (Bs×Bs))(keys:List X):∀ (x:X),(∀ ags,EV (nq names keys x ags) (pR names keys x 0 ags))/\∀ e ags,e≠0 ->(pR names keys x e ags).2.1=e
 | .mk k v tab name kids=>by
  obtain ⟨h1,h2⟩:=pO names keys kids
  have hp:(fun y=>gW y (.mk k v tab name kids))=fun y=>gW (.mk k v tab name kids) y:=by funext y;exact uF _ _
  constructor
  ·intro ags
   rw [nq,pR,hp]
   cases keys.findIdx? (fun y=>gW (.mk k v tab name kids) y) with
   | some i=>rfl
   | none=>
    simp only
    by_cases p7:19<=k
    ·rw [if_pos p7,if_pos p7]
     have ha:=(Bv names kids).1
     revert ha
     cases Df names kids with
     | ok a=>intro ha;unfold qF at ha;simp only at ha;rw [ha];rfl
     | error e=>intro ha;exact ⟨ha.1,ha.2⟩
    ·rw [if_neg p7,if_neg p7]
     by_cases iJ:k=2
     ·rw [if_pos iJ,if_pos iJ,lx];exact ⟨by decide,rfl⟩
     ·rw [if_neg iJ,if_neg iJ]
      by_cases kY:k=1
      ·rw [if_pos kY,if_pos kY];subst kY;rfl
      ·rw [if_neg kY,if_neg kY]
       have h3:=h1 ags
       revert h3
       cases dP names keys kids ags with
       | ok l=>intro h3;unfold EV at h3;simp only at h3;rw [h3];rfl
       | error e=>intro h3;exact h3
  ·intro e ags he
   rw [pR]
   cases keys.findIdx? (fun y=>gW y (.mk k v tab name kids)) with
   | some i=>rfl
   | none=>
    simp only
    by_cases p7:19<=k
    ·rw [if_pos p7];exact (Bv names kids).2 e he
    ·rw [if_neg p7]
     by_cases iJ:k=2
     ·rw [if_pos iJ];exact pV he
     ·rw [if_neg iJ]
      by_cases kY:k=1
      ·rw [if_pos kY]
      ·rw [if_neg kY];exact h2 e ags he
theorem pO (names:List (Bs×Bs))(keys:List X):∀ (l:List X),(∀ ags,EV (dP names keys l ags) (kn names keys l 0 ags))/\∀ e ags,e≠0 ->(kn names keys l e ags).2.1=e
 | []=>⟨fun ags=>by rw [dP,kn];rfl,fun e ags he=>by rw [kn]⟩
 | x::l=>by
  obtain ⟨h1,h2⟩:=rq names keys x
  obtain ⟨h3,h4⟩:=pO names keys l
  constructor
  ·intro ags
   rw [dP,kn]
   have h5:=h1 ags
   revert h5
   cases nq names keys x ags with
   | error e=>intro h5;exact ⟨h5.1,by simp only;rw [h5.2];exact h4 e _ h5.1⟩
   | ok y=>
    intro h5
    unfold EV at h5
    simp only at h5
    rw [h5]
    simp only
    have h6:=h3 y.2
    revert h6
    cases dP names keys l y.2 with
    | error e=>intro h6;exact h6
    | ok m=>intro h6;unfold EV at h6;simp only at h6;rw [h6];rfl
  ·intro e ags he
   rw [kn]
   simp only
   rw [h2 e ags he];exact h4 e _ he
end
def fQ:List Bs ->Bs
 | []=>[]
 | b::l=>kO b++fQ l
theorem By:∀ (l:List Bs) (x:Bs),fQ (l++[x])=fQ l++kO x
 | [],x=>by simp [fQ]
 | b::l,x=>by rw [List.cons_append,fQ,fQ,By l x,List.append_assoc]
theorem Ki {F:Bs}:∀ {a b:Bs},124∉a ->124∉b ->a++[124]<+:b++124::F ->a=b
 | [],[],_,_,_=>rfl
 | [],y::b,_,hb,h=>by
  rw [List.nil_append,List.cons_append,List.cons_prefix_cons] at h
  exact (hb (by rw [h.1];exact List.mem_cons_self)).elim
 | x::a,[],ha,_,h=>by
  rw [List.nil_append,List.cons_append,List.cons_prefix_cons] at h
  exact (ha (by rw [h.1];exact List.mem_cons_self)).elim
 | x::a,y::b,ha,hb,h=>by
  rw [List.cons_append,List.cons_append,List.cons_prefix_cons] at h
  rw [h.1,Ki (fun h2=>ha (p5 h2)) (fun h2=>hb (p5 h2)) h.2]
theorem Xl {a:Bs}(ha:124∉a)(h0:a≠[])(had:List Bs):¬ a++[124]<+:fQ had:=by
 intro h
 cases a with
 | nil=>exact h0 rfl
 | cons x a=>
  cases had with
  | nil=>rw [fQ,List.cons_append] at h;exact absurd (List.prefix_nil.1 h) (by simp)
  | cons b had=>
   rw [fQ,kO,List.cons_append,List.append_assoc,List.cons_append,List.cons_append,List.cons_prefix_cons] at h
   exact ha (by rw [h.1];exact List.mem_cons_self)
theorem Bg {a:Bs}(ha:124∉a)(h0:a≠[])(had:List Bs):∀ (b:Bs) (k:Nat),124∉b ->kO a<+:(b++124::fQ had).drop k ->∃ k',kO a<+:(fQ had).drop k'
 | [],0,_,h=>by
  rw [List.drop_zero,List.nil_append,kO,List.cons_append,List.cons_append,List.nil_append,List.cons_prefix_cons] at h
  exact (Xl ha h0 had h.2).elim
 | [],k+1,_,h=>⟨k,h⟩
 | y::b,0,hb,h=>by
  rw [List.drop_zero,kO,List.cons_append,List.cons_append,List.cons_append,List.cons_prefix_cons] at h
  exact (hb (by rw [h.1];exact List.mem_cons_self)).elim
 | y::b,k+1,hb,h=>Bg ha h0 had b k (fun h2=>hb (p5 h2)) h
theorem Gp {a:Bs}(ha:124∉a)(h0:a≠[]):∀ (had:List Bs) (k:Nat),(∀ b∈had,124∉b) ->kO a<+:(fQ had).drop k ->a∈had
 | [],k,_,h=>by
  rw [fQ,List.drop_nil] at h
  exact absurd (List.prefix_nil.1 h) (by simp [kO])
 | b::had,0,hb,h=>by
  have e1:fQ (b::had)=124::(b++124::fQ had):=by
   rw [fQ,kO,List.append_assoc,List.append_assoc];rfl
  rw [List.drop_zero,e1,show kO a=124::(a++[124]) from rfl,List.cons_prefix_cons] at h
  have h2:=h.2
  rw [Ki ha (hb b List.mem_cons_self) h2]
  exact List.mem_cons_self
 | b::had,k+1,hb,h=>by
  have h2:kO a<+:(b++124::fQ had).drop k:=by
   have e1:fQ (b::had)=124::(b++124::fQ had):=by
    rw [fQ,kO,List.append_assoc,List.append_assoc];rfl
   rw [e1,List.drop_succ_cons] at h
   exact h
  obtain ⟨k',h3⟩:=Bg ha h0 had b k (hb b List.mem_cons_self) h2
  exact p5 (Gp ha h0 had k' (fun c hc=>hb c (p5 hc)) h3)
theorem Dt {a:Bs}:∀ (had:List Bs),a∈had ->∃ k,kO a<+:(fQ had).drop k
 | b::had,h=>by
  rcases rP h with rfl | h
  ·exact ⟨0,by rw [List.drop_zero,fQ];exact List.prefix_append _ _⟩
  ·obtain ⟨k,hk⟩:=Dt had h
   exact ⟨(kO b).length+k,by rw [fQ,List.drop_append,List.drop_eq_nil_of_le (by omega),Nat.add_sub_cancel_left,List.nil_append];exact hk⟩
theorem Rk {gy pat:Bs}(hp:pat≠[]):IU gy pat=true ↔ ∃ k,pat<+:gy.drop k:=by
 unfold IU adk
 rw [List.any_eq_true]
 constructor
 ·rintro ⟨k,_,h⟩
  exact ⟨k,List.prefix_iff_eq_take.2 (of_decide_eq_true h).symm⟩
 ·rintro ⟨k,h⟩
  refine ⟨k,?_,decide_eq_true (List.prefix_iff_eq_take.1 h).symm⟩
  have h2:=h.length_le
  rw [List.length_drop] at h2
  have h3:0<pat.length:=List.length_pos_iff.2 hp
  rw [List.mem_range];omega
theorem UU {a:Bs}{had:List Bs}(ha:124∉a)(h0:a≠[])(hb:∀ b∈had,124∉b):IU (fQ had) (kO a)=had.contains a:=by
 rw [Bool.eq_iff_iff,Rk (by simp [kO]),List.contains_iff_mem]
 exact ⟨fun ⟨k,h⟩=>Gp ha h0 had k hb h,Dt had⟩
def tq (a:Bs):Prop:=124∉a/\a≠[]
theorem j8 {rels:List Rel}:∀ (l:List So) (i:Nat) (p:Pl) (names:List (Bs×Bs)) (had:List Bs),(∀ s∈l,tq (dp s)) ->(∀ b∈had,tq b) ->
 qF (j0 rels l i p names had) (nj rels l i p names (fQ had) 0)/\∀ gy e,e≠0 ->(nj rels l i p names gy e).2=e
 | [],i,p,names,had,_,_=>⟨by rw [j0,nj];rfl,fun gy e he=>by rw [nj]⟩
 | s::l,i,p,names,had,hl,hh=>by
  have hs:=hl s List.mem_cons_self
  have gG:∀ x∈l,tq (dp x):=fun x hx=>hl x (p5 hx)
  have X0:∀ b∈had++[dp s],tq b:=by
   intro b hb
   rcases qM hb with h | h
   ·exact hh b h
   ·rw [List.mem_singleton.1 h];exact hs
  have ad3:∀ gy e,e≠0 ->(nj rels (s::l) i p names gy e).2=e:=by
   intro gy e he
   rw [yN rels s l i p names gy e rfl rfl rfl rfl]
   have e1:(if (iR s.name 0 rels).isSome=true then e else px e 7)=e:=by split;rfl;exact pV he
   have e2:(if IU gy (kO (dp s))=true then px (if (iR s.name 0 rels).isSome=true then e else px e 7) 7 else if (iR s.name 0 rels).isSome=true then e else px e 7)=e:=by
    rw [e1];split;exact pV he;rfl
   rw [e2]
   split
   ·exact (j8 l 1 _ _ had gG hh).2 _ e he
   ·rw [(jp _ s.on).2 e he]
    exact (j8 l (i+1) _ _ had gG hh).2 _ e he
  refine ⟨?_,ad3⟩
  rw [j0,yN rels s l i p names (fQ had) 0 rfl rfl rfl rfl]
  have hoc:=UU (had:=had) hs.1 hs.2 (fun b hb=>(hh b hb).1)
  have vi:∀ (j:Nat) (P:Pl) (N:List (Bs×Bs)) (gy:Bs) (e:Int),e≠0 ->(nj rels l j P N gy e).2=e:=fun j P N gy e he=>(j8 l j P N had gG hh).2 gy e he
  unfold mc OM
  cases hf:iR s.name 0 rels with
  | none=>
   simp only [Option.isSome_none,Bool.false_eq_true,if_false,lx]
   have e2:(if IU (fQ had) (kO (dp s))=true then px 7 7 else (7:Int))=7:=by split<;>rfl
   rw [e2]
   split
   ·exact ⟨by decide,vi _ _ _ _ _ (by decide)⟩
   ·rw [(jp _ s.on).2 7 (by decide)]
    exact ⟨by decide,vi _ _ _ _ _ (by decide)⟩
  | some q=>
   simp only [Option.isSome_some,if_true,Option.getD_some,lx]
   rw [hoc]
   cases Tx:had.contains (dp s) with
   | true=>
    simp only [if_true]
    split
    ·exact ⟨by decide,vi _ _ _ _ _ (by decide)⟩
    ·rw [(jp _ s.on).2 7 (by decide)]
     exact ⟨by decide,vi _ _ _ _ _ (by decide)⟩
   | false=>
    simp only [Bool.false_eq_true,if_false]
    rw [<- By]
    split
    ·exact (j8 l 1 _ _ (had++[dp s]) gG X0).1
    ·have hx:=(jp (names++q.2.map fun c=>(dp s,c.name)) s.on).1
     revert hx
     cases jJ (names++q.2.map fun c=>(dp s,c.name)) s.on with
     | error e=>intro hx;exact ⟨hx.1,by rw [hx.2];exact vi _ _ _ _ _ hx.1⟩
     | ok x=>
      intro hx
      unfold qF at hx
      simp only at hx
      rw [hx]
      exact (j8 l (i+1) _ _ (had++[dp s]) gG X0).1
theorem ky {α:Type}{r:Except Int α}{v:α×Int}{y:α}(h:qF r v)(hr:r=.ok y):v=(y,0):=by rw [hr] at h;exact h
theorem sE (names:List (Bs×Bs))(s:Se)(ags:List Ag):EV (tn names s.group s.hasH s.hv ags) (hvR names s 0 ags)/\∀ e,e≠0 ->(hvR names s e ags).2.1=e:=by
 unfold tn hvR
 cases s.hasH with
 | true=>exact ⟨(rq names s.group s.hv).1 ags,fun e he=>(rq names s.group s.hv).2 e ags he⟩
 | false=>exact ⟨rfl,fun _ _=>rfl⟩
theorem pN (names:List (Bs×Bs))(s:Se)(p:Pl):qF (match q8 names s.hasW s.wh with | .error e=> .error e | .ok w=> .ok (if s.hasW=true then gz w p else p)) (whR names s p 0)/\∀ e,e≠0 ->(whR names s p e).2=e:=by
 unfold q8 whR
 cases s.hasW with
 | false=>exact ⟨rfl,fun _ _=>rfl⟩
 | true=>
  simp only [if_true]
  obtain ⟨h1,h2⟩:=jp names s.wh
  refine ⟨?_,h2⟩
  revert h1
  cases jJ names s.wh with
  | error e=>intro h1;exact h1
  | ok w=>intro h1;rw [ky h1 rfl];rfl
theorem yF (s:Se)(p:Pl)(names:List (Bs×Bs)):qF (match (if eQ s=true then j2 s p names else oI s p names) with | .error e=> .error e | .ok q=> .ok (q,if s.star=true then names.map (·.2) else eT 0 s.items)) (K5 s p names 0)/\∀ e,e≠0 ->(K5 s p names e).2=e:=by
 unfold K5 j2 oI afd
 cases hS:s.star with
 | true=>
  simp only [if_true]
  cases hG:eQ s with
  | true=>simp only [if_true,lx];exact ⟨⟨by decide,rfl⟩,fun e he=>pV he⟩
  | false=>simp only [if_false,Bool.false_eq_true];exact ⟨rfl,fun e he=>trivial⟩
 | false=>
  simp only [if_false,Bool.false_eq_true]
  cases hG:eQ s with
  | false=>
   simp only [if_false,Bool.false_eq_true,yg]
   obtain ⟨h1,h2⟩:=kH names (s.items.map (·.x))
   refine ⟨?_,h2⟩
   revert h1
   cases dn names (s.items.map (·.x)) with
   | error e=>intro h1;exact h1
   | ok l=>intro h1;simp only;rw [ky h1 rfl];rfl
  | true=>
   simp only [if_true,Bq]
   obtain ⟨h1,h2⟩:=kH names s.group
   obtain ⟨h3,h4⟩:=pO names s.group (s.items.map (·.x))
   constructor
   ·revert h1
    cases dn names s.group with
    | error e=>intro h1;exact ⟨h1.1,by simp only;rw [h1.2,((sE names s _).2 _ (by rw [h4 e _ h1.1];exact h1.1)),h4 e _ h1.1]⟩
    | ok keys=>
     intro h1
     rw [ky h1 rfl]
     simp only
     have h5:=h3 []
     revert h5
     cases dP names s.group (s.items.map (·.x)) [] with
     | error e=>intro h5;exact ⟨h5.1,by simp only;rw [(sE names s _).2 _ (by rw [h5.2];exact h5.1),h5.2]⟩
     | ok it=>
      intro h5
      unfold EV at h5
      simp only at h5
      rw [h5]
      simp only
      have h6:=(sE names s it.2).1
      revert h6
      cases tn names s.group s.hasH s.hv it.2 with
      | error e=>intro h6;exact h6
      | ok h=>intro h6;unfold EV at h6;simp only at h6;rw [h6];rfl
   ·intro e he
    rw [h2 e he,(sE names s _).2 _ (by rw [h4 e _ he];exact he),h4 e _ he]
theorem rM (s:Se)(p:Pl)(names:List (Bs×Bs)){e:Int}(he:e≠0):(Ow s p names e).2=e:=(yF s p names).2 e he
theorem K7 {rels:List Rel}{s:Se}(hs:∀ x∈s.src,tq (dp x)):qF (mt rels s) (zW rels s 0)/\∀ e,e≠0 ->(zW rels s e).2=e:=by
 obtain ⟨h1,h2⟩:=j8 (rels:=rels) s.src 0 jw [] [] hs (by simp)
 have kE:∀ e,e≠0 ->(zW rels s e).2=e:=by
  intro e he
  unfold zW
  simp only
  rw [rM _ _ _ (by rw [(pN _ s _).2 _ (by rw [h2 _ e he];exact he),h2 _ e he];exact he),(pN _ s _).2 _ (by rw [h2 _ e he];exact he),h2 _ e he]
 refine ⟨?_,kE⟩
 unfold mt zW oH
 simp only
 rw [fQ] at h1
 revert h1
 cases j0 rels s.src 0 jw [] [] with
 | error e=>
  intro h1
  refine ⟨h1.1,?_⟩
  have h3:=h1.2
  rw [rM _ _ _ (by rw [(pN _ s _).2 _ (by rw [h3];exact h1.1),h3];exact h1.1),(pN _ s _).2 _ (by rw [h3];exact h1.1),h3]
 | ok f=>
  intro h1
  rw [ky h1 rfl]
  simp only
  have h3:=(pN f.2 s f.1).1
  revert h3
  cases q8 f.2 s.hasW s.wh with
  | error e=>intro h3;exact ⟨h3.1,by rw [rM _ _ _ (by rw [h3.2];exact h3.1),h3.2]⟩
  | ok w=>
   intro h3
   rw [ky h3 rfl]
   simp only
   have h4:=(yF s (if s.hasW=true then gz w f.1 else f.1) f.2).1
   unfold Ow
   simp only
   revert h4
   cases (if eQ s=true then j2 s (if s.hasW=true then gz w f.1 else f.1) f.2 else oI s (if s.hasW=true then gz w f.1 else f.1) f.2) with
   | error e=>intro h4;exact h4
   | ok q=>intro h4;rw [ky h4 rfl];rfl
theorem NG {op:Int}(h:1<=op/\op<=4)(a b:Pl):aa5 op a b=Er op a b:=by
 unfold aa5 Er
 rcases (show op=1\/op=2\/op=3\/op=4 by omega) with rfl | rfl | rfl | rfl<;>rfl
theorem iu {rels:List Rel}{ops:List Int}(ho:∀ j,j<ops.length ->1<=ops.getD j 0/\ops.getD j 0<=4):∀ (l:List Se) (i:Nat) (p:Pl) (names:List Bs),(∀ s∈l,∀ x∈s.src,tq (dp x)) ->l.length+i<=ops.length+1 ->
 qF (fA rels ops i p names l) (mq rels ops i p names 0 l)/\∀ e,e≠0 ->(mq rels ops i p names e l).2=e
 | [],i,p,names,_,_=>⟨by rw [fA,mq];rfl,fun e he=>by rw [mq]⟩
 | s::l,i,p,names,hl,hn=>by
  obtain ⟨h1,h2⟩:=K7 (rels:=rels) (hl s List.mem_cons_self)
  have gG:∀ x∈l,∀ y∈x.src,tq (dp y):=fun x hx=>hl x (p5 hx)
  rw [List.length_cons] at hn
  have kE:∀ e,e≠0 ->(mq rels ops i p names e (s::l)).2=e:=by
   intro e he
   rw [mq,h2 e he]
   split
   ·exact (iu ho l 1 _ _ gG (by omega)).2 e he
   ·exact (iu ho l (i+1) _ _ gG (by omega)).2 e he
  refine ⟨?_,kE⟩
  rw [fA,mq]
  revert h1
  cases mt rels s with
  | error e=>
   intro h1
   refine ⟨h1.1,?_⟩
   rw [h1.2]
   split
   ·exact (iu ho l 1 _ _ gG (by omega)).2 e h1.1
   ·exact (iu ho l (i+1) _ _ gG (by omega)).2 e h1.1
  | ok r=>
   intro h1
   rw [ky h1 rfl]
   simp only
   by_cases hi:i=0
   ·rw [if_pos hi,if_pos hi]
    exact (iu ho l 1 _ _ gG (by omega)).1
   ·rw [if_neg hi,if_neg hi,NG (ho (i - 1) (by omega))]
    exact (iu ho l (i+1) _ _ gG (by omega)).1
theorem BK (q:Q)(p:Pl)(names:List Bs):qF (s8 q (p,names)) (SM q p names 0)/\∀ e,e≠0 ->(SM q p names e).2=e:=by
 unfold s8 SM
 by_cases hl:0<=q.limit
 ·simp only [if_pos hl]
  obtain ⟨h1,h2⟩:=kH (names.map fun n=>([],n)) q.order
  refine ⟨?_,h2⟩
  revert h1
  cases dn (names.map fun n=>([],n)) q.order with
  | error e=>intro h1;exact h1
  | ok l=>intro h1;rw [ky h1 rfl];rfl
 ·simp only [if_neg hl];exact ⟨rfl,by simp⟩
structure OkQ (q:Q):Prop where
 src:∀ s∈q.parts,∀ x∈s.src,tq (dp x)
 ops:∀ j,j<q.ops.length ->1<=q.ops.getD j 0/\q.ops.getD j 0<=4
 len:q.parts.length<=q.ops.length+1
theorem Fd {rels:List Rel}{q:Q}(hq:OkQ q):qF (gR rels q) (QS rels q):=by
 have h1:=(iu (rels:=rels) hq.ops q.parts 0 jw [] hq.src (by have:=hq.len;omega)).1
 unfold gR QS
 simp only
 revert h1
 cases fA rels q.ops 0 jw [] q.parts with
 | error e=>
  intro h1
  refine ⟨h1.1,?_⟩
  simp only
  rw [h1.2]
  exact (BK q _ _).2 e h1.1
 | ok r=>
  intro h1
  rw [ky h1 rfl]
  simp only
  have h2:=(BK q r.1 r.2).1
  revert h2
  cases hh:s8 q (r.1,r.2) with
  | error e=>intro h2;exact h2
  | ok p=>intro h2;rw [ky h2 rfl];rfl
theorem Ao {rels:List Rel}{q:Q}(hq:OkQ q):∀ e,gR rels q=.error e ->e≠0:=by
 intro e he
 have h1:=Fd (rels:=rels) hq
 rw [he] at h1
 exact h1.1
theorem i7 {a b:Int}(h:qH a b=0):a=0/\b=0:=by
 unfold qH at h
 split at h
 ·rename_i h1;exact (h1 h).elim
 ·rename_i h1;exact ⟨Classical.not_not.1 h1,h⟩
mutual
theorem E9 (d n:Nat):∀ (x:X),(fN d n x).1=0 ->zx x/\(fN d n x).2=n+vQ x
 | .mk k v tab name kids,h=>by
  rw [fN] at h ⊢
  rw [vQ]
  split at h
  ·cases h
  ·rename_i c1
   rw [if_neg c1]
   split at h
   ·cases h
   ·rename_i c2
    rw [if_neg c2]
    split at h
    ·cases h
    ·rename_i hkk
     rw [if_neg hkk]
     have kd:=Classical.not_not.1 hkk
     split at h
     ·rename_i k1
      rw [if_pos k1]
      subst k1
      have hw:gC v=0:=h
      have:kids=[]:=by
       have h1:kW 1=0:=by decide
       exact List.length_eq_zero_iff.1 (by omega)
      subst this
      refine ⟨⟨kd,fun _=> ?_,trivial⟩,rfl⟩
      unfold gC at hw
      by_cases a1:v.k=1
      ·omega
      ·by_cases a2:v.k=2
       ·omega
       ·by_cases a3:v.k=3
        ·omega
        ·by_cases a4:v.k=4
         ·omega
         ·rw [if_neg a1,if_neg a2,if_neg a3,if_neg a4] at hw;cases hw
     ·rename_i k1
      rw [if_neg k1]
      split at h
      ·cases h
      ·rename_i c3
       rw [if_neg c3]
       obtain ⟨h1,h2⟩:=AL (d+1) (n+1) kids h
       exact ⟨⟨kd,fun hk=>(k1 hk).elim,h1⟩,by rw [h2];omega⟩
theorem AL (d n:Nat):∀ (l:List X),(gE d n l).1=0 ->Xd l/\(gE d n l).2=n+oR l
 | [],_=>⟨trivial,by rw [gE,oR];rfl⟩
 | x::l,h=>by
  rw [gE] at h ⊢
  rw [oR]
  split at h
  ·rename_i hx;exact (hx h).elim
  ·rename_i hx
   rw [if_neg hx]
   obtain ⟨h1,h2⟩:=E9 d n x (Classical.not_not.1 hx)
   obtain ⟨h3,h4⟩:=AL d _ l h
   exact ⟨⟨h1,h3⟩,by rw [h4,h2];omega⟩
end
theorem pK {x:X}(h:gt x=0):zx x/\vQ x<=200:=by
 obtain ⟨h1,h2⟩:=E9 1 0 x h
 have h3:=(qf 1 0 x (by omega)).2 h
 exact ⟨h1,by omega⟩
theorem up:∀ {l:List X},ec l=0 ->∀ x∈l,zx x/\vQ x<=200
 | [],_,x,hx=>by cases hx
 | y::l,h,x,hx=>by
  rw [ec] at h
  obtain ⟨h1,h2⟩:=i7 h
  rcases rP hx with rfl | hx
  ·exact pK h1
  ·exact up h2 x hx
theorem A1:∀ {l:List It},ol l=0 ->(∀ x∈l,zx x.x)/\oR (l.map (·.x))<=l.length*200
 | [],_=>⟨fun x hx=>(by cases hx),by simp [oR]⟩
 | y::l,h=>by
  rw [ol] at h
  obtain ⟨h1,h2⟩:=i7 h
  simp only [eY] at h1
  obtain ⟨h3,h4⟩:=pK (i7 h1).1
  obtain ⟨h5,h6⟩:=A1 h2
  refine ⟨fun x hx=> ?_,?_⟩
  ·rcases rP hx with rfl | hx
   ·exact h3
   ·exact h5 x hx
  ·rw [List.map_cons,oR,List.length_cons,Nat.succ_mul];omega
theorem VI {i:Nat}{c:UInt8}(h:zU i c=true):c≠124:=by
 rintro rfl
 unfold zU at h
 have h1:eF (124:UInt8).toNat=false:=by decide
 have h2:eH (124:UInt8).toNat=false:=by decide
 rw [h1,h2] at h
 simp at h
theorem Aa:∀ {l:Bs} {i:Nat},gV i l=true ->124∉l
 | [],_,_=>by simp
 | c::l,i,h=>by
  rw [gV,Bool.and_eq_true] at h
  intro hm
  rcases rP hm with h1 | h1
  ·exact VI h.1 h1.symm
  ·exact Aa h.2 h1
theorem xA {s:Bs}(h:ee [s]=0):tq s/\s.length<=12:=by
 unfold ee at h
 split at h
 ·rename_i h1
  rw [List.all_cons,List.all_nil,Bool.and_true] at h1
  unfold eM at h1
  rw [Bool.and_eq_true,Bool.and_eq_true] at h1
  have h2:=of_decide_eq_true h1.1.1
  exact ⟨⟨Aa h1.2,fun h0=>by rw [h0] at h2;simp at h2⟩,h2.2⟩
 ·cases h
theorem HC {i:Nat}{s:So}(h:ld i s=0):tq (dp s)/\(dp s).length<=12/\(0<i ->(2<=s.k/\s.k<=5)/\zx s.on):=by
 unfold ld at h
 split at h
 ·cases h
 ·rename_i hb
  have hk:0<i ->2<=s.k/\s.k<=5:=by
   intro h0
   have hi:¬ (i:Int)=0:=by omega
   simp only [hi,decide_false,beq_false] at hb
   simp at hb
   omega
  have hf:eY [ee [s.name],eB s.as]=0/\(0<i ->zx s.on):=by
   split at h
   ·rename_i h1
    exact ⟨h,fun h0=>by rcases h1 with h1 | h1;exact (h1 h).elim;omega⟩
   ·rename_i h1
    have h2:=not_or.1 h1
    exact ⟨Classical.not_not.1 h2.1,fun _=>(pK h).1⟩
  obtain ⟨Dn,hx⟩:=hf
  simp only [eY] at Dn
  obtain ⟨h3,h4⟩:=i7 Dn
  obtain ⟨h5,_⟩:=i7 h4
  have ha:tq (dp s)/\(dp s).length<=12:=by
   unfold dp
   by_cases h0:s.as=[]
   ·rw [if_pos h0];exact xA h3
   ·rw [if_neg h0]
    unfold eB at h5
    rw [if_neg h0] at h5
    exact xA h5
  exact ⟨ha.1,ha.2,fun h0=>⟨hk h0,hx h0⟩⟩
theorem pH:∀ {l:List So} {i:Nat},iQ i l=0 ->∀ (j:Nat) (s:So),l[j]?=some s ->tq (dp s)/\(dp s).length<=12/\(0<i+j ->(2<=s.k/\s.k<=5)/\zx s.on)
 | [],i,_,j,s,hj=>by simp at hj
 | x::l,i,h,j,s,hj=>by
  rw [iQ] at h
  obtain ⟨h1,h2⟩:=i7 h
  cases j with
  | zero=>
   simp only [List.getElem?_cons_zero,Option.some.injEq] at hj
   subst hj
   exact HC h1
  | succ j=>
   obtain ⟨a,b,c⟩:=pH h2 j s (by simpa using hj)
   exact ⟨a,b,fun h0=>c (by omega)⟩
theorem Jv {s:Se}(h:qE s=0):OkSe s/\s.src≠[]/\∀ x∈s.src,tq (dp x)/\(dp x).length<=12:=by
 unfold qE at h
 split at h
 ·cases h
 ·rename_i hm
  obtain ⟨h1,h2⟩:=i7 h
  unfold xE at h2
  obtain ⟨h3,h4⟩:=i7 h2
  unfold si at h4
  obtain ⟨h5,h6⟩:=i7 h4
  unfold Gl at h6
  obtain ⟨h7,h8⟩:=i7 h6
  unfold An at h8
  have hm1:(1<=s.src.length/\s.src.length<=4)/\s.group.length<=8/\(s.star=false ->s.items.length<=8):=by
   unfold l9 at hm
   rw [Bool.or_eq_true,not_or] at hm
   obtain ⟨ha,hb⟩:=hm
   have ha:=fun h=>ha (decide_eq_true h)
   refine ⟨⟨?_,?_⟩,?_,?_⟩
   ·rcases Nat.lt_or_ge s.src.length 1 with h | h
    ·exact (ha (.inl (.inl (by omega)))).elim
    ·exact h
   ·rcases Nat.lt_or_ge 4 s.src.length with h | h
    ·exact (ha (.inl (.inr (by omega)))).elim
    ·exact h
   ·rcases Nat.lt_or_ge 8 s.group.length with h | h
    ·exact (ha (.inr (by omega))).elim
    ·exact h
   ·intro hs
    rcases Nat.lt_or_ge 8 s.items.length with h | h
    ·exfalso
     apply hb
     rw [hs]
     simp;omega
    ·exact h
  have adO:s.star=false ->(∀ x∈s.items,zx x.x)/\oR (s.items.map (·.x))<=s.items.length*200:=by
   intro hs
   rw [hs,if_neg (by decide)] at h1
   exact A1 h1
  have hhv:s.hasH=true ->zx s.hv/\vQ s.hv<=200:=by
   intro hh
   rw [if_pos hh] at h8
   exact pK h8
  refine ⟨⟨by omega,fun j x hj h0=>(pH h3 j x hj).2.2 (by omega),fun hw=> ?_,⟨by omega,fun x hx=>(up h7 x hx).1⟩,fun hs=>⟨by have:=hm1.2.2 hs;omega,(adO hs).1⟩,fun hh=>(hhv hh).1,fun hs=> ?_⟩,?_,?_⟩
  ·rw [if_pos hw] at h5
   exact (pK h5).1
  ·have ha:=(adO hs).2
   have hb:=hm1.2.2 hs
   have hc:hvC s<=200:=by
    unfold hvC
    split
    ·rename_i hh;exact (hhv hh).2
    ·omega
   have hd:s.items.length*200<=8*200:=Nat.mul_le_mul_right _ hb
   omega
  ·rintro h0
   rw [h0] at hm1
   simp at hm1
  ·intro x hx
   obtain ⟨j,hj⟩:=List.getElem?_of_mem hx
   have:=pH h3 j x hj
   exact ⟨this.1,this.2.1⟩
theorem wX {ops:List Int}:∀ {l:List Se} {i:Nat},kR ops i l=0 ->(∀ s∈l,qE s=0)/\∀ j,i<=j+1 ->j+1<i+l.length ->0<j+1 ->0<i\/0<j+1 - i ->1<=ops.getD j 0/\ops.getD j 0<=4
 | [],_,_=>⟨fun s hs=>(by cases hs),fun j h1 h2=>by simp at h2;omega⟩
 | x::l,i,h=>by
  rw [kR] at h
  split at h
  ·cases h
  ·rename_i hb
   obtain ⟨h1,h2⟩:=i7 h
   obtain ⟨h3,h4⟩:=wX h2
   refine ⟨fun s hs=> ?_,fun j ha hc hd he=> ?_⟩
   ·rcases rP hs with rfl | hs
    ·exact h1
    ·exact h3 s hs
   ·rw [List.length_cons] at hc
    by_cases hj:j+1=i
    ·have hi:0<i:=by omega
     have:i - 1=j:=by omega
     rw [this] at hb
     constructor
     ·rcases Int.lt_or_le (ops.getD j 0) 1 with h | h
      ·exact (hb ⟨hi,.inl h⟩).elim
      ·exact h
     ·rcases Int.lt_or_le 4 (ops.getD j 0) with h | h
      ·exact (hb ⟨hi,.inr h⟩).elim
      ·exact h
    ·exact h4 j (by omega) (by omega) hd (by omega)
theorem tW {q:Q}(h:jn q=0):OkQ q/\q.parts≠[]/\q.parts.length<=4/\(0<=q.limit ->q.order.length<=8/\∀ x∈q.order,zx x)/\∀ s∈q.parts,OkSe s/\s.src≠[]/\∀ x∈s.src,tq (dp x)/\(dp x).length<=12:=by
 unfold jn at h
 split at h
 ·cases h
 ·rename_i hm
  split at h
  ·cases h
  ·obtain ⟨h1,h2⟩:=i7 h
   obtain ⟨h3,h4⟩:=wX h1
   have hm:=fun h=>hm (decide_eq_true h)
   have gI:1<=q.parts.length:=by
    rcases Nat.lt_or_ge q.parts.length 1 with h | h
    ·exact (hm (.inl (.inl (.inl (by omega))))).elim
    ·exact h
   have eD:q.parts.length<=4:=by
    rcases Nat.lt_or_ge 4 q.parts.length with h | h
    ·exact (hm (.inl (.inl (.inr (by omega))))).elim
    ·exact h
   have eR:q.ops.length+1=q.parts.length:=by
    rcases Nat.lt_or_ge (q.ops.length+1) q.parts.length with h | h
    ·exact (hm (.inl (.inr (by omega)))).elim
    ·rcases Nat.lt_or_ge q.parts.length (q.ops.length+1) with h' | h'
     ·exact (hm (.inl (.inr (by omega)))).elim
     ·omega
   refine ⟨⟨fun s hs x hx=>((Jv (h3 s hs)).2.2 x hx).1,fun j hj=>h4 j (by omega) (by omega) (by omega) (.inr (by omega)),by omega⟩,?_,eD,fun hl=>⟨?_,fun x hx=> ?_⟩,fun s hs=>Jv (h3 s hs)⟩
   ·intro h0;rw [h0] at gI;simp at gI
   ·rcases Nat.lt_or_ge 8 q.order.length with h | h
    ·exact (hm (.inr ⟨hl,.inr (by omega)⟩)).elim
    ·exact h
   ·unfold ku at h2
    rw [if_neg (by omega)] at h2
    exact (up h2 x hx).1
end Go.Proofs.YtmccpbcbofhmlaaGreatDoor

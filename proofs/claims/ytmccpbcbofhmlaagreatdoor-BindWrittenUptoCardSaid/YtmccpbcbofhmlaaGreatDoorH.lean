import Derived.Test.YtmccpbcbofhmlaaGreatDoorG
set_option linter.all false
namespace Go.Proofs.YtmccpbcbofhmlaaGreatDoor
open Go Vc
set_option maxRecDepth 10000
def l9 (a:Bs):Bs:=[124]++a++[124]
def ahb (ib pat:Bs)(n:Nat):Bool:=(List.range n).any fun k=>decide ((ib.drop k).take pat.length=pat)
def Jf (ib pat:Bs):Bool:=ahb ib pat (ib.length+1 - pat.length)
def nT (rels:List Rel):List So ->Nat ->Pl ->List (Bs×Bs) ->Bs ->Int ->(Pl×List (Bs×Bs))×Int
 | [],_,p,names,_,e=>((p,names),e)
 | s::l,i,p,names,ib,e=>
  let q:=Qi rels s.name
  let e1:=if (kN s.name 0 rels).isSome=true then e else ql e 7
  let e2:=if Jf ib (l9 (dB s))=true then ql e1 7 else e1
  let all:=names++q.2.map fun c=>(dB s,c.name)
  if i=0 then nT rels l 1 q.1 all (ib++l9 (dB s)) e2
  else nT rels l (i+1) (.mk (mf s.k) 0 (me all s.on e2).1 [] [] [p,q.1]) (if s.k=2\/s.k=5 then all else names) (ib++l9 (dB s)) (me all s.on e2).2
theorem yM (rels:List Rel)(s:So)(l:List So)(i:Nat)(p:Pl)(names:List (Bs×Bs))(ib:Bs)(e:Int){q:Pl×List Co}{e1 e2:Int}{all:List (Bs×Bs)}(hq:q=Qi rels s.name)(h1:e1=if (kN s.name 0 rels).isSome=true then e else ql e 7)(h2:e2=if Jf ib (l9 (dB s))=true then ql e1 7 else e1)(ha:all=names++q.2.map fun c=>(dB s,c.name)):
 nT rels (s::l) i p names ib e=if i=0 then nT rels l 1 q.1 all (ib++l9 (dB s)) e2
 else nT rels l (i+1) (.mk (mf s.k) 0 (me all s.on e2).1 [] [] [p,q.1]) (if s.k=2\/s.k=5 then all else names) (ib++l9 (dB s)) (me all s.on e2).2:=by
 subst hq h1
 subst h2
 subst ha
 rw [nT]
def abT:List (Nat×Sched):=[(28,.take 1<| .take 2<| .take 5<| .take 6<| .effN 0 false (.take 3<| .take 4<| .eff 7 false (.eff 8 false (.eff 9 true (.done)<| .no)<| .no)<| .no)<| .eff 7 false (.effN 0 false (.take 3<| .take 4<| .eff 8 false (.eff 9 true (.done)<| .no)<| .no)<| .no)<| .no)]
attribute [go_sem] abT
def evX (grp:Bool)(names:List (Bs×Bs))(bd:List X)(x:X)(e:Int)(ags:List Ag):Ex×Int×List Ag:=if grp=true then qL names bd x e ags else ((me names x e).1,(me names x e).2,ags)
def FW (grp:Bool)(names:List (Bs×Bs))(bd:List X):List X ->Int ->List Ag ->List Ex×Int×List Ag
 | [],e,ags=>([],e,ags)
 | x::l,e,ags=>let y:=evX grp names bd x e ags;let z:=FW grp names bd l y.2.1 y.2.2;(y.1::z.1,z.2.1,z.2.2)
theorem AR (names:List (Bs×Bs))(bd:List X):∀ (l:List X) (e:Int) (ags:List Ag),FW true names bd l e ags=kX names bd l e ags
 | [],e,ags=>by rw [FW,kX]
 | x::l,e,ags=>by
  rw [FW,kX]
  simp only [AR names bd l,evX,if_true]
theorem zO (names:List (Bs×Bs))(bd:List X):∀ (l:List X) (e:Int) (ags:List Ag),FW false names bd l e ags=((jm names l e).1,(jm names l e).2,ags)
 | [],e,ags=>by rw [FW,jm]
 | x::l,e,ags=>by
  rw [FW,jm]
  simp only [zO names bd l,evX,if_false,Bool.false_eq_true]
def whR (names:List (Bs×Bs))(s:Se)(p:Pl)(e:Int):Pl×Int:=if s.hasW=true then (.mk 2 0 (me names s.wh e).1 [] [] [p],(me names s.wh e).2) else (p,e)
def hvR (names:List (Bs×Bs))(s:Se)(e:Int)(ags:List Ag):Ex×Int×List Ag:=if s.hasH=true then qL names s.group s.hv e ags else (dP,e,ags)
def ahr (names:List (Bs×Bs))(s:Se)(e:Int):List Ex×Int:=if dX s=true then jm names s.group e else ([],e)
def Ll (s:Se)(p:Pl)(names:List (Bs×Bs))(e:Int):(Pl×List Bs)×Int:=
 if s.star=true then ((p,names.map (·.2)),if dX s=true then ql e 8 else e)
 else
  let k:=ahr names s e
  let it:=FW (dX s) names s.group (s.items.map (·.x)) k.2 []
  if dX s=true then
   let h:=hvR names s it.2.1 it.2.2
   let g:Pl:=.mk 12 0 dP k.1 h.2.2 [p]
   ((.mk 3 0 dP it.1 [] [if s.hasH=true then .mk 2 0 h.1 [] [] [g] else g],ec 0 s.items),h.2.1)
  else ((.mk 3 0 dP it.1 [] [p],ec 0 s.items),it.2.1)
def QN (s:Se)(p:Pl)(names:List (Bs×Bs))(e:Int):(Pl×List Bs)×Int:=let b:=Ll s p names e;((if s.distinct=true then .mk 11 0 dP [] [] [b.1.1] else b.1.1,b.1.2),b.2)
def Am (rels:List Rel)(s:Se)(e:Int):(Pl×List Bs)×Int:=
 let f:=nT rels s.src 0 iZ [] [] e
 let w:=whR f.1.2 s f.1.1 f.2
 QN s w.1 f.1.2 w.2
abbrev z6:List Value:=[.int .i64 0,.int .i64 0,.int .i64 0,st [],.int .i64 0,.slice none 0 0]
def aei (op:Int)(a b:Pl):Pl:=if op=1 then oA 8 a b else if op=2 then iC 11 (oA 8 a b) else if op=3 then iC 10 (oA 9 a b) else iC 10 (oA 9 (iC 11 a) (iC 11 b))
def nE (rels:List Rel)(ops:List Int):Nat ->Pl ->List Bs ->Int ->List Se ->(Pl×List Bs)×Int
 | _,p,names,e,[]=>((p,names),e)
 | i,p,names,e,s::l=>if i=0 then nE rels ops 1 (Am rels s e).1.1 (Am rels s e).1.2 (Am rels s e).2 l else nE rels ops (i+1) (aei (ops.getD (i - 1) 0) p (Am rels s e).1.1) names (Am rels s e).2 l
def PY (q:Q)(p:Pl)(names:List Bs)(e:Int):Pl×Int:=if 0<=q.limit then (.mk 13 q.limit dP (jm (names.map fun n=>([],n)) q.order e).1 [] [p],(jm (names.map fun n=>([],n)) q.order e).2) else (p,e)
def Pc (rels:List Rel)(q:Q):(Pl×List Bs)×Int:=let r:=nE rels q.ops 0 iZ [] 0 q.parts;(((PY q r.1.1 r.1.2 r.2).1,r.1.2),(PY q r.1.1 r.1.2 r.2).2)
set_option maxHeartbeats 4000000 in
theorem oz:∀ (sz:Nat) (x:Ex),SizeOf.sizeOf x<=sz ->∀ {M:aV} {cs cs':List Value},jL M x cs ->jL M x cs' ->∀ (T:Tm),ep Tryz.prog 15 [.agg ⟨cs⟩,.agg ⟨cs'⟩] T M [] [] (fun r _ _ _=>r=.bool true) bj:=by
 intro sz
 induction sz with
 | zero=>intro x hx;cases x;simp at hx
 | succ sz ih=>
  intro x eF M cs cs' hx xl T
  obtain ⟨s,rfl,ks,hs⟩:=cg hx
  obtain ⟨s',rfl,ks',oD⟩:=cg xl
  obtain ⟨lh,a,c,rfl,jo,_,hg⟩:=aI (by decide) (fun _ _=>ed) hs
  obtain ⟨_,a',c',rfl,av8,_,hg'⟩:=aI (by decide) (fun _ _=>ed) oD
  refine aT mx ane Tryz.func15 rfl (by rw [asU];exact Nat.le_of_ble_eq_true rfl) (dr:=amL) (by kernel_rfl) auc ?_
  intro bN _
  simp +contextual only [go_sem,ak,sevalprocAttr]
  intro b2 T2 eG fu ju b3 T3 fh bT fD ja
  have eD:¬ b3=b2/\¬ b2=b3:=bT
  have kJ:(x.k=2/\¬ x.k=1)\/(x.k=1/\¬ x.k=2)\/(¬ x.k=2/\¬ x.k=1):=by omega
  have tW:rZ ⟨x.v.k,x.v.n,x.v.t⟩ ⟨x.v.k,x.v.n,x.v.t⟩=true:=by simp [rZ]
  have hxk:x=.mk x.k x.v x.c x.kids:=by cases x;rfl
  rcases kJ with ⟨h,h'⟩ | ⟨h,h'⟩ | ⟨h,h'⟩
  ·simp +contextual only [go_sem,ak,sevalprocAttr,eG,fh,eD,h]
   refine bA x.kids.length 47 [(2,.pointer (some ⟨b2,0,none⟩)),(3,.pointer (some ⟨b3,0,none⟩)),(46,.int .i64 (x.kids.length:Int))]
    (fun i e h=>∃ N' M',aH T3 N'/\bG M M'/\M' b2=some [.int .i64 x.k,.int .i64 x.v.k,.int .i64 x.v.n,st x.v.t,.int .i64 x.c,.slice a x.kids.length c]/\M' b3=some [.int .i64 x.k,.int .i64 x.v.k,.int .i64 x.v.n,st x.v.t,.int .i64 x.c,.slice a' x.kids.length c']/\h=⟨N',M',[],[]⟩)
    0 (by omega) (by simp only [aG,go_sem,ak,sevalprocAttr]) (by simp only [go_sem,ak,sevalprocAttr]) (aJ fun he h3 _=>aJ fun kC h2 _=>aA ⟨T3,_,aH.rfl',he.trans kC,h2,kC _ _ h3,rfl⟩) ?_
   rintro i e h hi aD ht ⟨N1,M1,iy,aP,h2,h3,rfl⟩
   simp only [aG] at aD
   by_cases aF:i<x.kids.length
   ·obtain ⟨b',o',xs,rfl,cC,eL⟩:=hg i x.kids[i] (List.getElem?_eq_getElem aF)
    obtain ⟨b'',o'',xs',rfl,fA,gk⟩:=hg' i x.kids[i] (List.getElem?_eq_getElem aF)
    obtain ⟨s,rfl,kss,_⟩:=cg eL
    obtain ⟨s',rfl,kss',_⟩:=cg gk
    have y:=As (cC.ext aP)
    have y':=As (fA.ext aP)
    have w2:=As (db h2)
    have w3:=As (db h3)
    simp only [Nat.zero_add] at w2 w3
    have yW:SizeOf.sizeOf x.kids[i]<=sz:=by
     have h4:=List.sizeOf_lt_of_mem (List.getElem_mem aF)
     cases x with | mk k v c kids=>
     simp only [Ex.kids] at h4 ⊢
     simp only [Ex.mk.sizeOf_spec] at eF
     omega
    simp +contextual only [go_sem,ak,sevalprocAttr,aD,ht,aF]
    refine bq ?_
    simp +contextual only [go_sem,ak,sevalprocAttr,aD,ht,aF,y,y',w2,w3,kss,kss']
    refine am (ih x.kids[i] yW (bS aP _ _ eL) (bS aP _ _ gk) N1) ?_ (fun _ _ _ _ h=>h.elim)
    rintro r M2 aX aQ rfl
    simp +contextual only [go_sem,ak,sevalprocAttr,aD,ht,aF]
    repeat refine ⟨dK aX trivial,?_⟩
    refine bf (aA ⟨x.kids.length - (i+1),by omega,rfl,i+1,by omega,rfl,?_,?_,N1,M2,iy,aP.trans aX,aX _ _ h2,aX _ _ h3,rfl⟩)
    ·simp only [aG,aD,go_sem,ak,sevalprocAttr]
    ·simp only [ht,go_sem,ak,sevalprocAttr,aC i (by omega)]
   ·simp +contextual only [go_sem,ak,sevalprocAttr,aD,ht,aF]
    exact az ((fu.trans fD).trans iy) rfl
  ·simp +contextual only [go_sem,ak,sevalprocAttr,eG,fh,eD,h,abl,tW]
   refine bA x.kids.length 47 [(2,.pointer (some ⟨b2,0,none⟩)),(3,.pointer (some ⟨b3,0,none⟩)),(46,.int .i64 (x.kids.length:Int))]
    (fun i e h=>∃ N' M',aH T3 N'/\bG M M'/\M' b2=some [.int .i64 x.k,.int .i64 x.v.k,.int .i64 x.v.n,st x.v.t,.int .i64 x.c,.slice a x.kids.length c]/\M' b3=some [.int .i64 x.k,.int .i64 x.v.k,.int .i64 x.v.n,st x.v.t,.int .i64 x.c,.slice a' x.kids.length c']/\h=⟨N',M',[],[]⟩)
    0 (by omega) (by simp only [aG,go_sem,ak,sevalprocAttr]) (by simp only [go_sem,ak,sevalprocAttr]) (aJ fun he h3 _=>aJ fun kC h2 _=>aA ⟨T3,_,aH.rfl',he.trans kC,h2,kC _ _ h3,rfl⟩) ?_
   rintro i e h hi aD ht ⟨N1,M1,iy,aP,h2,h3,rfl⟩
   simp only [aG] at aD
   by_cases aF:i<x.kids.length
   ·obtain ⟨b',o',xs,rfl,cC,eL⟩:=hg i x.kids[i] (List.getElem?_eq_getElem aF)
    obtain ⟨b'',o'',xs',rfl,fA,gk⟩:=hg' i x.kids[i] (List.getElem?_eq_getElem aF)
    obtain ⟨s,rfl,kss,_⟩:=cg eL
    obtain ⟨s',rfl,kss',_⟩:=cg gk
    have y:=As (cC.ext aP)
    have y':=As (fA.ext aP)
    have w2:=As (db h2)
    have w3:=As (db h3)
    simp only [Nat.zero_add] at w2 w3
    have yW:SizeOf.sizeOf x.kids[i]<=sz:=by
     have h4:=List.sizeOf_lt_of_mem (List.getElem_mem aF)
     cases x with | mk k v c kids=>
     simp only [Ex.kids] at h4 ⊢
     simp only [Ex.mk.sizeOf_spec] at eF
     omega
    simp +contextual only [go_sem,ak,sevalprocAttr,aD,ht,aF]
    refine bq ?_
    simp +contextual only [go_sem,ak,sevalprocAttr,aD,ht,aF,y,y',w2,w3,kss,kss']
    refine am (ih x.kids[i] yW (bS aP _ _ eL) (bS aP _ _ gk) N1) ?_ (fun _ _ _ _ h=>h.elim)
    rintro r M2 aX aQ rfl
    simp +contextual only [go_sem,ak,sevalprocAttr,aD,ht,aF]
    repeat refine ⟨dK aX trivial,?_⟩
    refine bf (aA ⟨x.kids.length - (i+1),by omega,rfl,i+1,by omega,rfl,?_,?_,N1,M2,iy,aP.trans aX,aX _ _ h2,aX _ _ h3,rfl⟩)
    ·simp only [aG,aD,go_sem,ak,sevalprocAttr]
    ·simp only [ht,go_sem,ak,sevalprocAttr,aC i (by omega)]
   ·simp +contextual only [go_sem,ak,sevalprocAttr,aD,ht,aF]
    exact az ((fu.trans fD).trans iy) rfl
  ·simp +contextual only [go_sem,ak,sevalprocAttr,eG,fh,eD,h,h']
   refine bA x.kids.length 47 [(2,.pointer (some ⟨b2,0,none⟩)),(3,.pointer (some ⟨b3,0,none⟩)),(46,.int .i64 (x.kids.length:Int))]
    (fun i e h=>∃ N' M',aH T3 N'/\bG M M'/\M' b2=some [.int .i64 x.k,.int .i64 x.v.k,.int .i64 x.v.n,st x.v.t,.int .i64 x.c,.slice a x.kids.length c]/\M' b3=some [.int .i64 x.k,.int .i64 x.v.k,.int .i64 x.v.n,st x.v.t,.int .i64 x.c,.slice a' x.kids.length c']/\h=⟨N',M',[],[]⟩)
    0 (by omega) (by simp only [aG,go_sem,ak,sevalprocAttr]) (by simp only [go_sem,ak,sevalprocAttr]) (aJ fun he h3 _=>aJ fun kC h2 _=>aA ⟨T3,_,aH.rfl',he.trans kC,h2,kC _ _ h3,rfl⟩) ?_
   rintro i e h hi aD ht ⟨N1,M1,iy,aP,h2,h3,rfl⟩
   simp only [aG] at aD
   by_cases aF:i<x.kids.length
   ·obtain ⟨b',o',xs,rfl,cC,eL⟩:=hg i x.kids[i] (List.getElem?_eq_getElem aF)
    obtain ⟨b'',o'',xs',rfl,fA,gk⟩:=hg' i x.kids[i] (List.getElem?_eq_getElem aF)
    obtain ⟨s,rfl,kss,_⟩:=cg eL
    obtain ⟨s',rfl,kss',_⟩:=cg gk
    have y:=As (cC.ext aP)
    have y':=As (fA.ext aP)
    have w2:=As (db h2)
    have w3:=As (db h3)
    simp only [Nat.zero_add] at w2 w3
    have yW:SizeOf.sizeOf x.kids[i]<=sz:=by
     have h4:=List.sizeOf_lt_of_mem (List.getElem_mem aF)
     cases x with | mk k v c kids=>
     simp only [Ex.kids] at h4 ⊢
     simp only [Ex.mk.sizeOf_spec] at eF
     omega
    simp +contextual only [go_sem,ak,sevalprocAttr,aD,ht,aF]
    refine bq ?_
    simp +contextual only [go_sem,ak,sevalprocAttr,aD,ht,aF,y,y',w2,w3,kss,kss']
    refine am (ih x.kids[i] yW (bS aP _ _ eL) (bS aP _ _ gk) N1) ?_ (fun _ _ _ _ h=>h.elim)
    rintro r M2 aX aQ rfl
    simp +contextual only [go_sem,ak,sevalprocAttr,aD,ht,aF]
    repeat refine ⟨dK aX trivial,?_⟩
    refine bf (aA ⟨x.kids.length - (i+1),by omega,rfl,i+1,by omega,rfl,?_,?_,N1,M2,iy,aP.trans aX,aX _ _ h2,aX _ _ h3,rfl⟩)
    ·simp only [aG,aD,go_sem,ak,sevalprocAttr]
    ·simp only [ht,go_sem,ak,sevalprocAttr,aC i (by omega)]
   ·simp +contextual only [go_sem,ak,sevalprocAttr,aD,ht,aF]
    exact az ((fu.trans fD).trans iy) rfl
end Go.Proofs.YtmccpbcbofhmlaaGreatDoor

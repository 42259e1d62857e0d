import Derived.Test.YtmccpbcbofhmlaaGreatDoorH
import Derived.Test.YtmccpbcbofhmlaaGreatDoorE
import Derived.Deep.Slices
import Derived.ChangeFn
import GoSem.ClaimJoined
set_option linter.all false
namespace Go.Proofs.YtmccpbcbofhmlaaGreatDoor
open Go Vc
set_option maxRecDepth 10000
set_option maxHeartbeats 8000000 in
theorem RZ:∀ (sz:Nat) (p:Pl),SizeOf.sizeOf p<=sz ->∀ {M:aV} {cs cs':List Value},j5 M p cs ->j5 M p cs' ->∀ (T:Tm),ep Tryz.prog 12 [.agg ⟨cs⟩,.agg ⟨cs'⟩] T M [] [] (fun r _ _ _=>r=.bool true) bj:=by
 intro sz
 induction sz with
 | zero=>intro p hp;cases p;simp at hp
 | succ sz ih=>
  intro p eF M cs cs' hp vr T
  obtain ⟨s1,a1,n1,a2,n2,a3,n3,rfl,o1,hx,kD,Au,Z7⟩:=gK hp
  obtain ⟨s1',a1',n1',a2',n2',a3',n3',rfl,o1',xl,atD,auj,atX⟩:=gK vr
  have hX:jL M p.x [.int .i64 p.x.k,.int .i64 p.x.v.k,.int .i64 p.x.v.n,st p.x.v.t,.int .i64 p.x.c,s1]:=gD.2 ⟨s1,rfl,hx⟩
  have hX':jL M p.x [.int .i64 p.x.k,.int .i64 p.x.v.k,.int .i64 p.x.v.n,st p.x.v.t,.int .i64 p.x.c,s1']:=gD.2 ⟨s1',rfl,xl⟩
  obtain ⟨jK,g1⟩:p.xs.length*6<=4398046511104/\∀ (i:Nat) (x:Ex),p.xs[i]?=some x ->∃ b o cs,a1=some ⟨b,o,none⟩/\At M b (o+i*6) cs/\jL M x cs:=by
   obtain ⟨h1,a',c',h2,_,_,h4⟩:=aI (by decide) (fun _ _=>ed) kD
   injection h2 with h5 h6 h7;subst h5 h7;exact ⟨h1,h4⟩
  obtain ⟨WK,g1'⟩:p.xs.length*6<=4398046511104/\∀ (i:Nat) (x:Ex),p.xs[i]?=some x ->∃ b o cs,a1'=some ⟨b,o,none⟩/\At M b (o+i*6) cs/\jL M x cs:=by
   obtain ⟨h1,a',c',h2,_,_,h4⟩:=aI (by decide) (fun _ _=>ed) atD
   injection h2 with h5 h6 h7;subst h5 h7;exact ⟨h1,h4⟩
  obtain ⟨Ft,g2⟩:p.ags.length*7<=4398046511104/\∀ (i:Nat) (x:Ag),p.ags[i]?=some x ->∃ b o cs,a2=some ⟨b,o,none⟩/\At M b (o+i*7) cs/\DK M x cs:=by
   obtain ⟨h1,a',c',h2,_,_,h4⟩:=aI (by decide) (fun _ _=>ml) Au
   injection h2 with h5 h6 h7;subst h5 h7;exact ⟨h1,h4⟩
  obtain ⟨_,g2'⟩:p.ags.length*7<=4398046511104/\∀ (i:Nat) (x:Ag),p.ags[i]?=some x ->∃ b o cs,a2'=some ⟨b,o,none⟩/\At M b (o+i*7) cs/\DK M x cs:=by
   obtain ⟨h1,a',c',h2,_,_,h4⟩:=aI (by decide) (fun _ _=>ml) auj
   injection h2 with h5 h6 h7;subst h5 h7;exact ⟨h1,h4⟩
  obtain ⟨zc,g3⟩:p.kids.length*11<=4398046511104/\∀ (i:Nat) (x:Pl),p.kids[i]?=some x ->∃ b o cs,a3=some ⟨b,o,none⟩/\At M b (o+i*11) cs/\j5 M x cs:=by
   obtain ⟨h1,a',c',h2,_,_,h4⟩:=aI (by decide) (fun _ _=>jI) Z7
   injection h2 with h5 h6 h7;subst h5 h7;exact ⟨h1,h4⟩
  obtain ⟨_,g3'⟩:p.kids.length*11<=4398046511104/\∀ (i:Nat) (x:Pl),p.kids[i]?=some x ->∃ b o cs,a3'=some ⟨b,o,none⟩/\At M b (o+i*11) cs/\j5 M x cs:=by
   obtain ⟨h1,a',c',h2,_,_,h4⟩:=aI (by decide) (fun _ _=>jI) atX
   injection h2 with h5 h6 h7;subst h5 h7;exact ⟨h1,h4⟩
  have EE:∀ (i:Nat) (hi:i<p.kids.length),SizeOf.sizeOf p.kids[i]<=sz:=by
   intro i hi
   have h4:=List.sizeOf_lt_of_mem (List.getElem_mem hi)
   cases p with | mk k n x xs ags kids=>
   simp only [Pl.kids] at h4 ⊢
   simp only [Pl.mk.sizeOf_spec] at eF
   omega
  refine aT mx aok Tryz.func12 rfl (by rw [ap8];exact Nat.le_of_ble_eq_true rfl) (dr:=ajp) (by kernel_rfl) aqC ?_
  intro bN _
  simp +contextual only [go_sem,ak,sevalprocAttr,o1,o1']
  intro b2 T2 eG fu ju b3 T3 fh bT fD ja
  have eD:¬ b3=b2/\¬ b2=b3:=bT
  have kJ:p.k=1\/p.k=2\/p.k=3\/(4<=p.k/\p.k<=7/\¬ p.k=1/\¬ p.k=2/\¬ p.k=3/\¬ p.k=12/\¬ p.k=13)\/p.k=12\/p.k=13\/(¬ 4<=p.k/\¬ p.k=1/\¬ p.k=2/\¬ p.k=3/\¬ p.k=12/\¬ p.k=13)\/(4<=p.k/\¬ p.k<=7/\¬ p.k=1/\¬ p.k=2/\¬ p.k=3/\¬ p.k=12/\¬ p.k=13):=by omega
  rcases kJ with h | h | h | h | h | h | h | h
  ·simp +contextual only [go_sem,ak,sevalprocAttr,eG,fh,eD,h,o1,o1']
   refine bA p.kids.length 157 [(2,.pointer (some ⟨b2,0,none⟩)),(3,.pointer (some ⟨b3,0,none⟩)),(156,.int .i64 (p.kids.length:Int))]
    (fun i e h=>∃ N' M',aH T3 N'/\bG M M'/\M' b2=some (pO p s1 (.slice a1 p.xs.length n1) (.slice a2 p.ags.length n2) (.slice a3 p.kids.length n3))/\M' b3=some (pO p s1' (.slice a1' p.xs.length n1') (.slice a2' p.ags.length n2') (.slice a3' p.kids.length n3'))/\h=⟨N',M',[],[]⟩)
    0 (by omega) (by simp only [aG,go_sem,ak,sevalprocAttr]) (by simp only [go_sem,ak,sevalprocAttr]) (aJ fun he h3 _=>aJ fun kC h2 _=>aA ⟨T3,_,aH.rfl',(bG.rfl').trans (he.trans kC),h2,kC _ _ h3,rfl⟩) ?_
   rintro i e h0 hi aD ht ⟨N1,M1,iy,aP,h2,h3,rfl⟩
   simp only [aG] at aD
   have w2:=fY (db h2)
   have w3:=fY (db h3)
   simp only [Nat.zero_add] at w2 w3
   by_cases aF:i<p.kids.length
   ·obtain ⟨b',o',xs,rfl,cC,eL⟩:=g3 i p.kids[i] (List.getElem?_eq_getElem aF)
    obtain ⟨b'',o'',xs',rfl,fA,gk⟩:=g3' i p.kids[i] (List.getElem?_eq_getElem aF)
    obtain ⟨c0,c1,c2,c3,c4,c5,c6,c7,c8,c9,c10,rfl,hc⟩:=bK eL
    obtain ⟨d0,d1,d2,d3,d4,d5,d6,d7,d8,d9,d10,rfl,hd⟩:=bK gk
    have y:=fY (cC.ext aP)
    have y':=fY (fA.ext aP)
    have x9:=ku (cC.ext aP)
    have x9':=ku (fA.ext aP)
    simp +contextual only [go_sem,ak,sevalprocAttr,aD,ht,aF]
    refine bq ?_
    simp +contextual only [go_sem,ak,sevalprocAttr,aD,ht,aF,y,y',x9,x9',w2,w3,hc,hd]
    refine am (ih p.kids[i] (EE i aF) (bO aP _ _ eL) (bO aP _ _ gk) N1) ?_ (fun _ _ _ _ h=>h.elim)
    rintro r M2 aX aQ rfl
    simp +contextual only [go_sem,ak,sevalprocAttr,aD,ht,aF]
    repeat refine ⟨dK aX trivial,?_⟩
    refine bf (aA ⟨p.kids.length - (i+1),by omega,rfl,i+1,by omega,rfl,?_,?_,N1,M2,iy,aP.trans aX,aX _ _ h2,aX _ _ h3,rfl⟩)
    ·simp only [aG,aD,go_sem,ak,sevalprocAttr]
    ·simp only [ht,go_sem,ak,sevalprocAttr,aC i (by omega)]
   ·simp +contextual only [go_sem,ak,sevalprocAttr,aD,ht,aF]
    exact az ((fu.trans fD).trans iy) rfl
  ·simp +contextual only [go_sem,ak,sevalprocAttr,eG,fh,eD,h,o1,o1']
   refine am (oz _ p.x (Nat.le_refl _) hX hX' T3) ?_ (fun _ _ _ _ h=>h.elim)
   rintro r M0 hM0 NQ rfl
   simp only [aB,and_true] at NQ
   simp +contextual only [go_sem,ak,sevalprocAttr,NQ,eD,h]
   refine bA p.kids.length 157 [(2,.pointer (some ⟨b2,0,none⟩)),(3,.pointer (some ⟨b3,0,none⟩)),(156,.int .i64 (p.kids.length:Int))]
    (fun i e h=>∃ N' M',aH T3 N'/\bG M M'/\M' b2=some (pO p s1 (.slice a1 p.xs.length n1) (.slice a2 p.ags.length n2) (.slice a3 p.kids.length n3))/\M' b3=some (pO p s1' (.slice a1' p.xs.length n1') (.slice a2' p.ags.length n2') (.slice a3' p.kids.length n3'))/\h=⟨N',M',[],[]⟩)
    0 (by omega) (by simp only [aG,go_sem,ak,sevalprocAttr]) (by simp only [go_sem,ak,sevalprocAttr]) (aJ fun he h3 _=>aJ fun kC h2 _=>aA ⟨T3,_,aH.rfl',(hM0).trans (he.trans kC),h2,kC _ _ h3,rfl⟩) ?_
   rintro i e h0 hi aD ht ⟨N1,M1,iy,aP,h2,h3,rfl⟩
   simp only [aG] at aD
   have w2:=fY (db h2)
   have w3:=fY (db h3)
   simp only [Nat.zero_add] at w2 w3
   by_cases aF:i<p.kids.length
   ·obtain ⟨b',o',xs,rfl,cC,eL⟩:=g3 i p.kids[i] (List.getElem?_eq_getElem aF)
    obtain ⟨b'',o'',xs',rfl,fA,gk⟩:=g3' i p.kids[i] (List.getElem?_eq_getElem aF)
    obtain ⟨c0,c1,c2,c3,c4,c5,c6,c7,c8,c9,c10,rfl,hc⟩:=bK eL
    obtain ⟨d0,d1,d2,d3,d4,d5,d6,d7,d8,d9,d10,rfl,hd⟩:=bK gk
    have y:=fY (cC.ext aP)
    have y':=fY (fA.ext aP)
    have x9:=ku (cC.ext aP)
    have x9':=ku (fA.ext aP)
    simp +contextual only [go_sem,ak,sevalprocAttr,aD,ht,aF]
    refine bq ?_
    simp +contextual only [go_sem,ak,sevalprocAttr,aD,ht,aF,y,y',x9,x9',w2,w3,hc,hd]
    refine am (ih p.kids[i] (EE i aF) (bO aP _ _ eL) (bO aP _ _ gk) N1) ?_ (fun _ _ _ _ h=>h.elim)
    rintro r M2 aX aQ rfl
    simp +contextual only [go_sem,ak,sevalprocAttr,aD,ht,aF]
    repeat refine ⟨dK aX trivial,?_⟩
    refine bf (aA ⟨p.kids.length - (i+1),by omega,rfl,i+1,by omega,rfl,?_,?_,N1,M2,iy,aP.trans aX,aX _ _ h2,aX _ _ h3,rfl⟩)
    ·simp only [aG,aD,go_sem,ak,sevalprocAttr]
    ·simp only [ht,go_sem,ak,sevalprocAttr,aC i (by omega)]
   ·simp +contextual only [go_sem,ak,sevalprocAttr,aD,ht,aF]
    exact az ((fu.trans fD).trans iy) rfl
  ·simp +contextual only [go_sem,ak,sevalprocAttr,eG,fh,eD,h,o1,o1']
   refine bA p.xs.length 83 [(2,.pointer (some ⟨b2,0,none⟩)),(3,.pointer (some ⟨b3,0,none⟩)),(82,.int .i64 (p.xs.length:Int))]
    (fun i e h=>∃ N' M',aH T3 N'/\bG M M'/\M' b2=some (pO p s1 (.slice a1 p.xs.length n1) (.slice a2 p.ags.length n2) (.slice a3 p.kids.length n3))/\M' b3=some (pO p s1' (.slice a1' p.xs.length n1') (.slice a2' p.ags.length n2') (.slice a3' p.kids.length n3'))/\h=⟨N',M',[],[]⟩)
    0 (by omega) (by simp only [aG,go_sem,ak,sevalprocAttr]) (by simp only [go_sem,ak,sevalprocAttr]) (aJ fun he h3 _=>aJ fun kC h2 _=>aA ⟨T3,_,aH.rfl',(bG.rfl').trans (he.trans kC),h2,kC _ _ h3,rfl⟩) ?_
   rintro i e h0 hi aD ht ⟨N1,M1,iy,aP,h2,h3,rfl⟩
   simp only [aG] at aD
   have w2:=fY (db h2)
   have w3:=fY (db h3)
   simp only [Nat.zero_add] at w2 w3
   by_cases aF:i<p.xs.length
   ·obtain ⟨b',o',xs,rfl,cC,eL⟩:=g1 i p.xs[i] (List.getElem?_eq_getElem aF)
    obtain ⟨b'',o'',xs',rfl,fA,gk⟩:=g1' i p.xs[i] (List.getElem?_eq_getElem aF)
    obtain ⟨s,rfl,kss,_⟩:=cg eL
    obtain ⟨s',rfl,kss',_⟩:=cg gk
    have y:=As (cC.ext aP)
    have y':=As (fA.ext aP)
    simp +contextual only [go_sem,ak,sevalprocAttr,aD,ht,aF]
    refine bq ?_
    simp +contextual only [go_sem,ak,sevalprocAttr,aD,ht,aF,y,y',w2,w3,kss,kss']
    refine am (oz _ p.xs[i] (Nat.le_refl _) (bS aP _ _ eL) (bS aP _ _ gk) N1) ?_ (fun _ _ _ _ h=>h.elim)
    rintro r M2 aX aQ rfl
    simp +contextual only [go_sem,ak,sevalprocAttr,aD,ht,aF]
    repeat refine ⟨dK aX trivial,?_⟩
    refine bf (aA ⟨p.xs.length - (i+1),by omega,rfl,i+1,by omega,rfl,?_,?_,N1,M2,iy,aP.trans aX,aX _ _ h2,aX _ _ h3,rfl⟩)
    ·simp only [aG,aD,go_sem,ak,sevalprocAttr]
    ·simp only [ht,go_sem,ak,sevalprocAttr,aC i (by omega)]
   ·simp +contextual only [go_sem,ak,sevalprocAttr,aD,ht,aF,w2,w3,h]
    refine bA p.kids.length 157 [(2,.pointer (some ⟨b2,0,none⟩)),(3,.pointer (some ⟨b3,0,none⟩)),(156,.int .i64 (p.kids.length:Int))]
     (fun i e h=>∃ N' M',aH T3 N'/\bG M M'/\M' b2=some (pO p s1 (.slice a1 p.xs.length n1) (.slice a2 p.ags.length n2) (.slice a3 p.kids.length n3))/\M' b3=some (pO p s1' (.slice a1' p.xs.length n1') (.slice a2' p.ags.length n2') (.slice a3' p.kids.length n3'))/\h=⟨N',M',[],[]⟩)
     0 (by omega) (by simp only [aG,aD,go_sem,ak,sevalprocAttr]) (by simp only [go_sem,ak,sevalprocAttr]) (aA ⟨N1,M1,iy,aP,h2,h3,rfl⟩) ?_
    clear aD ht aF hi e w2 w3 h2 h3 aP iy M1 N1
    rintro i e h0 hi aD ht ⟨N1,M1,iy,aP,h2,h3,rfl⟩
    simp only [aG] at aD
    have w2:=fY (db h2)
    have w3:=fY (db h3)
    simp only [Nat.zero_add] at w2 w3
    by_cases aF:i<p.kids.length
    ·obtain ⟨b',o',xs,rfl,cC,eL⟩:=g3 i p.kids[i] (List.getElem?_eq_getElem aF)
     obtain ⟨b'',o'',xs',rfl,fA,gk⟩:=g3' i p.kids[i] (List.getElem?_eq_getElem aF)
     obtain ⟨c0,c1,c2,c3,c4,c5,c6,c7,c8,c9,c10,rfl,hc⟩:=bK eL
     obtain ⟨d0,d1,d2,d3,d4,d5,d6,d7,d8,d9,d10,rfl,hd⟩:=bK gk
     have y:=fY (cC.ext aP)
     have y':=fY (fA.ext aP)
     have x9:=ku (cC.ext aP)
     have x9':=ku (fA.ext aP)
     simp +contextual only [go_sem,ak,sevalprocAttr,aD,ht,aF]
     refine bq ?_
     simp +contextual only [go_sem,ak,sevalprocAttr,aD,ht,aF,y,y',x9,x9',w2,w3,hc,hd]
     refine am (ih p.kids[i] (EE i aF) (bO aP _ _ eL) (bO aP _ _ gk) N1) ?_ (fun _ _ _ _ h=>h.elim)
     rintro r M2 aX aQ rfl
     simp +contextual only [go_sem,ak,sevalprocAttr,aD,ht,aF]
     repeat refine ⟨dK aX trivial,?_⟩
     refine bf (aA ⟨p.kids.length - (i+1),by omega,rfl,i+1,by omega,rfl,?_,?_,N1,M2,iy,aP.trans aX,aX _ _ h2,aX _ _ h3,rfl⟩)
     ·simp only [aG,aD,go_sem,ak,sevalprocAttr]
     ·simp only [ht,go_sem,ak,sevalprocAttr,aC i (by omega)]
    ·simp +contextual only [go_sem,ak,sevalprocAttr,aD,ht,aF]
     exact az ((fu.trans fD).trans iy) rfl
  ·simp +contextual only [go_sem,ak,sevalprocAttr,eG,fh,eD,h,o1,o1']
   refine am (oz _ p.x (Nat.le_refl _) hX hX' T3) ?_ (fun _ _ _ _ h=>h.elim)
   rintro r M0 hM0 NQ rfl
   simp only [aB,and_true] at NQ
   simp +contextual only [go_sem,ak,sevalprocAttr,NQ,eD,h]
   refine bA p.kids.length 157 [(2,.pointer (some ⟨b2,0,none⟩)),(3,.pointer (some ⟨b3,0,none⟩)),(156,.int .i64 (p.kids.length:Int))]
    (fun i e h=>∃ N' M',aH T3 N'/\bG M M'/\M' b2=some (pO p s1 (.slice a1 p.xs.length n1) (.slice a2 p.ags.length n2) (.slice a3 p.kids.length n3))/\M' b3=some (pO p s1' (.slice a1' p.xs.length n1') (.slice a2' p.ags.length n2') (.slice a3' p.kids.length n3'))/\h=⟨N',M',[],[]⟩)
    0 (by omega) (by simp only [aG,go_sem,ak,sevalprocAttr]) (by simp only [go_sem,ak,sevalprocAttr]) (aJ fun he h3 _=>aJ fun kC h2 _=>aA ⟨T3,_,aH.rfl',(hM0).trans (he.trans kC),h2,kC _ _ h3,rfl⟩) ?_
   rintro i e h0 hi aD ht ⟨N1,M1,iy,aP,h2,h3,rfl⟩
   simp only [aG] at aD
   have w2:=fY (db h2)
   have w3:=fY (db h3)
   simp only [Nat.zero_add] at w2 w3
   by_cases aF:i<p.kids.length
   ·obtain ⟨b',o',xs,rfl,cC,eL⟩:=g3 i p.kids[i] (List.getElem?_eq_getElem aF)
    obtain ⟨b'',o'',xs',rfl,fA,gk⟩:=g3' i p.kids[i] (List.getElem?_eq_getElem aF)
    obtain ⟨c0,c1,c2,c3,c4,c5,c6,c7,c8,c9,c10,rfl,hc⟩:=bK eL
    obtain ⟨d0,d1,d2,d3,d4,d5,d6,d7,d8,d9,d10,rfl,hd⟩:=bK gk
    have y:=fY (cC.ext aP)
    have y':=fY (fA.ext aP)
    have x9:=ku (cC.ext aP)
    have x9':=ku (fA.ext aP)
    simp +contextual only [go_sem,ak,sevalprocAttr,aD,ht,aF]
    refine bq ?_
    simp +contextual only [go_sem,ak,sevalprocAttr,aD,ht,aF,y,y',x9,x9',w2,w3,hc,hd]
    refine am (ih p.kids[i] (EE i aF) (bO aP _ _ eL) (bO aP _ _ gk) N1) ?_ (fun _ _ _ _ h=>h.elim)
    rintro r M2 aX aQ rfl
    simp +contextual only [go_sem,ak,sevalprocAttr,aD,ht,aF]
    repeat refine ⟨dK aX trivial,?_⟩
    refine bf (aA ⟨p.kids.length - (i+1),by omega,rfl,i+1,by omega,rfl,?_,?_,N1,M2,iy,aP.trans aX,aX _ _ h2,aX _ _ h3,rfl⟩)
    ·simp only [aG,aD,go_sem,ak,sevalprocAttr]
    ·simp only [ht,go_sem,ak,sevalprocAttr,aC i (by omega)]
   ·simp +contextual only [go_sem,ak,sevalprocAttr,aD,ht,aF]
    exact az ((fu.trans fD).trans iy) rfl
  ·simp +contextual only [go_sem,ak,sevalprocAttr,eG,fh,eD,h,o1,o1']
   refine bA p.xs.length 83 [(2,.pointer (some ⟨b2,0,none⟩)),(3,.pointer (some ⟨b3,0,none⟩)),(82,.int .i64 (p.xs.length:Int))]
    (fun i e h=>∃ N' M',aH T3 N'/\bG M M'/\M' b2=some (pO p s1 (.slice a1 p.xs.length n1) (.slice a2 p.ags.length n2) (.slice a3 p.kids.length n3))/\M' b3=some (pO p s1' (.slice a1' p.xs.length n1') (.slice a2' p.ags.length n2') (.slice a3' p.kids.length n3'))/\h=⟨N',M',[],[]⟩)
    0 (by omega) (by simp only [aG,go_sem,ak,sevalprocAttr]) (by simp only [go_sem,ak,sevalprocAttr]) (aJ fun he h3 _=>aJ fun kC h2 _=>aA ⟨T3,_,aH.rfl',(bG.rfl').trans (he.trans kC),h2,kC _ _ h3,rfl⟩) ?_
   rintro i e h0 hi aD ht ⟨N1,M1,iy,aP,h2,h3,rfl⟩
   simp only [aG] at aD
   have w2:=fY (db h2)
   have w3:=fY (db h3)
   simp only [Nat.zero_add] at w2 w3
   by_cases aF:i<p.xs.length
   ·obtain ⟨b',o',xs,rfl,cC,eL⟩:=g1 i p.xs[i] (List.getElem?_eq_getElem aF)
    obtain ⟨b'',o'',xs',rfl,fA,gk⟩:=g1' i p.xs[i] (List.getElem?_eq_getElem aF)
    obtain ⟨s,rfl,kss,_⟩:=cg eL
    obtain ⟨s',rfl,kss',_⟩:=cg gk
    have y:=As (cC.ext aP)
    have y':=As (fA.ext aP)
    simp +contextual only [go_sem,ak,sevalprocAttr,aD,ht,aF]
    refine bq ?_
    simp +contextual only [go_sem,ak,sevalprocAttr,aD,ht,aF,y,y',w2,w3,kss,kss']
    refine am (oz _ p.xs[i] (Nat.le_refl _) (bS aP _ _ eL) (bS aP _ _ gk) N1) ?_ (fun _ _ _ _ h=>h.elim)
    rintro r M2 aX aQ rfl
    simp +contextual only [go_sem,ak,sevalprocAttr,aD,ht,aF]
    repeat refine ⟨dK aX trivial,?_⟩
    refine bf (aA ⟨p.xs.length - (i+1),by omega,rfl,i+1,by omega,rfl,?_,?_,N1,M2,iy,aP.trans aX,aX _ _ h2,aX _ _ h3,rfl⟩)
    ·simp only [aG,aD,go_sem,ak,sevalprocAttr]
    ·simp only [ht,go_sem,ak,sevalprocAttr,aC i (by omega)]
   ·simp +contextual only [go_sem,ak,sevalprocAttr,aD,ht,aF,w2,w3,h]
    refine bA p.ags.length 112 [(2,.pointer (some ⟨b2,0,none⟩)),(3,.pointer (some ⟨b3,0,none⟩)),(111,.int .i64 (p.ags.length:Int))]
     (fun i e h=>∃ N' M',aH T3 N'/\bG M M'/\M' b2=some (pO p s1 (.slice a1 p.xs.length n1) (.slice a2 p.ags.length n2) (.slice a3 p.kids.length n3))/\M' b3=some (pO p s1' (.slice a1' p.xs.length n1') (.slice a2' p.ags.length n2') (.slice a3' p.kids.length n3'))/\h=⟨N',M',[],[]⟩)
     0 (by omega) (by simp only [aG,aD,go_sem,ak,sevalprocAttr]) (by simp only [go_sem,ak,sevalprocAttr]) (aA ⟨N1,M1,iy,aP,h2,h3,rfl⟩) ?_
    clear aD ht aF hi e w2 w3 h2 h3 aP iy M1 N1
    rintro i e h0 hi aD ht ⟨N1,M1,iy,aP,h2,h3,rfl⟩
    simp only [aG] at aD
    have w2:=fY (db h2)
    have w3:=fY (db h3)
    simp only [Nat.zero_add] at w2 w3
    by_cases aF:i<p.ags.length
    ·obtain ⟨b',o',xs,rfl,cC,eL⟩:=g2 i p.ags[i] (List.getElem?_eq_getElem aF)
     obtain ⟨b'',o'',xs',rfl,fA,gk⟩:=g2' i p.ags[i] (List.getElem?_eq_getElem aF)
     obtain ⟨s,rfl,kss,hax⟩:=uS eL
     obtain ⟨s',rfl,kss',atf⟩:=uS gk
     have y:=At7 (cC.ext aP)
     have y':=At7 (fA.ext aP)
     simp +contextual only [go_sem,ak,sevalprocAttr,aD,ht,aF]
     refine bq ?_
     by_cases gB:p.ags[i].k=1
     ·simp +contextual only [go_sem,ak,sevalprocAttr,aD,ht,aF,y,y',w2,w3,kss,kss',gB]
      have aX:bG M1 M1:=bG.rfl'
      repeat refine ⟨dK aX trivial,?_⟩
      refine bf (aA ⟨p.ags.length - (i+1),by omega,rfl,i+1,by omega,rfl,?_,?_,N1,M1,iy,aP,h2,h3,rfl⟩)
      ·simp only [aG,aD,go_sem,ak,sevalprocAttr]
      ·simp only [ht,go_sem,ak,sevalprocAttr,aC i (by omega)]
     ·simp +contextual only [go_sem,ak,sevalprocAttr,aD,ht,aF,y,y',w2,w3,kss,kss',gB]
      refine am (oz _ p.ags[i].x (Nat.le_refl _) (bS aP _ _ hax) (bS aP _ _ atf) N1) ?_ (fun _ _ _ _ h=>h.elim)
      rintro r M2 aX aQ rfl
      simp +contextual only [go_sem,ak,sevalprocAttr,aD,ht,aF,gB]
      repeat refine ⟨dK aX trivial,?_⟩
      refine bf (aA ⟨p.ags.length - (i+1),by omega,rfl,i+1,by omega,rfl,?_,?_,N1,M2,iy,aP.trans aX,aX _ _ h2,aX _ _ h3,rfl⟩)
      ·simp only [aG,aD,go_sem,ak,sevalprocAttr]
      ·simp only [ht,go_sem,ak,sevalprocAttr,aC i (by omega)]
    ·simp +contextual only [go_sem,ak,sevalprocAttr,aD,ht,aF,w2,w3,h]
     refine bA p.kids.length 157 [(2,.pointer (some ⟨b2,0,none⟩)),(3,.pointer (some ⟨b3,0,none⟩)),(156,.int .i64 (p.kids.length:Int))]
      (fun i e h=>∃ N' M',aH T3 N'/\bG M M'/\M' b2=some (pO p s1 (.slice a1 p.xs.length n1) (.slice a2 p.ags.length n2) (.slice a3 p.kids.length n3))/\M' b3=some (pO p s1' (.slice a1' p.xs.length n1') (.slice a2' p.ags.length n2') (.slice a3' p.kids.length n3'))/\h=⟨N',M',[],[]⟩)
      0 (by omega) (by simp only [aG,aD,go_sem,ak,sevalprocAttr]) (by simp only [go_sem,ak,sevalprocAttr]) (aA ⟨N1,M1,iy,aP,h2,h3,rfl⟩) ?_
     clear aD ht aF hi e w2 w3 h2 h3 aP iy M1 N1
     rintro i e h0 hi aD ht ⟨N1,M1,iy,aP,h2,h3,rfl⟩
     simp only [aG] at aD
     have w2:=fY (db h2)
     have w3:=fY (db h3)
     simp only [Nat.zero_add] at w2 w3
     by_cases aF:i<p.kids.length
     ·obtain ⟨b',o',xs,rfl,cC,eL⟩:=g3 i p.kids[i] (List.getElem?_eq_getElem aF)
      obtain ⟨b'',o'',xs',rfl,fA,gk⟩:=g3' i p.kids[i] (List.getElem?_eq_getElem aF)
      obtain ⟨c0,c1,c2,c3,c4,c5,c6,c7,c8,c9,c10,rfl,hc⟩:=bK eL
      obtain ⟨d0,d1,d2,d3,d4,d5,d6,d7,d8,d9,d10,rfl,hd⟩:=bK gk
      have y:=fY (cC.ext aP)
      have y':=fY (fA.ext aP)
      have x9:=ku (cC.ext aP)
      have x9':=ku (fA.ext aP)
      simp +contextual only [go_sem,ak,sevalprocAttr,aD,ht,aF]
      refine bq ?_
      simp +contextual only [go_sem,ak,sevalprocAttr,aD,ht,aF,y,y',x9,x9',w2,w3,hc,hd]
      refine am (ih p.kids[i] (EE i aF) (bO aP _ _ eL) (bO aP _ _ gk) N1) ?_ (fun _ _ _ _ h=>h.elim)
      rintro r M2 aX aQ rfl
      simp +contextual only [go_sem,ak,sevalprocAttr,aD,ht,aF]
      repeat refine ⟨dK aX trivial,?_⟩
      refine bf (aA ⟨p.kids.length - (i+1),by omega,rfl,i+1,by omega,rfl,?_,?_,N1,M2,iy,aP.trans aX,aX _ _ h2,aX _ _ h3,rfl⟩)
      ·simp only [aG,aD,go_sem,ak,sevalprocAttr]
      ·simp only [ht,go_sem,ak,sevalprocAttr,aC i (by omega)]
     ·simp +contextual only [go_sem,ak,sevalprocAttr,aD,ht,aF]
      exact az ((fu.trans fD).trans iy) rfl
  ·simp +contextual only [go_sem,ak,sevalprocAttr,eG,fh,eD,h,o1,o1']
   refine bA p.xs.length 83 [(2,.pointer (some ⟨b2,0,none⟩)),(3,.pointer (some ⟨b3,0,none⟩)),(82,.int .i64 (p.xs.length:Int))]
    (fun i e h=>∃ N' M',aH T3 N'/\bG M M'/\M' b2=some (pO p s1 (.slice a1 p.xs.length n1) (.slice a2 p.ags.length n2) (.slice a3 p.kids.length n3))/\M' b3=some (pO p s1' (.slice a1' p.xs.length n1') (.slice a2' p.ags.length n2') (.slice a3' p.kids.length n3'))/\h=⟨N',M',[],[]⟩)
    0 (by omega) (by simp only [aG,go_sem,ak,sevalprocAttr]) (by simp only [go_sem,ak,sevalprocAttr]) (aJ fun he h3 _=>aJ fun kC h2 _=>aA ⟨T3,_,aH.rfl',(bG.rfl').trans (he.trans kC),h2,kC _ _ h3,rfl⟩) ?_
   rintro i e h0 hi aD ht ⟨N1,M1,iy,aP,h2,h3,rfl⟩
   simp only [aG] at aD
   have w2:=fY (db h2)
   have w3:=fY (db h3)
   simp only [Nat.zero_add] at w2 w3
   by_cases aF:i<p.xs.length
   ·obtain ⟨b',o',xs,rfl,cC,eL⟩:=g1 i p.xs[i] (List.getElem?_eq_getElem aF)
    obtain ⟨b'',o'',xs',rfl,fA,gk⟩:=g1' i p.xs[i] (List.getElem?_eq_getElem aF)
    obtain ⟨s,rfl,kss,_⟩:=cg eL
    obtain ⟨s',rfl,kss',_⟩:=cg gk
    have y:=As (cC.ext aP)
    have y':=As (fA.ext aP)
    simp +contextual only [go_sem,ak,sevalprocAttr,aD,ht,aF]
    refine bq ?_
    simp +contextual only [go_sem,ak,sevalprocAttr,aD,ht,aF,y,y',w2,w3,kss,kss']
    refine am (oz _ p.xs[i] (Nat.le_refl _) (bS aP _ _ eL) (bS aP _ _ gk) N1) ?_ (fun _ _ _ _ h=>h.elim)
    rintro r M2 aX aQ rfl
    simp +contextual only [go_sem,ak,sevalprocAttr,aD,ht,aF]
    repeat refine ⟨dK aX trivial,?_⟩
    refine bf (aA ⟨p.xs.length - (i+1),by omega,rfl,i+1,by omega,rfl,?_,?_,N1,M2,iy,aP.trans aX,aX _ _ h2,aX _ _ h3,rfl⟩)
    ·simp only [aG,aD,go_sem,ak,sevalprocAttr]
    ·simp only [ht,go_sem,ak,sevalprocAttr,aC i (by omega)]
   ·simp +contextual only [go_sem,ak,sevalprocAttr,aD,ht,aF,w2,w3,h]
    refine bA p.kids.length 157 [(2,.pointer (some ⟨b2,0,none⟩)),(3,.pointer (some ⟨b3,0,none⟩)),(156,.int .i64 (p.kids.length:Int))]
     (fun i e h=>∃ N' M',aH T3 N'/\bG M M'/\M' b2=some (pO p s1 (.slice a1 p.xs.length n1) (.slice a2 p.ags.length n2) (.slice a3 p.kids.length n3))/\M' b3=some (pO p s1' (.slice a1' p.xs.length n1') (.slice a2' p.ags.length n2') (.slice a3' p.kids.length n3'))/\h=⟨N',M',[],[]⟩)
     0 (by omega) (by simp only [aG,aD,go_sem,ak,sevalprocAttr]) (by simp only [go_sem,ak,sevalprocAttr]) (aA ⟨N1,M1,iy,aP,h2,h3,rfl⟩) ?_
    clear aD ht aF hi e w2 w3 h2 h3 aP iy M1 N1
    rintro i e h0 hi aD ht ⟨N1,M1,iy,aP,h2,h3,rfl⟩
    simp only [aG] at aD
    have w2:=fY (db h2)
    have w3:=fY (db h3)
    simp only [Nat.zero_add] at w2 w3
    by_cases aF:i<p.kids.length
    ·obtain ⟨b',o',xs,rfl,cC,eL⟩:=g3 i p.kids[i] (List.getElem?_eq_getElem aF)
     obtain ⟨b'',o'',xs',rfl,fA,gk⟩:=g3' i p.kids[i] (List.getElem?_eq_getElem aF)
     obtain ⟨c0,c1,c2,c3,c4,c5,c6,c7,c8,c9,c10,rfl,hc⟩:=bK eL
     obtain ⟨d0,d1,d2,d3,d4,d5,d6,d7,d8,d9,d10,rfl,hd⟩:=bK gk
     have y:=fY (cC.ext aP)
     have y':=fY (fA.ext aP)
     have x9:=ku (cC.ext aP)
     have x9':=ku (fA.ext aP)
     simp +contextual only [go_sem,ak,sevalprocAttr,aD,ht,aF]
     refine bq ?_
     simp +contextual only [go_sem,ak,sevalprocAttr,aD,ht,aF,y,y',x9,x9',w2,w3,hc,hd]
     refine am (ih p.kids[i] (EE i aF) (bO aP _ _ eL) (bO aP _ _ gk) N1) ?_ (fun _ _ _ _ h=>h.elim)
     rintro r M2 aX aQ rfl
     simp +contextual only [go_sem,ak,sevalprocAttr,aD,ht,aF]
     repeat refine ⟨dK aX trivial,?_⟩
     refine bf (aA ⟨p.kids.length - (i+1),by omega,rfl,i+1,by omega,rfl,?_,?_,N1,M2,iy,aP.trans aX,aX _ _ h2,aX _ _ h3,rfl⟩)
     ·simp only [aG,aD,go_sem,ak,sevalprocAttr]
     ·simp only [ht,go_sem,ak,sevalprocAttr,aC i (by omega)]
    ·simp +contextual only [go_sem,ak,sevalprocAttr,aD,ht,aF]
     exact az ((fu.trans fD).trans iy) rfl
  ·simp +contextual only [go_sem,ak,sevalprocAttr,eG,fh,eD,h,o1,o1']
   refine bA p.kids.length 157 [(2,.pointer (some ⟨b2,0,none⟩)),(3,.pointer (some ⟨b3,0,none⟩)),(156,.int .i64 (p.kids.length:Int))]
    (fun i e h=>∃ N' M',aH T3 N'/\bG M M'/\M' b2=some (pO p s1 (.slice a1 p.xs.length n1) (.slice a2 p.ags.length n2) (.slice a3 p.kids.length n3))/\M' b3=some (pO p s1' (.slice a1' p.xs.length n1') (.slice a2' p.ags.length n2') (.slice a3' p.kids.length n3'))/\h=⟨N',M',[],[]⟩)
    0 (by omega) (by simp only [aG,go_sem,ak,sevalprocAttr]) (by simp only [go_sem,ak,sevalprocAttr]) (aJ fun he h3 _=>aJ fun kC h2 _=>aA ⟨T3,_,aH.rfl',(bG.rfl').trans (he.trans kC),h2,kC _ _ h3,rfl⟩) ?_
   rintro i e h0 hi aD ht ⟨N1,M1,iy,aP,h2,h3,rfl⟩
   simp only [aG] at aD
   have w2:=fY (db h2)
   have w3:=fY (db h3)
   simp only [Nat.zero_add] at w2 w3
   by_cases aF:i<p.kids.length
   ·obtain ⟨b',o',xs,rfl,cC,eL⟩:=g3 i p.kids[i] (List.getElem?_eq_getElem aF)
    obtain ⟨b'',o'',xs',rfl,fA,gk⟩:=g3' i p.kids[i] (List.getElem?_eq_getElem aF)
    obtain ⟨c0,c1,c2,c3,c4,c5,c6,c7,c8,c9,c10,rfl,hc⟩:=bK eL
    obtain ⟨d0,d1,d2,d3,d4,d5,d6,d7,d8,d9,d10,rfl,hd⟩:=bK gk
    have y:=fY (cC.ext aP)
    have y':=fY (fA.ext aP)
    have x9:=ku (cC.ext aP)
    have x9':=ku (fA.ext aP)
    simp +contextual only [go_sem,ak,sevalprocAttr,aD,ht,aF]
    refine bq ?_
    simp +contextual only [go_sem,ak,sevalprocAttr,aD,ht,aF,y,y',x9,x9',w2,w3,hc,hd]
    refine am (ih p.kids[i] (EE i aF) (bO aP _ _ eL) (bO aP _ _ gk) N1) ?_ (fun _ _ _ _ h=>h.elim)
    rintro r M2 aX aQ rfl
    simp +contextual only [go_sem,ak,sevalprocAttr,aD,ht,aF]
    repeat refine ⟨dK aX trivial,?_⟩
    refine bf (aA ⟨p.kids.length - (i+1),by omega,rfl,i+1,by omega,rfl,?_,?_,N1,M2,iy,aP.trans aX,aX _ _ h2,aX _ _ h3,rfl⟩)
    ·simp only [aG,aD,go_sem,ak,sevalprocAttr]
    ·simp only [ht,go_sem,ak,sevalprocAttr,aC i (by omega)]
   ·simp +contextual only [go_sem,ak,sevalprocAttr,aD,ht,aF]
    exact az ((fu.trans fD).trans iy) rfl
  ·simp +contextual only [go_sem,ak,sevalprocAttr,eG,fh,eD,h,o1,o1']
   refine bA p.kids.length 157 [(2,.pointer (some ⟨b2,0,none⟩)),(3,.pointer (some ⟨b3,0,none⟩)),(156,.int .i64 (p.kids.length:Int))]
    (fun i e h=>∃ N' M',aH T3 N'/\bG M M'/\M' b2=some (pO p s1 (.slice a1 p.xs.length n1) (.slice a2 p.ags.length n2) (.slice a3 p.kids.length n3))/\M' b3=some (pO p s1' (.slice a1' p.xs.length n1') (.slice a2' p.ags.length n2') (.slice a3' p.kids.length n3'))/\h=⟨N',M',[],[]⟩)
    0 (by omega) (by simp only [aG,go_sem,ak,sevalprocAttr]) (by simp only [go_sem,ak,sevalprocAttr]) (aJ fun he h3 _=>aJ fun kC h2 _=>aA ⟨T3,_,aH.rfl',(bG.rfl').trans (he.trans kC),h2,kC _ _ h3,rfl⟩) ?_
   rintro i e h0 hi aD ht ⟨N1,M1,iy,aP,h2,h3,rfl⟩
   simp only [aG] at aD
   have w2:=fY (db h2)
   have w3:=fY (db h3)
   simp only [Nat.zero_add] at w2 w3
   by_cases aF:i<p.kids.length
   ·obtain ⟨b',o',xs,rfl,cC,eL⟩:=g3 i p.kids[i] (List.getElem?_eq_getElem aF)
    obtain ⟨b'',o'',xs',rfl,fA,gk⟩:=g3' i p.kids[i] (List.getElem?_eq_getElem aF)
    obtain ⟨c0,c1,c2,c3,c4,c5,c6,c7,c8,c9,c10,rfl,hc⟩:=bK eL
    obtain ⟨d0,d1,d2,d3,d4,d5,d6,d7,d8,d9,d10,rfl,hd⟩:=bK gk
    have y:=fY (cC.ext aP)
    have y':=fY (fA.ext aP)
    have x9:=ku (cC.ext aP)
    have x9':=ku (fA.ext aP)
    simp +contextual only [go_sem,ak,sevalprocAttr,aD,ht,aF]
    refine bq ?_
    simp +contextual only [go_sem,ak,sevalprocAttr,aD,ht,aF,y,y',x9,x9',w2,w3,hc,hd]
    refine am (ih p.kids[i] (EE i aF) (bO aP _ _ eL) (bO aP _ _ gk) N1) ?_ (fun _ _ _ _ h=>h.elim)
    rintro r M2 aX aQ rfl
    simp +contextual only [go_sem,ak,sevalprocAttr,aD,ht,aF]
    repeat refine ⟨dK aX trivial,?_⟩
    refine bf (aA ⟨p.kids.length - (i+1),by omega,rfl,i+1,by omega,rfl,?_,?_,N1,M2,iy,aP.trans aX,aX _ _ h2,aX _ _ h3,rfl⟩)
    ·simp only [aG,aD,go_sem,ak,sevalprocAttr]
    ·simp only [ht,go_sem,ak,sevalprocAttr,aC i (by omega)]
   ·simp +contextual only [go_sem,ak,sevalprocAttr,aD,ht,aF]
    exact az ((fu.trans fD).trans iy) rfl
def uN (rels:List Rel)(r:Rel):Prop:=(∀ c∈r.cols,1<=c.ty/\c.ty<=4)/\(r.view=true ->kQ (cA rels) r.plan=.ok (r.cols.map (·.ty)))
def Dt (rels:List Rel):Prop:=(∀ r∈rels,uN rels r)/\(cA rels).length<=8
set_option maxHeartbeats 4000000 in
theorem SE {M:aV}{rels:List Rel}{rv:Value}(hr:RS M (qH M) 14 rels rv)(bQ:rels.length<=1048576)(gy:∀ r∈rels,r.cols.length<=1048576)(T:Tm):
 ep Tryz.prog 9 [rv] T M [] [] (fun r _ _ _=>∃ b,r=.bool b/\(b=true ->Dt rels)) bj:=by
 have J4:=hr
 obtain ⟨lh,ra,rc,rfl,jo,_,hg⟩:=aI (by decide) (fun _ _=>jf) hr
 refine aT mx as3 Tryz.func9 rfl (by rw [nt9];exact Nat.le_of_ble_eq_true rfl) (dr:=dr9) (by kernel_rfl) rs9 ?_
 intro bN _
 simp +contextual only [go_sem,ak,sevalprocAttr]
 refine am (Eu J4 bQ gy T) ?_ (fun _ _ _ _ h=>h.elim)
 rintro tv M0 hM0 NQ SL
 obtain ⟨Fg,ta,tc,rfl,_⟩:=aI (by decide) (fun _ _=>jD) SL
 simp +contextual only [go_sem,ak,sevalprocAttr]
 refine bh rels.length 15 [(3,.slice ta (cA rels).length tc),(13,.slice ra rels.length rc),(14,.int .i64 (rels.length:Int))]
  (fun i e h=>∃ N' M',aH T N'/\bG M0 M'/\(∀ (j:Nat) (hj:j<rels.length),j<i ->uN rels rels[j])/\h=⟨N',M',[],[]⟩)
  0 (by omega) (by simp only [aG,go_sem,ak,sevalprocAttr]) (by simp only [go_sem,ak,sevalprocAttr]) ⟨T,M0,aH.rfl',bG.rfl',fun j _ h=>by omega,rfl⟩ ?_
 rintro i e h hi aD ht ⟨N1,M1,iy,aP,qk,rfl⟩
 simp only [aG] at aD
 by_cases aF:i<rels.length
 ·obtain ⟨b',o',cs',rfl,cC,eL⟩:=hg i rels[i] (List.getElem?_eq_getElem aF)
  obtain ⟨ca,cn,s1,a1,n1,a2,n2,a3,n3,rfl,gH,gU,py⟩:=ln (gb (hM0.trans aP) _ _ eL)
  obtain ⟨hcb,_,UF⟩:rels[i].cols.length*2<=4398046511104/\rels[i].cols.length<=cn/\∀ (j:Nat) (x:Co),rels[i].cols[j]?=some x ->∃ b o cs,ca=some ⟨b,o,none⟩/\At M1 b (o+j*2) cs/\uE x cs:=by
   obtain ⟨h1,a',c',h2,h3,_,h4⟩:=aI (by decide) (fun _ _=>ge) gU
   injection h2 with h5 h6 h7
   subst h5 h7
   exact ⟨h1,h3,h4⟩
  have y:=Ou (cC.ext (hM0.trans aP))
  simp +contextual only [go_sem,ak,sevalprocAttr,aD,ht,aF,y,gH]
  intro b5 T5 jH tG zk
  have Lu:=iy.trans tG
  refine bA rels[i].cols.length 22 [(3,.slice ta (cA rels).length tc),(5,.pointer (some ⟨b5,0,none⟩)),(13,.slice (some ⟨b',o',none⟩) rels.length rc),(14,.int .i64 (rels.length:Int)),(15,.int .i64 (i:Int)),(20,.slice ca rels[i].cols.length cn),(21,.int .i64 (rels[i].cols.length:Int))]
   (fun j e h=>∃ N' M',aH T5 N'/\bG M1 M'/\M' b5=some [st rels[i].name,.slice ca rels[i].cols.length cn,.bool rels[i].view,.int .i64 rels[i].plan.k,.int .i64 rels[i].plan.n,.int .i64 rels[i].plan.x.k,.int .i64 rels[i].plan.x.v.k,.int .i64 rels[i].plan.x.v.n,st rels[i].plan.x.v.t,.int .i64 rels[i].plan.x.c,s1,.slice a1 rels[i].plan.xs.length n1,.slice a2 rels[i].plan.ags.length n2,.slice a3 rels[i].plan.kids.length n3]/\(∀ (j':Nat) (hj:j'<rels[i].cols.length),j'<j ->1<=rels[i].cols[j'].ty/\rels[i].cols[j'].ty<=4)/\h=⟨N',M',[],[]⟩)
   0 (by omega) (by simp only [aG,aD,ht,go_sem,ak,sevalprocAttr]) (by simp only [go_sem,ak,sevalprocAttr]) (aJ fun he h5 _=>aA ⟨T5,_,aH.rfl',he,h5,fun j' _ h=>by omega,rfl⟩) ?_
  clear aD ht
  rintro j e h hj aD ht ⟨N2,M2,CG,aX,h5,ni,rfl⟩
  simp only [aG] at aD
  have w:=Ou (db h5)
  simp only [Nat.zero_add] at w
  by_cases Km:j<rels[i].cols.length
  ·obtain ⟨b'',o'',cs'',rfl,C5,D9⟩:=UF j rels[i].cols[j] (List.getElem?_eq_getElem Km)
   unfold uE at D9;subst D9
   obtain ⟨x0,x1⟩:=SN (C5.ext aX)
   simp +contextual only [go_sem,ak,sevalprocAttr,aD,ht,Km,x0,x1]
   intro b7 T7 km B6 Ol
   by_cases hA:rels[i].cols[j].ty<1
   ·simp +contextual only [go_sem,ak,sevalprocAttr,aD,ht,Km,km,hA]
    exact al (az (Lu.trans (CG.trans B6)) ⟨false,rfl,fun h=>by cases h⟩)
   ·by_cases hB:4<rels[i].cols[j].ty
    ·simp +contextual only [go_sem,ak,sevalprocAttr,aD,ht,Km,km,hA,hB]
     exact al (az (Lu.trans (CG.trans B6)) ⟨false,rfl,fun h=>by cases h⟩)
    ·simp +contextual only [go_sem,ak,sevalprocAttr,aD,ht,Km,km,hA,hB]
     refine bf (al (aA ⟨rels[i].cols.length - (j+1),by omega,rfl,j+1,by omega,rfl,?_,?_,T7,M2,CG.trans B6,aX,h5,?_,rfl⟩))
     ·simp only [aG,aD,go_sem,ak,sevalprocAttr]
     ·simp only [ht,go_sem,ak,sevalprocAttr,aC j (by omega)]
     ·intro j' K7 pS
      rcases Nat.lt_or_ge j' j with h1 | h1
      ·exact ni j' K7 h1
      ·have:j'=j:=by omega
       subst this
       omega
  ·have:j=rels[i].cols.length:=by omega
   subst this
   have aiT:∀ c∈rels[i].cols,1<=c.ty/\c.ty<=4:=by
    intro c hc
    obtain ⟨j',K7,rfl⟩:=List.getElem_of_mem hc
    exact ni j' K7 K7
   have Zp:uN rels rels[i] ->∀ (j:Nat) (hj:j<rels.length),j<i+1 ->uN rels rels[j]:=by
    intro G3 j hj pS
    rcases Nat.lt_or_ge j i with h1 | h1
    ·exact qk j hj h1
    ·have:j=i:=by omega
     subst this
     exact G3
   cases hV:rels[i].view with
   | false=>
    simp +contextual only [go_sem,ak,sevalprocAttr,aD,ht,Km,w,hV]
    refine bf (aA ⟨rels.length - (i+1),by omega,rfl,i+1,by omega,rfl,?_,?_,N2,M2,Lu.trans CG,aP.trans aX,Zp ⟨aiT,fun h=>by rw [hV] at h;cases h⟩,rfl⟩)
    ·simp only [aG,aD,go_sem,ak,sevalprocAttr]
    ·simp only [aD,go_sem,ak,sevalprocAttr,aC i (by omega)]
   | true=>
    simp +contextual only [go_sem,ak,sevalprocAttr,aD,ht,Km,w,hV,gH]
    refine am (J9 (aN (aP.trans aX) (ms (aP.trans aX)) SL) (bO aX _ _ py) N2) ?_ (fun _ _ _ _ h=>h.elim)
    rintro r M3 bD aZ ON
    obtain ⟨sv,er,rfl⟩:=lq ON
    replace h5:=bD _ _ h5
    replace w:=Ou (db h5)
    simp only [Nat.zero_add] at w
    have fD:=Lu.trans CG
    cases OD:kQ (cA rels) rels[i].plan with
    | error er2=>
     rw [OD] at ON
     obtain ⟨Jj,sv2,tW⟩:=ON
     injection tW with tW
     simp only [Array.mk.injEq,List.cons.injEq,and_true,Value.int.injEq,true_and] at tW
     obtain ⟨rfl,rfl⟩:=tW
     simp +contextual only [go_sem,ak,sevalprocAttr,aD,w,Jj]
     exact az fD ⟨false,rfl,fun h=>by cases h⟩
    | ok t=>
     rw [OD] at ON
     obtain ⟨sv2,tW,OF⟩:=ON
     injection tW with tW
     simp only [Array.mk.injEq,List.cons.injEq,and_true,Value.int.injEq,true_and] at tW
     obtain ⟨rfl,rfl⟩:=tW
     obtain ⟨awX,wa,wc,rfl,_,_,htg⟩:=aI (by decide) (fun _ _=>cW) OF
     by_cases hl:t.length=rels[i].cols.length
     ·simp +contextual only [go_sem,ak,sevalprocAttr,aD,w,hl]
      refine bh rels[i].cols.length 57 [(3,.slice ta (cA rels).length tc),(5,.pointer (some ⟨b5,0,none⟩)),(13,.slice (some ⟨b',o',none⟩) rels.length rc),(14,.int .i64 (rels.length:Int)),(15,.int .i64 (i:Int)),(8,.slice wa rels[i].cols.length wc),(56,.int .i64 (rels[i].cols.length:Int))]
       (fun j e h=>(∀ (j':Nat) (hj:j'<rels[i].cols.length),j'<j ->t[j']?=some rels[i].cols[j'].ty)/\h=⟨N2,M3,[],[]⟩)
       0 (by omega) (by simp only [aG,aD,hl,go_sem,ak,sevalprocAttr]) (by simp only [go_sem,ak,sevalprocAttr]) ⟨fun j' _ h=>by omega,rfl⟩ ?_
      clear aD ht Km hj e
      rintro j e h hj aD ht ⟨hcm,rfl⟩
      simp only [aG] at aD
      by_cases Km:j<rels[i].cols.length
      ·obtain ⟨b'',o'',cs'',rfl,C5,D9⟩:=UF j rels[i].cols[j] (List.getElem?_eq_getElem Km)
       unfold uE at D9;subst D9
       obtain ⟨x0,x1⟩:=SN (C5.ext (aX.trans bD))
       have Ad:j<t.length:=by omega
       obtain ⟨bt,ot,ctt,rfl,acT,K0⟩:=htg j t[j] (List.getElem?_eq_getElem Ad)
       unfold RI at K0;subst K0
       have w0:=Bu acT
       rw [Nat.mul_one] at w0
       simp +contextual only [go_sem,ak,sevalprocAttr,aD,ht,Km]
       refine bq ?_
       by_cases he:t[j]=rels[i].cols[j].ty
       ·simp +contextual only [go_sem,ak,sevalprocAttr,aD,ht,Km,x0,x1,w0,w,he]
        refine bf (aA ⟨rels[i].cols.length - (j+1),by omega,rfl,j+1,by omega,rfl,?_,?_,?_,rfl⟩)
        ·simp only [aG,aD,go_sem,ak,sevalprocAttr]
        ·simp only [ht,go_sem,ak,sevalprocAttr,aC j (by omega)]
        ·intro j' K7 pS
         rcases Nat.lt_or_ge j' j with h1 | h1
         ·exact hcm j' K7 h1
         ·have:j'=j:=by omega
          subst this
          rw [List.getElem?_eq_getElem Ad,he]
       ·simp +contextual only [go_sem,ak,sevalprocAttr,aD,ht,Km,x0,x1,w0,w,he]
        exact az fD ⟨false,rfl,fun h=>by cases h⟩
      ·have:j=rels[i].cols.length:=by omega
       subst this
       have htt:t=rels[i].cols.map (·.ty):=by
        apply List.ext_getElem?
        intro j
        rcases Nat.lt_or_ge j rels[i].cols.length with h1 | h1
        ·rw [hcm j h1 h1,List.getElem?_map,List.getElem?_eq_getElem h1];rfl
        ·rw [List.getElem?_eq_none (by omega),List.getElem?_eq_none (by rw [List.length_map];exact h1)]
       simp +contextual only [go_sem,ak,sevalprocAttr,aD,ht,Km]
       refine bf (aA ⟨rels.length - (i+1),by omega,rfl,i+1,by omega,rfl,?_,?_,N2,M3,fD,(aP.trans aX).trans bD,Zp ⟨aiT,fun _=>by rw [OD,htt]⟩,rfl⟩)
       ·simp only [aG,aD,go_sem,ak,sevalprocAttr]
       ·simp only [aD,go_sem,ak,sevalprocAttr,aC i (by omega)]
     ·have ns:¬ ((t.length:Int)=(rels[i].cols.length:Int)):=by omega
      simp +contextual only [go_sem,ak,sevalprocAttr,aD,w,ns]
      exact az fD ⟨false,rfl,fun h=>by cases h⟩
 ·have:i=rels.length:=by omega
  subst this
  simp +contextual only [go_sem,ak,sevalprocAttr,aD,ht,aF]
  refine az iy ⟨_,rfl,fun h=>⟨fun r hr=> ?_,by have h2:=of_decide_eq_true h;omega⟩⟩
  obtain ⟨j,hj,rfl⟩:=List.getElem_of_mem hr
  exact qk j hj hj
def rS {α:Type}(r:Except Int α)(v:α×Int):Prop:=match r with
 | .ok y=>v=(y,0)
 | .error e=>e≠0/\v.2=e
theorem ru {e f:Int}(h:e≠0):ql e f=e:=by unfold ql;rw [if_neg h]
theorem mz (f:Int):ql 0 f=f:=by unfold ql;rw [if_pos rfl]
theorem HQ (names:List (Bs×Bs))(tab name:Bs):(∃ i:Nat,l6 names tab name=.ok i/\yf names tab name=i)\/(l6 names tab name=.error 7/\yf names tab name= -1):=by
 unfold l6 yf
 cases lZ tab name 0 none names with
 | none=>exact .inr ⟨rfl,rfl⟩
 | some k=>
  cases k with
  | none=>exact .inr ⟨rfl,rfl⟩
  | some i=>exact .inl ⟨i,rfl,rfl⟩
mutual
theorem jX (names:List (Bs×Bs)):∀ (x:X),rS (iH names x) (me names x 0)/\∀ e,e≠0 ->(me names x e).2=e
 | .mk k v tab name kids=>by
  obtain ⟨h1,h2⟩:=lS names kids
  constructor
  ·rw [iH,me]
   by_cases nd:19<=k
   ·rw [if_pos nd,if_pos nd,mz];exact ⟨by decide,rfl⟩
   ·rw [if_neg nd,if_neg nd]
    by_cases jY:k=2
    ·rw [if_pos jY,if_pos jY]
     rcases HQ names tab name with ⟨i,ha,hb⟩ | ⟨ha,hb⟩
     ·rw [ha,hb,if_neg (by omega)];rfl
     ·rw [ha,hb,if_pos (by decide),mz];exact ⟨by decide,rfl⟩
    ·rw [if_neg jY,if_neg jY]
     by_cases gB:k=1
     ·rw [if_pos gB,if_pos gB];subst gB;rfl
     ·rw [if_neg gB,if_neg gB]
      revert h1
      cases cI names kids with
      | ok l=>intro h1;unfold rS at h1;simp only at h1;rw [h1];rfl
      | error e=>intro h1;exact h1
  ·intro e he
   rw [me]
   by_cases nd:19<=k
   ·rw [if_pos nd];exact ru he
   ·rw [if_neg nd]
    by_cases jY:k=2
    ·rw [if_pos jY]
     simp only
     split
     ·exact ru he
     ·rfl
    ·rw [if_neg jY]
     by_cases gB:k=1
     ·rw [if_pos gB]
     ·rw [if_neg gB];exact h2 e he
theorem lS (names:List (Bs×Bs)):∀ (l:List X),rS (cI names l) (jm names l 0)/\∀ e,e≠0 ->(jm names l e).2=e
 | []=>⟨by rw [cI,jm];rfl,fun e he=>by rw [jm]⟩
 | x::l=>by
  obtain ⟨h1,h2⟩:=jX names x
  obtain ⟨h3,h4⟩:=lS names l
  constructor
  ·rw [cI,jm]
   revert h1
   cases iH names x with
   | error e=>intro h1;exact ⟨h1.1,by simp only;rw [h1.2];exact h4 e h1.1⟩
   | ok y=>
    intro h1
    unfold rS at h1
    simp only at h1
    rw [h1]
    simp only
    revert h3
    cases cI names l with
    | error e=>intro h3;exact h3
    | ok m=>intro h3;unfold rS at h3;simp only at h3;rw [h3];rfl
  ·intro e he
   rw [jm]
   simp only
   rw [h2 e he];exact h4 e he
end
theorem oK {α:Type}[DecidableEq α](a b:α):decide (a=b)=decide (b=a):=by
 by_cases h:a=b
 ·subst h;rfl
 ·rw [decide_eq_false h,decide_eq_false (fun h2=>h h2.symm)]
theorem Ij (a b:V):rZ a b=rZ b a:=by unfold rZ;rw [oK a.k,oK a.n,oK a.t]
mutual
theorem wq:∀ (x y:X),fp x y=fp y x
 | .mk k v tab name kids,.mk k' v' tab' name' kids'=>by
  rw [fp,fp,oK k k',oK tab tab',oK name name',Ij,vV kids kids']
  by_cases h:k'=k
  ·subst h;rfl
  ·rw [decide_eq_false h];rfl
theorem vV:∀ (l m:List X),fH l m=fH m l
 | [],[]=>rfl
 | [],y::m=>by rw [fH,fH]<;>simp
 | x::l,[]=>by rw [fH,fH]<;>simp
 | x::l,y::m=>by rw [fH,fH,wq x y,vV l m]
end
def FR {α:Type}(r:Except Int (α×List Ag))(v:α×Int×List Ag):Prop:=match r with
 | .ok y=>v=(y.1,0,y.2)
 | .error e=>e≠0/\v.2.1=e
theorem BC (names:List (Bs×Bs))(kids:List X):rS (wN names kids) (Wb names kids 0)/\∀ e,e≠0 ->(Wb names kids e).2=e:=by
 cases kids with
 | nil=>exact ⟨rfl,fun _ _=>rfl⟩
 | cons x l=>exact jX names x
mutual
theorem sI (names:List (Bs×Bs))(bd:List X):∀ (x:X),(∀ ags,FR (kR names bd x ags) (qL names bd x 0 ags))/\∀ e ags,e≠0 ->(qL names bd x e ags).2.1=e
 | .mk k v tab name kids=>by
  obtain ⟨h1,h2⟩:=qe names bd kids
  have hp:(fun y=>fp y (.mk k v tab name kids))=fun y=>fp (.mk k v tab name kids) y:=by funext y;exact wq _ _
  constructor
  ·intro ags
   rw [kR,qL,hp]
   cases bd.findIdx? (fun y=>fp (.mk k v tab name kids) y) with
   | some i=>rfl
   | none=>
    simp only
    by_cases nd:19<=k
    ·rw [if_pos nd,if_pos nd]
     have ha:=(BC names kids).1
     revert ha
     cases wN names kids with
     | ok a=>intro ha;unfold rS at ha;simp only at ha;rw [ha];rfl
     | error e=>intro ha;exact ⟨ha.1,ha.2⟩
    ·rw [if_neg nd,if_neg nd]
     by_cases jY:k=2
     ·rw [if_pos jY,if_pos jY,mz];exact ⟨by decide,rfl⟩
     ·rw [if_neg jY,if_neg jY]
      by_cases gB:k=1
      ·rw [if_pos gB,if_pos gB];subst gB;rfl
      ·rw [if_neg gB,if_neg gB]
       have h3:=h1 ags
       revert h3
       cases dq names bd kids ags with
       | ok l=>intro h3;unfold FR at h3;simp only at h3;rw [h3];rfl
       | error e=>intro h3;exact h3
  ·intro e ags he
   rw [qL]
   cases bd.findIdx? (fun y=>fp y (.mk k v tab name kids)) with
   | some i=>rfl
   | none=>
    simp only
    by_cases nd:19<=k
    ·rw [if_pos nd];exact (BC names kids).2 e he
    ·rw [if_neg nd]
     by_cases jY:k=2
     ·rw [if_pos jY];exact ru he
     ·rw [if_neg jY]
      by_cases gB:k=1
      ·rw [if_pos gB]
      ·rw [if_neg gB];exact h2 e ags he
theorem qe (names:List (Bs×Bs))(bd:List X):∀ (l:List X),(∀ ags,FR (dq names bd l ags) (kX names bd l 0 ags))/\∀ e ags,e≠0 ->(kX names bd l e ags).2.1=e
 | []=>⟨fun ags=>by rw [dq,kX];rfl,fun e ags he=>by rw [kX]⟩
 | x::l=>by
  obtain ⟨h1,h2⟩:=sI names bd x
  obtain ⟨h3,h4⟩:=qe names bd l
  constructor
  ·intro ags
   rw [dq,kX]
   have h5:=h1 ags
   revert h5
   cases kR names bd x ags with
   | error e=>intro h5;exact ⟨h5.1,by simp only;rw [h5.2];exact h4 e _ h5.1⟩
   | ok y=>
    intro h5
    unfold FR at h5
    simp only at h5
    rw [h5]
    simp only
    have h6:=h3 y.2
    revert h6
    cases dq names bd l y.2 with
    | error e=>intro h6;exact h6
    | ok m=>intro h6;unfold FR at h6;simp only at h6;rw [h6];rfl
  ·intro e ags he
   rw [kX]
   simp only
   rw [h2 e ags he];exact h4 e _ he
end
def gx:List Bs ->Bs
 | []=>[]
 | b::l=>l9 b++gx l
theorem BJ:∀ (l:List Bs) (x:Bs),gx (l++[x])=gx l++l9 x
 | [],x=>by simp [gx]
 | b::l,x=>by rw [List.cons_append,gx,gx,BJ l x,List.append_assoc]
theorem Kj {F:Bs}:∀ {a b:Bs},124∉a ->124∉b ->a++[124]<+:b++124::F ->a=b
 | [],[],_,_,_=>rfl
 | [],y::b,_,hb,h=>by
  rw [List.nil_append,List.cons_append,List.cons_prefix_cons] at h
  exact (hb (by rw [h.1];exact List.mem_cons_self)).elim
 | x::a,[],ha,_,h=>by
  rw [List.nil_append,List.cons_append,List.cons_prefix_cons] at h
  exact (ha (by rw [h.1];exact List.mem_cons_self)).elim
 | x::a,y::b,ha,hb,h=>by
  rw [List.cons_append,List.cons_append,List.cons_prefix_cons] at h
  rw [h.1,Kj (fun h2=>ha (List.mem_cons_of_mem _ h2)) (fun h2=>hb (List.mem_cons_of_mem _ h2)) h.2]
theorem Wk {a:Bs}(ha:124∉a)(h0:a≠[])(had:List Bs):¬ a++[124]<+:gx had:=by
 intro h
 cases a with
 | nil=>exact h0 rfl
 | cons x a=>
  cases had with
  | nil=>rw [gx,List.cons_append] at h;exact absurd (List.prefix_nil.1 h) (by simp)
  | cons b had=>
   rw [gx,l9,List.cons_append,List.append_assoc,List.cons_append,List.cons_append,List.cons_prefix_cons] at h
   exact ha (by rw [h.1];exact List.mem_cons_self)
theorem Be {a:Bs}(ha:124∉a)(h0:a≠[])(had:List Bs):∀ (b:Bs) (k:Nat),124∉b ->l9 a<+:(b++124::gx had).drop k ->∃ k',l9 a<+:(gx had).drop k'
 | [],0,_,h=>by
  rw [List.drop_zero,List.nil_append,l9,List.cons_append,List.cons_append,List.nil_append,List.cons_prefix_cons] at h
  exact (Wk ha h0 had h.2).elim
 | [],k+1,_,h=>⟨k,h⟩
 | y::b,0,hb,h=>by
  rw [List.drop_zero,l9,List.cons_append,List.cons_append,List.cons_append,List.cons_prefix_cons] at h
  exact (hb (by rw [h.1];exact List.mem_cons_self)).elim
 | y::b,k+1,hb,h=>Be ha h0 had b k (fun h2=>hb (List.mem_cons_of_mem _ h2)) h
theorem EQ {a:Bs}(ha:124∉a)(h0:a≠[]):∀ (had:List Bs) (k:Nat),(∀ b∈had,124∉b) ->l9 a<+:(gx had).drop k ->a∈had
 | [],k,_,h=>by
  rw [gx,List.drop_nil] at h
  exact absurd (List.prefix_nil.1 h) (by simp [l9])
 | b::had,0,hb,h=>by
  have e1:gx (b::had)=124::(b++124::gx had):=by
   rw [gx,l9,List.append_assoc,List.append_assoc];rfl
  rw [List.drop_zero,e1,show l9 a=124::(a++[124]) from rfl,List.cons_prefix_cons] at h
  have h2:=h.2
  rw [Kj ha (hb b List.mem_cons_self) h2]
  exact List.mem_cons_self
 | b::had,k+1,hb,h=>by
  have h2:l9 a<+:(b++124::gx had).drop k:=by
   have e1:gx (b::had)=124::(b++124::gx had):=by
    rw [gx,l9,List.append_assoc,List.append_assoc];rfl
   rw [e1,List.drop_succ_cons] at h
   exact h
  obtain ⟨k',h3⟩:=Be ha h0 had b k (hb b List.mem_cons_self) h2
  exact List.mem_cons_of_mem _ (EQ ha h0 had k' (fun c hc=>hb c (List.mem_cons_of_mem _ hc)) h3)
theorem Ge {a:Bs}:∀ (had:List Bs),a∈had ->∃ k,l9 a<+:(gx had).drop k
 | b::had,h=>by
  rcases List.mem_cons.1 h with rfl | h
  ·exact ⟨0,by rw [List.drop_zero,gx];exact List.prefix_append _ _⟩
  ·obtain ⟨k,hk⟩:=Ge had h
   exact ⟨(l9 b).length+k,by rw [gx,List.drop_append,List.drop_eq_nil_of_le (by omega),Nat.add_sub_cancel_left,List.nil_append];exact hk⟩
theorem S0 {ib pat:Bs}(hp:pat≠[]):Jf ib pat=true ↔ ∃ k,pat<+:ib.drop k:=by
 unfold Jf ahb
 rw [List.any_eq_true]
 constructor
 ·rintro ⟨k,_,h⟩
  exact ⟨k,List.prefix_iff_eq_take.2 (of_decide_eq_true h).symm⟩
 ·rintro ⟨k,h⟩
  refine ⟨k,?_,decide_eq_true (List.prefix_iff_eq_take.1 h).symm⟩
  have h2:=h.length_le
  rw [List.length_drop] at h2
  have h3:0<pat.length:=List.length_pos_iff.2 hp
  rw [List.mem_range];omega
theorem W3 {a:Bs}{had:List Bs}(ha:124∉a)(h0:a≠[])(hb:∀ b∈had,124∉b):Jf (gx had) (l9 a)=had.contains a:=by
 rw [Bool.eq_iff_iff,S0 (by simp [l9]),List.contains_iff_mem]
 exact ⟨fun ⟨k,h⟩=>EQ ha h0 had k hb h,Ge had⟩
def ua (a:Bs):Prop:=124∉a/\a≠[]
theorem lj {rels:List Rel}:∀ (l:List So) (i:Nat) (p:Pl) (names:List (Bs×Bs)) (had:List Bs),(∀ s∈l,ua (dB s)) ->(∀ b∈had,ua b) ->
 rS (iB rels l i p names had) (nT rels l i p names (gx had) 0)/\∀ ib e,e≠0 ->(nT rels l i p names ib e).2=e
 | [],i,p,names,had,_,_=>⟨by rw [iB,nT];rfl,fun ib e he=>by rw [nT]⟩
 | s::l,i,p,names,had,hl,hh=>by
  have hs:=hl s List.mem_cons_self
  have ns:∀ x∈l,ua (dB x):=fun x hx=>hl x (List.mem_cons_of_mem _ hx)
  have hh':∀ b∈had++[dB s],ua b:=by
   intro b hb
   rcases List.mem_append.1 hb with h | h
   ·exact hh b h
   ·rw [List.mem_singleton.1 h];exact hs
  have ahT:∀ ib e,e≠0 ->(nT rels (s::l) i p names ib e).2=e:=by
   intro ib e he
   rw [yM rels s l i p names ib e rfl rfl rfl rfl]
   have e1:(if (kN s.name 0 rels).isSome=true then e else ql e 7)=e:=by split;rfl;exact ru he
   have e2:(if Jf ib (l9 (dB s))=true then ql (if (kN s.name 0 rels).isSome=true then e else ql e 7) 7 else if (kN s.name 0 rels).isSome=true then e else ql e 7)=e:=by
    rw [e1];split;exact ru he;rfl
   rw [e2]
   split
   ·exact (lj l 1 _ _ had ns hh).2 _ e he
   ·rw [(jX _ s.on).2 e he]
    exact (lj l (i+1) _ _ had ns hh).2 _ e he
  refine ⟨?_,ahT⟩
  rw [iB,yM rels s l i p names (gx had) 0 rfl rfl rfl rfl]
  have hoc:=W3 (had:=had) hs.1 hs.2 (fun b hb=>(hh b hb).1)
  have OH:∀ (j:Nat) (P:Pl) (N:List (Bs×Bs)) (ib:Bs) (e:Int),e≠0 ->(nT rels l j P N ib e).2=e:=fun j P N ib e he=>(lj l j P N had ns hh).2 ib e he
  unfold lQ Qi
  cases hf:kN s.name 0 rels with
  | none=>
   simp only [Option.isSome_none,Bool.false_eq_true,if_false,mz]
   have e2:(if Jf (gx had) (l9 (dB s))=true then ql 7 7 else (7:Int))=7:=by split<;>rfl
   rw [e2]
   split
   ·exact ⟨by decide,OH _ _ _ _ _ (by decide)⟩
   ·rw [(jX _ s.on).2 7 (by decide)]
    exact ⟨by decide,OH _ _ _ _ _ (by decide)⟩
  | some q=>
   simp only [Option.isSome_some,if_true,Option.getD_some,mz]
   rw [hoc]
   cases WV:had.contains (dB s) with
   | true=>
    simp only [if_true]
    split
    ·exact ⟨by decide,OH _ _ _ _ _ (by decide)⟩
    ·rw [(jX _ s.on).2 7 (by decide)]
     exact ⟨by decide,OH _ _ _ _ _ (by decide)⟩
   | false=>
    simp only [Bool.false_eq_true,if_false]
    rw [<- BJ]
    split
    ·exact (lj l 1 _ _ (had++[dB s]) ns hh').1
    ·have hx:=(jX (names++q.2.map fun c=>(dB s,c.name)) s.on).1
     revert hx
     cases iH (names++q.2.map fun c=>(dB s,c.name)) s.on with
     | error e=>intro hx;exact ⟨hx.1,by rw [hx.2];exact OH _ _ _ _ _ hx.1⟩
     | ok x=>
      intro hx
      unfold rS at hx
      simp only at hx
      rw [hx]
      exact (lj l (i+1) _ _ (had++[dB s]) ns hh').1
theorem lz {α:Type}{r:Except Int α}{v:α×Int}{y:α}(h:rS r v)(hr:r=.ok y):v=(y,0):=by rw [hr] at h;exact h
theorem uh (names:List (Bs×Bs))(s:Se)(ags:List Ag):FR (oy names s.group s.hasH s.hv ags) (hvR names s 0 ags)/\∀ e,e≠0 ->(hvR names s e ags).2.1=e:=by
 unfold oy hvR
 cases s.hasH with
 | true=>exact ⟨(sI names s.group s.hv).1 ags,fun e he=>(sI names s.group s.hv).2 e ags he⟩
 | false=>exact ⟨rfl,fun _ _=>rfl⟩
theorem qZ (names:List (Bs×Bs))(s:Se)(p:Pl):rS (match nZ names s.hasW s.wh with | .error e=> .error e | .ok w=> .ok (if s.hasW=true then eK w p else p)) (whR names s p 0)/\∀ e,e≠0 ->(whR names s p e).2=e:=by
 unfold nZ whR
 cases s.hasW with
 | false=>exact ⟨rfl,fun _ _=>rfl⟩
 | true=>
  simp only [if_true]
  obtain ⟨h1,h2⟩:=jX names s.wh
  refine ⟨?_,h2⟩
  revert h1
  cases iH names s.wh with
  | error e=>intro h1;exact h1
  | ok w=>intro h1;rw [lz h1 rfl];rfl
theorem zN (s:Se)(p:Pl)(names:List (Bs×Bs)):rS (match (if dX s=true then gI s p names else kL s p names) with | .error e=> .error e | .ok q=> .ok (q,if s.star=true then names.map (·.2) else ec 0 s.items)) (Ll s p names 0)/\∀ e,e≠0 ->(Ll s p names e).2=e:=by
 unfold Ll gI kL ahr
 cases hS:s.star with
 | true=>
  simp only [if_true]
  cases hG:dX s with
  | true=>simp only [if_true,mz];exact ⟨⟨by decide,rfl⟩,fun e he=>ru he⟩
  | false=>simp only [if_false,Bool.false_eq_true];exact ⟨rfl,fun e he=>trivial⟩
 | false=>
  simp only [if_false,Bool.false_eq_true]
  cases hG:dX s with
  | false=>
   simp only [if_false,Bool.false_eq_true,zO]
   obtain ⟨h1,h2⟩:=lS names (s.items.map (·.x))
   refine ⟨?_,h2⟩
   revert h1
   cases cI names (s.items.map (·.x)) with
   | error e=>intro h1;exact h1
   | ok l=>intro h1;simp only;rw [lz h1 rfl];rfl
  | true=>
   simp only [if_true,AR]
   obtain ⟨h1,h2⟩:=lS names s.group
   obtain ⟨h3,h4⟩:=qe names s.group (s.items.map (·.x))
   constructor
   ·revert h1
    cases cI names s.group with
    | error e=>intro h1;exact ⟨h1.1,by simp only;rw [h1.2,((uh names s _).2 _ (by rw [h4 e _ h1.1];exact h1.1)),h4 e _ h1.1]⟩
    | ok bd=>
     intro h1
     rw [lz h1 rfl]
     simp only
     have h5:=h3 []
     revert h5
     cases dq names s.group (s.items.map (·.x)) [] with
     | error e=>intro h5;exact ⟨h5.1,by simp only;rw [(uh names s _).2 _ (by rw [h5.2];exact h5.1),h5.2]⟩
     | ok it=>
      intro h5
      unfold FR at h5
      simp only at h5
      rw [h5]
      simp only
      have h6:=(uh names s it.2).1
      revert h6
      cases oy names s.group s.hasH s.hv it.2 with
      | error e=>intro h6;exact h6
      | ok h=>intro h6;unfold FR at h6;simp only at h6;rw [h6];rfl
   ·intro e he
    rw [h2 e he,(uh names s _).2 _ (by rw [h4 e _ he];exact he),h4 e _ he]
theorem tn (s:Se)(p:Pl)(names:List (Bs×Bs)){e:Int}(he:e≠0):(QN s p names e).2=e:=(zN s p names).2 e he
theorem NE {rels:List Rel}{s:Se}(hs:∀ x∈s.src,ua (dB x)):rS (l5 rels s) (Am rels s 0)/\∀ e,e≠0 ->(Am rels s e).2=e:=by
 obtain ⟨h1,h2⟩:=lj (rels:=rels) s.src 0 iZ [] [] hs (by simp)
 have fG:∀ e,e≠0 ->(Am rels s e).2=e:=by
  intro e he
  unfold Am
  simp only
  rw [tn _ _ _ (by rw [(qZ _ s _).2 _ (by rw [h2 _ e he];exact he),h2 _ e he];exact he),(qZ _ s _).2 _ (by rw [h2 _ e he];exact he),h2 _ e he]
 refine ⟨?_,fG⟩
 unfold l5 Am mQ
 simp only
 rw [gx] at h1
 revert h1
 cases iB rels s.src 0 iZ [] [] with
 | error e=>
  intro h1
  refine ⟨h1.1,?_⟩
  have h3:=h1.2
  rw [tn _ _ _ (by rw [(qZ _ s _).2 _ (by rw [h3];exact h1.1),h3];exact h1.1),(qZ _ s _).2 _ (by rw [h3];exact h1.1),h3]
 | ok f=>
  intro h1
  rw [lz h1 rfl]
  simp only
  have h3:=(qZ f.2 s f.1).1
  revert h3
  cases nZ f.2 s.hasW s.wh with
  | error e=>intro h3;exact ⟨h3.1,by rw [tn _ _ _ (by rw [h3.2];exact h3.1),h3.2]⟩
  | ok w=>
   intro h3
   rw [lz h3 rfl]
   simp only
   have h4:=(zN s (if s.hasW=true then eK w f.1 else f.1) f.2).1
   unfold QN
   simp only
   revert h4
   cases (if dX s=true then gI s (if s.hasW=true then eK w f.1 else f.1) f.2 else kL s (if s.hasW=true then eK w f.1 else f.1) f.2) with
   | error e=>intro h4;exact h4
   | ok q=>intro h4;rw [lz h4 rfl];rfl
theorem L8 {op:Int}(h:1<=op/\op<=4)(a b:Pl):aei op a b=Ab op a b:=by
 unfold aei Ab
 rcases (show op=1\/op=2\/op=3\/op=4 by omega) with rfl | rfl | rfl | rfl<;>rfl
theorem jk {rels:List Rel}{ops:List Int}(ho:∀ j,j<ops.length ->1<=ops.getD j 0/\ops.getD j 0<=4):∀ (l:List Se) (i:Nat) (p:Pl) (names:List Bs),(∀ s∈l,∀ x∈s.src,ua (dB x)) ->l.length+i<=ops.length+1 ->
 rS (ey rels ops i p names l) (nE rels ops i p names 0 l)/\∀ e,e≠0 ->(nE rels ops i p names e l).2=e
 | [],i,p,names,_,_=>⟨by rw [ey,nE];rfl,fun e he=>by rw [nE]⟩
 | s::l,i,p,names,hl,hn=>by
  obtain ⟨h1,h2⟩:=NE (rels:=rels) (hl s List.mem_cons_self)
  have ns:∀ x∈l,∀ y∈x.src,ua (dB y):=fun x hx=>hl x (List.mem_cons_of_mem _ hx)
  rw [List.length_cons] at hn
  have fG:∀ e,e≠0 ->(nE rels ops i p names e (s::l)).2=e:=by
   intro e he
   rw [nE,h2 e he]
   split
   ·exact (jk ho l 1 _ _ ns (by omega)).2 e he
   ·exact (jk ho l (i+1) _ _ ns (by omega)).2 e he
  refine ⟨?_,fG⟩
  rw [ey,nE]
  revert h1
  cases l5 rels s with
  | error e=>
   intro h1
   refine ⟨h1.1,?_⟩
   rw [h1.2]
   split
   ·exact (jk ho l 1 _ _ ns (by omega)).2 e h1.1
   ·exact (jk ho l (i+1) _ _ ns (by omega)).2 e h1.1
  | ok r=>
   intro h1
   rw [lz h1 rfl]
   simp only
   by_cases hi:i=0
   ·rw [if_pos hi,if_pos hi]
    exact (jk ho l 1 _ _ ns (by omega)).1
   ·rw [if_neg hi,if_neg hi,L8 (ho (i - 1) (by omega))]
    exact (jk ho l (i+1) _ _ ns (by omega)).1
theorem Bm (q:Q)(p:Pl)(names:List Bs):rS (uL q (p,names)) (PY q p names 0)/\∀ e,e≠0 ->(PY q p names e).2=e:=by
 unfold uL PY
 by_cases hl:0<=q.limit
 ·simp only [if_pos hl]
  obtain ⟨h1,h2⟩:=lS (names.map fun n=>([],n)) q.order
  refine ⟨?_,h2⟩
  revert h1
  cases cI (names.map fun n=>([],n)) q.order with
  | error e=>intro h1;exact h1
  | ok l=>intro h1;rw [lz h1 rfl];rfl
 ·simp only [if_neg hl];exact ⟨rfl,by simp⟩
structure OkQ (q:Q):Prop where
 src:∀ s∈q.parts,∀ x∈s.src,ua (dB x)
 ops:∀ j,j<q.ops.length ->1<=q.ops.getD j 0/\q.ops.getD j 0<=4
 len:q.parts.length<=q.ops.length+1
theorem Gn {rels:List Rel}{q:Q}(hq:OkQ q):rS (gJ rels q) (Pc rels q):=by
 have h1:=(jk (rels:=rels) hq.ops q.parts 0 iZ [] hq.src (by have:=hq.len;omega)).1
 unfold gJ Pc
 simp only
 revert h1
 cases ey rels q.ops 0 iZ [] q.parts with
 | error e=>
  intro h1
  refine ⟨h1.1,?_⟩
  simp only
  rw [h1.2]
  exact (Bm q _ _).2 e h1.1
 | ok r=>
  intro h1
  rw [lz h1 rfl]
  simp only
  have h2:=(Bm q r.1 r.2).1
  revert h2
  cases hh:uL q (r.1,r.2) with
  | error e=>intro h2;exact h2
  | ok p=>intro h2;rw [lz h2 rfl];rfl
theorem vD {rels:List Rel}{q:Q}(hq:OkQ q):∀ e,gJ rels q=.error e ->e≠0:=by
 intro e he
 have h1:=Gn (rels:=rels) hq
 rw [he] at h1
 exact h1.1
theorem jG {a b:Int}(h:sj a b=0):a=0/\b=0:=by
 unfold sj at h
 split at h
 ·rename_i h1;exact (h1 h).elim
 ·rename_i h1;exact ⟨Classical.not_not.1 h1,h⟩
mutual
theorem Fc (d n:Nat):∀ (x:X),(eC d n x).1=0 ->Ae x/\(eC d n x).2=n+wV x
 | .mk k v tab name kids,h=>by
  rw [eC] at h ⊢
  rw [wV]
  split at h
  ·cases h
  ·rename_i c1
   rw [if_neg c1]
   split at h
   ·cases h
   ·rename_i c2
    rw [if_neg c2]
    split at h
    ·cases h
    ·rename_i US
     rw [if_neg US]
     have oI:=Classical.not_not.1 US
     split at h
     ·rename_i k1
      rw [if_pos k1]
      subst k1
      have hw:cR v=0:=h
      have:kids=[]:=by
       have h1:dE 1=0:=by decide
       exact List.length_eq_zero_iff.1 (by omega)
      subst this
      refine ⟨⟨oI,fun _=> ?_,trivial⟩,rfl⟩
      unfold cR at hw
      by_cases a1:v.k=1
      ·omega
      ·by_cases a2:v.k=2
       ·omega
       ·by_cases a3:v.k=3
        ·omega
        ·by_cases a4:v.k=4
         ·omega
         ·rw [if_neg a1,if_neg a2,if_neg a3,if_neg a4] at hw;cases hw
     ·rename_i k1
      rw [if_neg k1]
      split at h
      ·cases h
      ·rename_i c3
       rw [if_neg c3]
       obtain ⟨h1,h2⟩:=Cw (d+1) (n+1) kids h
       exact ⟨⟨oI,fun hk=>(k1 hk).elim,h1⟩,by rw [h2];omega⟩
theorem Cw (d n:Nat):∀ (l:List X),(eN d n l).1=0 ->Wv l/\(eN d n l).2=n+pR l
 | [],_=>⟨trivial,by rw [eN,pR];rfl⟩
 | x::l,h=>by
  rw [eN] at h ⊢
  rw [pR]
  split at h
  ·rename_i hx;exact (hx h).elim
  ·rename_i hx
   rw [if_neg hx]
   obtain ⟨h1,h2⟩:=Fc d n x (Classical.not_not.1 hx)
   obtain ⟨h3,h4⟩:=Cw d _ l h
   exact ⟨⟨h1,h3⟩,by rw [h4,h2];omega⟩
end
theorem qx {x:X}(h:gX x=0):Ae x/\wV x<=200:=by
 obtain ⟨h1,h2⟩:=Fc 1 0 x h
 have h3:=(rp 1 0 x (by omega)).2 h
 exact ⟨h1,by omega⟩
theorem vi:∀ {l:List X},iq l=0 ->∀ x∈l,Ae x/\wV x<=200
 | [],_,x,hx=>by cases hx
 | y::l,h,x,hx=>by
  rw [iq] at h
  obtain ⟨h1,h2⟩:=jG h
  rcases List.mem_cons.1 hx with rfl | hx
  ·exact qx h1
  ·exact vi h2 x hx
theorem BS:∀ {l:List It},kW l=0 ->(∀ x∈l,Ae x.x)/\pR (l.map (·.x))<=l.length*200
 | [],_=>⟨fun x hx=>(by cases hx),by simp [pR]⟩
 | y::l,h=>by
  rw [kW] at h
  obtain ⟨h1,h2⟩:=jG h
  simp only [fT] at h1
  obtain ⟨h3,h4⟩:=qx (jG h1).1
  obtain ⟨h5,h6⟩:=BS h2
  refine ⟨fun x hx=> ?_,?_⟩
  ·rcases List.mem_cons.1 hx with rfl | hx
   ·exact h3
   ·exact h5 x hx
  ·rw [List.map_cons,pR,List.length_cons,Nat.succ_mul];omega
theorem XW {i:Nat}{c:UInt8}(h:FK i c=true):c≠124:=by
 rintro rfl
 unfold FK at h
 have h1:ez (124:UInt8).toNat=false:=by decide
 have h2:fe (124:UInt8).toNat=false:=by decide
 rw [h1,h2] at h
 simp at h
theorem BR:∀ {l:Bs} {i:Nat},ma i l=true ->124∉l
 | [],_,_=>by simp
 | c::l,i,h=>by
  rw [ma,Bool.and_eq_true] at h
  intro hm
  rcases List.mem_cons.1 hm with h1 | h1
  ·exact XW h.1 h1.symm
  ·exact BR h.2 h1
theorem xy {s:Bs}(h:eo [s]=0):ua s/\s.length<=12:=by
 unfold eo at h
 split at h
 ·rename_i h1
  rw [List.all_cons,List.all_nil,Bool.and_true] at h1
  unfold dl at h1
  rw [Bool.and_eq_true,Bool.and_eq_true] at h1
  have h2:=of_decide_eq_true h1.1.1
  exact ⟨⟨BR h1.2,fun h0=>by rw [h0] at h2;simp at h2⟩,h2.2⟩
 ·cases h
theorem Jh {i:Nat}{s:So}(h:i6 i s=0):ua (dB s)/\(dB s).length<=12/\(0<i ->(2<=s.k/\s.k<=5)/\Ae s.on):=by
 unfold i6 at h
 split at h
 ·cases h
 ·rename_i hb
  have hk:0<i ->2<=s.k/\s.k<=5:=by
   intro h0
   have hi:¬ (i:Int)=0:=by omega
   simp only [hi,decide_false,beq_false] at hb
   simp at hb
   omega
  have hf:fT [eo [s.name],em s.as]=0/\(0<i ->Ae s.on):=by
   split at h
   ·rename_i h1
    exact ⟨h,fun h0=>by rcases h1 with h1 | h1;exact (h1 h).elim;omega⟩
   ·rename_i h1
    have h2:=not_or.1 h1
    exact ⟨Classical.not_not.1 h2.1,fun _=>(qx h).1⟩
  obtain ⟨JO,hx⟩:=hf
  simp only [fT] at JO
  obtain ⟨h3,h4⟩:=jG JO
  obtain ⟨h5,_⟩:=jG h4
  have ha:ua (dB s)/\(dB s).length<=12:=by
   unfold dB
   by_cases h0:s.as=[]
   ·rw [if_pos h0];exact xy h3
   ·rw [if_neg h0]
    unfold em at h5
    rw [if_neg h0] at h5
    exact xy h5
  exact ⟨ha.1,ha.2,fun h0=>⟨hk h0,hx h0⟩⟩
theorem qW:∀ {l:List So} {i:Nat},eu i l=0 ->∀ (j:Nat) (s:So),l[j]?=some s ->ua (dB s)/\(dB s).length<=12/\(0<i+j ->(2<=s.k/\s.k<=5)/\Ae s.on)
 | [],i,_,j,s,hj=>by simp at hj
 | x::l,i,h,j,s,hj=>by
  rw [eu] at h
  obtain ⟨h1,h2⟩:=jG h
  cases j with
  | zero=>
   simp only [List.getElem?_cons_zero,Option.some.injEq] at hj
   subst hj
   exact Jh h1
  | succ j=>
   obtain ⟨a,b,c⟩:=qW h2 j s (by simpa using hj)
   exact ⟨a,b,fun h0=>c (by omega)⟩
theorem Lr {s:Se}(h:qu s=0):OkSe s/\s.src≠[]/\∀ x∈s.src,ua (dB x)/\(dB x).length<=12:=by
 unfold qu at h
 split at h
 ·cases h
 ·rename_i hm
  obtain ⟨h1,h2⟩:=jG h
  unfold xI at h2
  obtain ⟨h3,h4⟩:=jG h2
  unfold zJ at h4
  obtain ⟨h5,h6⟩:=jG h4
  unfold B0 at h6
  obtain ⟨h7,h8⟩:=jG h6
  unfold zj at h8
  have UD:(1<=s.src.length/\s.src.length<=4)/\s.group.length<=8/\(s.star=false ->s.items.length<=8):=by
   unfold mj at hm
   rw [Bool.or_eq_true,not_or] at hm
   obtain ⟨ha,hb⟩:=hm
   have ha:=fun h=>ha (decide_eq_true h)
   refine ⟨⟨?_,?_⟩,?_,?_⟩
   ·rcases Nat.lt_or_ge s.src.length 1 with h | h
    ·exact (ha (.inl (.inl (by omega)))).elim
    ·exact h
   ·rcases Nat.lt_or_ge 4 s.src.length with h | h
    ·exact (ha (.inl (.inr (by omega)))).elim
    ·exact h
   ·rcases Nat.lt_or_ge 8 s.group.length with h | h
    ·exact (ha (.inr (by omega))).elim
    ·exact h
   ·intro hs
    rcases Nat.lt_or_ge 8 s.items.length with h | h
    ·exfalso
     apply hb
     rw [hs]
     simp;omega
    ·exact h
  have aiq:s.star=false ->(∀ x∈s.items,Ae x.x)/\pR (s.items.map (·.x))<=s.items.length*200:=by
   intro hs
   rw [hs,if_neg (by decide)] at h1
   exact BS h1
  have hhv:s.hasH=true ->Ae s.hv/\wV s.hv<=200:=by
   intro hh
   rw [if_pos hh] at h8
   exact qx h8
  refine ⟨⟨by omega,fun j x hj h0=>(qW h3 j x hj).2.2 (by omega),fun hw=> ?_,⟨by omega,fun x hx=>(vi h7 x hx).1⟩,fun hs=>⟨by have:=UD.2.2 hs;omega,(aiq hs).1⟩,fun hh=>(hhv hh).1,fun hs=> ?_⟩,?_,?_⟩
  ·rw [if_pos hw] at h5
   exact (qx h5).1
  ·have ha:=(aiq hs).2
   have hb:=UD.2.2 hs
   have hc:hvC s<=200:=by
    unfold hvC
    split
    ·rename_i hh;exact (hhv hh).2
    ·omega
   have hd:s.items.length*200<=8*200:=Nat.mul_le_mul_right _ hb
   omega
  ·rintro h0
   rw [h0] at UD
   simp at UD
  ·intro x hx
   obtain ⟨j,hj⟩:=List.getElem?_of_mem hx
   have:=qW h3 j x hj
   exact ⟨this.1,this.2.1⟩
theorem yy {ops:List Int}:∀ {l:List Se} {i:Nat},jT ops i l=0 ->(∀ s∈l,qu s=0)/\∀ j,i<=j+1 ->j+1<i+l.length ->0<j+1 ->0<i\/0<j+1 - i ->1<=ops.getD j 0/\ops.getD j 0<=4
 | [],_,_=>⟨fun s hs=>(by cases hs),fun j h1 h2=>by simp at h2;omega⟩
 | x::l,i,h=>by
  rw [jT] at h
  split at h
  ·cases h
  ·rename_i hb
   obtain ⟨h1,h2⟩:=jG h
   obtain ⟨h3,h4⟩:=yy h2
   refine ⟨fun s hs=> ?_,fun j ha hc hd he=> ?_⟩
   ·rcases List.mem_cons.1 hs with rfl | hs
    ·exact h1
    ·exact h3 s hs
   ·rw [List.length_cons] at hc
    by_cases hj:j+1=i
    ·have hi:0<i:=by omega
     have:i - 1=j:=by omega
     rw [this] at hb
     constructor
     ·rcases Int.lt_or_le (ops.getD j 0) 1 with h | h
      ·exact (hb ⟨hi,.inl h⟩).elim
      ·exact h
     ·rcases Int.lt_or_le 4 (ops.getD j 0) with h | h
      ·exact (hb ⟨hi,.inr h⟩).elim
      ·exact h
    ·exact h4 j (by omega) (by omega) hd (by omega)
theorem rH {q:Q}(h:gR q=0):OkQ q/\q.parts≠[]/\q.parts.length<=4/\(0<=q.limit ->q.order.length<=8/\∀ x∈q.order,Ae x)/\∀ s∈q.parts,OkSe s/\s.src≠[]/\∀ x∈s.src,ua (dB x)/\(dB x).length<=12:=by
 unfold gR at h
 split at h
 ·cases h
 ·rename_i hm
  split at h
  ·cases h
  ·obtain ⟨h1,h2⟩:=jG h
   obtain ⟨h3,h4⟩:=yy h1
   have hm:=fun h=>hm (decide_eq_true h)
   have gF:1<=q.parts.length:=by
    rcases Nat.lt_or_ge q.parts.length 1 with h | h
    ·exact (hm (.inl (.inl (.inl (by omega))))).elim
    ·exact h
   have ft:q.parts.length<=4:=by
    rcases Nat.lt_or_ge 4 q.parts.length with h | h
    ·exact (hm (.inl (.inl (.inr (by omega))))).elim
    ·exact h
   have fV:q.ops.length+1=q.parts.length:=by
    rcases Nat.lt_or_ge (q.ops.length+1) q.parts.length with h | h
    ·exact (hm (.inl (.inr (by omega)))).elim
    ·rcases Nat.lt_or_ge q.parts.length (q.ops.length+1) with h' | h'
     ·exact (hm (.inl (.inr (by omega)))).elim
     ·omega
   refine ⟨⟨fun s hs x hx=>((Lr (h3 s hs)).2.2 x hx).1,fun j hj=>h4 j (by omega) (by omega) (by omega) (.inr (by omega)),by omega⟩,?_,ft,fun hl=>⟨?_,fun x hx=> ?_⟩,fun s hs=>Lr (h3 s hs)⟩
   ·intro h0;rw [h0] at gF;simp at gF
   ·rcases Nat.lt_or_ge 8 q.order.length with h | h
    ·exact (hm (.inr ⟨hl,.inr (by omega)⟩)).elim
    ·exact h
   ·unfold lA at h2
    rw [if_neg (by omega)] at h2
    exact (vi h2 x hx).1
mutual
def jr (tables:List (List Int)):Pl ->Nat
 | .mk k n x xs ags kids=>zW tables k n xs ags (oq tables kids)
def oq (tables:List (List Int)):List Pl ->List Nat
 | []=>[]
 | p::l=>jr tables p::oq tables l
def zW (tables:List (List Int))(k n:Int)(xs:List Ex)(ags:List Ag)(c:List Nat):Nat:=
 if k=1 then (tables.getD n.toNat []).length else if k=3 then xs.length else if k=12 then xs.length+ags.length else if k=4\/k=7 then c.getD 0 0+c.getD 1 0 else c.getD 0 0
end
theorem um {cols:List Int}:∀ {xs:List Ex} {t:List Int},gQ cols xs=.ok t ->t.length=xs.length
 | [],t,h=>by injection h with h;subst h;rfl
 | x::l,t,h=>by
  rw [gQ] at h
  split at h
  ·cases h
  ·split at h
   ·rename_i ts OF
    injection h with h;subst h
    rw [List.length_cons,List.length_cons,um OF]
   ·cases h
theorem ub {cols:List Int}{xs:List Ex}{t:List Int}(h:iM cols xs=.ok t):t.length=xs.length:=by
 unfold iM at h
 split at h
 ·cases h
 ·exact um h
theorem wk {cols:List Int}:∀ {l:List Ag} {t:List Int},gL cols l=.ok t ->t.length=l.length
 | [],t,h=>by injection h with h;subst h;rfl
 | x::l,t,h=>by
  rw [gL] at h
  split at h
  ·cases h
  ·split at h
   ·rename_i ts OF
    injection h with h;subst h
    rw [List.length_cons,List.length_cons,wk OF]
   ·cases h
theorem vR:∀ {a b t:List Int},a.length=b.length ->kI a b=.ok t ->t.length=a.length
 | [],[],t,_,h=>by injection h with h;subst h;rfl
 | x::a,y::b,t,hl,h=>by
  rw [kI] at h
  split at h
  ·cases h
  ·split at h
   ·rename_i ts OF
    injection h with h;subst h
    rw [List.length_cons,List.length_cons,vR (by simpa using hl) OF]
   ·cases h
theorem EM {α β:Type}(f:α ->β)(l:List α)(i:Nat)(d:α):(l.map f).getD i (f d)=f (l.getD i d):=by
 simp only [List.getD,List.getElem?_map]
 cases l[i]?<;>rfl
theorem FG {tables:List (List Int)}{k n:Int}{x:Ex}{xs:List Ex}{ags:List Ag}{c:List (List Int)}{t:List Int}(hk:¬ iU k<0)(h:jA tables k n x xs ags c=.ok t):t.length=zW tables k n xs ags (c.map List.length):=by
 have e0:(c.map List.length).getD 0 0=(c.getD 0 []).length:=EM List.length c 0 []
 have e1:(c.map List.length).getD 1 0=(c.getD 1 []).length:=EM List.length c 1 []
 unfold zW
 rw [e0,e1]
 unfold jA at h
 simp only at h
 generalize c.getD 0 []=a at h ⊢
 generalize c.getD 1 []=b at h ⊢
 by_cases k1:k=1
 ·subst k1
  simp only [if_true] at h
  split at h
  ·injection h with h;subst h;rfl
  ·cases h
 rw [if_neg k1] at h
 rw [if_neg k1]
 by_cases k2:k=2
 ·subst k2
  simp only [if_true] at h
  split at h
  ·injection h with h;subst h;rfl
  ·cases h
 rw [if_neg k2] at h
 by_cases k3:k=3
 ·subst k3
  simp only [if_true] at h
  rw [if_pos rfl]
  exact ub h
 rw [if_neg k3] at h
 rw [if_neg k3]
 by_cases k8:k=8\/k=9
 ·rw [if_pos k8] at h
  rw [if_neg (by omega),if_neg (by omega)]
  unfold mw at h
  split at h
  ·cases h
  ·rename_i hl
   exact vR (Classical.not_not.1 hl) h
 rw [if_neg k8] at h
 by_cases k10:k=10\/k=11
 ·rw [if_pos k10] at h
  rw [if_neg (by omega),if_neg (by omega)]
  injection h with h;subst h;rfl
 rw [if_neg k10] at h
 by_cases k12:k=12
 ·rw [if_pos k12] at h
  rw [if_pos k12]
  split at h
  ·cases h
  ·split at h
   ·cases h
   ·rename_i ks vW
    split at h
    ·rename_i g hg
     injection h with h;subst h
     rw [List.length_append,ub vW,wk hg]
    ·cases h
 rw [if_neg k12] at h
 rw [if_neg k12]
 by_cases k13:k=13
 ·rw [if_pos k13] at h
  rw [if_neg (by omega)]
  split at h
  ·cases h
  ·split at h
   ·cases h
   ·injection h with h;subst h;rfl
 rw [if_neg k13] at h
 split at h
 ·cases h
 ·split at h
  ·cases h
  ·injection h with h
   subst h
   have h47:k=4\/k=5\/k=6\/k=7:=by
    unfold iU at hk
    rw [if_neg k1] at hk
    split at hk
    ·omega
    ·split at hk
     ·omega
     ·omega
   rcases h47 with rfl | rfl | rfl | rfl<;>simp
mutual
theorem uo {tables:List (List Int)}:∀ (p:Pl) (bU m m':Nat) (t:List Int),fz tables bU m p=(.ok t,m') ->t.length=jr tables p
 | .mk k n x xs ags kids,bU,m,m',t,h=>by
  rw [fz] at h
  split at h
  ·cases h
  ·split at h
   ·cases h
   ·rename_i hk
    split at h
    ·cases h
    ·split at h
     ·cases h
     ·rename_i c m2 hc
      injection h with h1 h2
      rw [jr,<- wl kids (bU+1) (m+1) m2 c hc]
      exact FG hk h1
theorem wl {tables:List (List Int)}:∀ (l:List Pl) (bU m m':Nat) (c:List (List Int)),gZ tables bU m l=(.ok c,m') ->c.map List.length=oq tables l
 | [],bU,m,m',c,h=>by
  rw [gZ] at h
  injection h with h1 h2
  injection h1 with h1
  subst h1;rfl
 | p::l,bU,m,m',c,h=>by
  rw [gZ] at h
  split at h
  ·cases h
  ·rename_i t m1 ht
   split at h
   ·cases h
   ·rename_i cs m2 gU
    injection h with h1 h2
    injection h1 with h1
    subst h1
    rw [List.map_cons,oq,uo p bU m m1 t ht,wl l bU m1 m2 cs gU]
end
theorem Ck {tables:List (List Int)}{p:Pl}{t:List Int}(h:kQ tables p=.ok t):t.length=jr tables p:=by
 unfold kQ at h
 split at h
 ·cases h
 ·split at h
  ·cases h
  ·exact uo p 1 0 (fz tables 1 0 p).2 t (Prod.ext h rfl)
def vq (rels:List Rel):Prop:=∀ r∈rels,r.view=true ->∃ t,kQ (cA rels) r.plan=.ok t/\t.length=r.cols.length
theorem CT (r:Rel)(l:List Rel):cA (r::l)=if r.view=true then cA l else r.cols.map (·.ty)::cA l:=by
 unfold cA
 cases hv:r.view<;>simp [hv]
theorem vF {T:List (List Int)}{name:Bs}:∀ (l:List Rel) (pre:List (List Int)),T=pre++cA l ->(∀ r∈l,r.view=true ->∃ t,kQ T r.plan=.ok t/\t.length=r.cols.length) ->
 ∀ q,kN name pre.length l=some q ->jr T q.1=q.2.length
 | [],_,_,_,_,h=>by cases h
 | r::l,pre,hT,hr,q,h=>by
  rw [kN] at h
  rw [CT] at hT
  split at h
  ·injection h with h
   subst h
   cases hv:r.view with
   | true=>
    simp only [if_true]
    obtain ⟨t,ht,hl⟩:=hr r (List.mem_cons_self ..) hv
    rw [<- Ck ht,hl]
   | false=>
    rw [hv,if_neg (by decide)] at hT
    simp only [Bool.false_eq_true,if_false]
    rw [C3,jr,zW,if_pos rfl,hT]
    simp
  ·cases hv:r.view with
   | true=>
    rw [hv,if_pos rfl] at hT
    rw [hv] at h
    simp only [if_true] at h
    exact vF l pre hT (fun r' h'=>hr r' (List.mem_cons_of_mem _ h')) q h
   | false=>
    rw [hv,if_neg (by decide)] at hT
    rw [hv] at h
    simp only [Bool.false_eq_true,if_false] at h
    refine vF (name:=name) l (pre++[r.cols.map (·.ty)]) (by rw [hT];simp) (fun r' h'=>hr r' (List.mem_cons_of_mem _ h')) q ?_
    rw [List.length_append];exact h
theorem MF {rels:List Rel}(hr:vq rels){name:Bs}{q:Pl×List Co}(h:lQ rels name=.ok q):jr (cA rels) q.1=q.2.length:=by
 unfold lQ at h
 split at h
 ·rename_i x hx
  injection h with h;subst h
  exact vF rels [] rfl hr x hx
 ·cases h
theorem qT {rels:List Rel}(hr:vq rels):∀ (l:List So) (i:Nat) (p:Pl) (names:List (Bs×Bs)) (had:List Bs) (r:Pl×List (Bs×Bs)),(∀ (j:Nat) (s:So),l[j]?=some s ->0<i+j ->2<=s.k/\s.k<=5) ->(i=0 ->names=[]) ->(0<i ->jr (cA rels) p=names.length) ->(l=[] ->0<i) ->
 iB rels l i p names had=.ok r ->jr (cA rels) r.1=r.2.length
 | [],i,p,names,had,r,_,_,hw,hi,h=>by
  rw [iB] at h
  injection h with h;subst h
  exact hw (hi rfl)
 | s::l,i,p,names,had,r,hk,h0,hw,_,h=>by
  rw [iB] at h
  split at h
  ·cases h
  ·rename_i q hq
   have G1:=MF hr hq
   split at h
   ·cases h
   ·split at h
    ·rename_i mm
     subst mm
     rw [h0 rfl,List.nil_append] at h
     refine qT hr l 1 _ _ _ r (fun j s' hj _=>hk (j+1) s' hj (by omega)) (fun h=>by omega) (fun _=> ?_) (fun _=>by omega) h
     rw [G1,List.length_map]
    ·rename_i mm
     split at h
     ·cases h
     ·rename_i x hx
      have vW:=hk 0 s rfl (by omega)
      have hp:=hw (by omega)
      refine qT hr l (i+1) _ _ _ r (fun j s' hj _=>hk (j+1) s' hj (by omega)) (fun h=>by omega) (fun _=> ?_) (fun _=>by omega) h
      rw [jr,oq,oq,oq,zW]
      have h4:s.k=2\/s.k=3\/s.k=4\/s.k=5:=by omega
      rcases h4 with h4 | h4 | h4 | h4<;>simp [h4,mf,hp,G1]
theorem zG {names:List (Bs×Bs)}:∀ {l:List X} {t:List Ex},cI names l=.ok t ->t.length=l.length
 | [],t,h=>by rw [cI] at h;injection h with h;subst h;rfl
 | x::l,t,h=>by
  rw [cI] at h
  split at h
  ·cases h
  ·split at h
   ·rename_i m hm
    injection h with h;subst h
    rw [List.length_cons,List.length_cons,zG hm]
   ·cases h
theorem uc {names:List (Bs×Bs)}{bd:List X}:∀ {l:List X} {ags:List Ag} {t:List Ex×List Ag},dq names bd l ags=.ok t ->t.1.length=l.length
 | [],ags,t,h=>by rw [dq] at h;injection h with h;subst h;rfl
 | x::l,ags,t,h=>by
  rw [dq] at h
  split at h
  ·cases h
  ·split at h
   ·rename_i m hm
    injection h with h;subst h
    simp only [List.length_cons]
    rw [uc hm]
   ·cases h
theorem ny:∀ (l:List It) (i:Nat),(ec i l).length=l.length
 | [],_=>rfl
 | x::l,i=>by rw [ec,List.length_cons,List.length_cons,ny l]
theorem IM (T:List (List Int))(x:Ex)(p:Pl):jr T (eK x p)=jr T p:=by
 unfold eK
 rw [jr,oq,oq,zW]
 simp
theorem ol (T:List (List Int))(p:Pl){k:Int}(h:k=10\/k=11):jr T (iC k p)=jr T p:=by
 unfold iC
 rw [jr,oq,oq,zW]
 rcases h with rfl | rfl<;>simp
theorem rB (T:List (List Int))(p q:Pl){k:Int}(h:k=8\/k=9):jr T (oA k p q)=jr T p:=by
 unfold oA
 rw [jr,oq,oq,oq,zW]
 rcases h with rfl | rfl<;>simp
theorem V8 (T:List (List Int))(op:Int)(p q:Pl):jr T (Ab op p q)=jr T p:=by
 unfold Ab
 split
 ·exact rB T p q (.inl rfl)
 ·split
  ·rw [ol T _ (.inr rfl),rB T p q (.inl rfl)]
  ·split
   ·rw [ol T _ (.inl rfl),rB T _ _ (.inr rfl),ol T _ (.inr rfl)]
   ·rw [ol T _ (.inl rfl),rB T p q (.inr rfl)]
def Ej (l:List So):Prop:=l≠[]/\∀ (j:Nat) (s:So),l[j]?=some s ->0<j ->2<=s.k/\s.k<=5
theorem SD {rels:List Rel}(hr:vq rels){s:Se}(hs:Ej s.src){r:Pl×List Bs}(h:l5 rels s=.ok r):jr (cA rels) r.1=r.2.length:=by
 unfold l5 at h
 split at h
 ·cases h
 ·rename_i f hf
  have hfw:jr (cA rels) f.1=f.2.length:=qT hr s.src 0 iZ [] [] f (fun j s' hj h0=>hs.2 j s' hj (by omega)) (fun _=>rfl) (fun h=>by omega) (fun h=>(hs.1 h).elim) hf
  split at h
  ·cases h
  ·rename_i w hw
   simp only at h
   have hp:jr (cA rels) (if s.hasW=true then eK w f.1 else f.1)=f.2.length:=by
    split
    ·rw [IM,hfw]
    ·exact hfw
   generalize (if s.hasW=true then eK w f.1 else f.1)=p at h hp
   split at h
   ·cases h
   ·rename_i q hq
    injection h with h
    subst h
    have hd:jr (cA rels) (if s.distinct=true then iC 11 q else q)=jr (cA rels) q:=by
     split
     ·exact ol _ q (.inr rfl)
     ·rfl
    show jr _ (if s.distinct=true then iC 11 q else q)=(if s.star=true then f.2.map (·.2) else ec 0 s.items).length
    rw [hd]
    split at hq
    ·unfold gI at hq
     split at hq
     ·cases hq
     ·rename_i fG
      rw [if_neg fG,ny]
      split at hq
      ·cases hq
      ·split at hq
       ·cases hq
       ·rename_i it DL
        split at hq
        ·cases hq
        ·injection hq with hq
         subst hq
         rw [jr,oq,oq,zW]
         simp only [if_true]
         rw [if_neg (by decide),uc DL,List.length_map]
    ·unfold kL at hq
     split at hq
     ·rename_i fG
      injection hq with hq
      subst hq
      rw [if_pos fG,List.length_map,hp]
     ·rename_i fG
      rw [if_neg fG,ny]
      split at hq
      ·cases hq
      ·rename_i l hl
       injection hq with hq
       subst hq
       rw [jr,oq,oq,zW]
       simp only [if_true]
       rw [if_neg (by decide),zG hl,List.length_map]
theorem tS {rels:List Rel}(hr:vq rels){ops:List Int}:∀ (l:List Se) (i:Nat) (p:Pl) (names:List Bs) (r:Pl×List Bs),(∀ s∈l,Ej s.src) ->(0<i ->jr (cA rels) p=names.length) ->(l=[] ->0<i) ->
 ey rels ops i p names l=.ok r ->jr (cA rels) r.1=r.2.length
 | [],i,p,names,r,_,hw,hi,h=>by
  rw [ey] at h
  injection h with h;subst h
  exact hw (hi rfl)
 | s::l,i,p,names,r,hs,hw,_,h=>by
  rw [ey] at h
  split at h
  ·cases h
  ·rename_i q hq
   have G1:=SD hr (hs s (List.mem_cons_self ..)) hq
   split at h
   ·exact tS hr l 1 _ _ r (fun s' h'=>hs s' (List.mem_cons_of_mem _ h')) (fun _=>G1) (fun _=>by omega) h
   ·rename_i mm
    exact tS hr l (i+1) _ _ r (fun s' h'=>hs s' (List.mem_cons_of_mem _ h')) (fun _=>by rw [V8];exact hw (by omega)) (fun _=>by omega) h
theorem Js {rels:List Rel}(hr:vq rels){q:Q}(h0:q.parts≠[])(hs:∀ s∈q.parts,Ej s.src){r:Pl×List Bs}(h:gJ rels q=.ok r):jr (cA rels) r.1=r.2.length:=by
 unfold gJ at h
 split at h
 ·cases h
 ·rename_i r0 J4
  have hw:=tS hr q.parts 0 iZ [] r0 hs (fun h=>by omega) (fun h=>(h0 h).elim) J4
  split at h
  ·cases h
  ·rename_i p hp
   injection h with h;subst h
   show jr _ p=r0.2.length
   unfold uL at hp
   split at hp
   ·split at hp
    ·cases hp
    ·injection hp with hp
     subst hp
     rw [jr,oq,oq,zW]
     simpa using hw
   ·injection hp with hp
    subst hp
    exact hw
theorem nl {M M':aV}(he:bG M M'){q:Q}{cs:List Value}(h:RQ M q cs):RQ M' q cs:=by
 obtain ⟨pv,ov,dv,h1,h2,h3,h4⟩:=h
 exact ⟨pv,ov,dv,aN he (kn he) h1,aN he (fun _ _ h=>h) h2,aN he (br he) h3,h4⟩
theorem S7 {rels:List Rel}(h:Dt rels):vq rels:=fun r hr hv=>⟨_,(h.1 r hr).2 hv,by simp⟩
theorem SU {rels:List Rel}{q:Q}(hr:Dt rels)(hq:gR q=0):∀ r t,gJ rels q=.ok r ->kQ (cA rels) r.1=.ok t ->t.length<=r.2.length:=by
 intro r t h1 h2
 obtain ⟨_,hp,_,_,hs⟩:=rH hq
 have h3:=Js (S7 hr) hp (fun s oD=>⟨(hs s oD).2.1,fun j x hj h0=>((hs s oD).1.on j x hj h0).1⟩) h1
 rw [Ck h2,h3]
 exact Nat.le_refl _
theorem Vs {M:aV}{b o:Nat}{x:Stm}{cs:List Value}(h:o9 M x cs)(ha:At M b o cs):∃ c r,RS M uE 2 x.cols c/\RS M (RVs M) 1 x.rows r/\
 aL M ⟨b,o,none⟩=some (.int .i64 x.k)/\aL M ⟨b,o+1,none⟩=some (st x.name)/\aL M ⟨b,o+2,none⟩=some c/\(∃ q,RQ M x.q q/\At M b (o+3) q)/\
 aL M ⟨b,o+7,none⟩=some r/\aL M ⟨b,o+8,none⟩=some (.bool x.hasW)/\∃ w,RX M x.wh w/\At M b (o+9) w:=by
 obtain ⟨c,q,r,w,h1,h2,h3,h4,rfl⟩:=h
 rw [eJ,eJ,eJ,Ig h2] at ha
 obtain ⟨⟨a0,a1,a2,_⟩,aq,⟨a7,a8,_⟩,aw⟩:=ha
 exact ⟨c,r,h1,h3,a0,a1,a2,⟨q,h2,aq⟩,a7,a8,w,h4,aw⟩
def ur:List Co ->Int | []=>0 | c::l=>sj (eo [c.name]) (if c.ty<2\/4<c.ty then 1 else ur l)
def ul:List V ->Int | []=>0 | v::l=>sj (cR v) (ul l)
def qh:List (List V) ->Int | []=>0 | r::l=>if (r.length:Int)<1\/8<(r.length:Int) then 5 else sj (ul r) (qh l)
def mi (s:Stm):Int:=
 if s.k<1\/5<s.k then 1 else if s.k=5 then gR s.q else sj (eo [s.name]) (
  if s.k=2 then gR s.q
  else if s.k=1 then (if (s.cols.length:Int)<1\/8<(s.cols.length:Int) then 5 else ur s.cols)
  else if s.k=3 then (if (s.rows.length:Int)<1\/400<(s.rows.length:Int) then 5 else qh s.rows)
  else if s.k=4 then (if s.hasW=true then gX s.wh else 0) else 0)
theorem Qa {M:aV}{b o:Nat}{x:Stm}{cs:List Value}(hg:fO M)(hx:o9 M x cs)(ha:At M b o cs):Ct Tryz.prog 87 [.pointer (some ⟨b,o,none⟩)] M [] [] (fun r _ _ _=>r=.int .i64 (mi x)) bj:=by
 intro T
 obtain ⟨cv,rv,hc,hr,m0,m1,m2,⟨qc,hq,haq⟩,m7,m8,wc,hw,haw⟩:=Vs hx ha
 obtain ⟨hcb,ca,cc,rfl,dw,_,SK⟩:=aI (by decide) (fun _ _ h=>by unfold uE at h;subst h;rfl) hc
 obtain ⟨hrb,ra,rc,rfl,hrl,_,Q8⟩:=aI (by decide) (fun _ _ h=>by obtain ⟨_,_,rfl⟩:=h;rfl) hr
 obtain ⟨sw,rfl,ow,w0,w1,w2,w3,w4,w5,w6⟩:=tJ hw haw
 obtain ⟨S,hS⟩:∃ S,S=mi x:=⟨_,rfl⟩
 rw [<- hS]
 unfold mi at hS
 refine aT mx aik Tryz.func87 rfl (by rw [asj];exact Nat.le_of_ble_eq_true rfl) (dr:=ajU) (by kernel_rfl) aqA ?_
 intro bN _
 by_cases k0:x.k<1\/5<x.k
 ·rw [if_pos k0] at hS
  simp +contextual only [go_sem,sevalprocAttr,m0]
  rw [bV]
  by_cases k1:x.k<1
  ·simp +contextual only [go_sem,ak,sevalprocAttr,k1]
   exact az aH.rfl' (by rw [hS])
  ·have k2:5<x.k:=by omega
   simp +contextual only [go_sem,ak,sevalprocAttr,k1,k2]
   exact az aH.rfl' (by rw [hS])
 rw [if_neg k0] at hS
 have k1:¬ x.k<1:=fun h=>k0 (.inl h)
 have k2:¬ 5<x.k:=fun h=>k0 (.inr h)
 by_cases k5:x.k=5
 ·rw [if_pos k5] at hS
  simp +contextual only [go_sem,ak,sevalprocAttr,m0,k1,k2,k5]
  refine am (Bw hg hq haq T) ?_ (fun _ _ _ _ h=>h.elim)
  rintro v M2 aX _ rfl
  simp +contextual only [go_sem,ak,sevalprocAttr]
  exact az aH.rfl' (by rw [hS])
 rw [if_neg k5] at hS
 simp +contextual only [go_sem,ak,sevalprocAttr,m0,m1,k1,k2,k5]
 intro b1 jK
 refine aW xB fun M1 aP WK bL=> ?_
 have hl:RS M1 pD 1 [x.name] (.slice (some ⟨b1,0,none⟩) 1 1):=df (fun _ _=>cO) WK (eQ [x.name]) rfl (by decide)
 refine am (ux (hg.ext aP) hl T) ?_ (fun _ _ _ _ h=>h.elim)
 rintro v M2 aX _ rfl
 have gz:=aP.trans aX
 by_cases hE:eo [x.name]=0
 ·rw [hE,sN] at hS
  have n0:=ax gz m0
  by_cases c2:x.k=2
  ·rw [if_pos c2] at hS
   simp +contextual only [go_sem,ak,sevalprocAttr,hE,n0,c2]
   refine am (Bw (hg.ext gz) (DB gz _ _ hq) (haq.ext gz) T) ?_ (fun _ _ _ _ h=>h.elim)
   rintro v M3 bD _ rfl
   simp +contextual only [go_sem,ak,sevalprocAttr]
   exact az aH.rfl' (by rw [hS])
  rw [if_neg c2] at hS
  by_cases c1:x.k=1
  ·rw [if_pos c1] at hS
   have n2:=ax gz m2
   by_cases cl:(x.cols.length:Int)<1\/8<(x.cols.length:Int)
   ·rw [if_pos cl] at hS
    by_cases cl1:(x.cols.length:Int)<1
    ·simp +contextual only [go_sem,ak,sevalprocAttr,hE,n0,c1,n2,cl1]
     exact az aH.rfl' (by rw [hS])
    ·have cl2:8<(x.cols.length:Int):=by omega
     simp +contextual only [go_sem,ak,sevalprocAttr,hE,n0,c1,n2,cl1,cl2]
     exact az aH.rfl' (by rw [hS])
   rw [if_neg cl] at hS
   have cl1:¬ (x.cols.length:Int)<1:=fun h=>cl (.inl h)
   have cl2:¬ 8<(x.cols.length:Int):=fun h=>cl (.inr h)
   simp +contextual only [go_sem,ak,sevalprocAttr,hE,n0,c1,n2,cl1,cl2]
   refine bh x.cols.length 73 [(71,.slice ca x.cols.length cc),(72,.int .i64 (x.cols.length:Int))]
    (fun i e h=>∃ N M',aH T N/\bG M M'/\h=⟨N,M',[],[]⟩/\S=ur (x.cols.drop i))
    0 (by omega) (by simp only [aG,go_sem,ak,sevalprocAttr]) (by simp only [go_sem,ak,sevalprocAttr]) ⟨T,M2,aH.rfl',gz,rfl,hS⟩ ?_
   clear hS
   rintro i e h hi aD ht ⟨N,M3,hN,bD,rfl,hS⟩
   simp only [aG] at aD
   by_cases aF:i<x.cols.length
   ·obtain ⟨b',o',cs',rfl,cC,ff⟩:=SK i x.cols[i] (List.getElem?_eq_getElem aF)
    unfold uE at ff;subst ff
    have bX:x.cols.drop i=x.cols[i]::x.cols.drop (i+1):=List.drop_eq_getElem_cons aF
    have q0:=ax bD cC.1
    have q1:=ax bD cC.2.1
    rw [bX,ur] at hS
    simp +contextual only [go_sem,ak,sevalprocAttr,aD,ht,aF,q0,q1]
    intro b5 N5 jH DQ zk b7 km dj
    refine aW xB fun M4 ce abC bH=> ?_
    have hl:RS M4 pD 1 [x.cols[i].name] (.slice (some ⟨b7,0,none⟩) 1 1):=df (fun _ _=>cO) abC (eQ [x.cols[i].name]) rfl (by decide)
    refine am (ux (hg.ext (bD.trans ce)) hl N5) ?_ (fun _ _ _ _ h=>h.elim)
    rintro v M5 dy bE rfl
    simp only [aB,and_true] at bE
    by_cases OC:eo [x.cols[i].name]=0
    ·rw [OC,sN] at hS
     by_cases t1:x.cols[i].ty<2
     ·rw [if_pos (.inl t1)] at hS
      simp +contextual only [go_sem,ak,sevalprocAttr,aD,ht,OC,bE,t1]
      exact az (hN.trans DQ) (by rw [hS])
     ·by_cases t2:4<x.cols[i].ty
      ·rw [if_pos (.inr t2)] at hS
       simp +contextual only [go_sem,ak,sevalprocAttr,aD,ht,OC,bE,t1,t2]
       exact az (hN.trans DQ) (by rw [hS])
      ·rw [if_neg (by omega)] at hS
       simp +contextual only [go_sem,ak,sevalprocAttr,aD,ht,OC,bE,t1,t2]
       rw [fq]
       refine al (aA ⟨x.cols.length - (i+1),by omega,rfl,i+1,by omega,rfl,?_,?_,N5,M5,hN.trans DQ,(bD.trans ce).trans dy,rfl,hS⟩)
       ·simp only [aG,aD,go_sem,ak,sevalprocAttr]
       ·simp only [ht,go_sem,ak,sevalprocAttr,aC i (by omega)]
    ·rw [fK OC] at hS
     simp +contextual only [go_sem,ak,sevalprocAttr,aD,ht,OC,bE]
     exact az (hN.trans DQ) (by rw [hS])
   ·have:i=x.cols.length:=by omega
    subst this
    rw [List.drop_length,ur] at hS
    simp +contextual only [go_sem,ak,sevalprocAttr,aD,ht,aF]
    exact az hN (by rw [hS])
  rw [if_neg c1] at hS
  by_cases c3:x.k=3
  ·rw [if_pos c3] at hS
   have n7:=ax gz m7
   by_cases cl:(x.rows.length:Int)<1\/400<(x.rows.length:Int)
   ·rw [if_pos cl] at hS
    by_cases cl1:(x.rows.length:Int)<1
    ·simp +contextual only [go_sem,ak,sevalprocAttr,hE,n0,c3,n7,cl1]
     exact az aH.rfl' (by rw [hS])
    ·have cl2:400<(x.rows.length:Int):=by omega
     simp +contextual only [go_sem,ak,sevalprocAttr,hE,n0,c3,n7,cl1,cl2]
     exact az aH.rfl' (by rw [hS])
   rw [if_neg cl] at hS
   have cl1:¬ (x.rows.length:Int)<1:=fun h=>cl (.inl h)
   have cl2:¬ 400<(x.rows.length:Int):=fun h=>cl (.inr h)
   simp +contextual only [go_sem,ak,sevalprocAttr,hE,n0,c3,n7,cl1,cl2]
   refine bh x.rows.length 114 [(112,.slice ra x.rows.length rc),(113,.int .i64 (x.rows.length:Int))]
    (fun i e h=>∃ N M',aH T N/\bG M M'/\h=⟨N,M',[],[]⟩/\S=qh (x.rows.drop i))
    0 (by omega) (by simp only [aG,go_sem,ak,sevalprocAttr]) (by simp only [go_sem,ak,sevalprocAttr]) ⟨T,M2,aH.rfl',gz,rfl,hS⟩ ?_
   clear hS
   rintro i e h hi aD ht ⟨N,M3,hN,bD,rfl,hS⟩
   simp only [aG] at aD
   by_cases aF:i<x.rows.length
   ·obtain ⟨b',o',cs',rfl,cC,sv,tW,rfl⟩:=Q8 i x.rows[i] (List.getElem?_eq_getElem aF)
    have bX:x.rows.drop i=x.rows[i]::x.rows.drop (i+1):=List.drop_eq_getElem_cons aF
    have q0:=ax bD cC.1
    rw [Nat.mul_one] at q0
    rw [bX,qh] at hS
    obtain ⟨hvb,va,vc,rfl,hvl,_,TH⟩:=aI (by decide) (fun _ _ h=>Hu h) tW
    by_cases rl:(x.rows[i].length:Int)<1\/8<(x.rows[i].length:Int)
    ·rw [if_pos rl] at hS
     by_cases rl1:(x.rows[i].length:Int)<1
     ·simp +contextual only [go_sem,ak,sevalprocAttr,aD,ht,aF,q0,rl1]
      exact az hN (by rw [hS])
     ·have rl2:8<(x.rows[i].length:Int):=by omega
      simp +contextual only [go_sem,ak,sevalprocAttr,aD,ht,aF,q0,rl1,rl2]
      exact az hN (by rw [hS])
    rw [if_neg rl] at hS
    have rl1:¬ (x.rows[i].length:Int)<1:=fun h=>rl (.inl h)
    have rl2:¬ 8<(x.rows[i].length:Int):=fun h=>rl (.inr h)
    simp +contextual only [go_sem,ak,sevalprocAttr,aD,ht,aF,q0,rl1,rl2]
    refine bh x.rows[i].length 128 [(112,.slice (some ⟨b',o',none⟩) x.rows.length rc),(113,.int .i64 (x.rows.length:Int)),(114,.int .i64 (i:Int)),(126,.slice va x.rows[i].length vc),(127,.int .i64 (x.rows[i].length:Int))]
     (fun j e h=>∃ N M',aH T N/\bG M M'/\h=⟨N,M',[],[]⟩/\S=sj (ul (x.rows[i].drop j)) (qh (x.rows.drop (i+1))))
     0 (by omega) (by simp only [aG,aD,ht,go_sem,ak,sevalprocAttr]) (by simp only [go_sem,ak,sevalprocAttr]) ⟨N,M3,hN,bD,rfl,hS⟩ ?_
    clear hS aD ht e hN bD q0
    rintro j e h hj aD htj ⟨N,M4,hN,ce,rfl,hS⟩
    simp only [aG] at aD
    by_cases Ad:j<x.rows[i].length
    ·obtain ⟨bv,ov,cv',rfl,aba,Bc⟩:=TH j x.rows[i][j] (List.getElem?_eq_getElem Ad)
     unfold RV V.cs at Bc;subst Bc
     have aaM:x.rows[i].drop j=x.rows[i][j]::x.rows[i].drop (j+1):=List.drop_eq_getElem_cons Ad
     have q0:=ax ce aba.1
     have q1:=ax ce aba.2.1
     have q2:=ax ce aba.2.2.1
     rw [aaM,ul] at hS
     simp +contextual only [go_sem,ak,sevalprocAttr,aD,htj,Ad,q0,q1,q2]
     intro b10 N10 ack an3 ZX
     refine am (nA x.rows[i][j] M4 N10) ?_ (fun _ _ _ _ h=>h.elim)
     rintro v M5 dy bE rfl
     by_cases OC:cR x.rows[i][j]=0
     ·rw [OC,sN] at hS
      simp +contextual only [go_sem,ak,sevalprocAttr,aD,htj,OC]
      rw [fq]
      refine al (aA ⟨x.rows[i].length - (j+1),by omega,rfl,j+1,by omega,rfl,?_,?_,N10,M5,hN.trans an3,ce.trans dy,rfl,hS⟩)
      ·simp only [aG,aD,go_sem,ak,sevalprocAttr]
      ·simp only [htj,go_sem,ak,sevalprocAttr,aC j (by omega)]
     ·rw [fK OC,fK OC] at hS
      simp +contextual only [go_sem,ak,sevalprocAttr,aD,htj,OC]
      exact az (hN.trans an3) (by rw [hS])
    ·have:j=x.rows[i].length:=by omega
     subst this
     rw [List.drop_length,ul,sN] at hS
     simp +contextual only [go_sem,ak,sevalprocAttr,aD,htj,Ad]
     refine bW aF ?_ ?_ ⟨N,M4,hN,ce,rfl,hS⟩
     ·simp only [aG,aD,go_sem,ak,sevalprocAttr]
     ·simp only [aD,go_sem,ak,sevalprocAttr,aC i (by omega)]
   ·have:i=x.rows.length:=by omega
    subst this
    rw [List.drop_length,qh] at hS
    simp +contextual only [go_sem,ak,sevalprocAttr,aD,ht,aF]
    exact az hN (by rw [hS])
  rw [if_neg c3] at hS
  by_cases c4:x.k=4
  ·rw [if_pos c4] at hS
   cases hW:x.hasW with
   | true=>
    rw [if_pos hW] at hS
    rw [hW] at m8
    simp +contextual only [go_sem,ak,sevalprocAttr,hE,n0,c2,c1,c3,c4,ax gz m8,ax gz w0,ax gz w1,ax gz w2,ax gz w3,ax gz w4,ax gz w5,ax gz w6]
    refine am (oQ (hg.ext gz) (br gz _ _ hw) T) ?_ (fun _ _ _ _ h=>h.elim)
    rintro v M3 bD _ rfl
    simp +contextual only [go_sem,ak,sevalprocAttr]
    exact az aH.rfl' (by rw [hS])
   | false=>
    rw [if_neg (by rw [hW];exact Bool.false_ne_true)] at hS
    rw [hW] at m8
    simp +contextual only [go_sem,ak,sevalprocAttr,hE,n0,c2,c1,c3,c4,ax gz m8]
    exact az aH.rfl' (by rw [hS])
  ·rw [if_neg c4] at hS
   simp +contextual only [go_sem,ak,sevalprocAttr,hE,n0,c2,c1,c3,c4]
   exact az aH.rfl' (by rw [hS])
 ·rw [fK hE] at hS
  simp +contextual only [go_sem,ak,sevalprocAttr,hE]
  exact az aH.rfl' (by rw [hS])
def nx:Nat ->List Stm ->Int×Nat | _,[]=>(0,0) | i,s::l=>if mi s≠0 then (mi s,i) else nx (i+1) l
def eH (l:List Stm):Int×Nat:=if 60<(l.length:Int) then (5,0) else nx 0 l
theorem ED {M:aV}{l:List Stm}{sv:Value}(hg:fO M)(hs:RS M (o9 M) 16 l sv):Ct Tryz.prog 42 [sv] M [] [] (fun r _ _ _=>r=OJ (eH l).1 ((eH l).2:Int)) bj:=by
 intro T
 obtain ⟨hb,a,c,rfl,jo,_,eE⟩:=aI (by decide) (fun _ _=>kg) hs
 obtain ⟨S,hS⟩:∃ S,S=eH l:=⟨_,rfl⟩
 rw [<- hS]
 unfold eH at hS
 refine aT mx Zu Tryz.func42 rfl (by rw [aqd];exact Nat.le_of_ble_eq_true rfl) (dr:=ajw) (by kernel_rfl) aq5 ?_
 intro bN _
 simp +contextual only [go_sem,ak,sevalprocAttr]
 intro b2 T2 eG fu ju
 by_cases h60:60<(l.length:Int)
 ·rw [if_pos h60] at hS
  simp +contextual only [go_sem,ak,sevalprocAttr,h60,eG]
  exact az fu (by rw [hS];rfl)
 rw [if_neg h60] at hS
 simp +contextual only [go_sem,ak,sevalprocAttr,h60,eG]
 refine bh l.length 11 [(0,.slice a l.length c),(2,.pointer (some ⟨b2,0,none⟩)),(10,.int .i64 l.length)] (fun i e h=>∃ M',bG M M'/\M' b2=none/\h=⟨T2,M',[(b2,[.int .i64 0,.int .i64 0])],[]⟩/\S=nx i (l.drop i)) 0 (by omega) (by simp only [aG,go_sem,ak,sevalprocAttr]) (by simp only [go_sem,ak,sevalprocAttr]) ⟨M,bG.rfl',eG,rfl,hS⟩ ?_
 clear hS
 rintro i e h hi aD ht ⟨M1,aP,n2,rfl,hS⟩
 simp only [aG] at aD
 by_cases aF:i<l.length
 ·obtain ⟨b,o,cs,rfl,cC,ff⟩:=eE i l[i] (List.getElem?_eq_getElem aF)
  have bX:l.drop i=l[i]::l.drop (i+1):=List.drop_eq_getElem_cons aF
  rw [bX,nx] at hS
  simp +contextual only [go_sem,ak,sevalprocAttr,aD,ht,aF]
  refine am (Qa (hg.ext aP) (nQ aP _ _ ff) (cC.ext aP) T2) ?_ (fun _ _ _ _ h=>h.elim)
  rintro v M2 aX aQ rfl
  simp only [aB,and_true] at aQ
  by_cases hE:mi l[i]=0
  ·rw [if_neg (fun h=>h hE)] at hS
   simp +contextual only [go_sem,ak,sevalprocAttr,aD,ht,hE]
   refine bW aF ?_ ?_ ⟨M2,aP.trans aX,aQ,rfl,hS⟩
   ·simp only [aG,aD,go_sem,ak,sevalprocAttr]
   ·simp only [ht,go_sem,ak,sevalprocAttr,aC i (by omega)]
  ·rw [if_pos hE] at hS
   simp +contextual only [go_sem,ak,sevalprocAttr,aD,ht,hE,aQ]
   exact az fu (by rw [hS];rfl)
 ·have:i=l.length:=by omega
  subst this
  rw [List.drop_length,nx] at hS
  simp +contextual only [go_sem,ak,sevalprocAttr,aD,ht,aF,n2]
  exact az fu (by rw [hS];rfl)
def yX (t t':List Tk):Prop:=t.map (fun x=>(x.k,x.s))=t'.map (fun x=>(x.k,x.s))
theorem yX.rfl' {t:List Tk}:yX t t:=rfl
theorem yX.nil {t':List Tk}(h:yX [] t'):t'=[]:=by simpa [yX] using h.symm
theorem yX.cons {x:Tk}{t t':List Tk}(h:yX (x::t) t'):∃ x' t1,t'=x'::t1/\x'.k=x.k/\x'.s=x.s/\yX t t1:=by
 cases t' with
 | nil=>simp [yX] at h
 | cons x' t1=>
  simp only [yX,List.map_cons,List.cons.injEq,Prod.mk.injEq] at h
  exact ⟨x',t1,rfl,h.1.1.symm,h.1.2.symm,h.2⟩
theorem yX.tail {t t':List Tk}(h:yX t t'):yX t.tail t'.tail:=by
 cases t with
 | nil=>rw [h.nil];rfl
 | cons x t=>obtain ⟨x',t1,rfl,_,_,h⟩:=h.cons;exact h
theorem uv {t' u:List Tk}(h:t'≠[]):(t'++u).tail=t'.tail++u:=by
 cases t' with
 | nil=>exact (h rfl).elim
 | cons x t=>rfl
theorem yX.ne {t t':List Tk}(h:yX t t')(hn:t≠[]):t'≠[]:=by
 cases t with
 | nil=>exact (hn rfl).elim
 | cons x t=>obtain ⟨x',t1,rfl,_,_,h⟩:=h.cons;simp
theorem uP {r t:List Tk}(h:r.length<=t.length)(hr:r≠[]):t≠[]:=by
 rintro rfl
 exact hr (List.length_eq_zero_iff.1 (by simpa using h))
theorem j4 {s:Bs}{t t':List Tk}(h:yX t t'):bg s t'=bg s t:=by
 cases t with
 | nil=>rw [h.nil]
 | cons x t=>obtain ⟨x',t1,rfl,h1,h2,h⟩:=h.cons;simp only [bg,h1,h2]
theorem j1 {s:Bs}{t' u:List Tk}(h:t'≠[]):bg s (t'++u)=bg s t':=by
 cases t' with
 | nil=>exact (h rfl).elim
 | cons x t=>rfl
theorem ye {s:Bs}{t:List Tk}(h:bg s t=true):t≠[]:=by rintro rfl;cases h
theorem KO {l:List Bs}{t t':List Tk}(h:yX t t'):bJ l t'=bJ l t:=by
 induction l with
 | nil=>rfl
 | cons s l ih=>simp only [bJ,j4 h,ih]
theorem KW {l:List Bs}{t' u:List Tk}(h:t'≠[]):bJ l (t'++u)=bJ l t':=by
 induction l with
 | nil=>rfl
 | cons s l ih=>simp only [bJ,j1 h,ih]
theorem Sv {l:List Bs}{t:List Tk}{j:Nat}(h:bJ l t=some j):t≠[]:=by
 rintro rfl
 induction l generalizing j with
 | nil=>cases h
 | cons s l ih=>
  simp only [bJ,bg,Bool.false_eq_true,if_false,Option.map_eq_some_iff] at h
  obtain ⟨k,h,_⟩:=h
  exact ih h
def lT {α:Type}(g h:List Tk ->Rs α):Prop:=∀ t t' u a r,yX t t' ->g t=.ok a r ->r.length<=t.length/\(r≠[] ->∃ r',yX r r'/\h (t'++u)=.ok a (r'++u))
def Loc {α:Type}(g:Int ->List Tk ->Rs α):Prop:=∀ en en',lT (g en) (g en')
theorem ir {α:Type}{a:α}:lT (fun t=> .ok a t) (fun t=> .ok a t):=by
 intro t t' u b r he h
 injection h with h1 h2;subst h1 h2
 exact ⟨Nat.le_refl _,fun _=>⟨t',he,rfl⟩⟩
theorem CL {α:Type}{e:Int}{f g:List Tk ->Int}:lT (fun t=>(.err e (f t):Rs α)) (fun t=> .err e (g t)):=by
 intro t t' u b r he h;cases h
theorem cH {α β:Type}{g g':List Tk ->Rs α}{f f':α ->List Tk ->Rs β}(hg:lT g g')(hf:∀ a,lT (f a) (f' a)):lT (fun t=>(g t).bind (f)) (fun t=>(g' t).bind f'):=by
 intro t t' u b r he h
 have h:(g t).bind f=.ok b r:=h
 cases hgt:g t with
 | err e a=>rw [hgt] at h;cases h
 | out=>rw [hgt] at h;cases h
 | ok a t1=>
  rw [hgt] at h
  have h2:f a t1=.ok b r:=h
  obtain ⟨l1,n1⟩:=hg t t' u a t1 he hgt
  obtain ⟨l2,_⟩:=hf a t1 t1 u b r rfl h2
  refine ⟨Nat.le_trans l2 l1,fun hr=> ?_⟩
  obtain ⟨t1',e1,pm⟩:=n1 (uP l2 hr)
  obtain ⟨_,n2⟩:=hf a t1 t1' u b r e1 h2
  obtain ⟨r',e2,LG⟩:=n2 hr
  refine ⟨r',e2,?_⟩
  show (g' (t'++u)).bind f'=_
  rw [pm];exact LG
theorem lf {α:Type}{s:Bs}{g g' k k':List Tk ->Rs α}(hg:lT g g')(hk:lT k k'):lT (fun t=>if bg s t=true then g t.tail else k t) (fun t=>if bg s t=true then g' t.tail else k' t):=by
 intro t t' u b r he h
 simp only at h
 by_cases hs:bg s t=true
 ·rw [if_pos hs] at h
  have dh:=ye hs
  have kE:=he.ne dh
  obtain ⟨l1,n1⟩:=hg t.tail t'.tail u b r he.tail h
  refine ⟨Nat.le_trans l1 (by simp),fun hr=> ?_⟩
  obtain ⟨r',e1,h1⟩:=n1 hr
  refine ⟨r',e1,?_⟩
  simp only
  rw [if_pos (by rw [j1 kE,j4 he];exact hs),uv kE]
  exact h1
 ·rw [if_neg hs] at h
  obtain ⟨l1,n1⟩:=hk t t' u b r he h
  refine ⟨l1,fun hr=> ?_⟩
  obtain ⟨r',e1,h1⟩:=n1 hr
  have kE:=he.ne (uP l1 hr)
  refine ⟨r',e1,?_⟩
  simp only
  rw [if_neg (by rw [j1 kE,j4 he];exact hs)]
  exact h1
theorem J0 {α:Type}{l:List Bs}{g g':Nat ->List Tk ->Rs α}{k k':List Tk ->Rs α}(hg:∀ j,lT (g j) (g' j))(hk:lT k k'):
 lT (fun t=>match bJ l t with | some j=>g j t.tail | none=>k t) (fun t=>match bJ l t with | some j=>g' j t.tail | none=>k' t):=by
 intro t t' u b r he h
 simp only at h
 cases hs:bJ l t with
 | some j=>
  rw [hs] at h
  have dh:=Sv hs
  have kE:=he.ne dh
  obtain ⟨l1,n1⟩:=hg j t.tail t'.tail u b r he.tail h
  refine ⟨Nat.le_trans l1 (by simp),fun hr=> ?_⟩
  obtain ⟨r',e1,h1⟩:=n1 hr
  refine ⟨r',e1,?_⟩
  simp only
  rw [KW kE,KO he,hs,uv kE]
  exact h1
 | none=>
  rw [hs] at h
  obtain ⟨l1,n1⟩:=hk t t' u b r he h
  refine ⟨l1,fun hr=> ?_⟩
  obtain ⟨r',e1,h1⟩:=n1 hr
  have kE:=he.ne (uP l1 hr)
  refine ⟨r',e1,?_⟩
  simp only
  rw [KW kE,KO he,hs]
  exact h1
theorem zf {α:Type}(c:Prop)[Decidable c]{g g' k k':List Tk ->Rs α}(hg:lT g g')(hk:lT k k'):lT (fun t=>if c then g t else k t) (fun t=>if c then g' t else k' t):=by
 by_cases h:c
 ·simp only [if_pos h];exact hg
 ·simp only [if_neg h];exact hk
theorem fw:∀ (l:List Bs),Loc fun en=>bY en l
 | [],en,en'=>ir
 | s::l,en,en'=>lf (fw l en en') CL
theorem E1:Loc fun en=>iE en:=by
 intro en en' t t' u a r he h
 cases t with
 | nil=>cases h
 | cons x t=>
  obtain ⟨x',t1,rfl,h1,h2,he⟩:=he.cons
  simp only [iE] at h
  split at h
  ·rename_i hk
   split at h
   ·rename_i hn
    injection h with h3 h4;subst h3 h4
    refine ⟨by simp,fun _=>⟨t1,he,?_⟩⟩
    simp only [List.cons_append,iE,h1,h2,if_pos hk,if_pos hn]
   ·cases h
  ·cases h
theorem VO:Loc fun en=>sP en:=by
 have key:∀ (neg:Bool) (at0 at1 en en':Int),lT (nI neg at0 en) (nI neg at1 en'):=by
  intro neg at0 at1 en en' t t' u a r he h
  cases t with
  | nil=>cases h
  | cons x t=>
   obtain ⟨x',t1,rfl,h1,h2,he⟩:=he.cons
   simp only [nI] at h
   split at h
   ·rename_i hk
    split at h
    ·cases h
    ·rename_i hn
     injection h with h3 h4;subst h3 h4
     refine ⟨by simp,fun _=>⟨t1,he,?_⟩⟩
     simp only [List.cons_append,nI,h1,h2,if_pos hk,if_neg hn]
   ·cases h
 intro en en' t t' u a r he h
 have h:nI (bg iW t) (pF en t) en (if bg iW t=true then t.tail else t)=.ok a r:=h
 by_cases hs:bg iW t=true
 ·have dh:=ye hs
  have kE:=he.ne dh
  have oD:bg iW (t'++u)=true:=by rw [j1 kE,j4 he];exact hs
  rw [if_pos hs,hs] at h
  obtain ⟨l1,n1⟩:=key true (pF en t) (pF en' (t'++u)) en en' t.tail t'.tail u a r he.tail h
  refine ⟨Nat.le_trans l1 (by simp),fun hr=> ?_⟩
  obtain ⟨r',e1,h1⟩:=n1 hr
  refine ⟨r',e1,?_⟩
  show nI _ _ _ _=_
  rw [if_pos oD,oD,uv kE]
  exact h1
 ·rw [if_neg hs] at h
  simp only [Bool.not_eq_true] at hs
  rw [hs] at h
  obtain ⟨l1,n1⟩:=key false (pF en t) (pF en' (t'++u)) en en' t t' u a r he h
  refine ⟨l1,fun hr=> ?_⟩
  obtain ⟨r',e1,h1⟩:=n1 hr
  have kE:=he.ne (uP l1 hr)
  have oD:bg iW (t'++u)=false:=by rw [j1 kE,j4 he];exact hs
  refine ⟨r',e1,?_⟩
  show nI _ _ _ _=_
  rw [oD,if_neg Bool.false_ne_true]
  exact h1
theorem qR {k:Int}{t t':List Tk}(h:yX t t'):iO k t'=iO k t:=by
 cases t with
 | nil=>rw [h.nil]
 | cons x t=>obtain ⟨x',t1,rfl,h1,h2,h⟩:=h.cons;simp only [iO,h1]
theorem qN {k:Int}{t' u:List Tk}(h:t'≠[]):iO k (t'++u)=iO k t':=by
 cases t' with
 | nil=>exact (h rfl).elim
 | cons x t=>rfl
theorem OT {t t' u:List Tk}(h:yX t t')(hn:t≠[]):xJ (t'++u)=xJ t:=by
 cases t with
 | nil=>exact (hn rfl).elim
 | cons x t=>obtain ⟨x',t1,rfl,h1,h2,h⟩:=h.cons;simp only [List.cons_append,xJ,h2]
theorem K2 {k:Int}{t:List Tk}(h:iO k t=true):t≠[]:=by rintro rfl;cases h
theorem Xr {α β:Type}{f:α ->β}{g g':List Tk ->Rs α}(hg:lT g g'):lT (fun t=>(g t).map f) (fun t=>(g' t).map f):=by
 have h:=cH (f:=fun a t=> .ok (f a) t) (f':=fun a t=> .ok (f a) t) hg (fun a=>ir)
 have e:∀ (g:List Tk ->Rs α),(fun t=>(g t).map f)=fun t=>(g t).bind fun a t=> .ok (f a) t:=by
  intro g;funext t;cases g t<;>rfl
 rw [e,e];exact h
theorem Mu:Loc fun en=>eS en:=by
 intro en en'
 refine lf ir (lf ir (lf ir ?_))
 have auI:=Xr (f:=fun n=>some (⟨3,n,[]⟩:V)) (VO en en')
 intro t t' u a r he h
 simp only at h
 by_cases h1:bg iW t=true\/iO 2 t=true
 ·rw [if_pos h1] at h
  have dh:t≠[]:=by rcases h1 with h1 | h1;exact ye h1;exact K2 h1
  have kE:=he.ne dh
  obtain ⟨l1,n1⟩:=auI t t' u a r he h
  refine ⟨l1,fun hr=> ?_⟩
  obtain ⟨r',e1,h2⟩:=n1 hr
  refine ⟨r',e1,?_⟩
  simp only
  rw [if_pos (by rw [j1 kE,j4 he,qN kE,qR he];exact h1)]
  exact h2
 ·rw [if_neg h1] at h
  by_cases h3:iO 3 t=true
  ·rw [if_pos h3] at h
   have dh:=K2 h3
   have kE:=he.ne dh
   injection h with h4 h5
   subst h4 h5
   refine ⟨by simp,fun hr=>⟨t'.tail,he.tail,?_⟩⟩
   simp only
   rw [if_neg (by rw [j1 kE,j4 he,qN kE,qR he];exact h1),if_pos (by rw [qN kE,qR he];exact h3),OT he dh,uv kE]
  ·rw [if_neg h3] at h
   injection h with h4 h5
   subst h4 h5
   refine ⟨Nat.le_refl _,fun hr=>⟨t',he,?_⟩⟩
   have kE:=he.ne hr
   simp only
   rw [if_neg (by rw [j1 kE,j4 he,qN kE,qR he];exact h1),if_neg (by rw [qN kE,qR he];exact h3)]
theorem adq {x:X}:Loc fun en=>fun t=>if bg lm t=true then (bY en [kP] t.tail).bind fun _ t=> .ok (nB 3 [nB 16 [x]]) t else (bY en [kP] t).bind fun _ t=> .ok (nB 16 [x]) t:=fun en en'=>
 lf (g:=fun t=>(bY en [kP] t).bind fun _ t=> .ok (nB 3 [nB 16 [x]]) t) (cH (fw _ en en') fun _=>ir) (cH (fw _ en en') fun _=>ir)
theorem acy (en:Int)(x:X)(t:List Tk):Zf en x t=if bg lm t.tail=true then (bY en [kP] t.tail.tail).bind fun _ t=> .ok (nB 3 [nB 16 [x]]) t else (bY en [kP] t.tail).bind fun _ t=> .ok (nB 16 [x]) t:=by
 unfold Zf
 by_cases h:bg lm t.tail=true
 ·simp only [if_pos h]
 ·simp only [if_neg h]
theorem yt {g g':List Tk ->Rs X}(hg:lT g g')(l:Lvl):∀ (k k':Nat) (x:X),k<=k' ->lT (i8 g l k x) (i8 g' l k' x)
 | 0,k',x,hk=>by intro t t' u a r he h;cases h
 | k+1,0,x,hk=>by omega
 | k+1,k'+1,x,hk=>by
  have:=J0 (l:=l.signs) (g:=fun j t=>(g t).bind fun y t'=>if l.once=true then .ok (nB (l.kind+j) [x,y]) t' else i8 g l k (nB (l.kind+j) [x,y]) t')
   (g':=fun j t=>(g' t).bind fun y t'=>if l.once=true then .ok (nB (l.kind+j) [x,y]) t' else i8 g' l k' (nB (l.kind+j) [x,y]) t') (k:=fun t=> .ok x t) (k':=fun t=> .ok x t)
   (fun j=>cH hg fun y=>zf _ ir (yt hg l k k' _ (by omega))) ir
  have e:∀ (g:List Tk ->Rs X) (k:Nat),i8 g l (k+1) x=fun t=>match bJ l.signs t with
   | some j=>(fun j t=>(g t).bind fun y t'=>if l.once=true then .ok (nB (l.kind+j) [x,y]) t' else i8 g l k (nB (l.kind+j) [x,y]) t') j t.tail
   | none=>(fun t=> .ok x t) t:=by
   intro g k;funext t
   rw [i8]
   cases bJ l.signs t<;>rfl
  rw [e,e];exact this
theorem LU {en en':Int}{ex ex':List Tk ->Rs X}(jb:lT ex ex'):lT (gN en ex) (gN en' ex'):=by
 refine cH (Mu en en') fun v=> ?_
 cases v with
 | some v=>exact ir
 | none=>
  simp only
  refine lf (g:=fun t=>(ex t).bind fun x t=>(bY en [cd] t).bind fun _ t=> .ok x t) (cH jb fun x=>cH (fw _ en en') fun _=>ir) ?_
  refine lf (g:=fun t=>(bY en [pM] t).bind fun _ t=>(ex t).bind fun a t=>(bY en [rU] t).bind fun _ t=>(ex t).bind fun b t=>(bY en [vX] t).bind fun _ t=>(ex t).bind fun c t=>(bY en [Ob] t).bind fun _ t=> .ok (nB 17 [a,b,c]) t)
   (cH (fw _ en en') fun _=>cH jb fun _=>cH (fw _ en en') fun _=>cH jb fun _=>cH (fw _ en en') fun _=>cH jb fun _=>cH (fw _ en en') fun _=>ir) ?_
  refine lf (g:=fun t=>(bY en [dp] t).bind fun _ t=>(ex t).bind fun a t=>(bY en [ct] t).bind fun _ t=>(ex t).bind fun b t=>(bY en [cd] t).bind fun _ t=> .ok (nB 18 [a,b]) t)
   (cH (fw _ en en') fun _=>cH jb fun _=>cH (fw _ en en') fun _=>cH jb fun _=>cH (fw _ en en') fun _=>ir) ?_
  refine lf (g:=fun t=>(bY en [dp] t).bind fun _ t=>if bg gA t=true then (bY en [cd] t.tail).bind fun _ t=> .ok (nB 19 []) t else (ex t).bind fun a t=>(bY en [cd] t).bind fun _ t=> .ok (nB 20 [a]) t)
   (cH (fw _ en en') fun _=>lf (g:=fun t=>(bY en [cd] t).bind fun _ t=> .ok (nB 19 []) t) (cH (fw _ en en') fun _=>ir) (cH jb fun _=>cH (fw _ en en') fun _=>ir)) ?_
  refine J0 (g:=fun i t=>(bY en [dp] t).bind fun _ t=>(ex t).bind fun a t=>(bY en [cd] t).bind fun _ t=> .ok (nB (21+i) [a]) t) (fun i=>cH (fw _ en en') fun _=>cH jb fun _=>cH (fw _ en en') fun _=>ir) ?_
  exact cH (E1 en en') fun n=>lf (g:=fun t=>(iE en t).bind fun m t=> .ok (X.mk 2 ⟨0,0,[]⟩ n m []) t) (cH (E1 en en') fun m=>ir) ir
theorem KH:∀ (f n:Nat) (op:Int),Loc fun en=>ei en f n op
 | 0,n,op,en,en'=>by intro t t' u a r he h;cases h
 | f+1,n,op,en,en'=>by
  have ih:=KH f
  by_cases h7:n=7
  ·have e:∀ en,ei en (f+1) n op=gN en (fun t=>if op+1>100 then .err 4 (pF en t) else ei en f 0 (op+1) t):=by
    intro en;funext t;rw [ei,if_pos h7]
   show lT (ei en (f+1) n op) (ei en' (f+1) n op)
   rw [e,e]
   exact LU (zf _ CL (ih 0 (op+1) en en'))
  by_cases h2:n=2
  ·have e:∀ en,ei en (f+1) n op=fun t=>if bg lm t=true then (fun t=>if op+1>100 then .err 4 (pF en t) else (ei en f 2 (op+1) t).bind fun x t=> .ok (nB 3 [x]) t) t.tail else ei en f 3 op t:=by
    intro en;funext t;rw [ei,if_neg h7,if_pos h2]
   show lT (ei en (f+1) n op) (ei en' (f+1) n op)
   rw [e,e]
   exact lf (zf _ CL (cH (ih 2 (op+1) en en') fun x=>ir)) (ih 3 op en en')
  ·by_cases h3:n=3
   ·have e:∀ en,ei en (f+1) n op=fun t=>(ei en f (n+1) op t).bind fun x t=>if bg NW t=true then (fun t=>if bg lm t=true then (bY en [kP] t.tail).bind fun _ t=> .ok (nB 3 [nB 16 [x]]) t else (bY en [kP] t).bind fun _ t=> .ok (nB 16 [x]) t) t.tail
     else (fun t=>i8 (ei en f (n+1) op) (fd n) (t.length+1) x t) t:=by
     intro en;funext t;rw [ei,if_neg h7,if_neg h2]
     congr 1;funext x t
     by_cases hi:bg NW t=true
     ·rw [if_pos ⟨h3,hi⟩,if_pos hi,acy]
     ·rw [if_neg (fun h=>hi h.2),if_neg hi]
    show lT (ei en (f+1) n op) (ei en' (f+1) n op)
    rw [e,e]
    refine cH (ih (n+1) op en en') fun x=>lf (adq en en') ?_
    intro t t' u a r he h
    have bQ:t.length=t'.length:=by have:=congrArg List.length he;simpa [yX] using this
    exact yt (ih (n+1) op en en') (fd n) (t.length+1) ((t'++u).length+1) x (by rw [List.length_append];omega) t t' u a r he h
   ·have e:∀ en,ei en (f+1) n op=fun t=>(ei en f (n+1) op t).bind fun x t=>(fun t=>i8 (ei en f (n+1) op) (fd n) (t.length+1) x t) t:=by
     intro en;funext t;rw [ei,if_neg h7,if_neg h2]
     congr 1;funext x t
     rw [if_neg (fun h=>h3 h.1)]
    show lT (ei en (f+1) n op) (ei en' (f+1) n op)
    rw [e,e]
    refine cH (ih (n+1) op en en') fun x=> ?_
    intro t t' u a r he h
    have bQ:t.length=t'.length:=by have:=congrArg List.length he;simpa [yX] using this
    exact yt (ih (n+1) op en en') (fd n) (t.length+1) ((t'++u).length+1) x (by rw [List.length_append];omega) t t' u a r he h
section
variable {en en':Int} {ex ex':List Tk ->Rs X}
end
theorem Kv {g:List Tk ->Rs X}(hg:∀ t,g t≠ .out)(jo:∀ t a r,g t=.ok a r ->r.length<=t.length)(l:Lvl):∀ (k:Nat) (x:X) (t:List Tk),t.length<k ->i8 g l k x t≠ .out
 | 0,x,t,h=>by omega
 | k+1,x,t,h=>by
  rw [i8]
  cases hi:bJ l.signs t with
  | none=>simp
  | some j=>
   simp only
   cases hgt:g t.tail with
   | out=>exact (hg _ hgt).elim
   | err e a=>simp [Rs.bind]
   | ok y t'=>
    simp only [Rs.bind]
    split
    ·simp
    ·refine Kv hg jo l k _ t' ?_
     have:=jo _ _ _ hgt
     have dh:=Sv hi
     have:t.tail.length<t.length:=by
      cases t with
      | nil=>exact (dh rfl).elim
      | cons _ _=>simp
     omega
theorem Sm {en:Int}{ex:List Tk ->Rs X}(jb:∀ t,ex t≠ .out)(t:List Tk):gN en ex t≠ .out:=by
 have hn:∀ {α:Type} {l t} {f:Unit ->List Tk ->Rs α},(∀ a t,f a t≠ .out) ->(bY en l t).bind f≠ .out:=fun h=>bM eB h
 have hx:∀ {α:Type} {t} {f:X ->List Tk ->Rs α},(∀ a t,f a t≠ .out) ->(ex t).bind f≠ .out:=fun h=>bM (jb _) h
 unfold gN
 refine bM Bn fun v t=> ?_
 cases v with
 | some v=>simp
 | none=>
  simp only
  split
  ·exact hx fun _ _=>hn fun _ _=>by simp
  split
  ·exact hn fun _ _=>hx fun _ _=>hn fun _ _=>hx fun _ _=>hn fun _ _=>hx fun _ _=>hn fun _ _=>by simp
  split
  ·exact hn fun _ _=>hx fun _ _=>hn fun _ _=>hx fun _ _=>hn fun _ _=>by simp
  split
  ·refine hn fun _ _=> ?_
   split
   ·exact hn fun _ _=>by simp
   ·exact hx fun _ _=>hn fun _ _=>by simp
  split
  ·exact hn fun _ _=>hx fun _ _=>hn fun _ _=>by simp
  ·refine bM jy fun _ _=> ?_
   split
   ·exact bM jy fun _ _=>by simp
   ·simp
theorem aaz {en:Int}{f n:Nat}{op:Int}{t:List Tk}{a r}(h:ei en f n op t=.ok a r):r.length<=t.length:=(KH f n op en en t t [] a r rfl h).1
theorem vL {en:Int}:∀ (f n:Nat) (op:Int),n<=7 ->op<=100 ->9*(101 - op)+8 - n<f ->∀ t,ei en f n op t≠ .out
 | 0,n,op,h1,h2,h3,t=>by omega
 | f+1,n,op,h1,h2,h3,t=>by
  rw [ei]
  split
  ·rename_i h7
   refine Sm (fun t=> ?_) t
   split
   ·simp
   ·exact vL f 0 (op+1) (by omega) (by omega) (by omega) t
  split
  ·rename_i h7 LG
   split
   ·split
    ·simp
    ·exact bM (vL f 2 (op+1) (by omega) (by omega) (by omega) _) fun _ _=>by simp
   ·exact vL f 3 op (by omega) (by omega) (by omega) t
  ·rename_i h7 LG
   refine bM (vL f (n+1) op (by omega) h2 (by omega) t) fun x t=> ?_
   split
   ·unfold Zf
    exact bM eB fun _ _=>by simp
   ·exact Kv (fun t=>vL f (n+1) op (by omega) h2 (by omega) t) (fun t a r h=>aaz h) _ _ _ _ (by omega)
def Um (en:Int)(t:List Tk):Rs X:=uK en 1000 0 t
theorem aes {en:Int}(t:List Tk):Um en t≠ .out:=by
 unfold Um uK
 split
 ·simp
 ·exact vL 1000 0 (0+1) (by omega) (by omega) (by omega) t
section
variable {en:Int} {ex:List Tk ->Rs X}
theorem Vb (jb:∀ t,ex t≠ .out)(t:List Tk):su en ex t≠ .out:=by
 refine bM (jb t) fun x t=> ?_
 split
 ·exact bM jy fun _ _=>by simp
 ·simp
theorem BD (jb:∀ t,ex t≠ .out)(k:Int)(t:List Tk):jC en ex k t≠ .out:=by
 refine bM jy fun n t=>bM ?_ fun a t=> ?_
 ·unfold asM;split
  ·exact jy
  ·simp
 ·split
  ·exact bM eB fun _ _=>bM (jb _) fun _ _=>by simp
  ·simp
theorem FF (jb:∀ t,ex t≠ .out):∀ (eT:Nat) (t:List Tk),vN en ex eT t≠ .out
 | 0,t=>by
  rw [mA]
  refine bM Fx fun k t=> ?_
  unfold qK;split<;>simp
 | n+1,t=>by
  rw [mA]
  refine bM Fx fun k t=> ?_
  unfold qK
  split
  ·exact bM (BD jb k t) fun _ _=>bM (FF jb n _) fun _ _=>by simp
  ·simp
theorem DV (jb:∀ t,ex t≠ .out){w:Bs}{t:List Tk}:wR ex w t≠ .out:=by
 unfold wR;split
 ·exact jb _
 ·simp
theorem Sx (jb:∀ t,ex t≠ .out)(t:List Tk):tX en ex t≠ .out:=by
 refine bM eB fun _ t0=>bM ?_ fun items t=> ?_
 ·split
  ·simp
  ·exact nY (fun t=>Vb jb t)
 ·refine bM eB fun _ _=>bM (BD jb 1 _) fun _ _=>bM (FF jb 3 _) fun _ _=>bM (DV jb) fun _ _=>bM ?_ fun _ _=>bM (DV jb) fun _ _=>by simp
  unfold Oh;split
  ·exact bM eB fun _ _=>nY jb
  ·simp
theorem FD (jb:∀ t,ex t≠ .out):∀ (eT:Nat) (k:Int) (t:List Tk),qO en ex eT k t≠ .out
 | 0,k,t=>by unfold qO;split<;>simp
 | n+1,k,t=>by
  rw [qO]
  split
  ·exact bM (Sx jb t) fun _ _=>bM KB fun k' t'=>bM (FD jb n k' t') fun _ _=>by simp
  ·simp
theorem GC (jb:∀ t,ex t≠ .out)(t:List Tk):mG en ex t≠ .out:=by
 refine bM (Sx jb t) fun _ _=>bM KB fun _ _=>bM (FD jb 3 _ _) fun _ _=>bM ?_ fun _ _=>by simp
 unfold vE
 split
 ·refine bM eB fun _ _=>bM (nY jb) fun _ _=>bM eB fun _ _=>bM ?_ fun _ _=>by simp
  unfold S5
  refine bM KG fun _ _=> ?_
  split<;>simp
 ·simp
theorem Ww (jb:∀ t,ex t≠ .out)(t:List Tk):lW en ex t≠ .out:=by
 unfold lW
 split
 ·split
  ·exact bM jy fun _ _=>bM eB fun _ _=>bM (GC jb _) fun _ _=>by simp
  ·exact bM eB fun _ _=>bM jy fun _ _=>bM eB fun _ _=>bM (nY fun _=>yP) fun _ _=>bM eB fun _ _=>by simp
 split
 ·exact bM eB fun _ _=>bM jy fun _ _=>bM eB fun _ _=>bM (nY fun _=>JW) fun _ _=>by simp
 split
 ·exact bM eB fun _ _=>bM jy fun _ _=>bM (DV jb) fun _ _=>by simp
 ·exact bM eB fun _ _=>bM (GC jb _) fun _ _=>by simp
end
def jS (en:Int):Nat ->List Tk ->Rs (List Stm)
 | eT,t=>if t=[] then .ok [] [] else match eT with
  | 0=> .err 5 (pF en t)
  | r+1=>(lW en (Um en) t).bind fun s t=>(bY en [qY] t).bind fun _ t=>(jS en r t).bind fun l t=> .ok (s::l) t
def IP (en:Int)(eT:Nat)(t:List Tk):Rs (List Stm):=match eT with
 | 0=> .err 5 (pF en t)
 | r+1=>(lW en (Um en) t).bind fun s t=>(bY en [qY] t).bind fun _ t=>(jS en r t).bind fun l t=> .ok (s::l) t
theorem wE (en:Int)(eT:Nat)(t:List Tk)(h:t≠[]):jS en eT t=IP en eT t:=by
 cases eT<;>(rw [jS,if_neg h];rfl)
theorem yU (en:Int)(eT:Nat):jS en eT []=.ok [] []:=by cases eT<;>rfl
def kz (s:Bs):List Stm×Int×Int:=match nj s with
 | .error x=>([],x.1,x.2)
 | .ok ts=>match jS s.length 60 ts with
  | .err e a=>([],e,a)
  | .out=>([],0,0)
  | .ok l _=>if (eH l).1≠0 then ([],(eH l).1,0) else (l,0,0)
theorem eY {T dr ts post}:(Ml T dr ts post).ret=Ta T ts post:=(rfl)
theorem gP {T dr ts post}:(Ml T dr ts post).pan=Kn T post:=(rfl)
theorem fZ {T dr ts post}:(Ml T dr ts post).dr=dr:=(rfl)
theorem zu {T post}(ops:List Oper)(h:(ops.all fun o=>match o.dst with | some d=>d !=2 && d !=3 | none=>true)=true):ze (Kn T post) ops:=by
 intro o ho d hd ch e v ds h' hp
 have:=List.all_eq_true.1 h o ho
 rw [hd] at this
 simp at this
 obtain ⟨b2,b3,ag,er,a,h1,h2,h3,h4,h5,h6⟩:=hp
 unfold upd at h3 h4
 rw [if_neg (fun h=>this.1 h.symm)] at h3
 rw [if_neg (fun h=>this.2 h.symm)] at h4
 exact ⟨b2,b3,ag,er,a,h1,h2,h3,h4,h5,h6⟩
theorem MS {M:aV}{x:Stm}{cs:List Value}(h:o9 M x cs):∀ u∈cs,u.oneCell'=true:=by
 obtain ⟨c,q,r,w,h1,⟨p,o,g,q1,q2,q3,rfl⟩,h3,h4,rfl⟩:=h
 intro u hu
 simp only [List.cons_append,List.nil_append,List.mem_cons,List.mem_append,List.not_mem_nil,or_false] at hu
 rcases hu with rfl | rfl | rfl | rfl | rfl | rfl | rfl | rfl | rfl | hu
 ·rfl
 ·rfl
 ·exact (eV h1).1
 ·exact (eV q1).1
 ·exact (eV q2).1
 ·exact (eV q3).1
 ·rfl
 ·exact (eV h3).1
 ·rfl
 ·exact mq h4 u hu
def zK (s:Bs):eP:=fun r M' _ _=>∃ sv,r=.tuple ⟨[sv,OJ (kz s).2.1 (kz s).2.2]⟩/\RS M' (o9 M') 16 (kz s).1 sv
theorem uT {T N:Tm}{M:aV}{s:Bs}{A B:LL}{R:RR}{b2 b3:Nat}{v1 v2 v3:Value}{er a:Int}{ag:Array Value}{e:dN}(hr:kz s=([],er,a))(hT:aH T N)(Au:ag.toList=[])(e2:e 2=.pointer (some ⟨b2,0,none⟩))(e3:e 3=.pointer (some ⟨b3,0,none⟩)):
 Kn T (zK s) (se er a) e [rdD b2 b3 ag] ⟨N,M,A++(b3,[v2,v3])::(b2,[v1])::B,R⟩:=by
 refine ⟨b2,b3,ag,er,a,rfl,Au,e2,e3,rfl,gW A (cG (ef (L':=B++[(b2,[v1]),(b3,[v2,v3])]) ?_ (gW B (aA ⟨hT,rfl,⟨_,_,_,rfl⟩,?_⟩))))⟩
 ·refine List.Perm.trans (List.Perm.swap _ _ _) ?_
  exact List.perm_append_comm (l₁:=[(b2,[v1]),(b3,[v2,v3])])
 ·refine ⟨.slice none 0 0,?_,?_⟩
  ·rw [hr]
  ·rw [hr];exact bR
theorem qr {s:Bs}{M:aV}{L:LL}{R:RR}{l:List Stm}{er a:Int}{sv:Value}(hr:kz s=(l,er,a))(ff:RS M (o9 M) 16 l sv):zK s (.tuple ⟨[sv,.agg ⟨[.int .i64 er,.int .i64 a]⟩]⟩) M L R:=⟨sv,by rw [hr];rfl,by rw [hr];exact ff⟩
theorem Li {M:aV}(s:Bs)(hg:fO M):Ct Tryz.prog 20 [st s] M [] [] (zK s) bj:=by
 intro T
 refine WR af0 Tryz.func20 rfl (by rw [auw];exact Nat.le_of_ble_eq_true rfl) (dr:=aic) (by kernel_rfl) afs ?_
 rw [afs]
 simp +contextual only [go_sem,ak,sevalprocAttr,eY,fZ]
 intro b2 T2 eG fu ju b3 T3 fh bT fD ja
 have hT:=fu.trans fD
 have AH:nj s=nj s:=rfl
 refine am (ND s T3) ?_ ?_
 rotate_left
 ·rintro ch M1 aP bL ⟨er,a,mo,rfl⟩
  rw [gP]
  refine uT (A:=[]) (B:=[]) (by unfold kz;rw [mo]) hT rfl ?_ ?_
  ·simp only [go_sem,ak,sevalprocAttr]
  ·simp only [go_sem,ak,sevalprocAttr]
 rintro lv M1 aP bL ⟨ts,OF,hl⟩
 simp only [aB,and_true] at bL
 have pH:kz s=match jS s.length 60 ts with
  | .err e a=>([],e,a)
  | .out=>([],0,0)
  | .ok l _=>if (eH l).1≠0 then ([],(eH l).1,0) else (l,0,0):=by unfold kz;rw [OF]<;>rfl
 obtain ⟨lo1,lo2⟩:=eV hl
 have lo2m:=lo2
 simp only [Value.cells] at lo2m
 simp +contextual only [go_sem,ak,sevalprocAttr,eY,fZ,bL,bT,lo1,lo2,lo2m]
 intro pb T4 D5 mP j6 axt
 generalize hen:(s.length:Int)=en at pH ⊢
 have mC:=hg.ext aP
 refine ⟨fun m e ds h=>(∃ ag,ds=[rdD b2 b3 ag]/\ag.toList=[])/\e 2=.pointer (some ⟨b2,0,none⟩)/\e 3=.pointer (some ⟨b3,0,none⟩)/\e 4=.pointer (some ⟨pb,0,none⟩)/\
  ∃ M' t lv' aO a c xs,m+aO.length=60/\bG M1 M'/\M' b3=none/\M' b2=none/\M' pb=none/\RS M' gT 3 t lv'/\RL (o9 M') aO xs/\(aO=[] ->a=none/\c=0)/\
   jS en 60 ts=(jS en m t).bind (fun l t=> .ok (aO++l) t)/\
   h=⟨T4,M',(b3,[.int .i64 0,.int .i64 0])::(b2,[.slice a aO.length c])::pL pb lv' en 0,[(.slice a aO.length c,67,16,xs)]⟩,
  ef (List.perm_append_comm (l₁:=[(pb,[lv,.int .i64 en,.int .i64 0])]) (l₂:=[(b3,_),(b2,_)])) (iu (aA ⟨60,⟨_,rfl,rfl⟩,?_,?_,?_,M1,ts,lv,[],none,0,[],rfl,bG.rfl',bL.1,bL.2,D5,hl,rfl,fun _=>⟨rfl,rfl⟩,?_,rfl⟩)),?_⟩
 ·simp only [go_sem,ak,sevalprocAttr]
 ·simp only [go_sem,ak,sevalprocAttr]
 ·simp only [go_sem,ak,sevalprocAttr]
 ·cases jS en 60 ts<;>rfl
 clear bL hl lo1 lo2 OF AH D5
 rintro m e ds h ⟨⟨ag,rfl,Au⟩,e2,e3,e4,M2,t,lv1,aO,a,c,xs,hm,aX,n3,n2,np,hl,kD,rP,ay,rfl⟩
 have Tz:=hT.trans j6
 have afz:=fI (fun _ _=>kg) kD
 rcases jW hl with ⟨rfl,ta,tc,rfl⟩ | ⟨tk,tr,tb,tof,tc,rfl,rfl,htc,h0,h1,h2⟩
 ·rw [yU] at ay
  simp only [Rs.bind,List.append_nil] at ay
  rw [ay] at pH
  simp only at pH
  simp +contextual only [go_sem,ak,sevalprocAttr,eY,fZ,e2,e3,e4,n3,n2,np,bT,mP]
  refine eh (k:=fun h'=>∃ M',bG M2 M'/\aB M' ((b3,[.int .i64 0,.int .i64 0])::(b2,[.slice a aO.length c])::pL pb (.slice ta 0 tc) en 0)/\Sl M' (.slice a aO.length c) 16 xs/\h'=⟨T4,M',(b3,[.int .i64 0,.int .i64 0])::(b2,[.slice a aO.length c])::pL pb (.slice ta 0 tc) en 0,[]⟩)
   (dn fun M3 bD aZ j7=>aA ⟨M3,bD,aZ,j7,rfl⟩) ?_ Zu
  rintro h' ⟨M3,bD,aZ,j7,rfl⟩
  have ff:RS M3 (o9 M3) 16 aO (.slice a aO.length c):=⟨by omega,xs,j7,dZ (fun x cs h=>nQ bD _ _ h) kD⟩
  refine am (ED (mC.ext (aX.trans bD)) ff T4) ?_ (fun _ _ _ _ h=>h.elim)
  rintro v M4 ce bH rfl
  simp only [aB,aE] at bH
  simp +contextual only [go_sem,sevalprocAttr,eY,fZ,e2,e3,e4,OJ]
  intro b5 T5 jH eO tG zk
  rw [bV]
  by_cases hw:(eH aO).1=0
  ·rw [if_neg (fun h=>h hw)] at pH
   simp +contextual only [go_sem,ak,sevalprocAttr,eY,fZ,gP,e2,e3,e4,hw,bH,jH,eO,bT,mP]
   refine ⟨zu _ rfl,bq ?_⟩
   simp +contextual only [go_sem,ak,sevalprocAttr,eY,fZ,gP,e2,e3,e4,hw,bH,jH,eO,bT,mP]
   refine ⟨lr.refl _,b2,b3,ag,rfl,Au,?_⟩
   simp +contextual only [go_sem,ak,sevalprocAttr,eY,fZ,gP,e2,e3,e4,hw,bH,jH,eO,bT,mP]
   exact az (Tz.trans tG) (qr pH (aN ce (nQ ce) ff))
  ·rw [if_pos hw] at pH
   simp +contextual only [go_sem,ak,sevalprocAttr,eY,fZ,gP,e2,e3,e4,hw,bH,jH,eO,bT,mP]
   refine ⟨zu _ rfl,eR ⟨T,fun _=>none,[(b5,_)],[]⟩ (gn jH) ?_⟩
   simp +contextual only [go_sem,ak,sevalprocAttr,eY,fZ,gP,e2,e3,e4,hw,bH,jH,eO,bT,mP]
   refine ⟨gn jH,b2,b3,ag,rfl,Au,?_⟩
   simp +contextual only [go_sem,ak,sevalprocAttr,eY,fZ,gP,e2,e3,e4,hw,bH,jH,eO,bT,mP]
   exact az (Tz.trans tG) (qr pH bR)
 ·rw [wE en m (tk::tr) (by simp)] at ay
  have Ip:∀ {er ar:Int},jS en 60 ts=.err er ar ->kz s=([],er,ar):=fun h=>by rw [pH,h]
  cases m with
  | zero=>
   have TI:(aO.length:Int)=60:=by omega
   have mo:jS en 60 ts=.err 5 (pF en (tk::tr)):=ay
   simp +contextual only [go_sem,ak,sevalprocAttr,eY,fZ,e2,e3,e4,n3,n2,np,bT,mP,TI]
   refine mL [(b3,_),(b2,_)] hl ?_
   simp +contextual only [go_sem,ak,sevalprocAttr,eY,fZ,e2,e3,e4]
   refine am (gY 5 _ M2 T4) (fun _ _ _ _ h=>h.elim) ?_
   rintro ch M3 bD aZ rfl
   rw [gP]
   refine uT (A:=[]) (Ip mo) Tz Au ?_ ?_
   ·simp only [e2,go_sem,ak,sevalprocAttr]
   ·simp only [e3,go_sem,ak,sevalprocAttr]
  | succ m=>
   have TI:¬ (aO.length:Int)=60:=by omega
   simp only [IP,Rs.bind_assoc] at ay
   simp +contextual only [go_sem,ak,sevalprocAttr,eY,fZ,gP,e2,e3,e4,n3,n2,np,bT,mP,TI]
   refine ⟨zu _ rfl,eR ⟨T,fun _=>none,[(b2,[.slice a aO.length c])],[]⟩ ?_ ?_⟩
   ·exact dJ [(b3,_)] n2 ⟨⟨bT.2,bT.1⟩,trivial⟩
   simp +contextual only [go_sem,ak,sevalprocAttr,eY,fZ,gP,e2,e3,e4,n3,n2,np,bT,mP,TI]
   have BB:=mC.ext aX
   have dh:=Ww (en:=en) (ex:=Um en) (fun t=>aes t) (tk::tr)
   have jb:Zq en pb (Um en) 0:=KY (LJ 1000) (by decide) (by decide)
   refine sF [(b3,_),(b2,_)] (Vz BB hl jb dh T4) ?_ ?_
   rotate_left
   ·rintro er ar M3 lv' op' bD fG
    refine uT (A:=[]) (Ip (by rw [ay,fG];rfl)) Tz Au ?_ ?_
    ·simp only [e2,go_sem,ak,sevalprocAttr]
    ·simp only [e3,go_sem,ak,sevalprocAttr]
   rintro v M3 x t2 lv2 bD aZ fG ft ⟨cs,rfl,hx⟩
   rw [fG] at ay
   simp only [Rs.bind] at ay
   have dw:=kg hx
   simp only [List.cons_append,List.nil_append,aB,aE] at aZ
   simp +contextual only [go_sem,ak,sevalprocAttr,eY,fZ,gP,e2,e3,e4,aZ,bT,mP,dw]
   refine ⟨dJ [(b3,_)] aZ.2.1 ⟨⟨bT.2,bT.1⟩,trivial⟩,?_⟩
   intro b8 sd fj
   refine ⟨dJ [(b8,_),(b3,_)] aZ.2.1 ⟨⟨fj.2.1.2,fj.2.1.1⟩,⟨bT.2,bT.1⟩,trivial⟩,?_⟩
   refine gi Zk ZZ (.slice _ 1 _ _ _ Tryz.underlying68 (cT [] sd trivial (by rw [dw])) (MS hx)) (by rw [dw,afz];omega) ?_
   intro ra rm rc ky
   have jO:rm=(aO++[x]).length:=by
    rw [dw,afz] at ky
    rw [List.length_append]
    simp only [List.length_cons,List.length_nil]
    omega
   subst jO
   have kK:=dx (dZ (fun x cs h=>nQ bD _ _ h) kD) (cP hx)
   simp +contextual only [go_sem,ak,sevalprocAttr,eY,fZ,gP,e2,e3,e4,aZ,bT,mP,sd,fj]
   intro b9 rF je
   refine aW JY fun M4 ce aro bH=> ?_
   have jJ:=aN ce (fun _ _ h=>h) ft
   have hsm:RS M4 pD 1 [qY] (.slice (some ⟨b9,0,none⟩) 1 1):=df (fun _ _=>cO) aro (eQ [qY]) rfl (by decide)
   refine sF [(b8,_),(b3,_),(b2,_)] (vz jJ hsm T4) ?_ ?_
   rotate_left
   ·rintro er ar M5 lv' op' dy mS
    refine uT (A:=[(b8,_)]) (Ip (by rw [ay,mS];try rfl)) (Tz) Au ?_ ?_
    ·simp only [e2,go_sem,ak,sevalprocAttr]
    ·simp only [e3,go_sem,ak,sevalprocAttr]
   rintro v M5 u5 t5 lv5 dy bE mS gj rfl
   rw [mS] at ay
   simp only [Rs.bind] at ay
   simp only [List.cons_append,List.nil_append,aB,aE] at bE
   simp +contextual only [go_sem,ak,sevalprocAttr,eY,fZ,gP,e2,e3,e4]
   rw [fq]
   refine al (aA ⟨m,by omega,⟨ag,rfl,Au⟩,?_,?_,?_,M5,t5,lv5,aO++[x],ra,rc,xs++cs,?_,((aX.trans bD).trans ce).trans dy,bE.2.1,bE.2.2.1,bE.2.2.2,gj,?_,?_,?_,rfl⟩)
   ·simp only [e2,go_sem,ak,sevalprocAttr]
   ·simp only [e3,go_sem,ak,sevalprocAttr]
   ·simp only [e4,go_sem,ak,sevalprocAttr]
   ·rw [List.length_append];simp only [List.length_cons,List.length_nil];omega
   ·exact dZ (fun x cs h=>nQ (ce.trans dy) _ _ h) kK
   ·intro h;simp at h
   ·rw [ay]
    cases jS en m t5<;>simp [Rs.bind]
theorem zi {M:aV}{name:Bs}{names:List Bs}{nv:Value}(hs:RS M pD 1 names nv)(hl:names.length<=1000)(T:Tm):
 ep Tryz.prog 39 [st name,nv] T M [] [] (fun r M' _ _=>∃ cs,r=.agg ⟨cs⟩/\qH M' ⟨name,names.map (fun n=>⟨n,3⟩),false,iZ⟩ cs) bj:=by
 obtain ⟨lh,a,c,rfl,jo,_,hg⟩:=aI (by decide) (fun _ _=>cO) hs
 refine aT mx KZ Tryz.func39 rfl (by rw [asT];exact Nat.le_of_ble_eq_true rfl) (dr:=ai5) (by kernel_rfl) asq ?_
 intro bN _
 simp +contextual only [go_sem,ak,sevalprocAttr]
 intro b4 T4 iR j6 pp b5 T5 jH eO tG zk
 have hT:=j6.trans tG
 refine bh names.length 12 [(4,.pointer (some ⟨b4,0,none⟩)),(5,.pointer (some ⟨b5,0,none⟩)),(10,.slice a names.length c),(11,.int .i64 (names.length:Int))]
  (fun i e h=>∃ N' M' R' fv,aH T5 N'/\bG M M'/\M' b5=none/\M' b4=none/\fv.oneCell'=true/\h=⟨N',M',[(b5,[st name,fv,.bool false]++Ch),(b4,[st [],.slice none 0 0,.bool false]++Ch)],R'⟩/\nK 48 2 uE [] R' fv ((names.take i).map fun n=>⟨n,3⟩)) 0 (by omega) (by simp only [aG,go_sem,ak,sevalprocAttr]) (by simp only [go_sem,ak,sevalprocAttr]) ?_ ?_
 ·exact ⟨T5,M,[],_,aH.rfl',bG.rfl',jH,iR,rfl,rfl,ew⟩
 rintro i e h hi aD ht ⟨N1,M1,R1,fv,iy,aP,Uy,hn4,hfo,rfl,cy⟩
 simp only [aG] at aD
 have u4:¬ b5=b4/\¬ b4=b5:=eO
 by_cases aF:i<names.length
 ·obtain ⟨b',o',cs',rfl,cC,eL⟩:=hg i names[i] (List.getElem?_eq_getElem aF)
  unfold pD at eL;subst eL
  have x0:=Bu (cC.ext aP)
  rw [Nat.mul_one] at x0
  have ft:((names.take i).map fun n=>(⟨n,3⟩:Co)).length=i:=by simp;omega
  have eW:(names.take (i+1)).map (fun n=>(⟨n,3⟩:Co))=(names.take i).map (fun n=>⟨n,3⟩)++[⟨names[i],3⟩]:=by
   rw [<- List.take_append_getElem aF,List.map_append];rfl
  simp +contextual only [go_sem,ak,sevalprocAttr,aD,ht,aF,x0,u4,Uy,hn4]
  intro bk anP pT
  refine dH (Tryz.underlying43) GA F0 (x:=(⟨names[i],3⟩:Co)) cy rfl (fun _ _=>ge) (by intro u hu;simp only [List.mem_cons,List.not_mem_nil,or_false] at hu;rcases hu with rfl | rfl<;>rfl) anP (by rw [ft];omega) (by decide) ?_
  intro fv' R' cF
  obtain ⟨ag9,aiK⟩:=uz cF
  simp only [Value.cells] at aiK
  simp +contextual only [go_sem,ak,sevalprocAttr,aD,ht,aF,u4,pT,ag9,aiK]
  refine bf (al (aA ?_))
  refine ⟨names.length - (i+1),by omega,rfl,i+1,by omega,rfl,?_,?_,N1,M1,R',fv',iy,aP,Uy,hn4,ag9,rfl,by rw [eW];exact cF⟩
  ·simp only [aG,aD,go_sem,ak,sevalprocAttr]
  ·simp only [ht,go_sem,ak,sevalprocAttr,aC i (by omega)]
 ·have:i=names.length:=by omega
  subst this
  rw [List.take_length] at cy
  simp +contextual only [go_sem,ak,sevalprocAttr,aD,ht,aF,u4,Uy,hn4,hfo]
  refine al (al (cU cy (by simp;omega) (by decide) trivial fun M2 aX aQ ff=>az (hT.trans iy) ⟨_,rfl,fv,Ch,ff,uI,rfl⟩))
theorem O0 {M:aV}{t:Bs}{x:Stm}{a:Int}(hr:kz (115::104::111::119::32::(t++[32,59]))=([x],0,a))(hl:t.length<=1000)(hg:fO M)(T:Tm):
 ep Tryz.prog 38 [st t] T M [] [] (fun r M' _ _=>∃ cs,r=.tuple ⟨[.agg ⟨cs⟩,.bool true]⟩/\RQ M' x.q cs) bj:=by
 have e1:5+t.length<=9223372036854775807:=by omega
 have e2:5+t.length<=9223372036854775805:=by omega
 refine aT mx ahZ Tryz.func38 rfl (by rw [aqB];exact Nat.le_of_ble_eq_true rfl) (dr:=amc) (by kernel_rfl) aq6 ?_
 intro bN _
 simp +contextual only [go_sem,ak,sevalprocAttr,e1]
 intro b2 T2 eG fu ju
 simp +contextual only [go_sem,ak,sevalprocAttr,e1,e2,vg]
 refine am (Li _ hg T2) ?_ (fun _ _ _ _ h=>h.elim)
 rintro v M1 aP bL ⟨sv,rfl,hs⟩
 rw [hr] at hs
 have hs:RS M1 (o9 M1) 16 [x] sv:=hs
 obtain ⟨_,sa,sc,rfl,IE,_⟩:=aI (by decide) (fun _ _=>kg) hs
 obtain ⟨b,o,cs,rfl,cC,gH⟩:=tK (i:=0) (x:=x) (by decide) (fun _ _=>kg) hs rfl
 obtain ⟨ac,ad,ap,aq,ao,an,ar,ae,au,av,aw,rfl,ho1,xq,_⟩:=Bv gH
 obtain ⟨y0,y1,y2,y3,y4,y5,y6,y7,y8,y9,y10,y11,y12,y13,y14,y15⟩:=ajX cC
 simp only [Nat.zero_mul,Nat.add_zero,List.length_cons,List.length_nil,Nat.zero_add] at y3 y4 y5 y6
 simp only [aB,and_true] at bL
 rw [hr]
 simp +contextual only [go_sem,ak,sevalprocAttr,OJ,y3,y4,y5,y6,bL,bC bL]
 intro b5 T5 jH eO tG zk
 exact az (fu.trans tG) ⟨_,rfl,xq⟩
def Hc:Bs:=[115,101,108,101,99,116,32,98,32,44,32,99,111,117,110,116,32,40,32,42,32,41,32,97,115,32,110,32,102,114,111,109,32,116,32,103,114,111,117,112,32,98,121,32,98]
def Ey:List Rel:=[⟨[116],[⟨[97],3⟩,⟨[98],3⟩],false,iZ⟩]
def GJ (r:List Stm×Int×Int):Bool:=r.2.1==0 && (match r.1 with
 | [s]=>gR s.q==0 && (match gm Ey s.q with
  | .ok w=>w.1.k==3 && (match w.2 with
   | [c,d]=>c.name==[98] && d.name==[110]
   | _=>false) && (match w.1.kids with
    | k::_=>k.k==12
    | []=>false)
  | .error _=>false)
 | _=>false)
theorem Hf:GJ (kz (115::104::111::119::32::(Hc++[32,59])))=true:=by kernel_rfl
theorem Dh:∃ x a w c d k l,kz (115::104::111::119::32::(Hc++[32,59]))=([x],0,a)/\gR x.q=0/\gm Ey x.q=.ok w/\w.1.k=3/\w.2=[c,d]/\c.name=[98]/\d.name=[110]/\w.1.kids=k::l/\k.k=12:=by
 have h:=Hf
 generalize kz (115::104::111::119::32::(Hc++[32,59]))=R at h
 obtain ⟨l,e,a⟩:=R
 simp only [GJ,Bool.and_eq_true,beq_iff_eq] at h
 obtain ⟨rfl,h⟩:=h
 match l,h with
 | [x],h=>
  simp only [Bool.and_eq_true,beq_iff_eq] at h
  obtain ⟨h1,h⟩:=h
  cases hb:gm Ey x.q with
  | error e=>rw [hb] at h;simp at h
  | ok w=>
   rw [hb] at h
   simp only [Bool.and_eq_true,beq_iff_eq] at h
   obtain ⟨⟨h2,h3⟩,h4⟩:=h
   obtain ⟨p,cl⟩:=w
   match cl,h3 with
   | [c,d],h3=>
    simp only [Bool.and_eq_true,beq_iff_eq] at h3
    cases hk:p.kids with
    | nil=>simp only [hk] at h4;cases h4
    | cons k ks=>
     simp only [hk,beq_iff_eq] at h4
     exact ⟨x,a,_,c,d,k,ks,rfl,h1,hb,h2,rfl,h3.1,h3.2,hk,h4⟩
theorem Oc:Dt Ey:=by
 refine ⟨?_,by decide⟩
 intro r hr
 simp only [Ey,List.mem_singleton] at hr
 subst hr
 refine ⟨?_,by simp⟩
 intro c hc
 simp only [List.mem_cons,List.not_mem_nil,or_false] at hc
 rcases hc with rfl | rfl<;>decide
theorem pW {M:aV}{rv:Value}{q:Q}{cs:List Value}{w:Pl×List Co}(hr:RS M (qH M) 14 Ey rv)(hq:RQ M q cs)(G1:gR q=0)(hb:gm Ey q=.ok w)(T:Tm):
 ep Tryz.prog 10 [rv,.agg ⟨cs⟩] T M [] [] (fun r M' _ _=>∃ cs cv,r=.tuple ⟨[.agg ⟨cs⟩,cv,.int .i64 0]⟩/\j5 M' w.1 cs/\RS M' uE 2 w.2 cv) bj:=by
 obtain ⟨hoq,VF,ke,Eg,rT⟩:=rH G1
 refine (vK hr hq (by decide) (by intro r hr;simp only [Ey,List.mem_singleton] at hr;subst hr;decide) (fun s hs=>(rT s hs).1) hoq.len (by omega) (fun hl=>⟨by have:=(Eg hl).1;omega,(Eg hl).2⟩) (vD hoq) (SU Oc G1) T).mono ?_ (fun _ _ _ _ _ _ _ h=>h)
 intro v M' L' R' _ _ _ h
 unfold mb at h
 rw [hb] at h
 exact h
set_option maxHeartbeats 1000000 in
theorem JF {M:aV}(hG:fO M)(T:Tm):ep Tryz.prog 16 [] T M [] [] (fun r _ _ _=>r=.bool true) bj:=by
 obtain ⟨x,a,w,c,d,k,l,hr,G1,Jn,hk,hcd,hc,hd,lD,US⟩:=Dh
 refine aT mx aha Tryz.func16 rfl (by rw [arD];exact Nat.le_of_ble_eq_true rfl) (dr:=akV) (by kernel_rfl) arm ?_
 intro bN _
 simp +contextual only [go_sem,ak,sevalprocAttr]
 refine am (O0 hr (by decide) hG T) ?_ (fun _ _ _ _ h=>h.elim)
 rintro v M1 aP bL ⟨cs,rfl,hq⟩
 obtain ⟨pv,ov,dv,rfl,o1,o2,o3⟩:=xm hq
 simp +contextual only [go_sem,ak,sevalprocAttr,o1,o2,o3]
 intro b1 T1 jK jt pV
 refine yn (fun e ds h=>ds=[]/\e 2=.bool true/\e 5=.int .i64 0/\∃ b9 va vc cs,e 3=.pointer (some ⟨b9,0,none⟩)/\e 4=.slice va 2 vc/\∃ N' M',aH T1 N'/\h=⟨N',M',[(b9,cs),(b1,[pv,ov,dv,.int .i64 x.q.limit])],[]⟩/\M' b9=none/\M' b1=none/\¬ b9=b1/\¬ b1=b9/\j5 M' w.1 cs/\RS M' uE 2 [c,d] (.slice va 2 vc)) (fun S' dW=> ?_) ?_
 ·refine eR ⟨T1,fun _=>none,[(b1,_)],[]⟩ (gn jK) ?_
  simp +contextual only [go_sem,ak,sevalprocAttr,o1,o2,o3,bC jK,jK]
  have nM1:=jK
  refine ⟨?_,?_⟩
  ·intro b2 eG cr
   have pb21:=cr
   refine ⟨dJ [(b2,_)] nM1 ⟨⟨pb21.2,pb21.1⟩,trivial⟩,?_⟩
   refine ⟨?_,?_⟩
   ·refine gu [] KZ fun M2 aX RO aQ=> ?_
    refine am (zi (name:=[116]) (names:=[[97],[98]]) (df (fun _ _=>cO) RO ⟨[st [97]],[st [98]],rfl,rfl,[st [98]],[],rfl,rfl,rfl⟩ rfl (by decide)) (by decide) T1) ?_ (fun _ _ _ _ h=>h.elim)
    rintro r M3 bD aZ ⟨cs1,rfl,nD⟩
    obtain ⟨ca,cn,s1,a1,n1,a2,n2,a3,n3,rfl,gH,_,_⟩:=ln nD
    simp only [List.nil_append,List.cons_append,aB,and_true] at aZ
    have nM3:=aZ
    simp +contextual only [go_sem,ak,sevalprocAttr,gH]
    refine ⟨dJ [] nM3 trivial,?_⟩
    refine ⟨?_,?_⟩
    ·intro b3 fh bT
     have pb31:=bT
     refine ⟨dJ [(b3,_)] nM3 ⟨⟨pb31.2,pb31.1⟩,trivial⟩,?_⟩
     refine ⟨?_,?_⟩
     ·refine gu [] CB fun M4 ce CN bH=> ?_
      have Dx:=(aX.trans bD).trans ce
      refine am (pW (df (fun _ _=>jf) CN (cP (gb ce _ _ nD)) rfl (by decide)) (nl Dx hq) G1 Jn T1) ?_ (fun _ _ _ _ h=>h.elim)
      rintro r M5 dy bE ⟨cs2,cv,rfl,py,mr⟩
      obtain ⟨c0,c1,c2,c3,c4,c5,c6,c7,c8,c9,c10,rfl,hc⟩:=bK py
      rw [hcd] at mr
      obtain ⟨_,va,vc,rfl,_⟩:=aI (by decide) (fun _ _=>ge) mr
      simp only [List.nil_append,List.cons_append,aB,and_true] at bE
      have nM5:=bE
      simp +contextual only [go_sem,ak,sevalprocAttr,hc]
      refine ⟨dJ [] nM5 trivial,?_⟩
      intro b9 T9 rF je pG oP
      have pb91:=je
      have qM5:=rF
      refine ⟨dJ [(b9,_)] nM5 ⟨⟨pb91.2,pb91.1⟩,trivial⟩,?_⟩
      try simp +contextual only [go_sem,ak,sevalprocAttr,hc,nM5,qM5,pb91,bC qM5]
      repeat refine ⟨dJ [(b9,_)] nM5 ⟨⟨pb91.2,pb91.1⟩,trivial⟩,?_⟩
      refine dW _ _ _ ⟨rfl,by simp only [go_sem,ak,sevalprocAttr],by simp only [go_sem,ak,sevalprocAttr],b9,va,vc,_,by simp only [go_sem,ak,sevalprocAttr],by simp only [go_sem,ak,sevalprocAttr],_,_,pG,rfl,qM5,nM5,pb91.1,pb91.2,py,mr⟩
     ·intro b9 T9 rF je pG oP
      have pb91:=je.2
      have qM3:=rF
      refine ⟨dJ [(b9,_),(b3,_)] nM3 ⟨⟨pb91.2,pb91.1⟩,⟨⟨pb31.2,pb31.1⟩,trivial⟩⟩,?_⟩
      refine gu [(b9,_)] CB fun M4 ce CN bH=> ?_
      have Dx:=(aX.trans bD).trans ce
      refine am (pW (df (fun _ _=>jf) CN (cP (gb ce _ _ nD)) rfl (by decide)) (nl Dx hq) G1 Jn T9) ?_ (fun _ _ _ _ h=>h.elim)
      rintro r M5 dy bE ⟨cs2,cv,rfl,py,mr⟩
      obtain ⟨c0,c1,c2,c3,c4,c5,c6,c7,c8,c9,c10,rfl,hc⟩:=bK py
      rw [hcd] at mr
      obtain ⟨_,va,vc,rfl,_⟩:=aI (by decide) (fun _ _=>ge) mr
      simp only [List.nil_append,List.cons_append,aB,and_true] at bE
      have nM5:=bE.2
      have qM5:=bE.1
      try simp +contextual only [go_sem,ak,sevalprocAttr,hc,nM5,qM5,pb91,bC qM5]
      repeat refine ⟨dJ [(b9,_)] nM5 ⟨⟨pb91.2,pb91.1⟩,trivial⟩,?_⟩
      refine dW _ _ _ ⟨rfl,by simp only [go_sem,ak,sevalprocAttr],by simp only [go_sem,ak,sevalprocAttr],b9,va,vc,_,by simp only [go_sem,ak,sevalprocAttr],by simp only [go_sem,ak,sevalprocAttr],_,_,pG,rfl,qM5,nM5,pb91.1,pb91.2,py,mr⟩
    ·intro b9 T9 rF je pG oP
     have pb91:=je
     have qM3:=rF
     refine ⟨dJ [(b9,_)] nM3 ⟨⟨pb91.2,pb91.1⟩,trivial⟩,?_⟩
     intro b3 fh bT
     have pb31:=bT.2
     refine ⟨dJ [(b3,_),(b9,_)] nM3 ⟨⟨pb31.2,pb31.1⟩,⟨⟨pb91.2,pb91.1⟩,trivial⟩⟩,?_⟩
     refine gu [] CB fun M4 ce CN bH=> ?_
     have Dx:=(aX.trans bD).trans ce
     refine am (pW (df (fun _ _=>jf) CN (cP (gb ce _ _ nD)) rfl (by decide)) (nl Dx hq) G1 Jn T9) ?_ (fun _ _ _ _ h=>h.elim)
     rintro r M5 dy bE ⟨cs2,cv,rfl,py,mr⟩
     obtain ⟨c0,c1,c2,c3,c4,c5,c6,c7,c8,c9,c10,rfl,hc⟩:=bK py
     rw [hcd] at mr
     obtain ⟨_,va,vc,rfl,_⟩:=aI (by decide) (fun _ _=>ge) mr
     simp only [List.nil_append,List.cons_append,aB,and_true] at bE
     have nM5:=bE.2
     have qM5:=bE.1
     try simp +contextual only [go_sem,ak,sevalprocAttr,hc,nM5,qM5,pb91,bC qM5]
     repeat refine ⟨dJ [(b9,_)] nM5 ⟨⟨pb91.2,pb91.1⟩,trivial⟩,?_⟩
     refine dW _ _ _ ⟨rfl,by simp only [go_sem,ak,sevalprocAttr],by simp only [go_sem,ak,sevalprocAttr],b9,va,vc,_,by simp only [go_sem,ak,sevalprocAttr],by simp only [go_sem,ak,sevalprocAttr],_,_,pG,rfl,qM5,nM5,pb91.1,pb91.2,py,mr⟩
   ·intro b9 T9 rF je pG oP
    have pb91:=je.2
    have qM1:=rF
    refine ⟨dJ [(b9,_),(b2,_)] nM1 ⟨⟨pb91.2,pb91.1⟩,⟨⟨pb21.2,pb21.1⟩,trivial⟩⟩,?_⟩
    refine gu [(b9,_)] KZ fun M2 aX RO aQ=> ?_
    refine am (zi (name:=[116]) (names:=[[97],[98]]) (df (fun _ _=>cO) RO ⟨[st [97]],[st [98]],rfl,rfl,[st [98]],[],rfl,rfl,rfl⟩ rfl (by decide)) (by decide) T9) ?_ (fun _ _ _ _ h=>h.elim)
    rintro r M3 bD aZ ⟨cs1,rfl,nD⟩
    obtain ⟨ca,cn,s1,a1,n1,a2,n2,a3,n3,rfl,gH,_,_⟩:=ln nD
    simp only [List.nil_append,List.cons_append,aB,and_true] at aZ
    have nM3:=aZ.2
    have qM3:=aZ.1
    simp +contextual only [go_sem,ak,sevalprocAttr,gH]
    refine ⟨dJ [(b9,_)] nM3 ⟨⟨pb91.2,pb91.1⟩,trivial⟩,?_⟩
    intro b3 fh bT
    have pb31:=bT.2
    refine ⟨dJ [(b3,_),(b9,_)] nM3 ⟨⟨pb31.2,pb31.1⟩,⟨⟨pb91.2,pb91.1⟩,trivial⟩⟩,?_⟩
    refine gu [] CB fun M4 ce CN bH=> ?_
    have Dx:=(aX.trans bD).trans ce
    refine am (pW (df (fun _ _=>jf) CN (cP (gb ce _ _ nD)) rfl (by decide)) (nl Dx hq) G1 Jn T9) ?_ (fun _ _ _ _ h=>h.elim)
    rintro r M5 dy bE ⟨cs2,cv,rfl,py,mr⟩
    obtain ⟨c0,c1,c2,c3,c4,c5,c6,c7,c8,c9,c10,rfl,hc⟩:=bK py
    rw [hcd] at mr
    obtain ⟨_,va,vc,rfl,_⟩:=aI (by decide) (fun _ _=>ge) mr
    simp only [List.nil_append,List.cons_append,aB,and_true] at bE
    have nM5:=bE.2
    have qM5:=bE.1
    try simp +contextual only [go_sem,ak,sevalprocAttr,hc,nM5,qM5,pb91,bC qM5]
    repeat refine ⟨dJ [(b9,_)] nM5 ⟨⟨pb91.2,pb91.1⟩,trivial⟩,?_⟩
    refine dW _ _ _ ⟨rfl,by simp only [go_sem,ak,sevalprocAttr],by simp only [go_sem,ak,sevalprocAttr],b9,va,vc,_,by simp only [go_sem,ak,sevalprocAttr],by simp only [go_sem,ak,sevalprocAttr],_,_,pG,rfl,qM5,nM5,pb91.1,pb91.2,py,mr⟩
  ·intro b9 T9 rF je pG oP
   have pb91:=je
   have qM1:=rF
   refine ⟨dJ [(b9,_)] nM1 ⟨⟨pb91.2,pb91.1⟩,trivial⟩,?_⟩
   intro b2 eG cr
   have pb21:=cr.2
   refine ⟨dJ [(b2,_),(b9,_)] nM1 ⟨⟨pb21.2,pb21.1⟩,⟨⟨pb91.2,pb91.1⟩,trivial⟩⟩,?_⟩
   refine gu [] KZ fun M2 aX RO aQ=> ?_
   refine am (zi (name:=[116]) (names:=[[97],[98]]) (df (fun _ _=>cO) RO ⟨[st [97]],[st [98]],rfl,rfl,[st [98]],[],rfl,rfl,rfl⟩ rfl (by decide)) (by decide) T9) ?_ (fun _ _ _ _ h=>h.elim)
   rintro r M3 bD aZ ⟨cs1,rfl,nD⟩
   obtain ⟨ca,cn,s1,a1,n1,a2,n2,a3,n3,rfl,gH,_,_⟩:=ln nD
   simp only [List.nil_append,List.cons_append,aB,and_true] at aZ
   have nM3:=aZ.2
   have qM3:=aZ.1
   simp +contextual only [go_sem,ak,sevalprocAttr,gH]
   refine ⟨dJ [(b9,_)] nM3 ⟨⟨pb91.2,pb91.1⟩,trivial⟩,?_⟩
   intro b3 fh bT
   have pb31:=bT.2
   refine ⟨dJ [(b3,_),(b9,_)] nM3 ⟨⟨pb31.2,pb31.1⟩,⟨⟨pb91.2,pb91.1⟩,trivial⟩⟩,?_⟩
   refine gu [] CB fun M4 ce CN bH=> ?_
   have Dx:=(aX.trans bD).trans ce
   refine am (pW (df (fun _ _=>jf) CN (cP (gb ce _ _ nD)) rfl (by decide)) (nl Dx hq) G1 Jn T9) ?_ (fun _ _ _ _ h=>h.elim)
   rintro r M5 dy bE ⟨cs2,cv,rfl,py,mr⟩
   obtain ⟨c0,c1,c2,c3,c4,c5,c6,c7,c8,c9,c10,rfl,hc⟩:=bK py
   rw [hcd] at mr
   obtain ⟨_,va,vc,rfl,_⟩:=aI (by decide) (fun _ _=>ge) mr
   simp only [List.nil_append,List.cons_append,aB,and_true] at bE
   have nM5:=bE.2
   have qM5:=bE.1
   try simp +contextual only [go_sem,ak,sevalprocAttr,hc,nM5,qM5,pb91,bC qM5]
   repeat refine ⟨dJ [(b9,_)] nM5 ⟨⟨pb91.2,pb91.1⟩,trivial⟩,?_⟩
   refine dW _ _ _ ⟨rfl,by simp only [go_sem,ak,sevalprocAttr],by simp only [go_sem,ak,sevalprocAttr],b9,va,vc,_,by simp only [go_sem,ak,sevalprocAttr],by simp only [go_sem,ak,sevalprocAttr],_,_,pG,rfl,qM5,nM5,pb91.1,pb91.2,py,mr⟩
 rintro e ds h ⟨rfl,e2,e5,b9,va,vc,cs9,e3,e4,N9,M9,pG,rfl,q9,n9,p1,p2,py,mr⟩
 obtain ⟨s1,a1,n1,a2,n2,a3,n3,gU,gH,_,_,_,Z7⟩:=gK py
 subst gU
 rw [lD] at Z7
 obtain ⟨bk,ok,csk,rfl,AI,UG⟩:=tK (i:=0) (x:=k) (by decide) (fun _ _=>jI) Z7 rfl
 obtain ⟨t1,f1,m1,f2,m2,f3,m3,hck,Dr,_⟩:=gK UG
 subst hck
 obtain ⟨b0,o0,cs0,rfl,acZ,J4⟩:=tK (i:=0) (x:=c) (by decide) (fun _ _=>ge) mr rfl
 obtain ⟨b0',o0',cs0',he,an6,amS⟩:=tK (i:=1) (x:=d) (by decide) (fun _ _=>ge) mr rfl
 cases he
 unfold uE at J4 amS;subst J4 amS
 obtain ⟨y0,y1⟩:=SN acZ
 obtain ⟨z0,z1⟩:=SN an6
 unfold pO at AI
 have w0:=(fY AI).1
 simp only [Nat.zero_mul,Nat.add_zero,Nat.one_mul] at y0 y1 z0 z1 w0
 rw [hc] at y0
 rw [hd] at z0
 rw [US] at w0
 simp +contextual only [go_sem,ak,sevalprocAttr,e2,e3,e5,e4,pO,q9,n9,p1,p2,bC q9,hk,lD,y0,y1,z0,z1,w0]
 exact az (jt.trans pG) rfl
end Go.Proofs.YtmccpbcbofhmlaaGreatDoor
namespace Vc
open Go
def fQ (W:World):aV:=fun b=>match W.heap[b]? with
 | some (.cells cs _ _)=>some cs.toList
 | _=>none
theorem tC {W:World}{b:Nat}{cs:Array Value}{t f}(h:W.heap[b]?=some (.cells cs t f)):fQ W b=some cs.toList:=by simp [fQ,h]
theorem EX (W:World):qt (fQ W) W:=by
 intro b c hb
 unfold fQ at hb
 split at hb
 ·rename_i cs t f h
  injection hb with hb
  subst hb
  exact ⟨t,f,by rw [h]⟩
 ·cases hb
theorem zD {W:World}{a:Addr}{v:Value}(h:W.cell? a=some v):a.spot=none/\aL (fQ W) a=some v:=by
 unfold World.cell? at h
 split at h
 ·rename_i cs t f hb
  split at h
  ·cases h
  ·rename_i hs
   have hs:a.spot=none:=by simpa using hs
   refine ⟨hs,?_⟩
   simp [aL,hs,tC hb,h]
 ·cases h
theorem ET:∀ {n o:Nat} {f:Nat ->Option Value} {cs:List Value},(List.range' o n).mapM f=some cs ->cs.length=n/\∀ i,i<n ->f (o+i)=cs[i]?
 | 0,o,f,cs,h=>by
  simp at h;subst h;simp
 | n+1,o,f,cs,h=>by
  rw [List.range'_succ,List.mapM_cons] at h
  simp only [Option.bind_eq_bind,Option.bind_eq_some_iff,Option.pure_def,Option.some.injEq] at h
  obtain ⟨v,hv,l,hl,rfl⟩:=h
  obtain ⟨h1,h2⟩:=ET hl
  refine ⟨by simp [h1],fun i hi=> ?_⟩
  cases i with
  | zero=>simpa using hv
  | succ i=>rw [List.getElem?_cons_succ,<- h2 i (by omega)];congr 1;omega
theorem NP {W:World}{base:Nat}{a:Addr}{n:Nat}{cs:List Value}(h:W.cells? base a n=some cs):cs.length=n/\∀ i,i<n ->W.cell? (a.add i)=cs[i]?:=by
 unfold World.cells? at h
 split at h
 ·rw [List.range_eq_range'] at h
  obtain ⟨h1,h2⟩:=ET h
  exact ⟨h1,fun i hi=>by have:=h2 i hi;simpa using this⟩
 ·cases h
theorem TF {M:aV}{b:Nat}:∀ (cs:List Value) (o:Nat),(∀ i,i<cs.length ->aL M ⟨b,o+i,none⟩=cs[i]?) ->At M b o cs
 | [],o,h=>trivial
 | v::cs,o,h=>by
  refine ⟨by simpa using h 0 (by simp),TF cs (o+1) fun i hi=> ?_⟩
  have:=h (i+1) (by simpa using hi)
  rw [show o+1+i=o+(i+1) by omega,this];rfl
theorem Cg {W:World}{base:Nat}{a:Addr}{n:Nat}{cs:List Value}(h:W.cells? base a n=some cs)(hn:0<n):a.spot=none/\cs.length=n/\At (fQ W) a.block a.off cs:=by
 obtain ⟨h1,h2⟩:=NP h
 have h0:=h2 0 hn
 have e0:a.add 0=a:=by simp [Addr.add]
 rw [e0,List.getElem?_eq_getElem (by omega)] at h0
 obtain ⟨hs,_⟩:=zD h0
 refine ⟨hs,h1,TF cs _ fun i hi=> ?_⟩
 have AE:=h2 i (by omega)
 obtain ⟨b,o,s⟩:=a
 simp only at hs
 subst hs
 rw [Addr.add_lit,List.getElem?_eq_getElem hi] at AE
 rw [List.getElem?_eq_getElem hi]
 exact (zD AE).2
section
variable {H:Type} {enc:TypeId×Value ->H} {P:Program} {W W':World} {base:Nat} {aw4:Bool}
theorem Zr {α:Type}{r:α ->List Value ->Prop}{sz:Nat}{M:aV}{b:Nat}:∀ (n o:Nat),(∀ i,i<n ->∃ cs,At M b (o+i*sz) cs/\cs.length=sz/\∃ x,r x cs) ->∃ l xs,l.length=n/\RL r l xs/\xs.length=n*sz/\At M b o xs
 | 0,o,h=>⟨[],[],rfl,rfl,by simp,trivial⟩
 | n+1,o,h=>by
  obtain ⟨cs,h1,h2,x,h3⟩:=h 0 (by omega)
  obtain ⟨l,xs,h4,h5,h6,h7⟩:=Zr (α:=α) (r:=r) (sz:=sz) (M:=M) (b:=b) n (o+sz) fun i hi=>by
   obtain ⟨cs,h1,h2⟩:=h (i+1) (by omega)
   refine ⟨cs,?_,h2⟩
   rw [show o+sz+i*sz=o+(i+1)*sz by rw [Nat.add_mul];omega];exact h1
  refine ⟨x::l,cs++xs,by simp [h4],⟨cs,xs,rfl,h3,h5⟩,by rw [List.length_append,h2,h6,Nat.add_mul];omega,eJ.2 ⟨by simpa using h1,?_⟩⟩
  rw [h2];exact h7
end
end Vc

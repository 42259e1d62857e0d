import Derived.Test.YtmccpbcbofhmlaaGreatDoorF
set_option linter.all false
namespace Go.Proofs.YtmccpbcbofhmlaaGreatDoor
open Go Vc
set_option maxRecDepth 10000
def mb (rels:List Rel)(q:Q):eP:=fun r M' _ _=>match gm rels q with
 | .ok w=>∃ cs cv,r=.tuple ⟨[.agg ⟨cs⟩,cv,.int .i64 0]⟩/\j5 M' w.1 cs/\RS M' uE 2 w.2 cv
 | .error e=>e≠0/\∃ cs,r=.tuple ⟨[.agg ⟨cs⟩,.slice none 0 0,.int .i64 e]⟩/\j5 M' iZ cs
theorem uI {M:aV}:j5 M iZ Ch:=by
 refine mp.2 ⟨[.int .i64 0,.int .i64 0,.int .i64 0,st [],.int .i64 0,.slice none 0 0],.slice none 0 0,.slice none 0 0,.slice none 0 0,rfl,?_,bR,bR,bR⟩
 exact gD.2 ⟨_,rfl,bR⟩
theorem EU {T N:Tm}{M:aV}{rels:List Rel}{q:Q}{A B:LL}{R:RR}{b4 b5 b6:Nat}{v0 v1 v2 v3 v4 v5 v6 v7 v8 v9 v10 vc ve:Value}{er:Int}{ag:Array Value}{e:dN}(hr:gm rels q=.error er)(h0:er≠0)(hT:aH T N)(Au:ag.toList=[])
 (e4:e 4=.pointer (some ⟨b4,0,none⟩)) (e5:e 5=.pointer (some ⟨b5,0,none⟩)) (e6:e 6=.pointer (some ⟨b6,0,none⟩)):
 Et T (mb rels q) (Gk er) e [qqD b4 b5 b6 ag] ⟨N,M,A++(b6,[ve])::(b5,[vc])::(b4,[v0,v1,v2,v3,v4,v5,v6,v7,v8,v9,v10])::B,R⟩:=by
 refine ⟨b4,b5,b6,ag,er,rfl,Au,e4,e5,e6,rfl,gW A (cG (ef (L':=B++[(b4,[v0,v1,v2,v3,v4,v5,v6,v7,v8,v9,v10]),(b5,[vc]),(b6,[ve])]) ?_ (gW B (aA ⟨hT,rfl,⟨_,_,_,_,_,_,_,_,_,_,_,_,_,rfl⟩,?_⟩))))⟩
 ·refine List.Perm.trans (l₂:=[(b4,[v0,v1,v2,v3,v4,v5,v6,v7,v8,v9,v10]),(b5,[vc]),(b6,[ve])]++B) ?_ List.perm_append_comm
  have h3:([(b6,[ve]),(b5,[vc]),(b4,[v0,v1,v2,v3,v4,v5,v6,v7,v8,v9,v10])]:LL).Perm [(b4,[v0,v1,v2,v3,v4,v5,v6,v7,v8,v9,v10]),(b5,[vc]),(b6,[ve])]:=by
   have:=List.reverse_perm ([(b4,[v0,v1,v2,v3,v4,v5,v6,v7,v8,v9,v10]),(b5,[vc]),(b6,[ve])]:LL)
   simpa using this
  exact h3.append_right B
 ·unfold mb
  rw [hr]
  exact ⟨h0,_,rfl,uI⟩
theorem Xa {T N:Tm}{M:aV}{rels:List Rel}{q:Q}{A B:LL}{R:RR}{b4 b5 b6:Nat}{v0 v1 v2 v3 v4 v5 v6 v7 v8 v9 v10 vc ve:Value}{er:Int}{ag:Array Value}{e:dN}{dr ts}(hr:gm rels q=.error er)(h0:er≠0)(hT:aH T N)(Au:ag.toList=[])
 (e4:e 4=.pointer (some ⟨b4,0,none⟩)) (e5:e 5=.pointer (some ⟨b5,0,none⟩)) (e6:e 6=.pointer (some ⟨b6,0,none⟩)):
 (IA T dr ts (mb rels q)).pan (Gk er) e [qqD b4 b5 b6 ag] ⟨N,M,A++(b6,[ve])::(b5,[vc])::(b4,[v0,v1,v2,v3,v4,v5,v6,v7,v8,v9,v10])::B,R⟩:=by
 rw [dS]
 exact EU hr h0 hT Au e4 e5 e6
theorem NZ {rels:List Rel}(hc:∀ r∈rels,r.cols.length<=1048576){s:Se}(dG:OkSe s){r:Pl×List Bs}(h:l5 rels s=.ok r):r.2.length<=16777216:=by
 unfold l5 at h
 split at h
 ·cases h
 ·rename_i f hf
  have h1:=A0 hc hf
  have h2:=dG.src
  split at h
  ·cases h
  ·simp only at h
   split at h
   ·cases h
   ·injection h with h
    rw [<- h]
    simp only
    split
    ·rw [List.length_map];omega
    ·rename_i hs
     have h3:=(dG.its (by simpa using hs)).1
     have h4:∀ (l:List It) (i:Nat),(ec i l).length=l.length:=by
      intro l
      induction l with
      | nil=>intro i;rfl
      | cons x l ih=>intro i;rw [ec,List.length_cons,List.length_cons,ih]
     rw [h4];omega
theorem Dn {rels:List Rel}{ops:List Int}{p:Pl}{names:List Bs}{s:Se}{l:List Se}{r:Pl×List Bs}(h:l5 rels s=.ok r):ey rels ops 0 p names (s::l)=ey rels ops 1 r.1 r.2 l:=by
 rw [ey,h];rfl
theorem Du {rels:List Rel}{ops:List Int}{i:Nat}{p:Pl}{names:List Bs}{s:Se}{l:List Se}{r:Pl×List Bs}(h:l5 rels s=.ok r)(h0:i≠0):ey rels ops i p names (s::l)=ey rels ops (i+1) (Ab (ops.getD (i - 1) 0) p r.1) names l:=by
 rw [ey,h];simp only;rw [if_neg h0]
theorem IU {rels:List Rel}{ops:List Int}{i:Nat}{p:Pl}{names:List Bs}{s:Se}{l:List Se}{e:Int}(h:l5 rels s=.error e):ey rels ops i p names (s::l)=.error e:=by
 rw [ey,h]
theorem Cu {N:Tm}{L:LL}{R:RR}{k:Sh ->Prop}:∀ {A:LL} {M:aV},aB M (A++L) ->(∀ M',bG M M' ->yb M' A ->aB M' L ->cK ⟨N,M',L,R⟩ k) ->cK ⟨N,M,A++L,R⟩ k
 | [],M,hn,h=>h M bG.rfl' trivial hn
 | (b,cs)::A,M,hn,h=>aJ fun he hb bN=>Cu bN fun M' lC hA hL=>h M' (he.trans lC) ⟨lC _ _ hb,hA⟩ hL
theorem Hr {q:Q}{r:Pl×List Bs}(h:¬ 0<=q.limit):uL q r=.ok r.1:=by unfold uL;rw [if_neg h]
theorem Su {q:Q}{r:Pl×List Bs}{e:Int}(h:0<=q.limit)(he:cI (r.2.map fun n=>([],n)) q.order=.error e):uL q r=.error e:=by unfold uL;rw [if_pos h,he]
theorem Ka {q:Q}{r:Pl×List Bs}{xs:List Ex}(h:0<=q.limit)(he:cI (r.2.map fun n=>([],n)) q.order=.ok xs):uL q r=.ok (.mk 13 q.limit dP xs [] [r.1]):=by unfold uL;rw [if_pos h,he]
def QbQ (rels:List Rel)(q:Q)(T:Tm)(M:aV)(b3 b4 b5 b6:Nat)(r0 nv:Value)(names:List Bs)(e:dN)(ds:List Deferred)(h:Sh):Prop:=
 ds=[qqD b4 b5 b6 #[]]/\aG e [(0,r0),(3,.pointer (some ⟨b3,0,none⟩)),(4,.pointer (some ⟨b4,0,none⟩)),(5,.pointer (some ⟨b5,0,none⟩)),(6,.pointer (some ⟨b6,0,none⟩)),(8,nv)]/\
 ∃ N' M' p' A c0 c1 c2 c3 c4 c5 c6 c7 c8 c9 c10,aH T N'/\bG M M'/\aB M' (A++[(b6,[.int .i64 0]),(b5,[.slice none 0 0]),(b4,[c0,c1,c2,c3,c4,c5,c6,c7,c8,c9,c10])])/\dz b4 A/\
  (∀ M'',bG M' M'' ->yb M'' A ->j5 M'' p' [c0,c1,c2,c3,c4,c5,c6,c7,c8,c9,c10])/\gJ rels q=.ok (p',names)/\h=⟨N',M',A++[(b6,[.int .i64 0]),(b5,[.slice none 0 0]),(b4,[c0,c1,c2,c3,c4,c5,c6,c7,c8,c9,c10])],[]⟩
theorem Rw {c:Co}{cs:List Value}(h:uE c cs):∀ u∈cs,u.oneCell'=true:=by
 rw [h];intro u hu;simp only [List.mem_cons,List.not_mem_nil,or_false] at hu;rcases hu with rfl | rfl<;>rfl
theorem Fz:∀ {l:List Bs} {m:List Int} {i:Nat} (h:i<m.length) (hl:m.length<=l.length),(uX l m)[i]?=some ⟨l[i],m[i]⟩
 | a::l,t::m,0,_,_=>rfl
 | a::l,t::m,i+1,h,hl=>by
  rw [uX,List.getElem?_cons_succ,Fz (by simpa using h) (by simpa using hl)];rfl
 | [],t::m,_,_,hl=>by simp at hl
theorem AZ:∀ {l:List Bs} {m:List Int},m.length<=l.length ->(uX l m).length=m.length
 | [],[],_=>rfl
 | a::l,[],_=>rfl
 | a::l,t::m,h=>by rw [uX,List.length_cons,List.length_cons,AZ (by simpa using h)]
 | [],t::m,hl=>by simp at hl
theorem vK {M:aV}{rels:List Rel}{rv:Value}{q:Q}{cs:List Value}(hr:RS M (qH M) 14 rels rv)(hq:RQ M q cs)(bQ:rels.length<=1048576)(gy:∀ r∈rels,r.cols.length<=1048576)(dG:∀ s∈q.parts,OkSe s)
 (avY:q.parts.length<=q.ops.length+1) (py:q.parts.length<=1048576) (NI:0<=q.limit ->q.order.length<=1048576/\∀ x∈q.order,Ae x) (dh:∀ e,gJ rels q=.error e ->e≠0) (apK:∀ r t,gJ rels q=.ok r ->kQ (cA rels) r.1=.ok t ->t.length<=r.2.length) (T:Tm):
 ep Tryz.prog 10 [rv,.agg ⟨cs⟩] T M [] [] (mb rels q) bj:=by
 obtain ⟨_,ra,rc,rfl,_⟩:=aI (by decide) (fun _ _=>jf) hr
 obtain ⟨pv,ov,dv,hps,hos,D4,gU⟩:=hq
 obtain ⟨hpb,pa,pc,rfl,axl,_,hpg⟩:=aI (by decide) (fun _ _=>lx) hps
 obtain ⟨_,oa,oc,rfl,_,_,hog⟩:=aI (by decide) (fun _ _=>cW) hos
 obtain ⟨_,da,dc,rfl,_⟩:=aI (by decide) (fun _ _=>dY) D4
 subst gU
 refine Qu CB Tryz.func10 rfl (by rw [atl];exact Nat.le_of_ble_eq_true rfl) (dr:=ajm) (by kernel_rfl) alP ?_
 rw [alP]
 simp +contextual only [go_sem,ak,sevalprocAttr,di,dO]
 intro b3 T3 fh fD ja b4 T4 iR cN j6 pp b5 T5 jH eO tG zk b6 T6 mB de u6 AC b7 T7 km dj B6 Ol
 have hT:=(((fD.trans j6).trans tG).trans u6).trans B6
 have iP:(¬ b6=b5/\¬ b5=b6)/\(¬ b6=b4/\¬ b4=b6)/\(¬ b5=b4/\¬ b4=b5):=⟨de.1,de.2.1,eO.1⟩
 refine bA q.parts.length 25 [(0,.slice ra rels.length rc),(3,.pointer (some ⟨b3,0,none⟩)),(4,.pointer (some ⟨b4,0,none⟩)),(5,.pointer (some ⟨b5,0,none⟩)),(6,.pointer (some ⟨b6,0,none⟩)),(7,.pointer (some ⟨b7,0,none⟩)),(24,.int .i64 (q.parts.length:Int))]
  (fun i e h=>∃ N' M' p names nv c0 c1 c2 c3 c4 c5 c6 c7 c8 c9 c10,aH T N'/\bG M M'/\M' b7=some [.slice ra rels.length rc]/\M' b3=some [.slice pa q.parts.length pc,.slice oa q.ops.length oc,.slice da q.order.length dc,.int .i64 q.limit]/\M' b6=none/\M' b5=none/\M' b4=none/\
   j5 M' p [c0,c1,c2,c3,c4,c5,c6,c7,c8,c9,c10]/\e 8=nv/\RS M' pD 1 names nv/\names.length<=16777216/\ey rels q.ops i p names (q.parts.drop i)=ey rels q.ops 0 iZ [] q.parts/\h=⟨N',M',[(b6,[.int .i64 0]),(b5,[.slice none 0 0]),(b4,[c0,c1,c2,c3,c4,c5,c6,c7,c8,c9,c10])],[]⟩)
  0 (by omega) (by simp only [aG,go_sem,ak,sevalprocAttr]) (by simp only [go_sem,ak,sevalprocAttr])
  (ef (L':=[(b7,[.slice ra rels.length rc]),(b3,[.slice pa q.parts.length pc,.slice oa q.ops.length oc,.slice da q.order.length dc,.int .i64 q.limit]),(b6,[.int .i64 0]),(b5,[.slice none 0 0]),(b4,Ch)]) ((List.perm_append_comm (l₁:=[(b6,_),(b5,_),(b4,_)]) (l₂:=[(b3,_)])).cons _) (aJ fun Az h7 bL=>aJ fun kC h3 aQ=>aA ⟨T7,_,iZ,[],.slice none 0 0,_,_,_,_,_,_,_,_,_,_,_,hT,Az.trans kC,kC _ _ h7,h3,aQ.1,aQ.2.1,aQ.2.2.1,uI,by simp only [go_sem,ak,sevalprocAttr],bR,by simp,rfl,rfl⟩)) ?_
 rintro i e h hi aD ht ⟨T8,M1,p,names,nv,c0,c1,c2,c3,c4,c5,c6,c7,c8,c9,c10,rV,aP,h7,h3,n6,n5,n4,hp,e8,hnv,Hm,ay,rfl⟩
 simp only [aG] at aD
 have axN:=gy
 by_cases aF:i<q.parts.length
 ·obtain ⟨b',o',cs',rfl,cC,eL⟩:=hpg i q.parts[i] (List.getElem?_eq_getElem aF)
  have bX:q.parts.drop i=q.parts[i]::q.parts.drop (i+1):=List.drop_eq_getElem_cons aF
  rw [bX] at ay
  have aix:=dG q.parts[i] (List.getElem_mem aF)
  simp +contextual only [go_sem,ak,sevalprocAttr,di,dO,aD,ht,aF,aY h3]
  refine am (Vn (aN aP (gb aP) hr) h7 gy (cC.ext aP) (kn aP _ _ eL) aix T8) ?_ ?_
  rotate_left
  ·rintro ch M2 aX aQ ⟨er,he,rfl⟩
   rw [IU he] at ay
   have hqe:gJ rels q=.error er:=by unfold gJ;rw [<- ay]
   refine Xa (A:=[]) (B:=[]) (by unfold gm;rw [hqe]) (dh er hqe) rV rfl ?_ ?_ ?_
   ·simp only [aD,go_sem,ak,sevalprocAttr]
   ·simp only [aD,go_sem,ak,sevalprocAttr]
   ·simp only [aD,go_sem,ak,sevalprocAttr]
  rintro v M2 aX aQ ⟨⟨r,rn⟩,rT,qs,rnv,rfl,hrp,Xq⟩
  simp only at hrp Xq
  simp only [List.cons_append,List.nil_append,aB,cZ] at aQ
  obtain ⟨_,rna,rnc,rfl,_⟩:=aI (by decide) (fun _ _=>cO) Xq
  obtain ⟨d0,d1,d2,d3,d4,d5,d6,d7,d8,d9,d10,rfl,hd⟩:=bK hrp
  have aeA:=aP.trans aX
  replace h3:=aX _ _ h3
  replace h7:=aX _ _ h7
  rcases Nat.eq_zero_or_pos i with mm | mm
  ·subst mm
   rw [Dn rT] at ay
   simp +contextual only [go_sem,ak,sevalprocAttr,di,dO,aD,ht,aF,hd,iP,aQ]
   intro b10 T10 ack KQ ab5 ZX
   refine bf (al (aA ⟨q.parts.length - 1,by omega,rfl,1,by omega,rfl,?_,?_,T10,M2,r,rn,_,d0,d1,d2,d3,d4,d5,d6,d7,d8,d9,d10,rV.trans ab5,aeA,h7,h3,aQ.1,aQ.2.1,aQ.2.2.1,hrp,?_,Xq,NZ gy aix rT,ay,rfl⟩))
   ·simp only [aG,aD,go_sem,ak,sevalprocAttr]
   ·simp only [ht,go_sem,ak,sevalprocAttr];rfl
   ·simp only [go_sem,ak,sevalprocAttr]
  ·have Uh:i≠0:=by omega
   have nu:¬ ((i:Int)=0):=by omega
   rw [Du rT Uh] at ay
   have hoi:i - 1<q.ops.length:=by omega
   obtain ⟨b2,o2,cs2,rfl,C5,D9⟩:=hog (i - 1) q.ops[i - 1] (List.getElem?_eq_getElem hoi)
   unfold RI at D9;subst D9
   have z0:=Bu (C5.ext aeA)
   rw [Nat.mul_one] at z0
   have hgd:q.ops.getD (i - 1) 0=q.ops[i - 1]:=by simp [List.getD,hoi]
   have hwi:IntKind.i64.wrap ((i:Int) - 1)=((i - 1:Nat):Int):=by rw [eZ (by omega) (by omega)];omega
   rw [hgd] at ay
   simp +contextual only [go_sem,ak,sevalprocAttr,di,dO,aD,ht,aF,hd,iP,aQ,nu]
   intro b10 T10 ack KQ ab5 ZX
   rw [dS]
   refine ⟨nO _ rfl,bq ?_⟩
   have hz:=KQ
   simp +contextual only [go_sem,ak,sevalprocAttr,di,dO,dS,aD,ht,aF,hd,iP,aQ,nu,aY h3,hwi,hoi,z0,KQ,ack]
   have hpM:=bO aX _ _ hp
   refine am (VW (op:=q.ops[i - 1]) hpM hrp T10) ?_ (fun _ _ _ _ h=>h.elim)
   rintro v M3 bD aZ ⟨gs,rfl,hgp⟩
   obtain ⟨g0,g1,g2,g3,g4,g5,g6,g7,g8,g9,g10,rfl,hg⟩:=bK hgp
   simp only [List.cons_append,List.nil_append,aB,cZ] at aZ
   simp +contextual only [go_sem,ak,sevalprocAttr,di,dO,dS,aD,ht,iP,KQ,aZ,hg]
   repeat refine ⟨dK bD ⟨aZ.1,aZ.2.1,aZ.2.2.1,aZ.2.2.2.1,trivial⟩,?_⟩
   refine bf (al (aA ⟨q.parts.length - (i+1),by omega,rfl,i+1,by omega,rfl,?_,?_,T10,M3,_,names,_,g0,g1,g2,g3,g4,g5,g6,g7,g8,g9,g10,rV.trans ab5,aeA.trans bD,bD _ _ h7,bD _ _ h3,aZ.2.1,aZ.2.2.1,aZ.2.2.2.1,hgp,?_,aN (aX.trans bD) (fun _ _ h=>h) hnv,Hm,ay,rfl⟩))
   ·simp only [aG,aD,go_sem,ak,sevalprocAttr]
   ·simp only [ht,go_sem,ak,sevalprocAttr,aC i (by omega)]
   ·simp only [e8,go_sem,ak,sevalprocAttr]
 ·have:i=q.parts.length:=by omega
  subst this
  rw [List.drop_length,ey] at ay
  obtain ⟨_,na,nc,rfl,_,_,hng⟩:=aI (by decide) (fun _ _=>cO) hnv
  have Xm:gJ rels q=(match uL q (p,names) with | .error e=> .error e | .ok p=> .ok (p,names)):=by unfold gJ;rw [<- ay];simp only;cases uL q (p,names)<;>rfl
  simp +contextual only [go_sem,sevalprocAttr,di,dO,aD,ht,aF,e8,aY h3]
  rw [bV]
  simp +contextual only [go_sem,sevalprocAttr,di,dO,aD,ht,aF,e8,aY h3]
  refine dI (QbQ rels q T M1 b3 b4 b5 b6 (.slice ra rels.length rc) (.slice na names.length nc) names) (fun S' dW=> ?_) ?_
  ·rw [bV]
   by_cases GS:0<=q.limit
   ·simp +contextual only [go_sem,ak,sevalprocAttr,di,dO,GS,aD,e8]
    intro b12 T12 WY KV at9 avn
    refine bh names.length 58 [(0,.slice ra rels.length rc),(3,.pointer (some ⟨b3,0,none⟩)),(4,.pointer (some ⟨b4,0,none⟩)),(5,.pointer (some ⟨b5,0,none⟩)),(6,.pointer (some ⟨b6,0,none⟩)),(8,.slice na names.length nc),(12,.pointer (some ⟨b12,0,none⟩)),(56,.slice na names.length nc),(57,.int .i64 (names.length:Int))]
     (fun j e h=>∃ N' R cv,aH T12 N'/\nK 104 2 G6 [] R cv ((names.take j).map fun n=>([],n))/\h=⟨N',M1,[(b12,[cv,.slice none 0 0,.pointer none,.pointer none]),(b6,[.int .i64 0]),(b5,[.slice none 0 0]),(b4,[c0,c1,c2,c3,c4,c5,c6,c7,c8,c9,c10])],R⟩)
     0 (by omega) (by simp only [aG,aD,e8,go_sem,ak,sevalprocAttr]) (by simp only [go_sem,ak,sevalprocAttr]) ⟨T12,[],_,aH.rfl',ew,rfl⟩ ?_
    clear aD ht e8 aF hi e
    rintro j e h hj aD ht ⟨N9,R9,cv,UC,cy,rfl⟩
    simp only [aG] at aD
    by_cases aF:j<names.length
    ·obtain ⟨bn,on,cn,rfl,aaR,Xq⟩:=hng j names[j] (List.getElem?_eq_getElem aF)
     unfold pD at Xq;subst Xq
     have z0:=Bu aaR
     rw [Nat.mul_one] at z0
     obtain ⟨va,vc,rfl⟩:=kq cy
     have gF:((names.take j).map fun n=>(([]:Bs),n)).length=j:=by rw [List.length_map,List.length_take];omega
     simp +contextual only [go_sem,ak,sevalprocAttr,di,dO,aD,ht,aF,z0,WY,KV]
     intro b14 Ns lR
     refine dH (x:=(([]:Bs),names[j])) Tryz.underlying99 KC K6 cy rfl (fun _ _=>q7) (zd (c:=(([]:Bs),names[j])) rfl) Ns (by rw [gF];omega) (by decide) ?_
     intro fv' R' cF
     obtain ⟨wa,wc,YC⟩:=kq cF
     have eW:((names.take (j+1)).map fun n=>(([]:Bs),n))=((names.take j).map fun n=>(([]:Bs),n))++[([],names[j])]:=by
      rw [List.take_succ_eq_append_getElem aF,List.map_append];rfl
     rw [<- eW] at cF
     subst YC
     simp +contextual only [go_sem,ak,sevalprocAttr,di,dO,aD,ht,aF,WY,KV,Ns,lR]
     refine bf (al (aA ⟨names.length - (j+1),by omega,rfl,j+1,by omega,rfl,?_,?_,N9,R',_,UC,cF,rfl⟩))
     ·simp only [aG,aD,go_sem,ak,sevalprocAttr]
     ·simp only [ht,go_sem,ak,sevalprocAttr,aC j (by omega)]
    ·have:j=names.length:=by omega
     subst this
     rw [List.take_length] at cy
     obtain ⟨va,vc,rfl⟩:=kq cy
     simp +contextual only [go_sem,ak,sevalprocAttr,di,dO,dS,aD,ht,aF]
     have FA:(b4≠b12/\b12≠b4)/\(b4≠b6/\b6≠b4)/\(b4≠b5/\b5≠b4):=by
      refine ⟨⟨KV.2.2.2,KV.2.2.1⟩,⟨iP.2.1.2,iP.2.1.1⟩,⟨iP.2.2.2,iP.2.2.1⟩⟩
     refine ⟨nO _ rfl,eR ⟨T,M1,[(b4,[c0,c1,c2,c3,c4,c5,c6,c7,c8,c9,c10])],[]⟩ (fE [(b12,_),(b6,_),(b5,_)] bG.rfl' n4 ⟨FA.1,FA.2.1,FA.2.2,trivial⟩) ?_⟩
     simp +contextual only [go_sem,ak,sevalprocAttr,di,dO,dS,aD,ht,aF,aY h3,n4]
     have hml:(names.map fun n=>(([]:Bs),n)).length<=16777216:=by rw [List.length_map];exact Hm
     have EV:∀ {M5:aV},bG M1 M5 ->RS M5 G6 2 (names.map fun n=>(([]:Bs),n)) (.slice va (names.map fun n=>(([]:Bs),n)).length vc) ->M5 b12=some [.slice va (names.map fun n=>(([]:Bs),n)).length vc,.slice none 0 0,.pointer none,.pointer none] ->
      ep Tryz.prog 31 [.pointer (some ⟨b12,0,none⟩),.slice da q.order.length dc] N9 M5 [] [] (wA (fun l v M=>RS M (jL M) 6 l v) (cI (names.map fun n=>([],n)) q.order)) (rR (cI (names.map fun n=>([],n)) q.order)):=by
      intro M5 h5 ff hb
      exact CY (fun x hx=>exB _ _ x (Nat.le_refl _) ((NI GS).2 x hx)) (NI GS).1 ff hb (aN (aP.trans h5) (br (aP.trans h5)) D4) N9
     have VQ:∀ {er:Int} {N:Tm} {M5:aV} {A:LL} {e:dN},cI (names.map fun n=>([],n)) q.order=.error er ->aH T N ->e 4=.pointer (some ⟨b4,0,none⟩) ->e 5=.pointer (some ⟨b5,0,none⟩) ->e 6=.pointer (some ⟨b6,0,none⟩) ->
      Et T (mb rels q) (Gk er) e [qqD b4 b5 b6 #[]] ⟨N,M5,A++(b6,[.int .i64 0])::(b5,[.slice none 0 0])::(b4,[c0,c1,c2,c3,c4,c5,c6,c7,c8,c9,c10])::[],[]⟩:=by
      intro er N M5 A e he hN e4 e5 e6
      have hqe:gJ rels q=.error er:=by rw [Xm,Su GS he]
      exact EU (by unfold gm;rw [hqe]) (dh er hqe) hN rfl e4 e5 e6
     have hTN:=(rV.trans at9).trans UC
     have vP:∀ {xs:List Ex} {M6 M'':aV} {xv:Value} {b81:Nat},RS M6 (jL M6) 6 xs xv ->bG M1 M6 ->bG M6 M'' ->yb M'' [(b81,[c0,c1,c2,c3,c4,c5,c6,c7,c8,c9,c10])] ->
      j5 M'' (.mk 13 q.limit dP xs [] [p]) [.int .i64 13,.int .i64 q.limit,.int .i64 0,.int .i64 0,.int .i64 0,st [],.int .i64 0,.slice none 0 0,xv,.slice none 0 0,.slice (some ⟨b81,0,none⟩) 1 1]:=by
      intro xs M6 M'' xv b81 kD us h6 hh
      refine mp.2 ⟨[.int .i64 0,.int .i64 0,.int .i64 0,st [],.int .i64 0,.slice none 0 0],xv,.slice none 0 0,.slice (some ⟨b81,0,none⟩) 1 1,rfl,gD.2 ⟨_,rfl,bR⟩,aN h6 (bS h6) kD,bR,?_⟩
      exact df (fun _ _=>jI) hh.1 (l:=[p]) (cP (bO (us.trans h6) _ _ hp)) rfl (by omega)
     refine ⟨?_,?_⟩
     ·refine eh (k:=fun h'=>∃ M5,bG M1 M5/\RS M5 G6 2 (names.map fun n=>(([]:Bs),n)) (.slice va (names.map fun n=>(([]:Bs),n)).length vc)/\M5 b12=some [.slice va (names.map fun n=>(([]:Bs),n)).length vc,.slice none 0 0,.pointer none,.pointer none]/\h'=⟨N9,M5,[(b6,[.int .i64 0]),(b5,[.slice none 0 0]),(b4,[c0,c1,c2,c3,c4,c5,c6,c7,c8,c9,c10])],[]⟩)
       (cU cy (by omega) (by decide) ⟨WY,n6,n5,n4,trivial⟩ fun M5 dy bE ff=>aJ fun he hb bN=>aA ⟨_,dy.trans he,aN he (fun _ _ h=>h) ff,hb,rfl⟩) ?_ KS
      rintro h' ⟨M5,yx,aem,adI,rfl⟩
      refine am (EV yx aem adI) ?_ ?_
      ·rintro r M6 dM bP ⟨xs,wQ,kD⟩
       obtain ⟨_,xa,xc,rfl,_⟩:=aI (by decide) (fun _ _=>ed) kD
       simp only [List.cons_append,List.nil_append,aB,cZ] at bP
       simp +contextual only [go_sem,ak,sevalprocAttr,di,dO,dS,aD,ht,bP,iP]
       refine ⟨fE [(b6,_),(b5,_)] (yx.trans dM) bP.2.2.1 ⟨FA.2.1,FA.2.2,trivial⟩,?_⟩
       intro b81 abe wr
       refine ⟨fE [(b81,_),(b6,_),(b5,_)] (yx.trans dM) bP.2.2.1 ⟨⟨wr.2.2.2,wr.2.2.1⟩,FA.2.1,FA.2.2,trivial⟩,?_⟩
       refine dW _ _ _ ⟨rfl,?_,N9,M6,.mk 13 q.limit dP xs [] [p],[(b81,_)],_,_,_,_,_,_,_,_,_,_,_,hTN,yx.trans dM,⟨abe,bP.1,bP.2.1,bP.2.2.1,trivial⟩,⟨⟨wr.2.2.2,wr.2.2.1⟩,trivial⟩,fun M'' h6 hh=>vP kD (yx.trans dM) h6 hh,by rw [Xm,Ka GS wQ],rfl⟩
       simp only [aG,aD,go_sem,ak,sevalprocAttr]
      ·rintro ch M6 dM bP ⟨er,he,rfl⟩
       rw [dS]
       refine VQ (A:=[]) he hTN ?_ ?_ ?_<;>simp only [aD,go_sem,ak,sevalprocAttr]
     ·intro b81 abe wr
      have WM:b4≠b81/\b81≠b4:=⟨wr.2.2.2.2,wr.2.2.2.1⟩
      refine ⟨fE [(b81,_),(b12,_),(b6,_),(b5,_)] bG.rfl' n4 ⟨WM,FA.1,FA.2.1,FA.2.2,trivial⟩,?_⟩
      refine eh (k:=fun h'=>∃ M5,bG M1 M5/\RS M5 G6 2 (names.map fun n=>(([]:Bs),n)) (.slice va (names.map fun n=>(([]:Bs),n)).length vc)/\M5 b12=some [.slice va (names.map fun n=>(([]:Bs),n)).length vc,.slice none 0 0,.pointer none,.pointer none]/\h'=⟨N9,M5,[(b81,[c0,c1,c2,c3,c4,c5,c6,c7,c8,c9,c10]),(b6,[.int .i64 0]),(b5,[.slice none 0 0]),(b4,[c0,c1,c2,c3,c4,c5,c6,c7,c8,c9,c10])],[]⟩)
       (cU cy (by omega) (by decide) ⟨abe,WY,n6,n5,n4,trivial⟩ fun M5 dy bE ff=>ef (List.Perm.swap _ _ _) (aJ fun he hb bN=>aA ⟨_,dy.trans he,aN he (fun _ _ h=>h) ff,hb,rfl⟩)) ?_ KS
      rintro h' ⟨M5,yx,aem,adI,rfl⟩
      refine am (EV yx aem adI) ?_ ?_
      ·rintro r M6 dM Y0 ⟨xs,wQ,kD⟩
       obtain ⟨_,xa,xc,rfl,_⟩:=aI (by decide) (fun _ _=>ed) kD
       simp only [List.cons_append,List.nil_append,aB,cZ] at Y0
       obtain ⟨ZD,bP⟩:=Y0
       simp +contextual only [go_sem,ak,sevalprocAttr,di,dO,dS,aD,ht,bP,iP,ZD,WM,wr]
       refine ⟨fE [(b81,_),(b6,_),(b5,_)] (yx.trans dM) bP.2.2.1 ⟨WM,FA.2.1,FA.2.2,trivial⟩,?_⟩
       refine dW _ _ _ ⟨rfl,?_,N9,M6,.mk 13 q.limit dP xs [] [p],[(b81,_)],_,_,_,_,_,_,_,_,_,_,_,hTN,yx.trans dM,⟨ZD,bP.1,bP.2.1,bP.2.2.1,trivial⟩,⟨WM,trivial⟩,fun M'' h6 hh=>vP kD (yx.trans dM) h6 hh,by rw [Xm,Ka GS wQ],rfl⟩
       simp only [aG,aD,go_sem,ak,sevalprocAttr]
      ·rintro ch M6 dM bP ⟨er,he,rfl⟩
       rw [dS]
       refine VQ (A:=[(b81,_)]) he hTN ?_ ?_ ?_<;>simp only [aD,go_sem,ak,sevalprocAttr]
   ·simp +contextual only [go_sem,ak,sevalprocAttr,GS]
    refine dW _ _ _ ⟨rfl,?_,T8,M1,p,[],c0,c1,c2,c3,c4,c5,c6,c7,c8,c9,c10,rV,bG.rfl',⟨n6,n5,n4,trivial⟩,trivial,fun M'' atS _=>bO atS _ _ hp,?_,rfl⟩
    ·simp only [aG,aD,e8,go_sem,ak,sevalprocAttr]
    ·rw [Xm,Hr GS]
  ·clear aD ht e8 aF hi e ay Xm hp n6 n5 n4
   rintro e ds h ⟨rfl,aD,N,M2,p',A,c0,c1,c2,c3,c4,c5,c6,c7,c8,c9,c10,hN,aX,hnn,aqP,apT,Xm,rfl⟩
   simp only [aG] at aD
   have FA:(b4≠b6/\b6≠b4)/\(b4≠b5/\b5≠b4):=⟨⟨iP.2.1.2,iP.2.1.1⟩,⟨iP.2.2.2,iP.2.2.1⟩⟩
   have lG:∀ {N:Tm} {M:aV} {A:LL},M b4=none ->dz b4 A ->Vc.lr ⟨T,fun _=>none,[(b4,[c0,c1,c2,c3,c4,c5,c6,c7,c8,c9,c10])],[]⟩ ⟨N,M,A++[(b6,[.int .i64 0]),(b5,[.slice none 0 0]),(b4,[c0,c1,c2,c3,c4,c5,c6,c7,c8,c9,c10])],[]⟩:=by
    intro N M A h4 hA
    have HB:∀ {A:LL},dz b4 A ->dz b4 (A++[(b6,[.int .i64 0]),(b5,[.slice none 0 0])]):=by
     intro A
     induction A with
     | nil=>intro _;exact ⟨FA.1,FA.2,trivial⟩
     | cons x A ih=>intro h;exact ⟨h.1,ih h.2⟩
    have:=dJ (T0:=T) (T:=N) (M:=M) (A++[(b6,[.int .i64 0]),(b5,[.slice none 0 0])]) (L2:=[]) (R:=[]) (cs:=[c0,c1,c2,c3,c4,c5,c6,c7,c8,c9,c10]) h4 (HB hA)
    simpa using this
   have bH:∀ {A:LL},aB M2 (A++[(b6,[.int .i64 0]),(b5,[.slice none 0 0]),(b4,[c0,c1,c2,c3,c4,c5,c6,c7,c8,c9,c10])]) ->M2 b4=none:=by
    intro A h
    exact BZ h b4 (by simp [bd])
   simp +contextual only [go_sem,ak,sevalprocAttr,di,dO,dS,aD]
   refine ⟨nO _ rfl,eR ⟨T,fun _=>none,[(b4,[c0,c1,c2,c3,c4,c5,c6,c7,c8,c9,c10])],[]⟩ (lG (bH hnn) aqP) ?_⟩
   simp +contextual only [go_sem,ak,sevalprocAttr,di,dO,dS,aD]
   refine eh (k:=fun h'=>∃ M3,bG M2 M3/\M3 b6=none/\M3 b5=none/\M3 b4=none/\j5 M3 p' [c0,c1,c2,c3,c4,c5,c6,c7,c8,c9,c10]/\h'=⟨N,M3,[(b6,[.int .i64 0]),(b5,[.slice none 0 0]),(b4,[c0,c1,c2,c3,c4,c5,c6,c7,c8,c9,c10])],[]⟩)
    (Cu hnn fun M3 bD hA bN=>aA ⟨M3,bD,bN.1,bN.2.1,bN.2.2.1,apT M3 bD hA,rfl⟩) ?_ Yj
   rintro h' ⟨M3,bD,n6,n5,n4,hp,rfl⟩
   have h03:=(aP.trans aX).trans bD
   refine am (MT (aN h03 (gb h03) hr) bQ gy N) ?_ (fun _ _ _ _ h=>h.elim)
   rintro tv M4 ce bH SL
   obtain ⟨_,ta,tc,rfl,_⟩:=aI (by decide) (fun _ _=>jD) SL
   simp only [List.cons_append,List.nil_append,aB,cZ] at bH
   simp +contextual only [go_sem,ak,sevalprocAttr,di,dO,dS,aD]
   refine ⟨fE (M:=fun _=>none) [(b6,_),(b5,_)] (fun _ _ h=>by cases h) bH.2.2.1 ⟨FA.1,FA.2,trivial⟩,?_⟩
   refine am (J9 SL (bO ce _ _ hp) N) ?_ (fun _ _ _ _ h=>h.elim)
   rintro r M5 dy bE ON
   obtain ⟨sv,er,rfl⟩:=lq ON
   simp only [List.cons_append,List.nil_append,aB,cZ] at bE
   have axZ:=iP
   cases OD:kQ (cA rels) p' with
   | error er2=>
    rw [OD] at ON
    obtain ⟨Jj,sv2,tW⟩:=ON
    injection tW with tW
    simp only [Array.mk.injEq,List.cons.injEq,and_true,Value.int.injEq,true_and] at tW
    obtain ⟨rfl,rfl⟩:=tW
    have Jn:gm rels q=.error er:=by unfold gm;rw [Xm];simp only;rw [OD]
    simp +contextual only [go_sem,ak,sevalprocAttr,di,dO,dS,aD,bE,iP,Jj]
    refine ⟨nO _ rfl,eR ⟨T,fun _=>none,[(b6,[.int .i64 er])],[]⟩ (gn bE.1) ?_⟩
    simp +contextual only [go_sem,ak,sevalprocAttr,di,dO,dS,aD,bE,iP,Jj]
    refine ⟨gn bE.1,gn bE.1,b4,b5,b6,_,rfl,rfl,?_⟩
    simp +contextual only [go_sem,ak,sevalprocAttr,di,dO,dS,aD,bE,iP]
    refine az hN ?_
    unfold mb
    rw [Jn]
    exact ⟨Jj,_,rfl,uI⟩
   | ok t=>
    rw [OD] at ON
    obtain ⟨sv2,tW,OF⟩:=ON
    injection tW with tW
    simp only [Array.mk.injEq,List.cons.injEq,and_true,Value.int.injEq,true_and] at tW
    obtain ⟨rfl,rfl⟩:=tW
    have Jn:gm rels q=.ok (p',uX names t):=by unfold gm;rw [Xm];simp only;rw [OD]
    have JJ:t.length<=names.length:=apK _ _ Xm OD
    have Pw:=AZ JJ
    obtain ⟨_,sa,sc,rfl,_,_,hsg⟩:=aI (by decide) (fun _ _=>cW) OF
    have u4:=bO (ce.trans dy) _ _ hp
    have yx:=(aX.trans bD).trans (ce.trans dy)
    simp +contextual only [go_sem,ak,sevalprocAttr,di,dO,dS,aD,bE,iP]
    refine bh t.length 96 [(4,.pointer (some ⟨b4,0,none⟩)),(5,.pointer (some ⟨b5,0,none⟩)),(6,.pointer (some ⟨b6,0,none⟩)),(8,.slice na names.length nc),(94,.slice sa t.length sc),(95,.int .i64 (t.length:Int))]
     (fun i e h=>∃ R cv,nK 48 2 uE [] R cv ((uX names t).take i)/\h=⟨N,M5,[(b6,[.int .i64 0]),(b5,[cv]),(b4,[c0,c1,c2,c3,c4,c5,c6,c7,c8,c9,c10])],R⟩) 0 (by omega) (by simp only [aG,aD,go_sem,ak,sevalprocAttr]) (by simp only [go_sem,ak,sevalprocAttr]) ⟨[],_,ew,rfl⟩ ?_
    clear aD e
    rintro i e h hi aD ht ⟨R,cv,cy,rfl⟩
    simp only [aG] at aD
    obtain ⟨wa,wc,rfl⟩:=kq cy
    have hzi:((uX names t).take i).length=i:=by rw [List.length_take];omega
    by_cases aF:i<t.length
    ·obtain ⟨bn,on,cn,rfl,aaR,Xq⟩:=hng i names[i] (List.getElem?_eq_getElem (by omega))
     unfold pD at Xq;subst Xq
     have z0:=Bu (aaR.ext yx)
     rw [Nat.mul_one] at z0
     obtain ⟨bt,ot,ct',rfl,acT,K0⟩:=hsg i t[i] (List.getElem?_eq_getElem aF)
     unfold RI at K0;subst K0
     have z1:=Bu acT
     rw [Nat.mul_one] at z1
     have hin:i<names.length:=by omega
     simp +contextual only [go_sem,ak,sevalprocAttr,di,dO,dS,aD,ht,aF,z1]
     refine ⟨nO _ rfl,eR ⟨T,M5,[(b5,[.slice wa ((uX names t).take i).length wc])],[]⟩ (fE [(b6,_)] bG.rfl' bE.2.1 ⟨⟨iP.1.2,iP.1.1⟩,trivial⟩) ?_⟩
     simp +contextual only [go_sem,ak,sevalprocAttr,di,dO,dS,aD,ht,aF,z0,z1,bE,iP,hin]
     intro b8 sd fj
     refine ⟨fE [(b8,_),(b6,_)] bG.rfl' bE.2.1 ⟨⟨fj.2.1.2,fj.2.1.1⟩,⟨iP.1.2,iP.1.1⟩,trivial⟩,?_⟩
     refine dH (x:=(⟨names[i],t[i]⟩:Co)) Tryz.underlying43 GA F0 cy rfl (fun _ _=>ge) (Rw (c:=⟨names[i],t[i]⟩) rfl) sd (by rw [hzi];omega) (by decide) ?_
     intro fv' R' cF
     obtain ⟨va,vc,YC⟩:=kq cF
     have eW:(uX names t).take (i+1)=(uX names t).take i++[⟨names[i],t[i]⟩]:=by
      rw [List.take_succ,Fz aF JJ];rfl
     rw [<- eW] at cF
     subst YC
     simp +contextual only [go_sem,ak,sevalprocAttr,di,dO,dS,aD,ht,aF,bE,iP,fj]
     refine ⟨fE [(b8,_),(b6,_)] bG.rfl' bE.2.1 ⟨⟨fj.2.1.2,fj.2.1.1⟩,⟨iP.1.2,iP.1.1⟩,trivial⟩,?_⟩
     refine bf (al (aA ⟨t.length - (i+1),by omega,rfl,i+1,by omega,rfl,?_,?_,R',_,cF,rfl⟩))
     ·simp only [aG,aD,go_sem,ak,sevalprocAttr]
     ·simp only [ht,go_sem,ak,sevalprocAttr,aC i (by omega)]
    ·have:i=t.length:=by omega
     subst this
     simp +contextual only [go_sem,ak,sevalprocAttr,di,dO,dS,aD,ht,aF]
     refine ⟨nO _ rfl,bq ?_⟩
     simp +contextual only [go_sem,ak,sevalprocAttr,di,dO,dS,aD,ht,aF,bE,iP]
     obtain ⟨_,_,_,_,_,_,_,_,_,_,_,hcx,hc⟩:=bK u4
     cases hcx
     refine ⟨hc,lr.refl _,b4,b5,b6,_,rfl,rfl,?_⟩
     simp +contextual only [go_sem,ak,sevalprocAttr,di,dO,dS,aD,bE,iP,hc]
     refine cU cy (by omega) (by decide) ⟨bE.1,bE.2.1,bE.2.2.1,trivial⟩ fun M6 dM bP ff=>az hN ?_
     have hzt:(uX names t).take t.length=uX names t:=List.take_of_length_le (by omega)
     rw [hzt] at ff
     unfold mb
     rw [Jn]
     refine ⟨_,_,rfl,bO dM _ _ u4,?_⟩
     rw [hzt];exact ff
theorem Eu {M:aV}{rels:List Rel}{rv:Value}(hr:RS M (qH M) 14 rels rv)(bQ:rels.length<=1048576)(gy:∀ r∈rels,r.cols.length<=1048576)(T:Tm):
 ep Tryz.prog 27 [rv] T M [] [] (fun r M' _ _=>RS M' (G2 M') 1 (cA rels) r) bj:=by
 obtain ⟨lh,a,c,rfl,jo,_,hg⟩:=aI (by decide) (fun _ _=>jf) hr
 refine aT mx akL Tryz.func27 rfl (by rw [aqi];exact Nat.le_of_ble_eq_true rfl) (dr:=akm) (by kernel_rfl) aru ?_
 intro bN _
 simp +contextual only [go_sem,ak,sevalprocAttr]
 refine bh rels.length 11 [(9,.slice a rels.length c),(10,.int .i64 (rels.length:Int))] (fun i e h=>∃ N' M' R fv,aH T N'/\bG M M'/\h=⟨N',M',[],R⟩/\e 3=fv/\nK 24 1 (G2 M') [] R fv (cA (rels.take i))/\(cA (rels.take i)).length<=i) 0 (by omega) (by simp only [aG,go_sem,ak,sevalprocAttr]) (by simp only [go_sem,ak,sevalprocAttr]) ⟨T,M,[],_,aH.rfl',bG.rfl',rfl,by simp only [go_sem,ak,sevalprocAttr],ew,by simp [cA]⟩ ?_
 rintro i e h hi aD ht ⟨N1,M1,R1,fv,iy,aP,rfl,e3,cy,tT⟩
 simp only [aG] at aD
 by_cases aF:i<rels.length
 ·obtain ⟨b',o',cs',rfl,cC,eL⟩:=hg i rels[i] (List.getElem?_eq_getElem aF)
  obtain ⟨ca,cn,s1,a1,n1,a2,n2,a3,n3,rfl,gH,gU,py⟩:=ln (gb aP _ _ eL)
  obtain ⟨x0,x1,x2,x3,x4,x5,x6,x7,x8,x9,x10,x11,x12,x13⟩:=Ou (cC.ext aP)
  have eW:=uk aF
  simp +contextual only [go_sem,ak,sevalprocAttr,aD,ht,aF,x0,x1,x2,x3,x4,x5,x6,x7,x8,x9,x10,x11,x12,x13,gH]
  intro b5 T5 jH tG zk
  have jt:=iy.trans tG
  by_cases uJ:rels[i].view=true
  ·rw [if_pos uJ]
   rw [if_pos uJ,List.append_nil] at eW
   refine bf (al (aA ⟨rels.length - (i+1),by omega,rfl,i+1,by omega,rfl,?_,?_,T5,M1,R1,fv,jt,aP,rfl,?_,?_,?_⟩))
   ·simp only [aG,aD,go_sem,ak,sevalprocAttr]
   ·simp only [ht,go_sem,ak,sevalprocAttr,aC i (by omega)]
   ·simp only [e3,go_sem,ak,sevalprocAttr]
   ·rw [eW];exact cy
   ·rw [eW];omega
  rw [if_neg uJ]
  rw [if_neg uJ] at eW
  obtain ⟨hcb,_,_,hcx,ai9,_,UF⟩:=aI (by decide) (fun _ _=>ge) gU
  cases hcx
  have YN:=gy rels[i] (List.getElem_mem aF)
  refine bA rels[i].cols.length 21 [(3,fv),(9,.slice (some ⟨b',o',none⟩) rels.length c),(10,.int .i64 (rels.length:Int)),(11,.int .i64 (i:Nat)),(19,.slice ca rels[i].cols.length cn),(20,.int .i64 (rels[i].cols.length:Int))]
   (fun j e h=>∃ N' M' R' tv,aH T N'/\bG M1 M'/\h=⟨N',M',[],R'⟩/\e 6=tv/\(j<rels[i].cols.length ->nK 3 1 RI R1 R' tv ((rels[i].cols.take j).map (·.ty)))/\(j=rels[i].cols.length ->R'=R1/\RS M' RI 1 (rels[i].cols.map (·.ty)) tv))
   0 (by omega) (by simp only [aG,aD,e3,ht,go_sem,ak,sevalprocAttr]) (by simp only [go_sem,ak,sevalprocAttr]) ?_ ?_
  ·exact al (aA ⟨T5,M1,R1,.slice none 0 0,jt,bG.rfl',rfl,by simp only [go_sem,ak,sevalprocAttr],fun _=>ew,fun h0=>⟨rfl,by rw [List.eq_nil_of_length_eq_zero h0.symm];exact bR⟩⟩)
  ·rintro j e h hj du tD ⟨N2,M2,R2,tv,CG,aX,rfl,e6,aas,Rh⟩
   simp only [aG] at du
   by_cases lL:j<rels[i].cols.length
   ·obtain ⟨bc,oc,cc',rfl,TD,Z1⟩:=UF j rels[i].cols[j] (List.getElem?_eq_getElem lL)
    unfold uE at Z1
    subst Z1
    obtain ⟨z0,z1⟩:=SN (TD.ext aX)
    have Ai:=aas lL
    simp +contextual only [go_sem,ak,sevalprocAttr,du,tD,lL,z0,z1,e6]
    intro b8 T8 sd rV z8 b7 km dj
    have AH:(rels[i].cols.take (j+1)).map (·.ty)=(rels[i].cols.take j).map (·.ty)++[rels[i].cols[j].ty]:=by
     rw [<- List.take_append_getElem lL,List.map_append];rfl
    have xk:((rels[i].cols.take j).map (·.ty)).length=j:=by rw [List.length_map,List.length_take];omega
    refine dH (Tryz.underlying24) kB kl (x:=rels[i].cols[j].ty) (cs:=[.int .i64 rels[i].cols[j].ty]) Ai rfl (fun _ _=>cW) (i7 rfl) km (by omega) (by decide) ?_
    intro tv' R' Da
    rw [<- AH] at Da
    simp +contextual only [go_sem,ak,sevalprocAttr,du,tD,lL]
    refine bf (al (al ?_))
    by_cases hje:j+1=rels[i].cols.length
    ·have OY:(rels[i].cols.take (j+1)).map (·.ty)=rels[i].cols.map (·.ty):=by rw [hje,List.take_length]
     rw [OY] at Da
     refine cU Da (by rw [List.length_map];omega) (by decide) trivial fun M3 bD _ ff=>aA ⟨rels[i].cols.length - (j+1),by omega,rfl,j+1,by omega,rfl,?_,?_,T8,M3,R1,tv',CG.trans rV,aX.trans bD,rfl,?_,fun h=>absurd h (by omega),fun _=>⟨rfl,ff⟩⟩
     ·simp only [aG,du,go_sem,ak,sevalprocAttr]
     ·simp only [tD,go_sem,ak,sevalprocAttr,aC j (by omega)]
     ·simp only [go_sem,ak,sevalprocAttr]
    ·refine aA ⟨rels[i].cols.length - (j+1),by omega,rfl,j+1,by omega,rfl,?_,?_,T8,M2,R',tv',CG.trans rV,aX,rfl,?_,fun _=>Da,fun h=>absurd h hje⟩
     ·simp only [aG,du,go_sem,ak,sevalprocAttr]
     ·simp only [tD,go_sem,ak,sevalprocAttr,aC j (by omega)]
     ·simp only [go_sem,ak,sevalprocAttr]
   ·have:j=rels[i].cols.length:=by omega
    subst this
    obtain ⟨rfl,ff⟩:=Rh rfl
    obtain ⟨_,ta,tc,rfl,_⟩:=aI (by decide) (fun _ _=>cW) ff
    simp +contextual only [go_sem,ak,sevalprocAttr,du,tD,lL,e6]
    intro b7 km
    refine dH (Tryz.underlying58) Kk Ke (eX (ms aX) cy) ⟨_,rfl,ff⟩ (fun _ _=>jD) (yj (M:=M2) ⟨_,rfl,ff⟩) km (by omega) (by decide) ?_
    intro fv' R' cF
    simp +contextual only [go_sem,ak,sevalprocAttr,du,tD,lL]
    refine bf (al (aA ⟨rels.length - (i+1),by omega,rfl,i+1,by omega,rfl,?_,?_,N2,M2,R',fv',CG,aP.trans aX,rfl,?_,?_,?_⟩))
    ·simp only [aG,du,go_sem,ak,sevalprocAttr]
    ·simp only [du,go_sem,ak,sevalprocAttr,aC i (by omega)]
    ·simp only [go_sem,ak,sevalprocAttr]
    ·rw [eW];exact cF
    ·rw [eW,List.length_append];simp only [List.length_cons,List.length_nil];omega
 ·have:i=rels.length:=by omega
  subst this
  rw [List.take_length] at cy tT
  simp +contextual only [go_sem,ak,sevalprocAttr,aD,ht,aF,e3]
  exact cU cy (by omega) (by decide) bN fun M2 aX aQ ff=>az iy (aN bG.rfl' (ms aX) ff)
def ql (e f:Int):Int:=if e=0 then f else e
def yf (l:List (Bs×Bs))(tab name:Bs):Int:=match lZ tab name 0 none l with | some k=>nR k | none=> -1
def Qi (rels:List Rel)(name:Bs):Pl×List Co:=(kN name 0 rels).getD (iZ,[])
theorem abl (k n:Int)(t:Bs)(k' n':Int)(t':Bs):iV Tryz.prog .neq 29 (.agg ⟨[.int .i64 k,.int .i64 n,.string (bs t)]⟩) (.agg ⟨[.int .i64 k',.int .i64 n',.string (bs t')]⟩)=some (.bool (!rZ ⟨k,n,t⟩ ⟨k',n',t'⟩)):=by
 show (match HF Tryz.prog 29 with | some ks=>(NA ks _ _).map (fun b=>Value.bool !b) | none=>none)=_
 rw [Pu];simp only [NA,eqV,rZ,st,Ju,Option.map]
 cases decide (k=k')<;>cases decide (n=n')<;>cases decide (t=t')<;>simp
mutual
def me (names:List (Bs×Bs)):X ->Int ->Ex×Int
 | .mk k v tab name kids,e=>if 19<=k then (.mk k sk 0 [],ql e 8)
  else if k=2 then (.mk 2 sk (yf names tab name) [],if yf names tab name<0 then ql e 7 else e)
  else if k=1 then (.mk 1 v 0 [],e)
  else (.mk k sk 0 (jm names kids e).1,(jm names kids e).2)
def jm (names:List (Bs×Bs)):List X ->Int ->List Ex×Int
 | [],e=>([],e)
 | x::l,e=>((me names x e).1::(jm names l (me names x e).2).1,(jm names l (me names x e).2).2)
end
def Wb (names:List (Bs×Bs))(kids:List X)(e:Int):Ex×Int:=match kids with
 | []=>(dP,e)
 | x::_=>me names x e
mutual
def qL (names:List (Bs×Bs))(bd:List X):X ->Int ->List Ag ->Ex×Int×List Ag
 | .mk k v tab name kids,e,ags=>match bd.findIdx? (fun y=>fp y (.mk k v tab name kids)) with
  | some i=>(sS i,e,ags)
  | none=>if 19<=k then (sS (bd.length+ags.length),(Wb names kids e).2,ags++[⟨k - 18,(Wb names kids e).1⟩])
   else if k=2 then (.mk 2 sk 0 [],ql e 8,ags) else if k=1 then (.mk 1 v 0 [],e,ags)
   else (.mk k sk 0 (kX names bd kids e ags).1,(kX names bd kids e ags).2)
def kX (names:List (Bs×Bs))(bd:List X):List X ->Int ->List Ag ->List Ex×Int×List Ag
 | [],e,ags=>([],e,ags)
 | x::l,e,ags=>((qL names bd x e ags).1::(kX names bd l (qL names bd x e ags).2.1 (qL names bd x e ags).2.2).1,(kX names bd l (qL names bd x e ags).2.1 (qL names bd x e ags).2.2).2)
end
end Go.Proofs.YtmccpbcbofhmlaaGreatDoor

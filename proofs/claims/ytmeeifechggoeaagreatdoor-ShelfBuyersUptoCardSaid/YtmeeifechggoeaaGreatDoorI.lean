import Derived.Test.YtmeeifechggoeaaGreatDoorH
import Derived.Test.YtmeeifechggoeaaGreatDoorB
import Derived.Sort.LotA
set_option linter.all false
namespace Go.Proofs.YtmeeifechggoeaaGreatDoor
open Go Vc
set_option maxRecDepth 10000
def qqD (b4 b5 b6:Nat)(ag:Array Value):Deferred:={target:=.fn (.func 91) ⟨[.pointer (some ⟨b4,0,none⟩),.pointer (some ⟨b5,0,none⟩),.pointer (some ⟨b6,0,none⟩)]⟩,args:=ag}
def Rw (T:Tm)(ts:List ResultVar)(post:eu)(e:dp)(ds:List Deferred)(h:Sh):Prop:=
 ∃ b4 b5 b6 ag,ds=[qqD b4 b5 b6 ag]/\ag.toList=[]/\dU (l9 Tryz.prog e h ts) fun vs=>cq h (vA T [] 0 post (tf vs))
def Gk (T:Tm)(post:eu)(ch:List PanicEntry)(e:dp)(ds:List Deferred)(h:Sh):Prop:=
 ∃ b4 b5 b6 ag er,ds=[qqD b4 b5 b6 ag]/\ag.toList=[]/\e 4=.pointer (some ⟨b4,0,none⟩)/\e 5=.pointer (some ⟨b5,0,none⟩)/\e 6=.pointer (some ⟨b6,0,none⟩)/\ch=Fu er/\
  cq h fun h'=>aF T h'.N/\h'.R=[]/\(∃ v0 v1 v2 v3 v4 v5 v6 v7 v8 v9 v10 vc ve,h'.L=[(b4,[v0,v1,v2,v3,v4,v5,v6,v7,v8,v9,v10]),(b5,[vc]),(b6,[ve])])/\post (.tuple ⟨[.agg ⟨[.int .i64 0,.int .i64 0,.int .i64 0,.int .i64 0,.int .i64 0,st [],.int .i64 0,.slice none 0 0,.slice none 0 0,.slice none 0 0,.slice none 0 0]⟩,.slice none 0 0,.int .i64 er]⟩) h'.M [] []
def Ia (T:Tm)(dr:List (Nat×Sched))(ts:List ResultVar)(post:eu):Fi:=⟨dr,Rw T ts post,Gk T post⟩
theorem XR {b4 b5 b6:Nat}{ag:Array Value}(h:ag.toList=[]):ag++(⟨[.pointer (some ⟨b4,0,none⟩),.pointer (some ⟨b5,0,none⟩),.pointer (some ⟨b6,0,none⟩)]⟩:Array Value)= #[.pointer (some ⟨b4,0,none⟩),.pointer (some ⟨b5,0,none⟩),.pointer (some ⟨b6,0,none⟩)]:=by
 apply Array.toList_inj.1
 simp [h]
theorem BP {a:Array Value}{R:Ending ->World ->Prop}{w:World}{b4 b5 b6:Nat}{ag:Array Value}{u:FrameMode}{fn:Func}(h:ag.toList=[])(hu:u≠ .run)
 (hc:CallsD Tryz.prog 91 #[.pointer (some ⟨b4,0,none⟩),.pointer (some ⟨b5,0,none⟩),.pointer (some ⟨b6,0,none⟩)] u w fun
  | .returned _,u',w'=>Leaves Tryz.prog fn a R [] (settle u') w'
  | .panicked chain,u',w'=>Leaves Tryz.prog fn a R [] (raised u' chain) w'
  | .outgrown,_,w'=>R .outgrown w'):Leaves Tryz.prog fn a R [qqD b4 b5 b6 ag] u w:=by
 refine leaves_cons (f:=91) (args:= #[.pointer (some ⟨b4,0,none⟩),.pointer (some ⟨b5,0,none⟩),.pointer (some ⟨b6,0,none⟩)]) hu ?_ hc
 show (invoke (.fn (.func 91) _) ag).run Tryz.prog w=_
 have RM:=Tryz.func91
 simp only [invoke,callFunc,Sem.run_bind,Result.andThen_ok,run_program,RM]
 rw [XR h]
 rfl
theorem Wg {fn:Func}{T:Tm}{dr U M post}(hr:fn.results.toList=[.cell 4 121,.cell 5 52,.cell 6 34]){w0:World}{ex:Exit}{a:Act}{w:World}{n:Nat}
 (hq:KontL.toQ ⟨w0,M,U⟩ n (Ia T dr fn.results.toList post).k ex a w):bodyPostD Tryz.prog fn (Ps U T M [] 0 post aM w0) ex a w:=by
 have Gt:∀ {e ds h},Fr n a e ds ->Is ⟨w0,M,U⟩ h w ->Rw T fn.results.toList post e ds h ->Leaves Tryz.prog fn a.tmps (Ps U T M [] 0 post aM w0) a.defers .returning w:=by
  rintro e ds h ha hw ⟨b4,b5,b6,ag,rfl,Pk,hd⟩
  rw [ha.2.1]
  refine BP Pk (by simp) ?_
  refine (AL _ _ _ w).mono ?_
  rintro en u' w' ⟨rfl,rfl,rfl⟩
  obtain ⟨vs,Hy,cM⟩:=cE hd
  obtain ⟨h',gh,hT,hk,hR,hp⟩:=cM _ _ hw
  exact ⟨_,jY hw Hy ha.2.2,h'.M,h'.L,h'.R,ky hT gh hk hR,hp⟩
 cases ex with
 | normal=>obtain ⟨e,ds,h,ha,hw,hd⟩:=hq;exact Gt ha hw hd
 | ret=>obtain ⟨e,ds,h,ha,hw,hd⟩:=hq;exact Gt ha hw hd
 | panic ch=>
  obtain ⟨e,ds,h,ha,hw,b4,b5,b6,ag,er,rfl,Pk,e4,e5,e6,rfl,cM⟩:=hq
  show Leaves Tryz.prog fn a.tmps _ a.defers (.panicking _) w
  rw [ha.2.1]
  obtain ⟨⟨N,M',L',R'⟩,⟨bs,hi⟩,hT,hR,⟨v0,v1,v2,v3,v4,v5,v6,v7,v8,v9,v10,vc,ve,hL⟩,hp⟩:=cM _ _ hw
  simp only at hT hR hL hp
  subst hR hL
  have Z1:bs=[]:=by simpa using hi.rows.1.symm
  subst Z1
  have kg:Hp ⟨w0,M,U⟩ ⟨N,M',[]++[(b4,[v0,v1,v2,v3,v4,v5,v6,v7,v8,v9,v10]),(b5,[vc]),(b6,[ve])]++[],[]++[]++[]⟩ w ([]++[]++[]):=by simpa using hi
  have zz:=kg.enter rfl rfl
  refine BP Pk (by simp) ?_
  refine (DR (er:=er) zz).mono ?_
  rintro en u' w' ⟨rfl,rfl,⟨⟨bp',wA⟩,hk,hRl⟩⟩
  have YA:bp'=[]:=by simpa using wA.rows.1.symm
  subst YA
  have tw:=kg.frame (b1:=[]) (bp:=[]) (b2:=[]) rfl rfl rfl wA hk hRl
  have uO:Hp ⟨w0,M,U⟩ ⟨N,M',[(b4,[.int .i64 0,.int .i64 0,.int .i64 0,.int .i64 0,.int .i64 0,st [],.int .i64 0,.slice none 0 0,.slice none 0 0,.slice none 0 0,.slice none 0 0]),(b5,[.slice none 0 0]),(b6,[.int .i64 er])],[]⟩ w' []:=by simpa using tw
  have hIs:Is ⟨w0,M,U⟩ ⟨N,M',[(b4,[.int .i64 0,.int .i64 0,.int .i64 0,.int .i64 0,.int .i64 0,st [],.int .i64 0,.slice none 0 0,.slice none 0 0,.slice none 0 0,.slice none 0 0]),(b5,[.slice none 0 0]),(b6,[.int .i64 er])],[]⟩ w':=⟨[],uO⟩
  have hn0:M' b4=none:=(uO.apart _ (by simp)).1
  have Bl:M' b5=none:=(uO.apart _ (by simp)).1
  have pi:M' b6=none:=(uO.apart _ (by simp)).1
  have cu:(¬ b4=b5/\¬ b4=b6/\¬ b5=b6)/\(¬ b5=b4/\¬ b6=b4/\¬ b6=b5):=by
   have:=uO.nodup
   simp at this
   grind
  have am:l9 Tryz.prog e ⟨N,M',[(b4,[.int .i64 0,.int .i64 0,.int .i64 0,.int .i64 0,.int .i64 0,st [],.int .i64 0,.slice none 0 0,.slice none 0 0,.slice none 0 0,.slice none 0 0]),(b5,[.slice none 0 0]),(b6,[.int .i64 er])],[]⟩ fn.results.toList=some [.agg ⟨[.int .i64 0,.int .i64 0,.int .i64 0,.int .i64 0,.int .i64 0,st [],.int .i64 0,.slice none 0 0,.slice none 0 0,.slice none 0 0,.slice none 0 0]⟩,.slice none 0 0,.int .i64 er]:=by
   rw [hr]
   simp +contextual only [go_sem,sevalprocAttr,e4,e5,e6,hn0,Bl,pi,cu]
  have Tb:settle (.panicking [PL er true])=.returning:=rfl
  show Leaves Tryz.prog fn a.tmps _ [] (settle (.panicking [PL er true])) w'
  rw [Tb]
  obtain ⟨h',gh,hT',ML,No,DY⟩:=(ak (T:=T) (R:=[]) (L:=[(b4,[.int .i64 0,.int .i64 0,.int .i64 0,.int .i64 0,.int .i64 0,st [],.int .i64 0,.slice none 0 0,.slice none 0 0,.slice none 0 0,.slice none 0 0]),(b5,[.slice none 0 0]),(b6,[.int .i64 er])]) (post:=post) (v:=.tuple ⟨[.agg ⟨[.int .i64 0,.int .i64 0,.int .i64 0,.int .i64 0,.int .i64 0,st [],.int .i64 0,.slice none 0 0,.slice none 0 0,.slice none 0 0,.slice none 0 0]⟩,.slice none 0 0,.int .i64 er]⟩) hT hp) _ _ hIs
  exact ⟨_,jY hIs am ha.2.2,h'.M,h'.L,h'.R,ky hT' gh ML No,DY⟩
 | exit id=>obtain ⟨_,_,_,_,_,h⟩:=hq;exact h.elim
 | goto l=>exact hq.elim
 | outgrown=>exact hq.elim
theorem S6 {f:FuncId}{fn:Func}{c:Code}{args:List Value}{dr}{T:Tm}{M post}(Cg:dm Tryz.prog f=true)
 (hf:Tryz.prog.funcs[f]?=some fn) (hb:fn.body=some c) (hn:args.length<=fn.ntmps) (hc:eo Tryz.prog fn.ntmps dr c=true) (hr:fn.results.toList=[.cell 4 121,.cell 5 52,.cell 6 34])
 (h:cy Tryz.prog (Ia T dr fn.results.toList post) [.code c] (mz args) [] ⟨T,M,[],[]⟩ ⟨⟩):bV Tryz.prog f args T M [] [] post aM:=by
 refine ⟨Cg,fun w U hw=>calls_of_wp_defers hf hb ?_⟩
 obtain ⟨h1,h2,h3⟩:=hw.facts
 have:=jK (c₀:=⟨w,M,U⟩) mx c (Ia T dr fn.results.toList post).k (mz args) [] ⟨T,M,[],[]⟩ w _ hc (fr0 args.toArray fn.ntmps (by simpa using hn)) h3 h
 exact wp_mono this fun ex a w' hq=>Wg hr hq
theorem GF {T dr ts post}:(Ia T dr ts post).ret=Rw T ts post:=(rfl)
theorem j4 {T dr ts post}:(Ia T dr ts post).pan=Gk T post:=(rfl)
theorem qS {T dr ts post}:(Ia T dr ts post).dr=dr:=(rfl)
theorem nD {T post}(ops:List Oper)(h:(ops.all fun o=>match o.dst with | some d=>d !=4 && d !=5 && d !=6 | none=>true)=true):wq (Gk T post) ops:=by
 intro o ho d hd ch e v ds h' hp
 have:=List.all_eq_true.1 h o ho
 rw [hd] at this
 simp at this
 obtain ⟨b4,b5,b6,ag,er,h1,h2,h4,h5,h6,k5,k6⟩:=hp
 unfold upd at h4 h5 h6
 rw [if_neg (fun h=>(by grind))] at h4
 rw [if_neg (fun h=>(by grind))] at h5
 rw [if_neg (fun h=>(by grind))] at h6
 exact ⟨b4,b5,b6,ag,er,h1,h2,h4,h5,h6,k5,k6⟩
def mV (rels:List Rel)(q:Q):eu:=fun r M' _ _=>match il rels q with
 | .ok w=>∃ cs cv,r=.tuple ⟨[.agg ⟨cs⟩,cv,.int .i64 0]⟩/\gR M' w.1 cs/\RS M' ua 2 w.2 cv
 | .error e=>e≠0/\∃ cs,r=.tuple ⟨[.agg ⟨cs⟩,.slice none 0 0,.int .i64 e]⟩/\gR M' o9 cs
theorem pM {M:aS}:gR M o9 Cz:=by
 refine j0.2 ⟨[.int .i64 0,.int .i64 0,.int .i64 0,st [],.int .i64 0,.slice none 0 0],.slice none 0 0,.slice none 0 0,.slice none 0 0,rfl,?_,bu,bu,bu⟩
 exact iQ.2 ⟨_,rfl,bu⟩
theorem GX {T N:Tm}{M:aS}{rels:List Rel}{q:Q}{A B:LL}{R:RR}{b4 b5 b6:Nat}{v0 v1 v2 v3 v4 v5 v6 v7 v8 v9 v10 vc ve:Value}{er:Int}{ag:Array Value}{e:dp}(hr:il rels q=.error er)(h0:er≠0)(hT:aF T N)(CN:ag.toList=[])
 (e4:e 4=.pointer (some ⟨b4,0,none⟩)) (e5:e 5=.pointer (some ⟨b5,0,none⟩)) (e6:e 6=.pointer (some ⟨b6,0,none⟩)):
 Gk T (mV rels q) (Fu er) e [qqD b4 b5 b6 ag] ⟨N,M,A++(b6,[ve])::(b5,[vc])::(b4,[v0,v1,v2,v3,v4,v5,v6,v7,v8,v9,v10])::B,R⟩:=by
 refine ⟨b4,b5,b6,ag,er,rfl,CN,e4,e5,e6,rfl,gH A (bW (cY (L':=B++[(b4,[v0,v1,v2,v3,v4,v5,v6,v7,v8,v9,v10]),(b5,[vc]),(b6,[ve])]) ?_ (gH B (aB ⟨hT,rfl,⟨_,_,_,_,_,_,_,_,_,_,_,_,_,rfl⟩,?_⟩))))⟩
 ·refine List.Perm.trans (l₂:=[(b4,[v0,v1,v2,v3,v4,v5,v6,v7,v8,v9,v10]),(b5,[vc]),(b6,[ve])]++B) ?_ List.perm_append_comm
  have h3:([(b6,[ve]),(b5,[vc]),(b4,[v0,v1,v2,v3,v4,v5,v6,v7,v8,v9,v10])]:LL).Perm [(b4,[v0,v1,v2,v3,v4,v5,v6,v7,v8,v9,v10]),(b5,[vc]),(b6,[ve])]:=by
   have:=List.reverse_perm ([(b4,[v0,v1,v2,v3,v4,v5,v6,v7,v8,v9,v10]),(b5,[vc]),(b6,[ve])]:LL)
   simpa using this
  exact h3.append_right B
 ·unfold mV
  rw [hr]
  exact ⟨h0,_,rfl,pM⟩
theorem Yt {T N:Tm}{M:aS}{rels:List Rel}{q:Q}{A B:LL}{R:RR}{b4 b5 b6:Nat}{v0 v1 v2 v3 v4 v5 v6 v7 v8 v9 v10 vc ve:Value}{er:Int}{ag:Array Value}{e:dp}{dr ts}(hr:il rels q=.error er)(h0:er≠0)(hT:aF T N)(CN:ag.toList=[])
 (e4:e 4=.pointer (some ⟨b4,0,none⟩)) (e5:e 5=.pointer (some ⟨b5,0,none⟩)) (e6:e 6=.pointer (some ⟨b6,0,none⟩)):
 (Ia T dr ts (mV rels q)).pan (Fu er) e [qqD b4 b5 b6 ag] ⟨N,M,A++(b6,[ve])::(b5,[vc])::(b4,[v0,v1,v2,v3,v4,v5,v6,v7,v8,v9,v10])::B,R⟩:=by
 rw [j4]
 exact GX hr h0 hT CN e4 e5 e6
theorem OC {rels:List Rel}(hc:∀ r∈rels,r.cols.length<=1048576){s:Se}(cB:OkSe s){r:Pl×List Bs}(h:sU rels s=.ok r):r.2.length<=16777216:=by
 unfold sU at h
 split at h
 ·cases h
 ·rename_i f hf
  have h1:=AS hc hf
  have h2:=cB.src
  split at h
  ·cases h
  ·simp only at h
   split at h
   ·cases h
   ·injection h with h
    rw [<- h]
    simp only
    split
    ·rw [List.length_map];omega
    ·rename_i hs
     have h3:=(cB.its (by simpa using hs)).1
     have h4:∀ (l:List It) (i:Nat),(iM i l).length=l.length:=by
      intro l
      induction l with
      | nil=>intro i;rfl
      | cons x l ih=>intro i;rw [iM,List.length_cons,List.length_cons,ih]
     rw [h4];omega
theorem C2 {rels:List Rel}{ops:List Int}{p:Pl}{names:List Bs}{s:Se}{l:List Se}{r:Pl×List Bs}(h:sU rels s=.ok r):jQ rels ops 0 p names (s::l)=jQ rels ops 1 r.1 r.2 l:=by
 rw [jQ,h];rfl
theorem C4 {rels:List Rel}{ops:List Int}{i:Nat}{p:Pl}{names:List Bs}{s:Se}{l:List Se}{r:Pl×List Bs}(h:sU rels s=.ok r)(h0:i≠0):jQ rels ops i p names (s::l)=jQ rels ops (i+1) (XE (ops.getD (i - 1) 0) p r.1) names l:=by
 rw [jQ,h];simp only;rw [if_neg h0]
theorem I4 {rels:List Rel}{ops:List Int}{i:Nat}{p:Pl}{names:List Bs}{s:Se}{l:List Se}{e:Int}(h:sU rels s=.error e):jQ rels ops i p names (s::l)=.error e:=by
 rw [jQ,h]
theorem Bp {N:Tm}{L:LL}{R:RR}{k:Sh ->Prop}:∀ {A:LL} {M:aS},aJ M (A++L) ->(∀ M',bm M M' ->lV M' A ->aJ M' L ->cq ⟨N,M',L,R⟩ k) ->cq ⟨N,M,A++L,R⟩ k
 | [],M,hn,h=>h M bm.rfl' trivial hn
 | (b,cs)::A,M,hn,h=>aT fun he hb bi=>Bp bi fun M' nj hA hL=>h M' (he.trans nj) ⟨nj _ _ hb,hA⟩ hL
theorem Ir {q:Q}{r:Pl×List Bs}(h:¬ 0<=q.limit):CL q r=.ok r.1:=by unfold CL;rw [if_neg h]
theorem Rd {q:Q}{r:Pl×List Bs}{e:Int}(h:0<=q.limit)(he:eK (r.2.map fun n=>([],n)) q.order=.error e):CL q r=.error e:=by unfold CL;rw [if_pos h,he]
theorem Mf {q:Q}{r:Pl×List Bs}{xs:List Ex}(h:0<=q.limit)(he:eK (r.2.map fun n=>([],n)) q.order=.ok xs):CL q r=.ok (.mk 13 q.limit dX xs [] [r.1]):=by unfold CL;rw [if_pos h,he]
def QbQ (rels:List Rel)(q:Q)(T:Tm)(M:aS)(b3 b4 b5 b6:Nat)(r0 nv:Value)(names:List Bs)(e:dp)(ds:List Deferred)(h:Sh):Prop:=
 ds=[qqD b4 b5 b6 #[]]/\aE e [(0,r0),(3,.pointer (some ⟨b3,0,none⟩)),(4,.pointer (some ⟨b4,0,none⟩)),(5,.pointer (some ⟨b5,0,none⟩)),(6,.pointer (some ⟨b6,0,none⟩)),(8,nv)]/\
 ∃ N' M' p' A c0 c1 c2 c3 c4 c5 c6 c7 c8 c9 c10,aF T N'/\bm M M'/\aJ M' (A++[(b6,[.int .i64 0]),(b5,[.slice none 0 0]),(b4,[c0,c1,c2,c3,c4,c5,c6,c7,c8,c9,c10])])/\bf b4 A/\
  (∀ M'',bm M' M'' ->lV M'' A ->gR M'' p' [c0,c1,c2,c3,c4,c5,c6,c7,c8,c9,c10])/\jp rels q=.ok (p',names)/\h=⟨N',M',A++[(b6,[.int .i64 0]),(b5,[.slice none 0 0]),(b4,[c0,c1,c2,c3,c4,c5,c6,c7,c8,c9,c10])],[]⟩
theorem PA {c:Co}{cs:List Value}(h:ua c cs):∀ u∈cs,u.oneCell'=true:=by
 rw [h];intro u hu;simp only [mn] at hu;rcases hu with rfl | rfl<;>rfl
theorem Gh:∀ {l:List Bs} {m:List Int} {i:Nat} (h:i<m.length) (hl:m.length<=l.length),(uk l m)[i]?=some ⟨l[i],m[i]⟩
 | a::l,t::m,0,_,_=>rfl
 | a::l,t::m,i+1,h,hl=>by
  rw [uk,List.getElem?_cons_succ,Gh (by simpa using h) (by simpa using hl)];rfl
 | [],t::m,_,_,hl=>by simp at hl
theorem Bq:∀ {l:List Bs} {m:List Int},m.length<=l.length ->(uk l m).length=m.length
 | [],[],_=>rfl
 | a::l,[],_=>rfl
 | a::l,t::m,h=>by rw [uk,List.length_cons,List.length_cons,Bq (by simpa using h)]
 | [],t::m,hl=>by simp at hl
theorem vm {M:aS}{rels:List Rel}{rv:Value}{q:Q}{cs:List Value}(hr:RS M (gU M) 14 rels rv)(hq:RQ M q cs)(bq:rels.length<=1048576)(eC:∀ r∈rels,r.cols.length<=1048576)(cB:∀ s∈q.parts,OkSe s)
 (adg:q.parts.length<=q.ops.length+1) (s9:q.parts.length<=1048576) (Ww:0<=q.limit ->q.order.length<=1048576/\∀ x∈q.order,D6 x) (cu:∀ e,jp rels q=.error e ->e≠0) (ZU:∀ r t,jp rels q=.ok r ->fq (bN rels) r.1=.ok t ->t.length<=r.2.length) (T:Tm):
 bV Tryz.prog 52 [rv,.agg ⟨cs⟩] T M [] [] (mV rels q) aM:=by
 obtain ⟨_,ra,rc,rfl,_⟩:=ax (by decide) (fun _ _=>gV) hr
 obtain ⟨pv,ov,dv,hps,hos,uw,fS⟩:=hq
 obtain ⟨hpb,pa,pc,rfl,apa,_,hpg⟩:=ax (by decide) (fun _ _=>lK) hps
 obtain ⟨_,oa,oc,rfl,_,_,hog⟩:=ax (by decide) (fun _ _=>ct) hos
 obtain ⟨_,da,dc,rfl,_⟩:=ax (by decide) (fun _ _=>dT) uw
 subst fS
 refine S6 F52.bd Tryz.func52 rfl (by rw [F52.nt];exact Nat.le_of_ble_eq_true rfl) (dr:=[(10,.take 0<| .take 2<| .take 3<| .take 1<| .take 4<| .take 5<| .take 6<| .take 7<| .eff 8 false (.eff 9 true (.done)<| .no)<| .no),(19,.take 0<| .take 2<| .take 3<| .take 1<| .take 4<| .take 6<| .eff 5 false (.eff 7 false (.take 8<| .eff 9 true (.done)<| .no)<| .no)<| .eff 7 false (.eff 5 false (.take 8<| .eff 9 true (.done)<| .no)<| .no)<| .no),(20,.take 0<| .take 2<| .eff 1 false (.eff 3 true (.take 4<| .take 5<| .take 6<| .take 7<| .eff 8 true (.done)<| .no)<| .no)<| .no),(22,.take 0<| .take 1<| .eff 2 false (.eff 3 false (.eff 4 true (.done)<| .no)<| .no)<| .no),(26,.take 1<| .take 2<| .take 3<| .take 5<| .take 0<| .take 4<| .take 6<| .eff 7 false (.eff 8 false (.eff 9 true (.done)<| .no)<| .no)<| .no),(28,.take 0<| .take 1<| .eff 2 false (.eff 3 true (.eff 4 true (.done)<| .no)<| .no)<| .no)]) (by kernel_rfl) F52.rs ?_
 rw [F52.rs]
 simp +contextual only [go_sem,aD,sevalprocAttr]
 intro b3 T3 ii fV gD b4 T4 eN eE fG iI b5 T5 j6 ea lG oQ b6 T6 pt gE um CO b7 T7 mN jv BB Ja
 have hT:=(((fV.trans fG).trans lG).trans um).trans BB
 have im:(¬ b6=b5/\¬ b5=b6)/\(¬ b6=b4/\¬ b4=b6)/\(¬ b5=b4/\¬ b4=b5):=⟨gE.1,gE.2.1,ea.1⟩
 refine bY q.parts.length 25 [(0,.slice ra rels.length rc),(3,.pointer (some ⟨b3,0,none⟩)),(4,.pointer (some ⟨b4,0,none⟩)),(5,.pointer (some ⟨b5,0,none⟩)),(6,.pointer (some ⟨b6,0,none⟩)),(7,.pointer (some ⟨b7,0,none⟩)),(24,.int .i64 (q.parts.length:Int))]
  (fun i e h=>∃ N' M' p names nv c0 c1 c2 c3 c4 c5 c6 c7 c8 c9 c10,aF T N'/\bm M M'/\M' b7=some [.slice ra rels.length rc]/\M' b3=some [.slice pa q.parts.length pc,.slice oa q.ops.length oc,.slice da q.order.length dc,.int .i64 q.limit]/\M' b6=none/\M' b5=none/\M' b4=none/\
   gR M' p [c0,c1,c2,c3,c4,c5,c6,c7,c8,c9,c10]/\e 8=nv/\RS M' rj 1 names nv/\names.length<=16777216/\jQ rels q.ops i p names (q.parts.drop i)=jQ rels q.ops 0 o9 [] q.parts/\h=⟨N',M',[(b6,[.int .i64 0]),(b5,[.slice none 0 0]),(b4,[c0,c1,c2,c3,c4,c5,c6,c7,c8,c9,c10])],[]⟩)
  0 (by omega) (by simp only [aE,go_sem,sevalprocAttr]) (by simp only [go_sem,sevalprocAttr])
  (cY (L':=[(b7,[.slice ra rels.length rc]),(b3,[.slice pa q.parts.length pc,.slice oa q.ops.length oc,.slice da q.order.length dc,.int .i64 q.limit]),(b6,[.int .i64 0]),(b5,[.slice none 0 0]),(b4,Cz)]) ((List.perm_append_comm (l₁:=[(b6,_),(b5,_),(b4,_)]) (l₂:=[(b3,_)])).cons _) (aT fun xP h7 bG=>aT fun pu h3 aZ=>aB ⟨T7,_,o9,[],.slice none 0 0,_,_,_,_,_,_,_,_,_,_,_,hT,xP.trans pu,pu _ _ h7,h3,aZ.1,aZ.2.1,aZ.2.2.1,pM,by simp only [go_sem,sevalprocAttr],bu,by simp,rfl,rfl⟩)) ?_
 rintro i e h hi aG ht ⟨T8,M1,p,names,nv,c0,c1,c2,c3,c4,c5,c6,c7,c8,c9,c10,ni,aV,h7,h3,n6,n5,n4,hp,e8,Nu,yF,am,rfl⟩
 simp only [aE] at aG
 have an6:=eC
 by_cases aL:i<q.parts.length
 ·obtain ⟨b',o',cs',rfl,bQ,dV⟩:=hpg i q.parts[i] (gq aL)
  have bK:q.parts.drop i=q.parts[i]::q.parts.drop (i+1):=dq aL
  rw [bK] at am
  have aew:=cB q.parts[i] (gm aL)
  simp +contextual only [go_sem,aD,sevalprocAttr,aG,ht,aL,bg h3]
  refine bT (Xe (aH aV (dP aV) hr) h7 eC (bQ.ext aV) (lF aV _ _ dV) aew T8) ?_ ?_
  rotate_left
  ·rintro ch M2 bh aZ ⟨er,he,rfl⟩
   rw [I4 he] at am
   have hqe:jp rels q=.error er:=by unfold jp;rw [<- am]
   refine Yt (A:=[]) (B:=[]) (by unfold il;rw [hqe]) (cu er hqe) ni rfl ?_ ?_ ?_
   ·simp only [aG,go_sem,sevalprocAttr]
   ·simp only [aG,go_sem,sevalprocAttr]
   ·simp only [aG,go_sem,sevalprocAttr]
  rintro v M2 bh aZ ⟨⟨r,rn⟩,wW,qs,rnv,rfl,hrp,W5⟩
  simp only at hrp W5
  simp only [aJ] at aZ
  obtain ⟨_,rna,rnc,rfl,_⟩:=ax (by decide) (fun _ _=>ff) W5
  obtain ⟨d0,d1,d2,d3,d4,d5,d6,d7,d8,d9,d10,rfl,hd⟩:=cO hrp
  have Ap:=aV.trans bh
  replace h3:=bh _ _ h3
  replace h7:=bh _ _ h7
  rcases Nat.eq_zero_or_pos i with uu | uu
  ·subst uu
   rw [C2 wW] at am
   simp +contextual only [go_sem,aD,sevalprocAttr,aG,ht,hd,im]
   intro b10 T10 abA J5 aaC YS
   refine aR (al (aB ⟨q.parts.length - 1,by omega,rfl,1,by omega,rfl,?_,?_,T10,M2,r,rn,_,d0,d1,d2,d3,d4,d5,d6,d7,d8,d9,d10,ni.trans aaC,Ap,h7,h3,aZ.1,aZ.2.1,aZ.2.2.1,hrp,?_,W5,OC eC aew wW,am,rfl⟩))
   ·simp only [aE,aG,go_sem,sevalprocAttr]
   ·simp only [go_sem,sevalprocAttr];rfl
   ·simp only [go_sem,sevalprocAttr]
  ·have Hu:i≠0:=by omega
   have kg:¬ ((i:Int)=0):=by omega
   rw [C4 wW Hu] at am
   have XB:i - 1<q.ops.length:=by omega
   obtain ⟨b2,o2,cs2,rfl,oK,R8⟩:=hog (i - 1) q.ops[i - 1] (gq XB)
   unfold RI at R8;subst R8
   have z0:=xG (oK.ext Ap)
   rw [Nat.mul_one] at z0
   have WS:q.ops.getD (i - 1) 0=q.ops[i - 1]:=by simp [List.getD,XB]
   have hwi:IntKind.i64.wrap ((i:Int) - 1)=((i - 1:Nat):Int):=by rw [bH (by omega) (by omega)];omega
   rw [WS] at am
   simp +contextual only [go_sem,aD,sevalprocAttr,qS,hd,kg]
   intro b10 T10 abA J5 aaC YS
   rw [j4]
   refine ⟨nD _ rfl,aX ?_⟩
   have hz:=J5
   simp +contextual only [go_sem,sevalprocAttr,aG,im,aZ,bg h3,hwi,XB,z0,J5,abA]
   have hpM:=bA bh _ _ hp
   refine aI (Xc (op:=q.ops[i - 1]) hpM hrp T10) ?_
   rintro v M3 bE bB ⟨gs,rfl,hgp⟩
   obtain ⟨g0,g1,g2,g3,g4,g5,g6,g7,g8,g9,g10,rfl,hg⟩:=cO hgp
   simp only [aJ] at bB
   simp +contextual only [go_sem,sevalprocAttr,aG,ht,im,J5,hg]
   repeat refine ⟨fu bE ⟨bB.1,bB.2.1,bB.2.2.1,bB.2.2.2.1,trivial⟩,?_⟩
   refine aR (al (aB ⟨q.parts.length - (i+1),by omega,rfl,i+1,by omega,rfl,?_,?_,T10,M3,_,names,_,g0,g1,g2,g3,g4,g5,g6,g7,g8,g9,g10,ni.trans aaC,Ap.trans bE,bE _ _ h7,bE _ _ h3,bB.2.1,bB.2.2.1,bB.2.2.2.1,hgp,?_,aH (bh.trans bE) (fun _ _ h=>h) Nu,yF,am,rfl⟩))
   ·simp only [aE,aG,go_sem,sevalprocAttr]
   ·simp only [go_sem,sevalprocAttr,aA i (by omega)]
   ·simp only [e8,go_sem,sevalprocAttr]
 ·have:i=q.parts.length:=by omega
  subst this
  rw [List.drop_length,jQ] at am
  obtain ⟨_,na,nc,rfl,_,_,YW⟩:=ax (by decide) (fun _ _=>ff) Nu
  have RG:jp rels q=(match CL q (p,names) with | .error e=> .error e | .ok p=> .ok (p,names)):=by unfold jp;rw [<- am];simp only;cases CL q (p,names)<;>rfl
  simp +contextual only [go_sem,sevalprocAttr,aG,ht,aL]
  rw [dG]
  simp +contextual only [go_sem,sevalprocAttr,aG,bg h3]
  refine eU (QbQ rels q T M1 b3 b4 b5 b6 (.slice ra rels.length rc) (.slice na names.length nc) names) (fun S' eY=> ?_) ?_
  ·rw [dG]
   by_cases AI:0<=q.limit
   ·simp +contextual only [go_sem,aD,sevalprocAttr,AI,e8]
    intro b12 T12 V9 YR ait ama
    refine aO names.length 58 [(0,.slice ra rels.length rc),(3,.pointer (some ⟨b3,0,none⟩)),(4,.pointer (some ⟨b4,0,none⟩)),(5,.pointer (some ⟨b5,0,none⟩)),(6,.pointer (some ⟨b6,0,none⟩)),(8,.slice na names.length nc),(12,.pointer (some ⟨b12,0,none⟩)),(56,.slice na names.length nc),(57,.int .i64 (names.length:Int))]
     (fun j e h=>∃ N' R cv,aF T12 N'/\kT 187 2 Hq [] R cv ((names.take j).map fun n=>([],n))/\h=⟨N',M1,[(b12,[cv,.slice none 0 0,.pointer none,.pointer none]),(b6,[.int .i64 0]),(b5,[.slice none 0 0]),(b4,[c0,c1,c2,c3,c4,c5,c6,c7,c8,c9,c10])],R⟩)
     0 (by omega) (by simp only [aE,aG,e8,go_sem,sevalprocAttr]) (by simp only [go_sem,sevalprocAttr]) ⟨T12,[],_,aF.rfl',cV,rfl⟩ ?_
    clear aG ht e8 aL hi e
    rintro j e h hj aG ht ⟨N9,R9,cv,Va,bj,rfl⟩
    simp only [aE] at aG
    by_cases aL:j<names.length
    ·obtain ⟨bn,on,cn,rfl,abY,W5⟩:=YW j names[j] (gq aL)
     unfold rj at W5;subst W5
     have z0:=xG abY
     rw [Nat.mul_one] at z0
     obtain ⟨va,vc,rfl⟩:=eI bj
     have gK:((names.take j).map fun n=>(([]:Bs),n)).length=j:=by rw [List.length_map,List.length_take];omega
     simp +contextual only [go_sem,aD,sevalprocAttr,aG,ht,aL,z0,V9]
     intro b14 S1 qA
     refine cA (x:=(([]:Bs),names[j])) Tryz.underlying182 CF CZ bj rfl (fun _ _=>qX) (zV (c:=(([]:Bs),names[j])) rfl) S1 (by rw [gK];omega) (by decide) ?_
     intro fv' R' bz
     obtain ⟨wa,wc,YX⟩:=eI bz
     have gF:((names.take (j+1)).map fun n=>(([]:Bs),n))=((names.take j).map fun n=>(([]:Bs),n))++[([],names[j])]:=by
      rw [List.take_succ_eq_append_getElem aL,List.map_append];rfl
     rw [<- gF] at bz
     subst YX
     simp +contextual only [go_sem,sevalprocAttr,ht,qA]
     refine aR (al (aB ⟨names.length - (j+1),by omega,rfl,j+1,by omega,rfl,?_,?_,N9,R',_,Va,bz,rfl⟩))
     ·simp only [aE,aG,go_sem,sevalprocAttr]
     ·simp only [go_sem,sevalprocAttr,aA j (by omega)]
    ·have:j=names.length:=by omega
     subst this
     rw [List.take_length] at bj
     obtain ⟨va,vc,rfl⟩:=eI bj
     simp +contextual only [go_sem,aD,sevalprocAttr,qS,j4,aG,ht,aL]
     have DZ:(b4≠b12/\b12≠b4)/\(b4≠b6/\b6≠b4)/\(b4≠b5/\b5≠b4):=by
      refine ⟨⟨YR.2.2.2,YR.2.2.1⟩,⟨im.2.1.2,im.2.1.1⟩,⟨im.2.2.2,im.2.2.1⟩⟩
     refine ⟨nD _ rfl,eG ⟨T,M1,[(b4,[c0,c1,c2,c3,c4,c5,c6,c7,c8,c9,c10])],[]⟩ (eX [(b12,_),(b6,_),(b5,_)] bm.rfl' n4 ⟨DZ.1,DZ.2.1,DZ.2.2,trivial⟩) ?_⟩
     simp +contextual only [go_sem,sevalprocAttr,aG,bg h3,n4]
     have hml:(names.map fun n=>(([]:Bs),n)).length<=16777216:=by rw [List.length_map];exact yF
     have ET:∀ {M5:aS},bm M1 M5 ->RS M5 Hq 2 (names.map fun n=>(([]:Bs),n)) (.slice va (names.map fun n=>(([]:Bs),n)).length vc) ->M5 b12=some [.slice va (names.map fun n=>(([]:Bs),n)).length vc,.slice none 0 0,.pointer none,.pointer none] ->
      bV Tryz.prog 94 [.pointer (some ⟨b12,0,none⟩),.slice da q.order.length dc] N9 M5 [] [] (wF (fun l v M=>RS M (ij M) 6 l v) (eK (names.map fun n=>([],n)) q.order)) (rf (eK (names.map fun n=>([],n)) q.order)):=by
      intro M5 h5 cG hb
      exact Cx (fun x hx=>exB _ _ x (Nat.le_refl _) ((Ww AI).2 x hx)) (Ww AI).1 cG hb (aH (aV.trans h5) (bL (aV.trans h5)) uw) N9
     have VB:∀ {er:Int} {N:Tm} {M5:aS} {A:LL} {e:dp},eK (names.map fun n=>([],n)) q.order=.error er ->aF T N ->e 4=.pointer (some ⟨b4,0,none⟩) ->e 5=.pointer (some ⟨b5,0,none⟩) ->e 6=.pointer (some ⟨b6,0,none⟩) ->
      Gk T (mV rels q) (Fu er) e [qqD b4 b5 b6 #[]] ⟨N,M5,A++(b6,[.int .i64 0])::(b5,[.slice none 0 0])::(b4,[c0,c1,c2,c3,c4,c5,c6,c7,c8,c9,c10])::[],[]⟩:=by
      intro er N M5 A e he hN e4 e5 e6
      have hqe:jp rels q=.error er:=by rw [RG,Rd AI he]
      exact GX (by unfold il;rw [hqe]) (cu er hqe) hN rfl e4 e5 e6
     have hTN:=(ni.trans ait).trans Va
     have vv:∀ {xs:List Ex} {M6 M'':aS} {xv:Value} {b81:Nat},RS M6 (ij M6) 6 xs xv ->bm M1 M6 ->bm M6 M'' ->lV M'' [(b81,[c0,c1,c2,c3,c4,c5,c6,c7,c8,c9,c10])] ->
      gR M'' (.mk 13 q.limit dX xs [] [p]) [.int .i64 13,.int .i64 q.limit,.int .i64 0,.int .i64 0,.int .i64 0,st [],.int .i64 0,.slice none 0 0,xv,.slice none 0 0,.slice (some ⟨b81,0,none⟩) 1 1]:=by
      intro xs M6 M'' xv b81 fM xy h6 hh
      refine j0.2 ⟨[.int .i64 0,.int .i64 0,.int .i64 0,st [],.int .i64 0,.slice none 0 0],xv,.slice none 0 0,.slice (some ⟨b81,0,none⟩) 1 1,rfl,iQ.2 ⟨_,rfl,bu⟩,aH h6 (cJ h6) fM,bu,?_⟩
      exact dB (fun _ _=>jo) hh.1 (l:=[p]) (dj (bA (xy.trans h6) _ _ hp)) rfl (by omega)
     refine ⟨?_,?_⟩
     ·refine cL (k:=fun h'=>∃ M5,bm M1 M5/\RS M5 Hq 2 (names.map fun n=>(([]:Bs),n)) (.slice va (names.map fun n=>(([]:Bs),n)).length vc)/\M5 b12=some [.slice va (names.map fun n=>(([]:Bs),n)).length vc,.slice none 0 0,.pointer none,.pointer none]/\h'=⟨N9,M5,[(b6,[.int .i64 0]),(b5,[.slice none 0 0]),(b4,[c0,c1,c2,c3,c4,c5,c6,c7,c8,c9,c10])],[]⟩)
       (cz bj (by omega) (by decide) ⟨V9,n6,n5,n4,trivial⟩ fun M5 dJ bR cG=>aT fun he hb bi=>aB ⟨_,dJ.trans he,aH he (fun _ _ h=>h) cG,hb,rfl⟩) ?_ F94.bd
      rintro h' ⟨M5,wX,abq,aat,rfl⟩
      refine bT (ET wX abq aat) ?_ ?_
      ·rintro r M6 eP bU ⟨xs,wV,fM⟩
       obtain ⟨_,xa,xc,rfl,_⟩:=ax (by decide) (fun _ _=>eb) fM
       simp only [aJ] at bU
       simp +contextual only [go_sem,sevalprocAttr,aG,im]
       refine ⟨eX [(b6,_),(b5,_)] (wX.trans eP) bU.2.2.1 ⟨DZ.2.1,DZ.2.2,trivial⟩,?_⟩
       intro b81 QQ wB
       refine ⟨eX [(b81,_),(b6,_),(b5,_)] (wX.trans eP) bU.2.2.1 ⟨⟨wB.2.2.2,wB.2.2.1⟩,DZ.2.1,DZ.2.2,trivial⟩,?_⟩
       refine eY _ _ _ ⟨rfl,?_,N9,M6,.mk 13 q.limit dX xs [] [p],[(b81,_)],_,_,_,_,_,_,_,_,_,_,_,hTN,wX.trans eP,⟨QQ,bU.1,bU.2.1,bU.2.2.1,trivial⟩,⟨⟨wB.2.2.2,wB.2.2.1⟩,trivial⟩,fun M'' h6 hh=>vv fM (wX.trans eP) h6 hh,by rw [RG,Mf AI wV],rfl⟩
       simp only [aE,aG,go_sem,sevalprocAttr]
      ·rintro ch M6 eP bU ⟨er,he,rfl⟩
       rw [j4]
       refine VB (A:=[]) he hTN ?_ ?_ ?_<;>simp only [aG,go_sem,sevalprocAttr]
     ·intro b81 QQ wB
      have XJ:b4≠b81/\b81≠b4:=⟨wB.2.2.2.2,wB.2.2.2.1⟩
      refine ⟨eX [(b81,_),(b12,_),(b6,_),(b5,_)] bm.rfl' n4 ⟨XJ,DZ.1,DZ.2.1,DZ.2.2,trivial⟩,?_⟩
      refine cL (k:=fun h'=>∃ M5,bm M1 M5/\RS M5 Hq 2 (names.map fun n=>(([]:Bs),n)) (.slice va (names.map fun n=>(([]:Bs),n)).length vc)/\M5 b12=some [.slice va (names.map fun n=>(([]:Bs),n)).length vc,.slice none 0 0,.pointer none,.pointer none]/\h'=⟨N9,M5,[(b81,[c0,c1,c2,c3,c4,c5,c6,c7,c8,c9,c10]),(b6,[.int .i64 0]),(b5,[.slice none 0 0]),(b4,[c0,c1,c2,c3,c4,c5,c6,c7,c8,c9,c10])],[]⟩)
       (cz bj (by omega) (by decide) ⟨QQ,V9,n6,n5,n4,trivial⟩ fun M5 dJ bR cG=>cY (List.Perm.swap _ _ _) (aT fun he hb bi=>aB ⟨_,dJ.trans he,aH he (fun _ _ h=>h) cG,hb,rfl⟩)) ?_ F94.bd
      rintro h' ⟨M5,wX,abq,aat,rfl⟩
      refine bT (ET wX abq aat) ?_ ?_
      ·rintro r M6 eP Zw ⟨xs,wV,fM⟩
       obtain ⟨_,xa,xc,rfl,_⟩:=ax (by decide) (fun _ _=>eb) fM
       simp only [aJ] at Zw
       obtain ⟨aeF,bU⟩:=Zw
       simp +contextual only [go_sem,sevalprocAttr,aG,im,XJ]
       refine ⟨eX [(b81,_),(b6,_),(b5,_)] (wX.trans eP) bU.2.2.1 ⟨XJ,DZ.2.1,DZ.2.2,trivial⟩,?_⟩
       refine eY _ _ _ ⟨rfl,?_,N9,M6,.mk 13 q.limit dX xs [] [p],[(b81,_)],_,_,_,_,_,_,_,_,_,_,_,hTN,wX.trans eP,⟨aeF,bU.1,bU.2.1,bU.2.2.1,trivial⟩,⟨XJ,trivial⟩,fun M'' h6 hh=>vv fM (wX.trans eP) h6 hh,by rw [RG,Mf AI wV],rfl⟩
       simp only [aE,aG,go_sem,sevalprocAttr]
      ·rintro ch M6 eP bU ⟨er,he,rfl⟩
       rw [j4]
       refine VB (A:=[(b81,_)]) he hTN ?_ ?_ ?_<;>simp only [aG,go_sem,sevalprocAttr]
   ·simp +contextual only [go_sem,sevalprocAttr,AI]
    refine eY _ _ _ ⟨rfl,?_,T8,M1,p,[],c0,c1,c2,c3,c4,c5,c6,c7,c8,c9,c10,ni,bm.rfl',⟨n6,n5,n4,trivial⟩,trivial,fun M'' aiz _=>bA aiz _ _ hp,?_,rfl⟩
    ·simp only [aE,aG,e8,go_sem,sevalprocAttr]
    ·rw [RG,Ir AI]
  ·clear aG ht e8 aL hi e am RG hp n6 n5 n4
   rintro e ds h ⟨rfl,aG,N,M2,p',A,c0,c1,c2,c3,c4,c5,c6,c7,c8,c9,c10,hN,bh,hnn,alb,ah7,RG,rfl⟩
   simp only [aE] at aG
   have DZ:(b4≠b6/\b6≠b4)/\(b4≠b5/\b5≠b4):=⟨⟨im.2.1.2,im.2.1.1⟩,⟨im.2.2.2,im.2.2.1⟩⟩
   have jP:∀ {N:Tm} {M:aS} {A:LL},M b4=none ->bf b4 A ->Vc.fO ⟨T,fun _=>none,[(b4,[c0,c1,c2,c3,c4,c5,c6,c7,c8,c9,c10])],[]⟩ ⟨N,M,A++[(b6,[.int .i64 0]),(b5,[.slice none 0 0]),(b4,[c0,c1,c2,c3,c4,c5,c6,c7,c8,c9,c10])],[]⟩:=by
    intro N M A h4 hA
    have LH:∀ {A:LL},bf b4 A ->bf b4 (A++[(b6,[.int .i64 0]),(b5,[.slice none 0 0])]):=by
     intro A
     induction A with
     | nil=>intro _;exact ⟨DZ.1,DZ.2,trivial⟩
     | cons x A ih=>intro h;exact ⟨h.1,ih h.2⟩
    have:=jX (T0:=T) (T:=N) (M:=M) (A++[(b6,[.int .i64 0]),(b5,[.slice none 0 0])]) (L2:=[]) (R:=[]) (cs:=[c0,c1,c2,c3,c4,c5,c6,c7,c8,c9,c10]) h4 (LH hA)
    simpa using this
   have de:∀ {A:LL},aJ M2 (A++[(b6,[.int .i64 0]),(b5,[.slice none 0 0]),(b4,[c0,c1,c2,c3,c4,c5,c6,c7,c8,c9,c10])]) ->M2 b4=none:=by
    intro A h
    exact qQ h b4 (by simp [aY])
   simp +contextual only [go_sem,sevalprocAttr,qS,j4]
   refine ⟨nD _ rfl,eG ⟨T,fun _=>none,[(b4,[c0,c1,c2,c3,c4,c5,c6,c7,c8,c9,c10])],[]⟩ (jP (de hnn) alb) ?_⟩
   simp +contextual only [go_sem,sevalprocAttr,aG]
   refine cL (k:=fun h'=>∃ M3,bm M2 M3/\M3 b6=none/\M3 b5=none/\M3 b4=none/\gR M3 p' [c0,c1,c2,c3,c4,c5,c6,c7,c8,c9,c10]/\h'=⟨N,M3,[(b6,[.int .i64 0]),(b5,[.slice none 0 0]),(b4,[c0,c1,c2,c3,c4,c5,c6,c7,c8,c9,c10])],[]⟩)
    (Bp hnn fun M3 bE hA bi=>aB ⟨M3,bE,bi.1,bi.2.1,bi.2.2.1,ah7 M3 bE hA,rfl⟩) ?_ F54.bd
   rintro h' ⟨M3,bE,n6,n5,n4,hp,rfl⟩
   have h03:=(aV.trans bh).trans bE
   refine aI (vh (aH h03 (dP h03) hr) bq eC N) ?_
   rintro tv M4 dD de nl
   obtain ⟨_,ta,tc,rfl,_⟩:=ax (by decide) (fun _ _=>dE) nl
   simp only [aJ] at de
   simp +contextual only [go_sem,sevalprocAttr]
   refine ⟨eX (M:=fun _=>none) [(b6,_),(b5,_)] (fun _ _ h=>by cases h) de.2.2.1 ⟨DZ.1,DZ.2,trivial⟩,?_⟩
   refine aI (ur nl (bA dD _ _ hp) N) ?_
   rintro r M5 dJ bR Wz
   obtain ⟨sv,er,rfl⟩:=lQ Wz
   simp only [aJ] at bR
   have an4:=im
   cases YP:fq (bN rels) p' with
   | error er2=>
    rw [YP] at Wz
    obtain ⟨Wt,sv2,sV⟩:=Wz
    injection sV with sV
    simp only [Array.mk.injEq,List.cons.injEq,and_true,Value.int.injEq,true_and] at sV
    obtain ⟨rfl,rfl⟩:=sV
    have WQ:il rels q=.error er:=by unfold il;rw [RG];simp only;rw [YP]
    simp +contextual only [go_sem,aD,sevalprocAttr,qS,j4,aG,bR,Wt]
    refine ⟨nD _ rfl,eG ⟨T,fun _=>none,[(b6,[.int .i64 er])],[]⟩ (gx bR.1) ?_⟩
    simp +contextual only [go_sem,sevalprocAttr,GF,aG,im]
    refine ⟨gx bR.1,gx bR.1,b4,b5,b6,_,rfl,rfl,?_⟩
    simp +contextual only [go_sem,sevalprocAttr,aG,bR,im]
    refine ak hN ?_
    unfold mV
    rw [WQ]
    exact ⟨Wt,_,rfl,pM⟩
   | ok t=>
    rw [YP] at Wz
    obtain ⟨sv2,sV,ZQ⟩:=Wz
    injection sV with sV
    simp only [Array.mk.injEq,List.cons.injEq,and_true,Value.int.injEq,true_and] at sV
    obtain ⟨rfl,rfl⟩:=sV
    have WQ:il rels q=.ok (p',uk names t):=by unfold il;rw [RG];simp only;rw [YP]
    have Dc:t.length<=names.length:=ZU _ _ RG YP
    have qh:=Bq Dc
    obtain ⟨_,sa,sc,rfl,_,_,hsg⟩:=ax (by decide) (fun _ _=>ct) ZQ
    have hp5:=bA (dD.trans dJ) _ _ hp
    have wX:=(bh.trans bE).trans (dD.trans dJ)
    simp +contextual only [go_sem,aD,sevalprocAttr,aG,bR]
    refine aO t.length 96 [(4,.pointer (some ⟨b4,0,none⟩)),(5,.pointer (some ⟨b5,0,none⟩)),(6,.pointer (some ⟨b6,0,none⟩)),(8,.slice na names.length nc),(94,.slice sa t.length sc),(95,.int .i64 (t.length:Int))]
     (fun i e h=>∃ R cv,kT 110 2 ua [] R cv ((uk names t).take i)/\h=⟨N,M5,[(b6,[.int .i64 0]),(b5,[cv]),(b4,[c0,c1,c2,c3,c4,c5,c6,c7,c8,c9,c10])],R⟩) 0 (by omega) (by simp only [aE,aG,go_sem,sevalprocAttr]) (by simp only [go_sem,sevalprocAttr]) ⟨[],_,cV,rfl⟩ ?_
    clear aG e
    rintro i e h hi aG ht ⟨R,cv,bj,rfl⟩
    simp only [aE] at aG
    obtain ⟨wa,wc,rfl⟩:=eI bj
    have hzi:((uk names t).take i).length=i:=by rw [List.length_take];omega
    by_cases aL:i<t.length
    ·obtain ⟨bn,on,cn,rfl,abY,W5⟩:=YW i names[i] (gq (by omega))
     unfold rj at W5;subst W5
     have z0:=xG (abY.ext wX)
     rw [Nat.mul_one] at z0
     obtain ⟨bt,ot,ct',rfl,WJ,Hs⟩:=hsg i t[i] (gq aL)
     unfold RI at Hs;subst Hs
     have z1:=xG WJ
     rw [Nat.mul_one] at z1
     have Aq:i<names.length:=by omega
     simp +contextual only [go_sem,aD,sevalprocAttr,qS,j4,aG,ht,aL,z1]
     refine ⟨nD _ rfl,eG ⟨T,M5,[(b5,[.slice wa ((uk names t).take i).length wc])],[]⟩ (eX [(b6,_)] bm.rfl' bR.2.1 ⟨⟨im.1.2,im.1.1⟩,trivial⟩) ?_⟩
     simp +contextual only [go_sem,sevalprocAttr,aG,z0,bR,Aq]
     intro b8 px eB
     refine ⟨eX [(b8,_),(b6,_)] bm.rfl' bR.2.1 ⟨⟨eB.2.1.2,eB.2.1.1⟩,⟨im.1.2,im.1.1⟩,trivial⟩,?_⟩
     refine cA (x:=(⟨names[i],t[i]⟩:Co)) Tryz.underlying52 Lm LK bj rfl (fun _ _=>fQ) (PA (c:=⟨names[i],t[i]⟩) rfl) px (by rw [hzi];omega) (by decide) ?_
     intro fv' R' bz
     obtain ⟨va,vc,YX⟩:=eI bz
     have gF:(uk names t).take (i+1)=(uk names t).take i++[⟨names[i],t[i]⟩]:=by
      rw [List.take_succ,Gh aL Dc];rfl
     rw [<- gF] at bz
     subst YX
     simp +contextual only [go_sem,sevalprocAttr,aG,ht,im,eB]
     refine ⟨eX [(b8,_),(b6,_)] bm.rfl' bR.2.1 ⟨⟨eB.2.1.2,eB.2.1.1⟩,⟨im.1.2,im.1.1⟩,trivial⟩,?_⟩
     refine aR (al (aB ⟨t.length - (i+1),by omega,rfl,i+1,by omega,rfl,?_,?_,R',_,bz,rfl⟩))
     ·simp only [aE,aG,go_sem,sevalprocAttr]
     ·simp only [go_sem,sevalprocAttr,aA i (by omega)]
    ·have:i=t.length:=by omega
     subst this
     simp +contextual only [go_sem,aD,sevalprocAttr,qS,j4,aG,ht,aL]
     refine ⟨nD _ rfl,aX ?_⟩
     simp +contextual only [go_sem,sevalprocAttr,GF,aG,bR,im]
     obtain ⟨_,_,_,_,_,_,_,_,_,_,_,hcx,hc⟩:=cO hp5
     cases hcx
     refine ⟨hc,fO.refl _,b4,b5,b6,_,rfl,rfl,?_⟩
     simp +contextual only [go_sem,sevalprocAttr,aG,bR,im]
     refine cz bj (by omega) (by decide) ⟨bR.1,bR.2.1,bR.2.2.1,trivial⟩ fun M6 eP bU cG=>ak hN ?_
     have hzt:(uk names t).take t.length=uk names t:=List.take_of_length_le (by omega)
     rw [hzt] at cG
     unfold mV
     rw [WQ]
     refine ⟨_,_,rfl,bA eP _ _ hp5,?_⟩
     rw [hzt];exact cG
variable {M:aS}
theorem ze {r q:List V}{rv qv:Value}{w:Int}(hr:RS M RV 3 r rv)(hq:RS M RV 3 q qv)(T:Tm):bV Tryz.prog 322 [.agg ⟨[rv,.int .i64 w]⟩,qv] T M [] [] (fun v _ _ _=>v=.int .i64 (bO r q)) aM:=by
 have h1:=(dA hr).1
 have h2:=(dA hq).1
 refine az ajC rfl rfl ?_
 intro bi _
 simp +contextual only [go_sem,sevalprocAttr]
 intro b1 T1 fx dh fT
 refine aP (tD hr hq _) ?_
 simp +contextual only [go_sem,sevalprocAttr]
 exact ak dh rfl
theorem I0 (w:Int)(T:Tm):bV Tryz.prog 280 [.int .i64 w] T M [] [] (fun v _ _ _=>v=.int .i64 (min (max w 0) 1)) aM:=by
 refine az adE rfl rfl ?_
 intro bi _
 simp +contextual only [go_sem,sevalprocAttr,Dd,Cy]
 exact ak aF.rfl' (by rw [Int.max_def,Int.min_def];(repeat' split)<;>simp_all<;>omega)
theorem MZ {xv zv:Value}{xs:List Ex}{z:List Z}(hx:RS M (ij M) 6 xs xv)(hz:RS M (RZ M) 2 z zv)(cB:∀ x∈xs,sK x)(U7:ZH 8 z)(hx8:xs.length<=8)(hz4:z.length<=400)(T:Tm):bV Tryz.prog 275 [xv,zv] T M [] [] (fun v M' _ _=>RS M' (RZ M') 2 (gM (jO xs z)) v) aM:=by
 obtain ⟨eZ,a,c,rfl,di,_,hg⟩:=ax (by decide) (fun _ _=>br) hz
 refine az ahL rfl rfl ?_
 intro bi _
 simp +contextual only [go_sem,aD,sevalprocAttr]
 refine aO z.length 10 [(0,xv),(8,.slice a z.length c),(9,.int .i64 (z.length:Int))] (fun i e h=>∃ N' M' R' fv,aF T N'/\bm M M'/\h=⟨N',M',[],R'⟩/\e 5=fv/\kT 38 2 (RZ M') [] R' fv (jO xs (z.take i))) 0 (by omega) (by simp only [aE,go_sem,sevalprocAttr]) (by simp only [go_sem,sevalprocAttr]) ⟨T,M,[],_,aF.rfl',bm.rfl',rfl,by simp only [go_sem,sevalprocAttr],cV⟩ ?_
 rintro i e h hi aG lm ⟨T1,M1,R1,fv,dh,aV,rfl,e11,bj⟩
 simp only [aE] at aG
 by_cases aL:i<z.length
 ·obtain ⟨b',o',cs',rfl,bQ,s,cG,rfl⟩:=hg i z[i] (gq aL)
  obtain ⟨y0,y1,_⟩:=bQ.ext aV
  obtain ⟨sa,sc,rfl⟩:=fR cG
  simp +contextual only [go_sem,aD,sevalprocAttr,aG,lm,aL,y0,y1]
  intro b13 T13 OM DH TK
  have hT:=dh.trans DH
  refine aX ?_
  simp +contextual only [go_sem,sevalprocAttr,aG,e11,aC OM]
  refine aI (Ba (LS aV hx) (qz aV cG) cB (U7 _ (gm aL)).2 _) ?_
  rintro v M2 bh aZ hv
  simp only [aJ] at aZ
  obtain ⟨va,vc,rfl⟩:=fR hv
  simp +contextual only [go_sem,sevalprocAttr]
  refine ⟨fu bh aZ,?_⟩
  intro b3 ii df
  refine ⟨dK bh aZ ⟨df,trivial⟩,?_⟩
  refine cA (Tryz.underlying33) je iY (x:=⟨dk xs z[i].row,z[i].w⟩) (ey (fJ bh) bj) ⟨_,hv,rfl⟩ (fun _ _=>br) (iw (z:=⟨dk xs z[i].row,z[i].w⟩) ⟨_,hv,rfl⟩) ii (by simp [jO];omega) (by decide) ?_
  intro fv' R' bz
  have dY:jO xs (z.take i)++[⟨dk xs z[i].row,z[i].w⟩]=jO xs (z.take (i+1)):=by
   unfold jO;rw [<- List.take_append_getElem aL,List.map_append];rfl
  rw [dY] at bz
  simp +contextual only [go_sem,sevalprocAttr,lm]
  refine ⟨dK bh aZ ⟨df,trivial⟩,aR (al (al (aB ⟨z.length - (i+1),by omega,rfl,i+1,by omega,rfl,?_,?_,T13,M2,R',fv',hT,aV.trans bh,rfl,?_,bz⟩)))⟩
  ·simp only [aE,aG,go_sem,sevalprocAttr]
  ·simp only [go_sem,sevalprocAttr,aA i (by omega)]
  ·simp only [go_sem,sevalprocAttr]
 ·have:i=z.length:=by omega
  subst this
  rw [List.take_length] at bj
  simp +contextual only [go_sem,aD,sevalprocAttr,aG,lm,aL,e11]
  have hml:(jO xs z).length<=400:=by simp [jO];omega
  refine mm af6.bd bj (by omega) (by decide) trivial fun M2 bh aZ cG=> ?_
  refine aI (Ek (aH bm.rfl' (fJ bh) cG) (by omega) (fun r hr=>by obtain ⟨r0,_,rfl⟩:=List.mem_map.1 hr;simp [dk];omega) _) ?_
  rintro v M3 bE _ hv
  obtain ⟨_,va,vc,rfl,_⟩:=ax (by decide) (fun _ _=>br) hv
  simp +contextual only [go_sem,sevalprocAttr]
  exact ak dh hv
structure OrdC {α:Type} (f:α ->α ->Int):Prop where
 neg:∀ x y,f x y<0 ↔ 0<f y x
 tr:∀ x y z,f x y<=0 ->f y z<=0 ->f x z<=0
section
variable {α β:Type} {f:α ->α ->Int}
theorem OrdC.sym (h:OrdC f){x y:α}:f x y=0 ↔ f y x=0:=by
 have:=h.neg x y;have:=h.neg y x;omega
theorem OrdC.lt_le (h:OrdC f){x y z:α}(h1:f x y<0)(h2:f y z<=0):f x z<0:=by
 have h3:=h.tr x y z (by omega) h2
 by_cases h4:f x z=0
 ·have:=h.tr y z x h2 (by have:=h.sym.1 h4;omega)
  have:=(h.neg x y).1 h1
  omega
 ·omega
theorem OrdC.le_lt (h:OrdC f){x y z:α}(h1:f x y<=0)(h2:f y z<0):f x z<0:=by
 have h3:=h.tr x y z h1 (by omega)
 by_cases h4:f x z=0
 ·have:=h.tr z x y (by have:=h.sym.1 h4;omega) h1
  have:=(h.neg y z).1 h2
  omega
 ·omega
theorem OrdC.self (h:OrdC f)(x:α):f x x=0:=by have:=h.neg x x;omega
theorem OrdC.ez (h:OrdC f){x y z:α}(h1:f x y=0)(h2:f y z=0):f x z=0:=by
 have:=h.tr x y z (by omega) (by omega)
 have:=h.tr z y x (by have:=h.sym.1 h2;omega) (by have:=h.sym.1 h1;omega)
 have:=h.neg x z
 omega
theorem OrdC.swo (h:OrdC f):Sort.SWO (fun x y=>decide (f x y<0)) where
 irrefl x:=by have:=h.self x;simp;omega
 trans x y z h1 h2:=by
  simp only [decide_eq_true_eq] at*
  exact h.lt_le h1 (by omega)
 ntrans x y z h1 h2:=by
  simp only [decide_eq_false_iff_not] at*
  have:=h.neg x y;have:=h.neg y z;have:=h.neg x z
  have:=h.tr z y x
  omega
theorem OrdC.comap (h:OrdC f)(g:β ->α):OrdC (fun x y=>f (g x) (g y)):=⟨fun _ _=>h.neg _ _,fun _ _ _=>h.tr _ _ _⟩
end
theorem Lc {p q p' q':Int}(h1:p<0 ↔ 0<p')(h2:p'<0 ↔ 0<p)(h3:q<0 ↔ 0<q'):kM p q<0 ↔ 0<kM p' q':=by
 unfold kM;split<;>split<;>omega
theorem RA {p q r p' q' r':Int}(h1:p<=0 ->q<=0 ->r<=0)(h2:p<0 ->q<=0 ->r<0)(h3:p<=0 ->q<0 ->r<0)(h4:p=0 ->q=0 ->r=0)(h5:p'<=0 ->q'<=0 ->r'<=0)
 (a:kM p p'<=0) (b:kM q q'<=0):kM r r'<=0:=by
 unfold kM at*
 split at a<;>split at b<;>split<;>first | omega | (have:=h4 (by omega) (by omega);omega)
theorem OrdC.lex {α:Type}{f g:α ->α ->Int}(h:OrdC f)(k:OrdC g):OrdC (fun x y=>kM (f x y) (g x y)) where
 neg x y:=Lc (h.neg x y) (h.neg y x) (k.neg x y)
 tr x y z:=RA (h.tr x y z) h.lt_le h.le_lt h.ez (k.tr x y z)
theorem Lv:OrdC fW where
 neg x y:=by unfold fW;split<;>split<;>(try split)<;>omega
 tr x y z:=by unfold fW;(repeat' split)<;>omega
theorem MS:OrdC kA where
 neg x:=by
  unfold kA
  induction x with
  | nil=>intro y;cases y<;>simp [Lib.compareBytes]
  | cons a x ih=>
   intro y
   cases y with
   | nil=>simp [Lib.compareBytes]
   | cons b y=>
    unfold Lib.compareBytes
    by_cases h1:a<b
    ·have h2:¬ b<a:=by rw [UInt8.lt_iff_toNat_lt] at*;omega
     simp [h1,h2]
    ·by_cases h2:b<a
     ·simp [h1,h2]
     ·simp only [h1,h2,if_false];exact ih y
 tr x:=by
  unfold kA
  induction x with
  | nil=>intro y z;cases y<;>cases z<;>simp [Lib.compareBytes]
  | cons a x ih=>
   intro y z
   cases y with
   | nil=>simp [Lib.compareBytes]
   | cons b y=>
    cases z with
    | nil=>simp [Lib.compareBytes]
    | cons c z=>
     have ih':=ih y z
     unfold Lib.compareBytes
     simp only [UInt8.lt_iff_toNat_lt] at*
     (repeat' split)<;>first | omega | (intro h1 h2;first | omega | exact ih' h1 h2)
theorem xS:OrdC pT:=(Lv.comap fun v=>(bJ v).k).lex ((Lv.comap fun v=>(bJ v).n).lex (MS.comap fun v=>(bJ v).t))
theorem ed:OrdC bO where
 neg x:=by
  induction x with
  | nil=>intro y;cases y<;>simp [bO]
  | cons a x ih=>
   intro y
   cases y with
   | nil=>simp [bO]
   | cons b y=>rw [bO,bO];exact Lc (xS.neg a b) (xS.neg b a) (ih y)
 tr x:=by
  induction x with
  | nil=>intro y z;cases y<;>cases z<;>simp [bO]
  | cons a x ih=>
   intro y z
   cases y with
   | nil=>simp [bO]
   | cons b y=>
    cases z with
    | nil=>simp [bO]
    | cons c z=>rw [bO,bO,bO];exact RA (xS.tr a b c) xS.lt_le xS.le_lt xS.ez (ih y z)
theorem C6:∀ {s t:Bs},kA s t=0 ->s=t
 | [],[],_=>rfl
 | [],_::_,h=>by simp [kA,Lib.compareBytes] at h
 | _::_,[],h=>by simp [kA,Lib.compareBytes] at h
 | a::s,b::t,h=>by
  unfold kA Lib.compareBytes at h
  split at h
  ·omega
  split at h
  ·omega
  ·rename_i h1 h2
   rw [UInt8.lt_iff_toNat_lt] at h1 h2
   rw [C6 (s:=s) (t:=t) h,UInt8.toNat_inj.1 (show a.toNat=b.toNat by omega)]
theorem Qi {a b:Int}(h:kM a b=0):a=0/\b=0:=by unfold kM at h;split at h<;>omega
theorem X4 {a b:V}(h:pT a b=0):bJ a=bJ b:=by
 obtain ⟨h1,h⟩:=Qi h
 obtain ⟨h2,h3⟩:=Qi h
 have e1:(bJ a).k=(bJ b).k:=by unfold fW at h1;(repeat' split at h1)<;>omega
 have e2:(bJ a).n=(bJ b).n:=by unfold fW at h2;(repeat' split at h2)<;>omega
 have e3:=C6 h3
 cases ha:bJ a;cases hb:bJ b
 rw [ha,hb] at e1 e2 e3
 simp only at e1 e2 e3
 rw [e1,e2,e3]
theorem pQ:∀ {a b:List V},bO a b=0 ->a.map bJ=b.map bJ
 | [],[],_=>rfl
 | [],_::_,h=>by simp [bO] at h
 | _::_,[],h=>by simp [bO] at h
 | x::a,y::b,h=>by
  rw [bO] at h
  obtain ⟨h1,h2⟩:=Qi h
  rw [List.map_cons,List.map_cons,X4 h1,pQ h2]
section
variable {α:Type} [Inhabited α] {cf:α ->α ->Int}
theorem AT (a:Nat):∀ (j:Nat) (l:List α),Sort.insInner (fun x y=>decide (cf x y<0)) a j l.toArray=(lw cf a j l).toArray
 | 0,l=>rfl
 | j+1,l=>by
  have hl:∀ i,l.toArray[i]! =l.getD i default:=fun i=>by simp [List.getD_eq_getElem?_getD]
  rw [Sort.insInner,lw]
  by_cases h:a<j+1/\pr cf l (j+1) j=true
  ·have h':(decide (j+1>a) && decide (cf l.toArray[j+1]! l.toArray[j]!<0))=true:=by
    simp only [Bool.and_eq_true,decide_eq_true_eq]
    refine ⟨h.1,?_⟩
    rw [hl,hl];simpa [pr] using h.2
   have hs:Sort.swp l.toArray (j+1) j=(sw l (j+1) j).toArray:=by
    unfold Sort.swp sw
    rw [hl,hl,List.setIfInBounds_toArray,List.setIfInBounds_toArray]
   rw [if_pos h',if_pos h,hs]
   exact AT a j _
  ·have h':¬ (decide (j+1>a) && decide (cf l.toArray[j+1]! l.toArray[j]!<0))=true:=by
    simp only [Bool.and_eq_true,decide_eq_true_eq]
    rintro ⟨h1,h2⟩
    refine h ⟨h1,?_⟩
    rw [hl,hl] at h2
    simpa [pr] using h2
   rw [if_neg h',if_neg h]
theorem Gz (a b:Nat):∀ (f i:Nat) (l:List α),i+f=b ->Sort.insOuter (fun x y=>decide (cf x y<0)) a b i l.toArray=(wS cf a f i l).toArray
 | 0,i,l,h=>by rw [Sort.insOuter,if_neg (by omega)];rfl
 | f+1,i,l,h=>by
  rw [Sort.insOuter,if_pos (by omega),AT]
  exact Gz a b f (i+1) _ (by omega)
theorem HY (h:OrdC cf)(l:List α):(py cf l 0 l.length).Perm l/\(py cf l 0 l.length).Pairwise fun x y=>cf x y<=0:=by
 have e:Sort.insertionSort (fun x y=>decide (cf x y<0)) l.toArray 0 l.length=(py cf l 0 l.length).toArray:=by
  cases l with
  | nil=>simp [Sort.insertionSort,Sort.insOuter,py,wS]
  | cons x l=>exact Gz 0 _ _ _ _ (by simp only [List.length_cons];omega)
 obtain ⟨⟨h1,_,h2⟩,h3⟩:=Sort.insertionSort_holds (lt:=fun x y=>decide (cf x y<0)) h.swo l.toArray 0 l.length (Nat.zero_le _) (by simp)
 rw [e] at h1 h2 h3
 simp only [List.size_toArray] at h1
 refine ⟨?_,?_⟩
 ·have ex:∀ (L:List α) n,n=L.length ->(L.toArray.extract 0 n).toList=L:=by rintro L _ rfl;simp
  rw [ex _ _ h1.symm,ex _ _ rfl] at h2
  exact h2
 ·refine List.pairwise_iff_getElem.2 fun i j hi hj wO=> ?_
  have:=h3 i j (Nat.zero_le _) wO (by omega)
  simp only [decide_eq_false_iff_not] at this
  have hg:∀ (L:List α) k (hk:k<L.length),L.toArray[k]! =L[k]:=fun L k hk=>by simp [hk]
  rw [hg _ i hi,hg _ j hj] at this
  have:=h.neg (py cf l 0 l.length)[j] (py cf l 0 l.length)[i]
  have:=h.neg (py cf l 0 l.length)[i] (py cf l 0 l.length)[j]
  omega
theorem GO {l:List α}(hl:l.length<20):jf cf l=py cf l 0 l.length:=by
 unfold jf
 rw [OR,if_neg (by omega),Pd,if_neg (by omega)]
theorem vJ (h:OrdC cf){l:List α}(hl:l.length<20):(jf cf l).Perm l/\(jf cf l).Pairwise fun x y=>cf x y<=0:=by
 rw [GO hl];exact HY h l
end
instance:DecidableEq V:=fun a b=>if h:a.k=b.k/\a.n=b.n/\a.t=b.t then .isTrue (by cases a;cases b;simp_all) else .isFalse (by rintro rfl;exact h ⟨rfl,rfl,rfl⟩)
def wt (r:List V):List Z ->Int
 | []=>0
 | z::l=>(if z.row=r then z.w else 0)+wt r l
theorem lP (r:List V):∀ (a b:List Z),wt r (a++b)=wt r a+wt r b
 | [],b=>by simp [wt]
 | z::a,b=>by rw [List.cons_append,wt,wt,lP r a b];omega
theorem VT (r:List V){a b:List Z}(h:a.Perm b):wt r a=wt r b:=by
 induction h with
 | nil=>rfl
 | cons x _ ih=>rw [wt,wt,ih]
 | swap x y l=>simp only [wt];omega
 | trans _ _ h1 h2=>rw [h1,h2]
theorem tu {r:List V}:∀ {l:List Z},(∀ z∈l,z.row≠r) ->wt r l=0
 | [],_=>rfl
 | z::l,h=>by
  rw [wt,if_neg (h z (by simp)),tu fun z hz=>h z (wU hz)];rfl
def iu (l:List Z):Prop:=l.Pairwise (fun x y=>bO x.row y.row<0)/\∀ z∈l,z.w≠0/\z.row.map bJ=z.row
theorem jB {x:Z}{l:List Z}(h:iu (x::l)):iu l:=⟨(List.pairwise_cons.1 h.1).2,fun z hz=>h.2 z (wU hz)⟩
theorem jC {x:Z}{l:List Z}(h:iu (x::l)):wt x.row l=0:=tu fun z hz he=>by
 have h1:=(List.pairwise_cons.1 h.1).1 z hz
 rw [he,ed.self] at h1
 omega
theorem lN:∀ {a b:List Z},iu a ->iu b ->(∀ r,wt r a=wt r b) ->a=b
 | [],[],_,_,_=>rfl
 | [],y::b,_,hb,h=>absurd (by simpa [wt,jC hb] using (h y.row).symm) (hb.2 y (by simp)).1
 | x::a,[],ha,_,h=>absurd (by simpa [wt,jC ha] using h x.row) (ha.2 x (by simp)).1
 | x::a,y::b,ha,hb,h=>by
  have hxw:=(ha.2 x (by simp)).1
  have hyw:=(hb.2 y (by simp)).1
  have less:∀ {x:Z} {a:List Z} {y:Z} {b:List Z},iu (x::a) ->iu (y::b) ->x.w≠0 ->(∀ r,wt r (x::a)=wt r (y::b)) ->¬ bO x.row y.row<0:=by
   intro x a y b ha hb hw h aL
   have h1:=h x.row
   rw [wt,if_pos rfl,jC ha,tu (l:=y::b)] at h1
   ·omega
   ·intro z hz he
    rcases mY hz with rfl | hz
    ·rw [he,ed.self] at aL;omega
    ·have h2:=(List.pairwise_cons.1 hb.1).1 z hz
     have:=ed.lt_le aL (Int.le_of_lt h2)
     rw [he,ed.self] at this;omega
  have n1:=less ha hb hxw h
  have n2:=less hb ha hyw fun r=>(h r).symm
  have hz:bO x.row y.row=0:=by have:=ed.neg y.row x.row;omega
  have hr:x.row=y.row:=by rw [<- (ha.2 x (by simp)).2,<- (hb.2 y (by simp)).2];exact pQ hz
  have hw:x.w=y.w:=by
   have h1:=h x.row
   rw [wt,wt,if_pos rfl,if_pos hr.symm,jC ha,hr,jC hb] at h1
   omega
  have Kb:x=y:=by cases x;cases y;simp only at hr hw;rw [hr,hw]
  subst Kb
  rw [lN (jB ha) (jB hb) fun r=>by have:=h r;simp only [wt] at this;omega]
def cX:List Z ->Nat
 | []=>0
 | z::l=>z.w.natAbs+cX l
theorem A5 {a b:List Z}(h:a.Perm b):cX a=cX b:=by
 induction h with
 | nil=>rfl
 | cons x _ ih=>rw [cX,cX,ih]
 | swap x y l=>simp only [cX];omega
 | trans _ _ h1 h2=>rw [h1,h2]
theorem pD:∀ (l:List Z) (x:Z),(x::l).Pairwise (fun x y=>bO x.row y.row<=0) ->(∀ z∈x::l,z.row.map bJ=z.row) ->cX (x::l)<4611686018427387904 ->
 iu (fL x l)/\(∀ z∈fL x l,∃ y∈x::l,z.row=y.row)/\∀ r,wt r (fL x l)=wt r (x::l)
 | [],x,_,hb,_=>by
  rw [fL]
  unfold oZ
  split
  ·rename_i h0
   exact ⟨⟨List.Pairwise.nil,fun z hz=>by cases hz⟩,fun z hz=>(by cases hz),fun r=>by simp [wt,h0]⟩
  ·rename_i h0
   exact ⟨⟨List.pairwise_singleton ..,fun z hz=>by simp only [mn] at hz;subst hz;exact ⟨h0,hb _ (by simp)⟩⟩,fun z hz=>⟨z,by simpa using hz,rfl⟩,fun r=>rfl⟩
 | y::l,x,hp,hb,ha=>by
  obtain ⟨p1,p2⟩:=List.pairwise_cons.1 hp
  rw [fL]
  simp only [cX] at ha
  by_cases h0:bO y.row x.row=0
  ·rw [if_pos h0]
   have hw:IntKind.i64.wrap (x.w+y.w)=x.w+y.w:=bH (by omega) (by omega)
   rw [hw]
   have hyx:y.row=x.row:=by rw [<- hb y (by simp),<- hb x (by simp)];exact pQ h0
   obtain ⟨i1,i2,i3⟩:=pD l ⟨x.row,x.w+y.w⟩ (List.pairwise_cons.2 ⟨fun z hz=>p1 z (wU hz),(List.pairwise_cons.1 p2).2⟩)
    (fun z hz=>by
     rcases mY hz with rfl | hz
     ·exact hb x (by simp)
     ·exact hb z (by simp [hz])) (by simp only [cX];omega)
   refine ⟨i1,fun z hz=> ?_,fun r=> ?_⟩
   ·obtain ⟨u,hu,he⟩:=i2 z hz
    rcases mY hu with rfl | hu
    ·exact ⟨x,by simp,he⟩
    ·exact ⟨u,by simp [hu],he⟩
   ·rw [i3]
    simp only [wt,hyx]
    split<;>omega
  ·rw [if_neg h0]
   obtain ⟨i1,i2,i3⟩:=pD l y p2 (fun z hz=>hb z (wU hz)) (by simp only [cX];omega)
   have Kb:∀ z∈fL y l,bO x.row z.row<0:=by
    intro z hz
    obtain ⟨u,hu,he⟩:=i2 z hz
    have h1:bO x.row y.row<0:=by have:=p1 y (by simp);have:=ed.sym (x:=x.row) (y:=y.row);omega
    rw [he]
    rcases mY hu with rfl | hu
    ·exact h1
    ·exact ed.lt_le h1 ((List.pairwise_cons.1 p2).1 u hu)
   unfold oZ
   split
   ·rename_i hx0
    refine ⟨by simpa using i1,fun z hz=> ?_,fun r=> ?_⟩
    ·obtain ⟨u,hu,he⟩:=i2 z (by simpa using hz)
     exact ⟨u,wU hu,he⟩
    ·rw [List.nil_append,i3];simp [wt,hx0]
   ·rename_i hx0
    refine ⟨⟨?_,?_⟩,fun z hz=> ?_,fun r=> ?_⟩
    ·exact List.pairwise_cons.2 ⟨Kb,i1.1⟩
    ·intro z hz
     rcases mY hz with rfl | hz
     ·exact ⟨hx0,hb _ (by simp)⟩
     ·exact i1.2 z hz
    ·rcases mY hz with rfl | hz
     ·exact ⟨z,by simp,rfl⟩
     ·obtain ⟨u,hu,he⟩:=i2 z hz
      exact ⟨u,wU hu,he⟩
    ·show wt r (x::fL y l)=_
     rw [wt,i3];rfl
theorem nH (v:V):bJ (bJ v)=bJ v:=by unfold bJ;by_cases h1:v.k=1<;>by_cases h4:v.k=4<;>simp [h1,h4]
theorem Oc (z:Z):(eH z).row.map bJ=(eH z).row:=by
 unfold eH
 rw [List.map_map]
 exact List.map_congr_left fun v _=>nH v
theorem G4 {l:List Z}(hl:l.length<20)(ha:cX l<4611686018427387904):iu (gM l)/\∀ r,wt r (gM l)=wt r (l.map eH):=by
 have W7:cX (l.map eH)=cX l:=by
  clear ha hl
  induction l with
  | nil=>rfl
  | cons z l ih=>rw [List.map_cons,cX,cX,ih];rfl
 obtain ⟨h1,h2⟩:=vJ (cf:=Pp) (ed.comap Z.row) (l:=l.map eH) (by rw [List.length_map];exact hl)
 unfold gM
 have h3:∀ r,wt r (jf Pp (l.map eH))=wt r (l.map eH):=fun r=>VT r h1
 have h4:=A5 h1
 have h5:∀ z∈jf Pp (l.map eH),z.row.map bJ=z.row:=fun z hz=>by
  obtain ⟨u,_,rfl⟩:=List.mem_map.1 (h1.mem_iff.1 hz)
  exact Oc u
 cases hs:jf Pp (l.map eH) with
 | nil=>
  rw [hs] at h3
  exact ⟨⟨List.Pairwise.nil,fun z hz=>by cases hz⟩,fun r=>h3 r⟩
 | cons x s=>
  rw [hs] at h2 h3 h4 h5
  obtain ⟨i1,_,i3⟩:=pD s x h2 h5 (by omega)
  exact ⟨i1,fun r=>by rw [oG,i3,h3]⟩
variable {M:aS}
theorem Yo {z:List Z}{q:List V}{zv qv:Value}(hz:RS M (RZ M) 2 z zv)(hq:RS M RV 3 q qv)(bq:z.length<=1000000)(hm:∀ (i j:Nat) (hi:i<z.length) (hj:j<z.length),i<=j ->bO z[j].row q<0 ->bO z[i].row q<0)(T:Tm):
 bV Tryz.prog 321 [zv,qv,.func (.func 322) #[] #[]] T M [] [] (fun v _ _ _=>∃ (i:Nat) (ok:Bool),v=.tuple ⟨[.int .i64 (i:Int),.bool ok]⟩/\(∀ (k:Nat) (hk:k<z.length),k<i ->bO z[k].row q<0)/\(∀ (k:Nat) (hk:k<z.length),i<=k ->0<=bO z[k].row q)/\(ok=true ↔ ∃ h:i<z.length,bO z[i].row q=0)) aM:=by
 obtain ⟨eZ,a,c,rfl,di,_,hg⟩:=ax (by decide) (fun _ _=>br) hz
 obtain ⟨qa,qc,rfl⟩:=fR hq
 refine az akE rfl rfl ?_
 intro bi _
 simp +contextual only [go_sem,aD,sevalprocAttr]
 refine jD [(0,.slice a z.length c),(1,.slice qa q.length qc),(2,.func (.func 322) #[] #[]),(8,.int .i64 (z.length:Int))] (fun m e h=>∃ i j:Nat,m=j - i/\i<=j/\j<=z.length/\e 9=.int .i64 (i:Int)/\e 10=.int .i64 (j:Int)/\h=⟨T,M,[],[]⟩/\(∀ (k:Nat) (hk:k<z.length),k<i ->bO z[k].row q<0)/\(∀ (k:Nat) (hk:k<z.length),j<=k ->0<=bO z[k].row q)) z.length (by simp only [aE,go_sem,sevalprocAttr]) ⟨0,z.length,by omega,by omega,by omega,by simp only [go_sem,sevalprocAttr],by simp only [go_sem,sevalprocAttr],rfl,fun k hk h=>by omega,fun k hk h=>by omega⟩ ?_
 rintro m e h aG ⟨i,j,rfl,wO,hjn,e9,e10,rfl,Al,Pw⟩
 simp only [aE] at aG
 by_cases aL:i<j
 ·have h1:IntKind.i64.wrap ((i:Int)+j)=(i:Int)+j:=bH (by omega) (by omega)
  have h2:IntKind.u64.wrap ((i:Int)+j)=(i:Int)+j:=by
   show ((i:Int)+j) % 18446744073709551616=_
   omega
  obtain ⟨k,hk⟩:∃ k:Nat,k=(i+j) / 2:=⟨_,rfl⟩
  have h3:((i:Int)+j).fdiv (2 ^ min 1 64)=(k:Int):=by rw [show (2:Int) ^ min 1 64=2 from rfl,Int.fdiv_eq_ediv_of_nonneg _ (by omega)];omega
  have h4:IntKind.i64.wrap (k:Int)=k:=bH (by omega) (by omega)
  have hkz:k<z.length:=by omega
  obtain ⟨b',o',cs',rfl,bQ,s,cG,rfl⟩:=hg k z[k] (gq hkz)
  obtain ⟨y0,y1,_⟩:=bQ
  simp +contextual only [go_sem,aD,sevalprocAttr,aG,e9,e10,aL,h1,h2,h3,h4,hkz,y0,y1]
  refine aP (ze cG hq _) ?_
  by_cases hc:bO z[k].row q<0
  ·have h5:IntKind.i64.wrap ((k:Int)+1)=((k+1:Nat):Int):=by rw [bH (by omega) (by omega)];rfl
   simp +contextual only [go_sem,aD,sevalprocAttr,hc,h5]
   refine mZ (m':=j - (k+1)) (by omega) ?_ ⟨k+1,j,rfl,by omega,hjn,by simp only [go_sem,sevalprocAttr],by simp only [go_sem,sevalprocAttr,e10],rfl,fun x hx hlx=>hm x k hx hkz (by omega) hc,Pw⟩
   simp only [aE,aG,go_sem,sevalprocAttr]
  ·simp +contextual only [go_sem,aD,sevalprocAttr,hc]
   refine mZ (m':=k - i) (by omega) ?_ ⟨i,k,rfl,by omega,by omega,by simp only [go_sem,sevalprocAttr,e9],by simp only [go_sem,sevalprocAttr],rfl,Al,fun x hx hkx=> ?_⟩
   ·simp only [aE,aG,go_sem,sevalprocAttr]
   ·rcases Int.lt_or_le (bO z[x].row q) 0 with h | h
    ·exact absurd (hm k x hkz hx hkx h) hc
    ·exact h
 ·obtain rfl:i=j:=by omega
  by_cases Aq:i<z.length
  ·obtain ⟨b',o',cs',rfl,bQ,s,cG,rfl⟩:=hg i z[i] (gq Aq)
   obtain ⟨y0,y1,_⟩:=bQ
   simp +contextual only [go_sem,aD,sevalprocAttr,aG,e9,e10,Aq,y0,y1,Nat.lt_irrefl]
   refine aP (ze cG hq _) ?_
   simp +contextual only [go_sem,sevalprocAttr]
   refine ak aF.rfl' ⟨i,decide (bO z[i].row q=0),rfl,Al,Pw,?_⟩
   rw [decide_eq_true_eq]
   exact ⟨fun h=>⟨Aq,h⟩,fun ⟨_,h⟩=>h⟩
  ·simp +contextual only [go_sem,aD,sevalprocAttr,aG,e9,e10,Aq,Nat.lt_irrefl]
   exact ak aF.rfl' ⟨i,false,rfl,Al,Pw,by simp [Aq]⟩
theorem Y9:∀ {z:List Z} {i:Nat} (hi:i<z.length),iu z ->wt z[i].row z=z[i].w
 | x::l,0,_,hc=>by simp only [List.getElem_cons_zero,wt,if_true,jC hc];omega
 | x::l,i+1,hi,hc=>by
  have DC:i<l.length:=by simpa using hi
  simp only [List.getElem_cons_succ]
  have aL:=(List.pairwise_cons.1 hc.1).1 l[i] (gm DC)
  rw [wt,if_neg (by intro h;rw [h,ed.self] at aL;omega),Y9 DC (jB hc)]
  omega
theorem E3 {z:List Z}(hc:iu z){i j:Nat}(hi:i<z.length)(hj:j<z.length)(h:i<j):bO z[i].row z[j].row<0:=List.pairwise_iff_getElem.1 hc.1 i j hi hj h
theorem Mn {z:List Z}{q:List V}{zv qv:Value}(hz:RS M (RZ M) 2 z zv)(hq:RS M RV 3 q qv)(bq:z.length<=1000000)(hc:iu z)(RG:q.map bJ=q)(T:Tm):
 bV Tryz.prog 302 [zv,qv] T M [] [] (fun v _ _ _=>v=.int .i64 (wt q z)) aM:=by
 have xx:=hz
 obtain ⟨eZ,a,c,rfl,di,_,hg⟩:=ax (by decide) (fun _ _=>br) hz
 obtain ⟨qa,qc,rfl⟩:=fR hq
 have hm:∀ (i j:Nat) (hi:i<z.length) (hj:j<z.length),i<=j ->bO z[j].row q<0 ->bO z[i].row q<0:=by
  intro i j hi hj wO h
  rcases Nat.lt_or_ge i j with h1 | h1
  ·exact ed.lt_le (E3 hc hi hj h1) (Int.le_of_lt h)
  ·obtain rfl:i=j:=by omega
   exact h
 have hb:∀ (i:Nat) (hi:i<z.length),bO z[i].row q=0 ->z[i].row=q:=fun i hi h=>by
  have:=pQ h
  rwa [(hc.2 _ (gm hi)).2,RG] at this
 refine az ai8 rfl rfl ?_
 intro bi _
 simp +contextual only [go_sem,sevalprocAttr]
 refine aI (Yo xx hq bq hm _) ?_
 rintro v M1 aV bG ⟨i,ok,rfl,Al,Pw,cB⟩
 cases ok with
 | true=>
  obtain ⟨hi,h0⟩:=cB.1 rfl
  obtain ⟨b',o',cs',rfl,bQ,s,cG,rfl⟩:=hg i z[i] (gq hi)
  obtain ⟨y0,y1,_⟩:=bQ.ext aV
  simp +contextual only [go_sem,aD,sevalprocAttr,hi,y1]
  refine ak aF.rfl' ?_
  rw [<- hb i hi h0,Y9 hi hc]
 | false=>
  simp +contextual only [go_sem,aD,sevalprocAttr]
  refine ak aF.rfl' ?_
  rw [tu]
  intro x hx he
  obtain ⟨k,hk,rfl⟩:=List.getElem_of_mem hx
  have hs:bO z[k].row q=0:=by rw [he];exact ed.self q
  rcases Nat.lt_trichotomy k i with h | h | h
  ·have:=Al k hk h;omega
  ·subst h;exact absurd (cB.2 ⟨hk,hs⟩) (by simp)
  ·have h1:=E3 hc (by omega) hk h
   have h2:=Pw i (by omega) (Nat.le_refl _)
   have:=ed.lt_le h1 (Int.le_of_eq hs)
   omega
def kU (g:List V ->Int):List Z ->Int
 | []=>0
 | z::l=>g z.row*z.w+kU g l
theorem pJ (g:List V ->Int):∀ (a b:List Z),kU g (a++b)=kU g a+kU g b
 | [],b=>by simp [kU]
 | z::a,b=>by rw [List.cons_append,kU,kU,pJ g a b];omega
theorem zk (g:List V ->Int)(r:List V):∀ (l:List Z),kU g l=g r*wt r l+kU g (l.filter fun z=>decide (z.row≠r))
 | []=>by simp [kU,wt]
 | z::l=>by
  rw [kU,wt,zk g r l,List.filter_cons]
  by_cases h:z.row=r
  ·simp only [h,ne_eq,not_true_eq_false,decide_false,if_true,Bool.false_eq_true,if_false]
   rw [Int.mul_add];omega
  ·simp only [h,ne_eq,not_false_eq_true,decide_true,if_true,if_false,kU]
   rw [Int.zero_add];omega
theorem oP (r q:List V)(h:q≠r):∀ (l:List Z),wt q (l.filter fun z=>decide (z.row≠r))=wt q l
 | []=>rfl
 | z::l=>by
  rw [List.filter_cons]
  by_cases hz:z.row=r
  ·have hq:¬ z.row=q:=fun he=>h (he.symm.trans hz)
   simp only [hz,ne_eq,not_true_eq_false,decide_false,Bool.false_eq_true,if_false,wt]
   rw [if_neg (fun he=>h he.symm),oP r q h l];omega
  ·simp only [hz,ne_eq,not_false_eq_true,decide_true,if_true,wt]
   rw [oP r q h l]
theorem yC (r:List V)(l:List Z):wt r (l.filter fun z=>decide (z.row≠r))=0:=tu fun z hz=>by
 simpa using (List.mem_filter.1 hz).2
theorem B4 (g:List V ->Int):∀ (n:Nat) (l:List Z),l.length<=n ->(∀ r,wt r l=0) ->kU g l=0
 | _,[],_,_=>rfl
 | n+1,z::l,hn,h=>by
  rw [zk g z.row,h z.row,Int.mul_zero,Int.zero_add]
  refine B4 g n _ ?_ fun q=> ?_
  ·rw [List.filter_cons]
   simp only [ne_eq,not_true_eq_false,decide_false,Bool.false_eq_true,if_false]
   exact Nat.le_trans (List.length_filter_le _ _) (by simpa using hn)
  ·by_cases hq:q=z.row
   ·subst hq;exact yC _ _
   ·rw [oP _ _ hq];exact h q
def Ua (l:List Z):List Z:=l.map fun z=>⟨z.row, -z.w⟩
theorem KC (r:List V):∀ (l:List Z),wt r (Ua l)= - wt r l
 | []=>rfl
 | z::l=>by
  show (if z.row=r then -z.w else 0)+wt r (Ua l)=_
  rw [wt,KC r l];split<;>omega
theorem BV (g:List V ->Int):∀ (l:List Z),kU g (Ua l)= - kU g l
 | []=>rfl
 | z::l=>by
  show g z.row*(-z.w)+kU g (Ua l)=_
  rw [kU,BV g l,Int.mul_neg];omega
theorem UY {g:List V ->Int}{a b c:List Z}(h:∀ r,wt r a=wt r b+wt r c):kU g a=kU g b+kU g c:=by
 have:=B4 g _ (a++Ua (b++c)) (Nat.le_refl _) fun r=>by rw [lP,KC,lP,h r];omega
 rw [pJ,BV,pJ] at this
 omega
theorem Sq {g:List V ->Int}{a b:List Z}(h:∀ r,wt r a=wt r b):kU g a=kU g b:=by
 have:=UY (g:=g) (a:=a) (b:=b) (c:=[]) fun r=>by rw [h r];simp [wt]
 rw [this];simp [kU]
theorem SO (f:List V ->List V)(r:List V):∀ (l:List Z),wt r (l.map fun z=>⟨f z.row,z.w⟩)=kU (fun q=>if f q=r then 1 else 0) l
 | []=>rfl
 | z::l=>by
  rw [List.map_cons,wt,kU,SO f r l]
  dsimp only
  split<;>omega
theorem xn:∀ {l:List Z},(∀ z∈l,z.row.map bJ=z.row) ->l.map eH=l
 | [],_=>rfl
 | z::l,h=>by
  rw [List.map_cons,xn fun y hy=>h y (wU hy)]
  unfold eH
  rw [h z (by simp)]
theorem P2 (r:List V):∀ (l:List Z),(wt r l).natAbs<=cX l
 | []=>Nat.le_refl _
 | z::l=>by
  have:=P2 r l
  rw [wt,cX];split<;>omega
theorem mK:∀ (a b:List Z),cX (a++b)=cX a+cX b
 | [],b=>by simp [cX]
 | z::a,b=>by rw [List.cons_append,cX,cX,mK a b];omega
theorem pI:∀ {l:List Z} {z:Z},z∈l ->z.w.natAbs<=cX l
 | y::l,z,h=>by
  rw [cX]
  rcases mY h with rfl | h
  ·omega
  ·have:=pI h;omega
theorem KU:∀ {l:List Z},(∀ z∈l,z.w≠0) ->l.length<=cX l
 | [],_=>Nat.le_refl _
 | z::l,h=>by
  have:=KU (l:=l) fun y hy=>h y (wU hy)
  have:=h z (by simp)
  rw [cX,List.length_cons];omega
theorem sf:∀ (l:List Z) (x:Z),cX (x::l)<4611686018427387904 ->cX (fL x l)<=cX (x::l)
 | [],x,_=>by
  rw [fL];unfold oZ;split<;>simp [cX]
 | y::l,x,h=>by
  rw [fL]
  simp only [cX] at h ⊢
  split
  ·have hw:IntKind.i64.wrap (x.w+y.w)=x.w+y.w:=bH (by omega) (by omega)
   rw [hw]
   have:=sf l ⟨x.row,x.w+y.w⟩ (by simp only [cX];omega)
   simp only [cX] at this;omega
  ·have:=sf l y (by simp only [cX];omega)
   rw [mK]
   simp only [cX] at this
   unfold oZ;split<;>simp only [cX]<;>omega
theorem pO:∀ (l:List Z) (x:Z),∀ z∈fL x l,∃ y∈x::l,z.row=y.row
 | [],x,z,hz=>by
  rw [fL] at hz
  unfold oZ at hz
  split at hz
  ·cases hz
  ·exact ⟨z,by simpa using hz,rfl⟩
 | y::l,x,z,hz=>by
  rw [fL] at hz
  split at hz
  ·obtain ⟨u,hu,he⟩:=pO l _ z hz
   rcases mY hu with rfl | hu
   ·exact ⟨x,by simp,he⟩
   ·exact ⟨u,by simp [hu],he⟩
  ·rcases wZ hz with hz | hz
   ·unfold oZ at hz
    split at hz
    ·cases hz
    ·exact ⟨x,by simp,by rw [List.mem_singleton.1 hz]⟩
   ·obtain ⟨u,hu,he⟩:=pO l _ z hz
    exact ⟨u,wU hu,he⟩
theorem Cb:∀ (l:List Z),cX (l.map eH)=cX l
 | []=>rfl
 | z::l=>by rw [List.map_cons,cX,cX,Cb l];rfl
structure Fine (P:List V ->Prop) (N:Nat) (z:List Z):Prop where
 can:iu z
 abs:cX z<=N
 row:∀ x∈z,P x.row
theorem Fine.len {P N z}(h:Fine P N z):z.length<=N:=Nat.le_trans (KU fun y hy=>(h.can.2 y hy).1) h.abs
theorem Fine.bare {P N z}(h:Fine P N z):∀ y∈z,y.row.map bJ=y.row:=fun y hy=>(h.can.2 y hy).2
theorem Fine.mono {P P':List V ->Prop}{N N' z}(h:Fine P N z)(hP:∀ r,P r ->P' r)(hN:N<=N'):Fine P' N' z:=⟨h.can,Nat.le_trans h.abs hN,fun x hx=>hP _ (h.row x hx)⟩
theorem Fine.nil {P N}:Fine P N []:=⟨⟨List.Pairwise.nil,fun z hz=>by cases hz⟩,Nat.zero_le _,fun z hz=>by cases hz⟩
theorem sL {P:List V ->Prop}{N:Nat}{l:List Z}(hl:l.length<20)(ha:cX l<=N)(hN:N<=1000000)(hr:∀ x∈l,P (x.row.map bJ)):Fine P N (gM l)/\∀ r,wt r (gM l)=wt r (l.map eH):=by
 obtain ⟨h1,h2⟩:=G4 hl (by omega)
 have hp:=(vJ (cf:=Pp) (ed.comap Z.row) (l:=l.map eH) (by rw [List.length_map];exact hl)).1
 have ha2:=A5 hp
 rw [Cb] at ha2
 refine ⟨⟨h1,?_,?_⟩,h2⟩
 ·unfold gM
  cases hs:jf Pp (l.map eH) with
  | nil=>exact Nat.zero_le _
  | cons x s=>
   rw [hs] at ha2
   exact Nat.le_trans (sf s x (by omega)) (by omega)
 ·unfold gM
  cases hs:jf Pp (l.map eH) with
  | nil=>intro x hx;cases hx
  | cons x s=>
   intro z hz
   obtain ⟨y,hy,he⟩:=pO s x z hz
   rw [<- hs] at hy
   obtain ⟨u,hu,rfl⟩:=List.mem_map.1 (hp.mem_iff.1 hy)
   rw [he];exact hr u hu
theorem Qb {P:List V ->Prop}{N:Nat}{z:List Z}(h:Fine P N z)(hN:N<=400):Wc z=.ok z:=by
 have:CG z=0:=by
  unfold CG
  have hl:=h.len
  rw [if_neg,if_neg (by omega)]
  simp only [List.any_eq_true,Bool.not_eq_true',not_exists,not_and,Bool.not_eq_false]
  intro x hx
  have:=pI hx
  have:=h.abs
  unfold fZ
  simp only [Bool.and_eq_true,decide_eq_true_eq]
  omega
 unfold Wc
 rw [if_pos this]
theorem yo {P:List V ->Prop}{N:Nat}{l:List Z}(hl:l.length<20)(ha:cX l<=N)(hN:N<=400)(hr:∀ x∈l,P (x.row.map bJ)):∃ z,ou l=.ok z/\Fine P N z/\∀ r,wt r z=wt r (l.map eH):=by
 obtain ⟨h1,h2⟩:=sL hl ha (by omega) hr
 exact ⟨_,by unfold ou;exact Qb h1 hN,h1,h2⟩
theorem Qe:∀ (l:List Z) (p:Option (List V)),l.Pairwise (fun x y=>bO x.row y.row<0) ->(∀ r,p=some r ->∀ z∈l,bO r z.row<0) ->(∀ z∈l,ji z.row=0/\z.w≠0/\fZ z.w=true) ->XF p l=0
 | [],_,_,_,_=>rfl
 | x::l,p,hs,hp,hr=>by
  obtain ⟨h1,h2,h3⟩:=hr x (by simp)
  obtain ⟨s1,s2⟩:=List.pairwise_cons.1 hs
  rw [XF]
  have:GK p x=0:=by
   unfold GK
   rw [h1,nE,if_neg (by simp [h2,h3])]
   cases p with
   | none=>rfl
   | some r=>have:=hp r rfl x (by simp);simp only;rw [if_neg (by omega)]
  rw [this,nE]
  exact Qe l _ s2 (fun r Es z hz=>by injection Es with Es;subst Es;exact s1 z hz) fun z hz=>hr z (wU hz)
theorem Fine.wrong {P:List V ->Prop}{N:Nat}{z:List Z}(h:Fine P N z)(hN:N<=400)(hP:∀ r,P r ->ji r=0):dI z=0:=by
 have hl:=h.len
 unfold dI
 rw [if_neg (by omega)]
 refine Qe z none h.can.1 (fun r hr=>by cases hr) fun x hx=>⟨hP _ (h.row x hx),(h.can.2 x hx).1,?_⟩
 have:=pI hx
 have:=h.abs
 unfold fZ
 simp only [Bool.and_eq_true,decide_eq_true_eq]
 omega
theorem Gq {α:Type}{f:α ->Int}:∀ {l:List α},(∀ x∈l,f x=0) ->mu f l=0
 | [],_=>rfl
 | x::l,h=>by rw [mu,h x (by simp),nE];exact Gq fun y hy=>h y (wU hy)
theorem Be:∀ {row:List V} {cols:List Int},row.length=cols.length ->rU row cols=0 ->mu eO row=0
 | [],_,_,_=>rfl
 | v::row,[],h,_=>by simp at h
 | v::row,c::cols,h,h0=>by
  rw [rU] at h0
  obtain ⟨h1,h2⟩:=zI h0
  split at h2
  ·cases h2
  ·rw [mu,h1,nE];exact Be (by simpa using h) h2
theorem nL {cols:List Int}{row:List V}(hc:cols.length<=8)(h:mf cols row=0):ji row=0:=by
 unfold mf at h
 split at h
 ·cases h
 rename_i hl
 unfold ji
 rw [if_neg (by omega)]
 exact Be (by omega) h
theorem Fine.input {P:List V ->Prop}{N:Nat}{z:List Z}{cols:List Int}(h:Fine P N z)(hN:N<=400)(hc:cols.length<=8)(hP:∀ r,P r ->mf cols r=0):jq cols z=0:=by
 unfold jq
 rw [if_neg (by omega),h.wrong hN fun r hr=>nL hc (hP r hr),nE]
 exact Gq fun x hx=>hP _ (h.row x hx)
variable {M:aS}
def ee (fw:Int ->Int)(was:List Z):List Z ->List Z
 | []=>[]
 | z::l=>(if fw (wt z.row was+z.w) - fw (wt z.row was)=0 then [] else [⟨z.row,fw (wt z.row was+z.w) - fw (wt z.row was)⟩])++ee fw was l
theorem F2 {g:FuncId}{fw:Int ->Int}(Eu:dm Tryz.prog g=true)(hf:∀ (w:Int) (M:aS) (T:Tm),bV Tryz.prog g [.int .i64 w] T M [] [] (fun r _ _ _=>r=.int .i64 (fw w)) aM)(hfb:∀ w,(fw w).natAbs<=w.natAbs)
 {was is:List Z} {wv iv:Value} (hw:RS M (RZ M) 2 was wv) (hi:RS M (RZ M) 2 is iv) (AJ:was.length<=1000000) (hc:iu was) (ha:cX was<=1000000000) (U8:∀ z∈is,z.row.map bJ=z.row/\z.w.natAbs<=1000000000) (D5:is.length<=1000000) (T:Tm):
 bV Tryz.prog 278 [wv,iv,.func (.func g) #[] #[]] T M [] [] (fun v M' _ _=>RS M' (RZ M') 2 (ee fw was is) v) aM:=by
 have uu:=hi
 obtain ⟨eZ,a,c,rfl,di,_,hg⟩:=ax (by decide) (fun _ _=>br) hi
 obtain ⟨_,wa,wc,rfl,_⟩:=ax (by decide) (fun _ _=>br) hw
 obtain ⟨S,hS⟩:∃ S,S=ee fw was is:=⟨_,rfl⟩
 rw [<- hS]
 refine az akU rfl rfl ?_
 intro bi _
 simp +contextual only [go_sem,aD,sevalprocAttr]
 refine aO is.length 14 [(0,.slice wa was.length wc),(2,.func (.func g) #[] #[]),(12,.slice a is.length c),(13,.int .i64 (is.length:Int))] (fun i e h=>∃ N' M' R' fv acc,aF T N'/\bm M M'/\h=⟨N',M',[],R'⟩/\e 7=fv/\kT 38 2 (RZ M') [] R' fv acc/\acc.length<=i/\S=acc++ee fw was (is.drop i)) 0 (by omega) (by simp only [aE,go_sem,sevalprocAttr]) (by simp only [go_sem,sevalprocAttr]) ⟨T,M,_,_,[],aF.rfl',bm.rfl',rfl,by simp only [go_sem,sevalprocAttr],cV,by simp,hS⟩ ?_
 rintro i e h EK aG lm ⟨T1,M1,R1,fv,acc,dh,aV,rfl,e7,bj,jN,am⟩
 simp only [aE] at aG
 by_cases aL:i<is.length
 ·obtain ⟨b',o',cs',rfl,bQ,s,cG,rfl⟩:=hg i is[i] (gq aL)
  obtain ⟨y0,y1,_⟩:=bQ.ext aV
  obtain ⟨sa,sc,rfl⟩:=fR cG
  obtain ⟨fx,dN⟩:=U8 _ (gm aL)
  have hwa:=P2 is[i].row was
  have f1:=hfb (wt is[i].row was+is[i].w)
  have f2:=hfb (wt is[i].row was)
  have w1:IntKind.i64.wrap (wt is[i].row was+is[i].w)=wt is[i].row was+is[i].w:=bH (by omega) (by omega)
  have w2:IntKind.i64.wrap (fw (wt is[i].row was+is[i].w) - fw (wt is[i].row was))=fw (wt is[i].row was+is[i].w) - fw (wt is[i].row was):=bH (by omega) (by omega)
  rw [dq aL,ee] at am
  simp +contextual only [go_sem,aD,sevalprocAttr,aG,lm,aL,y0,y1]
  intro b9 T9 qy ut pR
  have hT:=dh.trans ut
  refine aP (Mn (cR aV hw) (qz aV cG) AJ hc fx _) ?_
  simp +contextual only [go_sem,sevalprocAttr,aG,w1,aC qy]
  refine aP (hf _ _ _) ?_
  simp +contextual only [go_sem,sevalprocAttr,aG]
  refine aP (hf _ _ _) ?_
  simp +contextual only [go_sem,aD,sevalprocAttr,lm,w2]
  by_cases h0:fw (wt is[i].row was+is[i].w) - fw (wt is[i].row was)=0
  ·rw [if_pos h0,List.nil_append] at am
   simp +contextual only [go_sem,sevalprocAttr,h0]
   refine aR (al (aB ⟨is.length - (i+1),by omega,rfl,i+1,by omega,rfl,?_,?_,T9,M1,R1,fv,acc,hT,aV,rfl,?_,bj,by omega,am⟩))
   ·simp only [aE,aG,go_sem,sevalprocAttr]
   ·simp only [go_sem,sevalprocAttr,aA i (by omega)]
   ·simp only [go_sem,sevalprocAttr,e7]
  ·rw [if_neg h0,<- List.append_assoc] at am
   simp +contextual only [go_sem,sevalprocAttr,h0,aC qy,e7]
   intro b3 ii df
   refine cA (Tryz.underlying33) je iY (x:=⟨is[i].row,fw (wt is[i].row was+is[i].w) - fw (wt is[i].row was)⟩) bj ⟨_,qz aV cG,rfl⟩ (fun _ _=>br) (iw (z:=⟨is[i].row,fw (wt is[i].row was+is[i].w) - fw (wt is[i].row was)⟩) ⟨_,qz aV cG,rfl⟩) ii (by omega) (by decide) ?_
   intro fv' R' bz
   simp +contextual only [go_sem,sevalprocAttr,lm]
   refine aR (al (al (aB ⟨is.length - (i+1),by omega,rfl,i+1,by omega,rfl,?_,?_,T9,M1,R',fv',acc++[_],hT,aV,rfl,?_,bz,by rw [List.length_append];simp only [ln];omega,am⟩)))
   ·simp only [aE,aG,go_sem,sevalprocAttr]
   ·simp only [go_sem,sevalprocAttr,aA i (by omega)]
   ·simp only [go_sem,sevalprocAttr]
 ·have:i=is.length:=by omega
  subst this
  rw [List.drop_length,ee,List.append_nil] at am
  simp +contextual only [go_sem,aD,sevalprocAttr,aG,lm,aL,e7]
  rw [am]
  exact cz bj (by omega) (by decide) trivial fun M2 bh _ cG=>ak dh (aH bm.rfl' (fJ bh) cG)
section
variable {α:Type} {el:TypeId} {sz:Nat} {r:α ->List Value ->Prop} {M:aS} {N:Tm} {l:List α} {lv:Value} {L:LL}
theorem BU {P:Program}{F:Fi}{s:List Vc.Item}{e:dp}{ds:List Deferred}{dd:Option Nat}{R:RR}{t:TypeId}{z:List Value}{b:Nat}{x:α}{cs:List Value}{L1 L2:LL}(hu:P.underlying t=some (.slice el))(bP:dR P t=some (el,sz,z))(cB:j8 P t=true)
 (h:dW el sz r M N l lv L) (hx:r x cs) (bq:cs.length=sz) (dt:∀ u∈cs,u.oneCell'=true) (hb:M b=none) (hl:l.length*sz+sz<=4398046511104) (dO:0<sz)
 (k:∀ N' lv' g cs',aF N N' ->bf g ((b,cs)::(L1++L2)) ->dW el sz r M N' (l++[x]) lv' [(g,cs')] ->cy P F s (cI e dd lv') ds ⟨N',M,(g,cs')::(b,cs)::(L1++L2),R⟩ ⟨⟩):nG P F t t lv (.slice (some ⟨b,0,none⟩) 1 1) dd s e ds ⟨N,M,(b,cs)::(L1++(L++L2)),R⟩ ⟨⟩:=by
 have hs:∀ L2:LL,Srcs P t sz ⟨N,M,(b,cs)::L2,R⟩ (.slice (some ⟨b,0,none⟩) 1 1) cs:=fun L2=> .slice _ 1 _ _ _ hu (cD [] hb trivial (by rw [bq,Nat.one_mul])) dt
 have fin:∀ (xs:List Value),RL r l xs ->xs.length=l.length*sz ->ME lv el sz xs ⟨N,M,(b,cs)::(L1++(L++L2)),R⟩ ((b,cs)::(L1++L2)) ->nG P F t t lv (.slice (some ⟨b,0,none⟩) 1 1) dd s e ds ⟨N,M,(b,cs)::(L1++(L++L2)),R⟩ ⟨⟩:=by
  intro xs fM iH ye
  refine DN bP cB ye (hs _) (hs _) (by omega) (by omega) ?_
  intro N' g m c junk jW hNg hMg uT hm hmc di
  have DT:m=(l++[x]).length:=by
   rw [List.length_append];simp only [ln]
   rw [iH,bq] at hm
   exact Nat.eq_of_mul_eq_mul_right dO (by rw [Nat.add_mul];omega)
  subst DT
  exact k N' _ g _ jW uT (.inr ⟨g,c,xs++cs,junk,rfl,rfl,hNg,cP fM ⟨cs,[],by simp,hx,rfl⟩,by rw [List.length_append,List.length_append,iH,bq,Nat.add_mul];simp,di,hmc,hMg⟩)
 rcases h with ⟨rfl,rfl,rfl⟩ | ⟨g,cap,xs,junk,rfl,rfl,hN,fM,iH,hc,di,_⟩
 ·exact fin [] rfl (by simp) (.inl ⟨rfl,rfl,by simp⟩)
 ·exact fin xs fM iH (.inr ⟨g,_,cap,junk,(b,cs)::L1,L2,rfl,hN,by simp,by simp,iH,hc,di⟩)
end
theorem BA {M:aS}:∀ {A B:LL},aJ M A ->aJ M B ->aJ M (A++B)
 | [],_,_,h=>h
 | (_,_)::_,_,h,h2=>⟨h.1,BA h.2 h2⟩
def mj (aW:List (List Int))(data more:List (List Z))(p:Pl)(zo d:List Z):Prop:=∀ (M:aS) (T:Tm) (sb bp op:Nat) (pc:List Value) (tv dv mv:Value),M sb=some [tv,dv,mv] ->At M bp op pc ->gR M p pc ->RS M (ms M) 1 aW tv ->RS M (RD M) 1 data dv ->RS M (RD M) 1 more mv ->
 bV Tryz.prog 213 [.pointer (some ⟨sb,0,none⟩),.pointer (some ⟨bp,op,none⟩)] T M [] [] (fun v M' _ _=>∃ ov cv,v=.tuple ⟨[ov,cv,.int .i64 0]⟩/\RS M' (RZ M') 2 zo ov/\RS M' (RZ M') 2 d cv) aM
def tL (p:Pl)(c:List (List Int))(was is:List (List Z))(d:List Z):Prop:=∀ (M:aS) (T:Tm) (sv:Value) (bp op:Nat) (pc:List Value) (cv wv iv:Value),At M bp op pc ->gR M p pc ->RS M (ms M) 1 c cv ->RS M (RD M) 1 was wv ->RS M (RD M) 1 is iv ->
 bV Tryz.prog 248 [sv,.pointer (some ⟨bp,op,none⟩),cv,wv,iv] T M [] [] (fun v M' _ _=>RS M' (RZ M') 2 d v) aM
variable {aW:List (List Int)} {data more:List (List Z)}
theorem I6 {n:Nat}(hn:n<data.length)(pi:n<more.length):mj aW data more (yu n) (data.getD n []) (more.getD n []):=by
 intro M T sb bp op pc tv dv mv E4 bQ hp nl PO hmv
 obtain ⟨s1,a1,n1,a2,n2,a3,n3,rfl,ox,_⟩:=du hp
 obtain ⟨y0,y1,_⟩:=bQ
 have x0:aN M ⟨sb,0,none⟩=some tv:=by simp [aN,E4]
 have x1:aN M ⟨sb,1,none⟩=some dv:=by simp [aN,E4]
 have x2:aN M ⟨sb,2,none⟩=some mv:=by simp [aN,E4]
 obtain ⟨_,da,dc,rfl,_⟩:=ax (by decide) (fun _ _=>iq) PO
 obtain ⟨_,ma,mc,rfl,_⟩:=ax (by decide) (fun _ _=>iq) hmv
 obtain ⟨db,do',v0,rfl,m0,xx⟩:=oI PO hn
 obtain ⟨mb,mo,v1,rfl,m1,hz1⟩:=oI hmv pi
 simp only [yu,Pl.k,Pl.n] at y0 y1
 refine az ZO rfl rfl ?_
 intro bi _
 simp +contextual only [go_sem,aD,sevalprocAttr,y0]
 refine aX ?_
 simp +contextual only [go_sem,sevalprocAttr,y1,x1,x2,m0,m1,hn,pi]
 exact ak aF.rfl' ⟨_,_,rfl,xx,hz1⟩
theorem sA {M:aS}:∀ {A B:LL},aJ M (A++B) ->aJ M A
 | [],_,_=>trivial
 | (_,_)::_,_,h=>⟨h.1,sA h.2⟩
theorem jF {M:aS}:∀ {A B:LL},aJ M (A++B) ->aJ M B
 | [],_,h=>h
 | (_,_)::_,_,h=>jF h.2
theorem aeh {α:Type}(a b c d:α):[a,b,c,d].Perm [b,d,c,a]:=(List.Perm.swap b a [c,d]).trans ((List.reverse_perm [a,c,d]).symm.cons b)
theorem BM {α:Type}{l:List (List α)}{i:Nat}(h:i<l.length):l.take i++[l.getD i []]=l.take (i+1):=by
 rw [List.getD_eq_getElem?_getD,gq h,<- List.take_append_getElem h];rfl
set_option maxHeartbeats 1000000 in
theorem LZ {p:Pl}{zs ds:List (List Z)}{zo d:List Z}(hk:p.k≠1)(lU:XC p.k=true)(pm:p.kids.length<=2)(D2:1<=p.kids.length)(h2:4<=p.k/\p.k<=9 ->2<=p.kids.length)(qh:zs.length=p.kids.length)(xu:ds.length=p.kids.length)(rk:∀ q∈p.kids,fq aW q=.ok (fY aW q))
 (ajm:∀ i (h:i<p.kids.length),mj aW data more p.kids[i] (zs.getD i []) (ds.getD i [])) (dt:rD p (p.kids.map (fY aW)) zs=.ok zo) (hch:tL p (p.kids.map (fY aW)) zs ds d):mj aW data more p zo d:=by
 intro M T sb bp op pc tv dv mv E4 bQ hp nl PO hmv
 have An:=bQ
 have Ar:=hp
 obtain ⟨s1,a1,n1,a2,n2,a3,n3,rfl,ox,_,fM,Oa,pe⟩:=du hp
 obtain ⟨y0,y1,y2,y3,y4,y5,y6,y7,y8,y9,y10,_⟩:=bQ
 have x0:aN M ⟨sb,0,none⟩=some tv:=by simp [aN,E4]
 obtain ⟨_,ka,kc,hke,ahG,_,hkg⟩:=ax (by decide) (fun _ _=>jo) pe
 cases hke
 refine az ZO rfl rfl ?_
 intro bi _
 simp +contextual only [go_sem,aD,sevalprocAttr,y0,y10,hk]
 refine aO p.kids.length 46 [(0,.pointer (some ⟨sb,0,none⟩)),(1,.pointer (some ⟨bp,op,none⟩)),(45,.int .i64 (p.kids.length:Int))] (fun i e h=>∃ N' M' Lw Li R' cv wv iv,aF T N'/\bm M M'/\h=⟨N',M',Lw++Li,R'⟩/\e 7=wv/\e 8=iv/\e 9=cv/\kT 54 1 (ms M') [] R' cv ((p.kids.take i).map (fY aW))/\dW 33 1 (RD M') M' N' (zs.take i) wv Lw/\dW 33 1 (RD M') M' N' (ds.take i) iv Li) 0 (by omega) (by simp only [aE,go_sem,sevalprocAttr]) (by simp only [go_sem,sevalprocAttr]) ⟨T,M,[],[],[],_,_,_,aF.rfl',bm.rfl',rfl,by simp only [go_sem,sevalprocAttr],by simp only [go_sem,sevalprocAttr],by simp only [go_sem,sevalprocAttr],cV,.inl ⟨rfl,rfl,rfl⟩,.inl ⟨rfl,rfl,rfl⟩⟩ ?_
 rintro i e h hi aG lm ⟨T1,M1,Lw,Li,R1,cv,wv,iv,dh,aV,rfl,e7,e8,e9,bj,how,XB⟩
 simp only [aE] at aG
 by_cases aL:i<p.kids.length
 ·obtain ⟨b',o',kcs,rfl,vq,RY⟩:=hkg i p.kids[i] (gq aL)
  have mQ:=gm aL
  have y10':=ay aV y10
  simp +contextual only [go_sem,aD,sevalprocAttr,aG,lm,aL,y10']
  refine aI (ajm i aL M1 _ sb b' _ kcs tv dv mv (aV _ _ E4) (vq.ext aV) (bA aV _ _ RY) (aH aV (cW aV) nl) (aH aV (dz aV) PO) (aH aV (dz aV) hmv)) ?_
  rintro v M2 bh aZ ⟨ov,dv',rfl,Ve,afZ⟩
  have ep:=aV.trans bh
  have y10'':=ay ep y10
  have x0'':=ay ep x0
  obtain ⟨t1,p1,m1',p2,m2',p3,m3',rfl,ox2,_⟩:=du RY
  obtain ⟨u0,u1,u2,u3,u4,u5,u6,u7,u8,u9,u10,_⟩:=vq.ext ep
  obtain ⟨_,oa,oc,rfl,_⟩:=ax (by decide) (fun _ _=>br) Ve
  obtain ⟨_,da',dc',rfl,_⟩:=ax (by decide) (fun _ _=>br) afZ
  simp +contextual only [go_sem,aD,sevalprocAttr]
  refine aX ?_
  simp +contextual only [go_sem,sevalprocAttr,aG,aL,y10'',x0'',u0,u1,u2,u3,u4,u5,u6,u7,u8,u9,u10]
  refine aI (ur (aH ep (cW ep) nl) (bA ep _ _ RY) _) ?_
  rintro v3 M3 bE bB Ut
  rw [rk _ mQ] at Ut
  obtain ⟨sv,rfl,sV⟩:=Ut
  have te:=ep.trans bE
  have YN:=bh.trans bE
  obtain ⟨_,sva,svc,rfl,_⟩:=ax (by decide) (fun _ _=>ct) sV
  simp +contextual only [go_sem,sevalprocAttr,e7]
  refine ⟨fu bE bB,?_⟩
  intro b81 QQ wB
  have ai4:dW 33 1 (RD M3) M3 T1 (zs.take i) wv Lw:=fj (dz (bh.trans bE)) (sA bB) how
  have abg:dW 33 1 (RD M3) M3 T1 (ds.take i) iv Li:=fj (dz (bh.trans bE)) (jF bB) XB
  have ajb:=cR bE Ve
  have ajw:=cR bE afZ
  have hlw:(zs.take i).length=i:=by rw [List.length_take];omega
  have hli:(ds.take i).length=i:=by rw [List.length_take];omega
  refine BU (L1:=[]) (Tryz.underlying88) wl vD (x:=zs.getD i []) ai4 ⟨_,rfl,ajb⟩ rfl (by simp [Value.oneCell']) QQ (by omega) (by decide) ?_
  intro N4 wv' gw cw Bg aov adx
  simp +contextual only [go_sem,sevalprocAttr,e8]
  intro b85 afy afx
  refine nY (L1:=[(gw,cw),(b81,[.slice oa (zs.getD i []).length oc])]) (Tryz.underlying88) wl vD (x:=ds.getD i []) (eA Bg abg) ⟨_,rfl,ajw⟩ rfl (by simp [Value.oneCell']) afy (by omega) (by decide) ?_
  intro N5 iv' gi ci sd apH adi
  simp +contextual only [go_sem,sevalprocAttr,e9]
  intro b89 aje alo
  refine cA (Tryz.underlying131) yE yO (x:=fY aW p.kids[i]) (ey (cW YN) bj) ⟨_,rfl,sV⟩ (fun _ _=>dE) (by simp [Value.oneCell']) aje (by rw [List.length_map,List.length_take];omega) (by decide) ?_
  intro cv' R' bz
  have dY:(p.kids.take i).map (fY aW)++[fY aW p.kids[i]]=(p.kids.take (i+1)).map (fY aW):=by
   rw [<- List.take_append_getElem aL,List.map_append];rfl
  rw [dY] at bz
  rw [BM (by omega)] at adx adi
  simp +contextual only [go_sem,sevalprocAttr,lm]
  refine aR (al (cY (aeh _ _ _ _) (al (al (aB ⟨p.kids.length - (i+1),by omega,rfl,i+1,by omega,rfl,?_,?_,N5,M3,[(gw,cw)],[(gi,ci)],R',cv',wv',iv',(dh.trans Bg).trans sd,te,rfl,?_,?_,?_,bz,eA sd adx,adi⟩)))))
  ·simp only [aE,aG,go_sem,sevalprocAttr]
  ·simp only [go_sem,sevalprocAttr,aA i (by omega)]
  ·simp only [go_sem,sevalprocAttr]
  ·simp only [go_sem,sevalprocAttr]
  ·simp only [go_sem,sevalprocAttr]
 ·have:i=p.kids.length:=by omega
  subst this
  rw [List.take_length] at bj
  rw [<- qh,List.take_length] at how
  rw [<- xu,List.take_length] at XB
  obtain ⟨_,_,rfl⟩:=eI bj
  obtain ⟨_,_,rfl⟩:=cU how
  obtain ⟨_,_,rfl⟩:=cU XB
  simp +contextual only [go_sem,aD,sevalprocAttr,aG,lm,aL,e7,e9]
  refine mm PK.bd bj (by rw [List.length_map];omega) (by decide) (BA (jy how) (jy XB)) fun M2 bh aZ cG=> ?_
  have aih:=fj (dz bh) (sA aZ) how
  have ajU:=fj (dz bh) (jF aZ) XB
  refine cL (k:=fun h'=>∃ M3,bm M2 M3/\RS M3 (RD M3) 1 zs (.slice _ zs.length _)/\RS M3 (RD M3) 1 ds (.slice _ ds.length _)/\h'=⟨T1,M3,[],[]⟩) (jJ (L2:=Li) aih (by omega) (jF aZ) fun M3 bE H2 ZE=>by
   have abg:=fj (dz bE) H2 ajU
   rw [<- List.append_nil Li]
   exact jJ (L2:=[]) abg (by omega) trivial fun M4 dD _ hrd=>aB ⟨M4,bE.trans dD,aH dD (dz (bE.trans dD)) ZE,aH bm.rfl' (dz dD) hrd,rfl⟩) ?_ PK.bd
  rintro h' ⟨M3,bE,ZE,hrd,rfl⟩
  have YN:=bh.trans bE
  have te:=aV.trans YN
  have hml:(p.kids.map (fY aW)).length=p.kids.length:=List.length_map ..
  have VS:=aH bE (cW bE) (aH bm.rfl' (cW bh) cG)
  refine aI (Uw (An.ext te) (bA te _ _ Ar) VS ZE (by omega) lU _) ?_
  rintro v M4 dD de hv
  rw [dt] at hv
  obtain ⟨sv,rfl,sV⟩:=hv
  have Pc:=te.trans dD
  simp +contextual only [go_sem,aD,sevalprocAttr,aG,e7,e8,e9]
  refine aI (hch M4 _ _ bp op _ _ _ _ (An.ext Pc) (bA Pc _ _ Ar) (aH dD (cW dD) VS) (aH dD (dz dD) ZE) (aH dD (dz dD) hrd)) ?_
  rintro v M5 dJ bR hv
  obtain ⟨_,va,vc,rfl,_⟩:=ax (by decide) (fun _ _=>br) hv
  obtain ⟨_,sa,sc,rfl,_⟩:=ax (by decide) (fun _ _=>br) sV
  simp +contextual only [go_sem,sevalprocAttr]
  exact ak dh ⟨_,_,rfl,cR dJ sV,hv⟩
variable {M:aS} {aW:List (List Int)} {data more now:List (List Z)}
theorem EE {dv mv:Value}(hd:RS M (RD M) 1 data dv)(hm:RS M (RD M) 1 more mv)(hl:more.length=data.length)(yF:now.length=data.length)(h64:data.length<=1000)(NK:∀ i,i<data.length ->addM (data.getD i []) (more.getD i [])=.ok (now.getD i []))(T:Tm):
 bV Tryz.prog 154 [dv,mv] T M [] [] (fun v M' _ _=>∃ nv,v=.tuple ⟨[nv,.int .i64 0]⟩/\RS M' (RD M') 1 now nv/\xI M nv) aM:=by
 obtain ⟨_,da,dc,rfl,_⟩:=ax (by decide) (fun _ _=>iq) hd
 obtain ⟨_,ma,mc,rfl,_⟩:=ax (by decide) (fun _ _=>iq) hm
 refine az ahR rfl rfl ?_
 intro bi _
 simp +contextual only [go_sem,aD,sevalprocAttr,hl]
 refine aO data.length 18 [(0,.slice da data.length dc),(1,.slice ma more.length mc),(16,.slice da data.length dc),(17,.int .i64 (data.length:Int))] (fun i e h=>∃ N' M' L' fv,aF T N'/\bm M M'/\h=⟨N',M',L',[]⟩/\e 6=fv/\dW 33 1 (RD M') M' N' (now.take i) fv L') 0 (by omega) (by simp only [aE,go_sem,sevalprocAttr,hl]) (by simp only [go_sem,sevalprocAttr]) ⟨T,M,[],_,aF.rfl',bm.rfl',rfl,by simp only [go_sem,sevalprocAttr],.inl ⟨rfl,rfl,rfl⟩⟩ ?_
 rintro i e h hi aG lm ⟨T1,M1,L1,fv,dh,aV,rfl,e6,bj⟩
 simp only [aE] at aG
 by_cases aL:i<data.length
 ·have GB:i<more.length:=by omega
  obtain ⟨db,do',v0,rfl,m0,xx⟩:=oI hd aL
  obtain ⟨mb,mo,v1,rfl,m1,hz1⟩:=oI hm GB
  have m0':=ay aV m0
  have m1':=ay aV m1
  simp +contextual only [go_sem,aD,sevalprocAttr,aG,lm,aL,GB,m0',m1']
  refine aI (DF (cR aV xx) (cR aV hz1) _) ?_
  rintro v M2 bh aZ hv
  rw [NK i aL] at hv
  obtain ⟨s,rfl,hs⟩:=hv
  obtain ⟨_,sa,sc,rfl,_⟩:=ax (by decide) (fun _ _=>br) hs
  simp +contextual only [go_sem,aD,sevalprocAttr,e6]
  intro b3 ii df
  refine nY (L1:=[]) (Tryz.underlying88) wl vD (x:=now.getD i []) (fj (dz bh) aZ bj) ⟨_,rfl,hs⟩ rfl (by simp [Value.oneCell']) ii (by rw [List.length_take];omega) (by decide) ?_
  intro N4 fv' g cs' Bg uT bz
  rw [BM (by omega)] at bz
  simp +contextual only [go_sem,sevalprocAttr,lm]
  refine aR (cY (List.perm_append_comm (l₁:=[_])) (al (aB ⟨data.length - (i+1),by omega,rfl,i+1,by omega,rfl,?_,?_,N4,M2,_,fv',dh.trans Bg,aV.trans bh,rfl,?_,bz⟩)))
  ·simp only [aE,aG,go_sem,sevalprocAttr]
  ·simp only [go_sem,sevalprocAttr,aA i (by omega)]
  ·simp only [go_sem,sevalprocAttr]
 ·have:i=data.length:=by omega
  subst this
  rw [<- yF,List.take_length] at bj
  simp +contextual only [go_sem,aD,sevalprocAttr,aG,lm,aL,e6]
  rw [<- List.append_nil L1]
  exact jJ (L2:=[]) bj (by omega) trivial fun M2 bh _ cG=>ak dh ⟨_,rfl,aH bm.rfl' (dz bh) cG,wk aV bj⟩
theorem aao {p:Pl}{pc:List Value}{c:List Int}{zo d d':List Z}{tv dv mv:Value}(nl:RS M (ms M) 1 aW tv)(hp:gR M p pc)(hd:RS M (RD M) 1 data dv)(hm:RS M (RD M) 1 more mv)(rk:fq aW p=.ok c)(Vi:iU aW data=0)(Ze:iU aW more=0)
 (hl:more.length=data.length) (yF:now.length=data.length) (h64:data.length<=1000) (NK:∀ i,i<data.length ->addM (data.getD i []) (more.getD i [])=.ok (now.getD i [])) (j1:mj aW data more p zo d) (xu:d.length<=4294967296) (BQ:∀ z∈d,z.row.length<=4294967296) (mq:ou d=.ok d') (T:Tm):
 bV Tryz.prog 153 [tv,.agg ⟨pc⟩,dv,mv] T M [] [] (fun v M' _ _=>∃ rv,v=.tuple ⟨[rv,.int .i64 0]⟩/\RS M' (RZ M') 2 d' rv) aM:=by
 have Ar:=hp
 obtain ⟨s1,a1,n1,a2,n2,a3,n3,rfl,ox,_⟩:=du hp
 obtain ⟨_,da,dc,rfl,_⟩:=ax (by decide) (fun _ _=>iq) hd
 obtain ⟨_,ma,mc,rfl,_⟩:=ax (by decide) (fun _ _=>iq) hm
 obtain ⟨_,ta,tc,rfl,_⟩:=ax (by decide) (fun _ _=>dE) nl
 unfold OG at Ar
 refine az ah2 rfl rfl ?_
 intro bi _
 unfold OG
 simp +contextual only [go_sem,sevalprocAttr]
 intro b4 T4 eN fG iI
 refine aI (ur nl Ar _) ?_
 rintro v0 M0 Fj afv wE
 rw [rk] at wE
 obtain ⟨s0,rfl,_⟩:=wE
 simp +contextual only [go_sem,aD,sevalprocAttr]
 intro b31 IS amn
 refine aO 2 33 [(0,.slice ta aW.length tc),(2,.slice da data.length dc),(3,.slice ma more.length mc),(5,.pointer (some ⟨b4,0,none⟩)),(31,.slice (some ⟨b31,0,none⟩) 2 2),(32,.int .i64 2)] (fun i e h=>h=⟨T4,M0,[(b31,[.slice da data.length dc,.slice ma more.length mc]),(b4,OG p s1 (.slice a1 p.xs.length n1) (.slice a2 p.ags.length n2) (.slice a3 p.kids.length n3))],[]⟩) 0 (by omega) (by simp only [aE,go_sem,sevalprocAttr]) (by simp only [go_sem,sevalprocAttr]) rfl ?_
 rintro i e h hi aG lm rfl
 simp only [aE] at aG
 have aas:=aH Fj (cW Fj) nl
 have hd0:=aH Fj (dz Fj) hd
 have Vg:=aH Fj (dz Fj) hm
 have kh:i=0\/i=1\/i=2:=by omega
 rcases kh with rfl | rfl | rfl
 ·simp +contextual only [go_sem,aD,sevalprocAttr,aG,lm,aC IS]
  refine aP (De aas hd0 _) ?_
  simp +contextual only [go_sem,aD,sevalprocAttr,lm,Vi]
  refine aR (aB ⟨1,by omega,rfl,1,by omega,rfl,?_,?_,rfl⟩)
  ·simp only [aE,aG,go_sem,sevalprocAttr]
  ·simp only [go_sem,sevalprocAttr];rfl
 ·simp +contextual only [go_sem,aD,sevalprocAttr,aG,lm,aC IS]
  refine aP (De aas Vg _) ?_
  simp +contextual only [go_sem,aD,sevalprocAttr,lm,Ze]
  refine aR (aB ⟨0,by omega,rfl,2,by omega,rfl,?_,?_,rfl⟩)
  ·simp only [aE,aG,go_sem,sevalprocAttr]
  ·simp only [go_sem,sevalprocAttr];rfl
 simp +contextual only [go_sem,aD,sevalprocAttr,aG,lm]
 refine aI (EE hd0 Vg hl yF h64 NK _) ?_
 rintro v M1 aV bG ⟨nv,rfl,_,_⟩
 simp +contextual only [go_sem,aD,sevalprocAttr,aG]
 intro b58 T58 amZ ami ahN alg
 refine lx ZO.bd fun M2 bh hL2=> ?_
 have ry:=aV.trans bh
 refine aI (j1 M2 _ b58 b4 0 _ _ _ _ hL2.1 (lf hL2.2.2.1 _ 0 (by simp)) (bA (Fj.trans ry) _ _ Ar) (aH ry (cW ry) aas) (aH ry (dz ry) hd0) (aH ry (dz ry) Vg)) ?_
 rintro v M3 bE bB ⟨ov,cv,rfl,_,lk⟩
 obtain ⟨_,va,vc,rfl,_⟩:=ax (by decide) (fun _ _=>br) lk
 simp +contextual only [go_sem,aD,sevalprocAttr]
 refine aI (zf lk xu BQ _) ?_
 rintro v M4 dD de hv
 rw [mq] at hv
 obtain ⟨s,rfl,hs⟩:=hv
 simp +contextual only [go_sem,sevalprocAttr]
 exact ak (fG.trans ahN) ⟨_,rfl,hs⟩
variable {M:aS} {aW:List (List Int)} {data more now:List (List Z)}
def gW (tv:Value)(pc:List Value)(dv rv:Value):List Value:=[tv]++pc++[dv,rv]
theorem Ah {bv:Nat}{p:Pl}{pc:List Value}{c:List Int}{zo d d' rows rows':List Z}{tv dv mv rv:Value}(nl:RS M (ms M) 1 aW tv)(hp:gR M p pc)(hd:RS M (RD M) 1 data dv)(hr:RS M (RZ M) 2 rows rv)(hm:RS M (RD M) 1 more mv)(rk:fq aW p=.ok c)(Vi:iU aW data=0)(Ze:iU aW more=0)
 (hl:more.length=data.length) (yF:now.length=data.length) (h64:data.length<=1000) (NK:∀ i,i<data.length ->addM (data.getD i []) (more.getD i [])=.ok (now.getD i [])) (j1:mj aW data more p zo d) (xu:d.length<=4294967296) (BQ:∀ z∈d,z.row.length<=4294967296) (mq:ou d=.ok d') (bP:addM rows d'=.ok rows') (T:Tm):
 bV Tryz.prog 101 [.pointer (some ⟨bv,0,none⟩),mv] T M [(bv,gW tv pc dv rv)] [] (fun v M' L' _=>v=.int .i64 0/\∃ nv rv',L'=[(bv,gW tv pc nv rv')]/\RS M' (RD M') 1 now nv/\xI M nv/\RS M' (RZ M') 2 rows' rv') aM:=by
 have Ar:=hp
 obtain ⟨s1,a1,n1,a2,n2,a3,n3,rfl,ox,_⟩:=du hp
 obtain ⟨_,da,dc,rfl,_⟩:=ax (by decide) (fun _ _=>iq) hd
 obtain ⟨_,ma,mc,rfl,_⟩:=ax (by decide) (fun _ _=>iq) hm
 obtain ⟨_,ta,tc,rfl,_⟩:=ax (by decide) (fun _ _=>dE) nl
 obtain ⟨_,ra,rc,rfl,_⟩:=ax (by decide) (fun _ _=>br) hr
 unfold gW OG at*
 simp only [nn] at*
 refine az akd rfl rfl ?_
 intro bi _
 simp +contextual only [go_sem,sevalprocAttr]
 refine aX ?_
 simp +contextual only [go_sem,sevalprocAttr,aC bi.1]
 refine aI (aao nl Ar hd hm rk Vi Ze hl yF h64 NK j1 xu BQ mq _) ?_
 rintro v M1 aV bG ⟨cv,rfl,lk⟩
 obtain ⟨_,va,vc,rfl,_⟩:=ax (by decide) (fun _ _=>br) lk
 simp +contextual only [go_sem,aD,sevalprocAttr,aC bG.1]
 refine aI (DF (cR aV hr) lk _) ?_
 rintro v M2 bh aZ hv
 rw [bP] at hv
 obtain ⟨s,rfl,hs⟩:=hv
 obtain ⟨_,sa,sc,rfl,_⟩:=ax (by decide) (fun _ _=>br) hs
 have ep:=aV.trans bh
 simp +contextual only [go_sem,aD,sevalprocAttr,aC aZ.1]
 refine aI (EE (aH ep (dz ep) hd) (aH ep (dz ep) hm) hl yF h64 NK _) ?_
 rintro v M3 bE bB ⟨nv,rfl,Nu,tw⟩
 obtain ⟨_,na,nc,rfl,_⟩:=ax (by decide) (fun _ _=>iq) Nu
 simp +contextual only [go_sem,sevalprocAttr]
 refine aQ aF.rfl' rfl rfl ⟨rfl,_,_,rfl,Nu,?_,cR bE hs⟩
 intro b o n c he
 have:=tw b o n c he
 cases h0:M b with
 | none=>rfl
 | some x=>rw [ep _ _ h0] at this;cases this
def l6 (M2:aS)(Lp:LL):Prop:=∀ b c,(b,c)∈Lp ->M2 b=some c/\∀ u∈c,mC u
section
variable {M2:aS} {Lp:LL}
theorem uj {α:Type}{r r':α ->List Value ->Prop}:∀ {l:List α} {xs:List Value},(∀ x∈l,∀ cs,r x cs ->r' x cs) ->RL r l xs ->RL r' l xs
 | [],_,_,h=>h
 | x::l,_,hr,⟨cs,rest,h1,h2,h3⟩=>⟨cs,rest,h1,hr x (by simp) cs h2,uj (fun y hy=>hr y (wU hy)) h3⟩
theorem vl {α:Type}{r r':α ->List Value ->Prop}{sz:Nat}{l:List α}{v:Value}(hz:l6 M2 Lp)(hr:∀ x∈l,∀ cs,r x cs ->r' x cs)(hx:∀ x∈l,∀ cs,r x cs ->∃ (i:Nat) (k:IntKind) (n:Int),cs[i]?=some (.int k n)/\n≠0)(h:RS M2 r sz l v):RS (lg M2 Lp) r' sz l v:=by
 obtain ⟨hb,xs,iG,wJ⟩:=h
 refine ⟨hb,xs,Jz hz ?_ iG,uj hr wJ⟩
 intro h0
 cases l with
 | nil=>exact absurd wJ h0
 | cons x l=>
  obtain ⟨cs,rest,rfl,h2,_⟩:=wJ
  obtain ⟨i,k,n,hi,hn⟩:=hx x (by simp) cs h2
  exact ⟨i,k,n,by rw [List.getElem?_append_left (List.getElem?_eq_some_iff.1 hi).1];exact hi,hn⟩
theorem aaG {r:List V}{v:Value}(hz:l6 M2 Lp)(hk:∀ x∈r,x.k≠0)(h:RS M2 RV 3 r v):RS (lg M2 Lp) RV 3 r v:=
 vl hz (fun _ _ _ h=>h) (fun x hx cs h=>⟨0,.i64,x.k,by unfold RV V.cs at h;subst h;rfl,hk x hx⟩) h
def mO (z:List Z):Prop:=∀ x∈z,x.w≠0/\∀ v∈x.row,v.k≠0
theorem DM {z:List Z}{v:Value}(hz:l6 M2 Lp)(hg:mO z)(h:RS M2 (RZ M2) 2 z v):RS (lg M2 Lp) (RZ (lg M2 Lp)) 2 z v:=
 vl hz (fun x hx cs h=>by obtain ⟨s,h1,h2⟩:=h;exact ⟨s,aaG hz (hg x hx).2 h1,h2⟩) (fun x hx cs h=>by obtain ⟨s,h1,rfl⟩:=h;exact ⟨1,.i64,x.w,rfl,(hg x hx).1⟩) h
theorem QE {zs:List (List Z)}{v:Value}(hz:l6 M2 Lp)(hg:∀ z∈zs,mO z)(hf:∀ b o n c,v=.slice (some ⟨b,o,none⟩) n c ->b∉aY Lp)(h:RS M2 (RD M2) 1 zs v):RS (lg M2 Lp) (RD (lg M2 Lp)) 1 zs v:=by
 obtain ⟨hb,xs,iG,wJ⟩:=h
 refine ⟨hb,xs,?_,uj (fun x hx cs h=>by obtain ⟨s,h1,h2⟩:=h;exact ⟨s,h1,DM hz (hg x hx) h2⟩) wJ⟩
 rcases iG with h | ⟨b,o,n,c,rfl,h2,h3,h4⟩
 ·exact .inl h
 ·refine .inr ⟨b,o,n,c,rfl,h2,h3,xt ?_ h4⟩
  show (if b∈aY Lp then none else M2 b)=_
  rw [if_neg (hf b o n c rfl)]
theorem jV {M M':aS}(he:bm M M'):∀ (Lp:LL),bm (fk M Lp) (fk M' Lp)
 | []=>he
 | (k,c)::l=>fun b x h=>by
  have h:(if b=k then some c else fk M l b)=some x:=h
  show (if b=k then some c else fk M' l b)=some x
  split
  ·rename_i hb;rw [if_pos hb] at h;exact h
  ·rename_i hb;rw [if_neg hb] at h;exact jV he l b x h
theorem sr {M:aS}{v:Value}(h:xI (fk M Lp) v):∀ b o n c,v=.slice (some ⟨b,o,none⟩) n c ->b∉aY Lp:=by
 intro b o n c he hk
 have h0:=h b o n c he
 have:∀ l:LL,b∈aY l ->fk M l b≠none:=by
  intro l
  induction l with
  | nil=>intro h;cases h
  | cons p l ih=>
   obtain ⟨k,cs⟩:=p
   intro lh
   show (if b=k then some cs else fk M l b)≠none
   split
   ·simp
   ·rename_i cu
    simp only [aY,List.map_cons,List.mem_cons] at lh
    rcases lh with h | h
    ·exact absurd h cu
    ·exact ih h
 exact this _ hk h0
end
variable {M:aS} {aW:List (List Int)}
def oX (rv:Value)(gd dcap gk kc:Nat)(sv:Value):List Value:=[rv,.slice (some ⟨gd,0,none⟩) 2 dcap,.slice (some ⟨gk,0,none⟩) 1 kc,sv]
theorem Q9 {b:Nat}{x y:List Z}{xv yv:Value}(hb:M b=some [xv,yv])(hx:RS M (RZ M) 2 x xv)(hy:RS M (RZ M) 2 y yv):RS M (RD M) 1 [x,y] (.slice (some ⟨b,0,none⟩) 2 2):=
 dB (fun _ _=>iq) hb ⟨[xv],[yv],rfl,⟨xv,rfl,hx⟩,[yv],[],rfl,⟨yv,rfl,hy⟩,rfl⟩ rfl (by decide)
theorem Jg {be gd bv gk n:Nat}{kc dcap:Nat}{junk:List Value}{p:Pl}{pc:List Value}{c:List Int}{D0 D1 m0 m1 N0 N1 z zo d d' rows rows':List Z}{rv sv tv dv rwv d0 d1 zv:Value}(hn:n=0/\m0=z/\m1=[]/\N1=D1\/n=1/\m0=[]/\m1=z/\N0=D0)
 (mP:mC rv/\∀ k m,rv≠ .int k m) (sV:mC sv)
 (nl:RS M (ms M) 1 aW tv) (hp:gR M p pc) (h0:RS M (RZ M) 2 D0 d0) (h1:RS M (RZ M) 2 D1 d1) (AB:RS M (RZ M) 2 z zv) (hr:RS M (RZ M) 2 rows rwv) (Y3:aN M ⟨gk,0,none⟩=some (.pointer (some ⟨bv,0,none⟩)))
 (hd:RS (fk M [(be,oX rv gd dcap gk kc sv),(gd,[d0,d1])]) (RD (fk M [(be,oX rv gd dcap gk kc sv),(gd,[d0,d1])])) 1 [D0,D1] dv)
 (rk:fq aW p=.ok c) (Vi:iU aW [D0,D1]=0) (Ze:iU aW [m0,m1]=0) (YZ:addM D0 m0=.ok N0) (Ph:addM D1 m1=.ok N1) (j1:mj aW [D0,D1] [m0,m1] p zo d) (xu:d.length<=4294967296) (BQ:∀ z∈d,z.row.length<=4294967296) (mq:ou d=.ok d') (bP:addM rows d'=.ok rows')
 (Eu:mO N0) (lC:mO N1) (s8:mO rows') (T:Tm):
 bV Tryz.prog 58 [.pointer (some ⟨be,0,none⟩),.int .i64 (n:Int),zv] T M [(bv,gW tv pc dv rwv),(be,oX rv gd dcap gk kc sv),(gd,d0::d1::junk)] []
  (fun v M' L' _=>v=.int .i64 0/\∃ nv rv' w0 w1,L'=[(bv,gW tv pc nv rv'),(be,oX rv gd dcap gk kc sv),(gd,w0::w1::junk)]/\RS M' (RZ M') 2 N0 w0/\RS M' (RZ M') 2 N1 w1/\RS M' (RD M') 1 [N0,N1] nv/\RS M' (RZ M') 2 rows' rv') aM:=by
 obtain ⟨_,a0,c0,rfl,_⟩:=ax (by decide) (fun _ _=>br) h0
 obtain ⟨_,a1,c1,rfl,_⟩:=ax (by decide) (fun _ _=>br) h1
 obtain ⟨_,za,zc,rfl,_⟩:=ax (by decide) (fun _ _=>br) AB
 unfold oX at*
 rcases hn with ⟨rfl,rfl,rfl,rfl⟩ | ⟨rfl,rfl,rfl,rfl⟩
 ·refine az F58 rfl rfl ?_
  intro bi im
  obtain ⟨nb,ne,ng,_⟩:=bi
  obtain ⟨ap1,ap2,_⟩:=im
  simp only [bf,and_true] at ap1 ap2
  simp +contextual only [go_sem,sevalprocAttr,aC ne,aC ng,ap1,ap2]
  refine aI (DF h0 AB _) ?_
  rintro v M1 aV bG hv
  rw [YZ] at hv
  obtain ⟨s,rfl,hs⟩:=hv
  obtain ⟨nb1,ne1,ng1,_⟩:=bG
  obtain ⟨_,sa,sc,rfl,_⟩:=ax (by decide) (fun _ _=>br) hs
  simp +contextual only [go_sem,aD,sevalprocAttr,aC ne1,ap1]
  rw [show (2:Int)=((2:Nat):Int) from rfl,yM,show ((List.range 2).flatMap fun _=>[Value.slice none 0 0])=[.slice none 0 0,.slice none 0 0] from rfl]
  refine ⟨by decide,?_⟩
  intro b33 ahy E8
  simp only [bf,and_true] at E8
  have k0:aN M1 ⟨gk,0,none⟩=some (.pointer (some ⟨bv,0,none⟩)):=ay aV Y3
  simp +contextual only [go_sem,aD,sevalprocAttr,aC ne1,ap1,E8]
  refine bY 1 43 [(0,.pointer (some ⟨be,0,none⟩)),(1,.int .i64 0),(7,.slice sa N0.length sc),(9,.slice (some ⟨b33,0,none⟩) 2 2),(41,.slice (some ⟨gk,0,none⟩) 1 kc),(42,.int .i64 1)]
   (fun i e h=>∃ M' nv rv',bm M1 M'/\h=⟨T,M',[(bv,gW tv pc nv rv'),(be,[rv,.slice (some ⟨gd,0,none⟩) 2 dcap,.slice (some ⟨gk,0,none⟩) 1 kc,sv]),(gd,.slice a0 D0.length c0:: .slice a1 N1.length c1::junk)],[]⟩/\aJ M' h.L/\(i=0 ->nv=dv/\rv'=rwv/\M' b33=some [.slice za m0.length zc,.slice none 0 0])/\(i=1 ->RS M' (RD M') 1 [N0,N1] nv/\RS M' (RZ M') 2 rows' rv'))
   0 (by omega) (by simp only [aE,go_sem,sevalprocAttr]) (by simp only [go_sem,sevalprocAttr]) (aT fun he h5 hn5=>aB ⟨_,dv,rwv,he,rfl,hn5,fun _=>⟨rfl,rfl,h5⟩,fun h=>by omega⟩) ?_
  rintro i e h hi aG lm ⟨M2,nv,rv',bh,rfl,aZ,uu,Hu⟩
  simp only [aE] at aG
  have ep:=aV.trans bh
  have k2:=ay bh k0
  have vW:i=0\/i=1:=by omega
  rcases vW with rfl | rfl
  ·obtain ⟨rfl,rfl,hb⟩:=uu rfl
   have Hf:aJ M2 [(be,[rv,.slice (some ⟨gd,0,none⟩) 2 dcap,.slice (some ⟨gk,0,none⟩) 1 kc,sv]),(gd,[.slice a0 D0.length c0,.slice a1 N1.length c1])]:=⟨aZ.2.1,aZ.2.2.1,trivial⟩
   have uB:=gY Hf
   have hE:=ep.trans uB
   have rz:∀ {M3:aS},bm (fk M2 [(be,[rv,.slice (some ⟨gd,0,none⟩) 2 dcap,.slice (some ⟨gk,0,none⟩) 1 kc,sv]),(gd,[.slice a0 D0.length c0,.slice a1 N1.length c1])]) M3 ->l6 M3 [(be,[rv,.slice (some ⟨gd,0,none⟩) 2 dcap,.slice (some ⟨gk,0,none⟩) 1 kc,sv]),(gd,[.slice a0 D0.length c0,.slice a1 N1.length c1])]:=by
    intro M3 bE b c Pi
    simp only [List.mem_cons,Prod.mk.injEq,List.not_mem_nil,or_false] at Pi
    rcases Pi with ⟨rfl,rfl⟩ | ⟨rfl,rfl⟩
    ·exact ⟨bE _ _ (by simp [fk,aS.add]),by intro u hu;simp only [mn] at hu;rcases hu with rfl | rfl | rfl | rfl<;>first | exact mP.1 | exact sV | trivial⟩
    ·exact ⟨bE _ _ (by simp [fk,aS.add,ap2]),by simp [mC]⟩
   simp +contextual only [go_sem,aD,sevalprocAttr,aG,lm,k2]
   refine lO [(bv,gW tv pc nv rv')] [(be,[rv,.slice (some ⟨gd,0,none⟩) 2 dcap,.slice (some ⟨gk,0,none⟩) 1 kc,sv]),(gd,[.slice a0 D0.length c0,.slice a1 N1.length c1])] ?_ (Ah (now:=[N0,N1]) ?_ ?_ ?_ ?_ ?_ rk Vi Ze rfl rfl (by simp) ?_ j1 xu BQ mq bP _) ?_
   ·exact ⟨rfl,⟨[],(List.append_nil _).symm,.inl rfl⟩,rfl,⟨junk,rfl,.inr ⟨_,_,rfl,fun k n h=>by cases h⟩⟩,trivial⟩
   ·exact aH hE (cW hE) nl
   ·exact bA hE _ _ hp
   ·exact aH (jV ep _) (dz (jV ep _)) hd
   ·exact cR hE hr
   ·exact aH uB (dz uB) (Q9 hb (cR ep AB) bu)
   ·intro i hi
    have vW:i=0\/i=1:=by simp at hi;omega
    rcases vW with rfl | rfl
    ·exact YZ
    ·exact Ph
   rintro r M3 L2 bE HL bB ⟨rfl,nv',rv'',rfl,Nu,tw,I8⟩
   have hE3:=nK Hf bE
   simp +contextual only [go_sem,aD,sevalprocAttr,lm]
   refine aR (aB ⟨0,by omega,rfl,1,by omega,rfl,?_,?_,_,nv',rv'',bh.trans hE3,rfl,bB,fun h=>by omega,fun _=>⟨QE (rz bE) (by simp [Eu,lC]) (sr tw) Nu,DM (rz bE) s8 I8⟩⟩)
   ·simp only [aE,aG,go_sem,sevalprocAttr]
   ·simp only [go_sem,sevalprocAttr];rfl
  ·obtain ⟨Nu,I8⟩:=Hu rfl
   obtain ⟨nb2,ne2,ng2,_⟩:=aZ
   simp +contextual only [go_sem,aD,sevalprocAttr,aG,lm,aC ne2,ap1,ap2]
   exact aQ aF.rfl' rfl rfl ⟨rfl,_,_,_,_,rfl,cR bh hs,cR ep h1,Nu,I8⟩
 ·refine az F58 rfl rfl ?_
  intro bi im
  obtain ⟨nb,ne,ng,_⟩:=bi
  obtain ⟨ap1,ap2,_⟩:=im
  simp only [bf,and_true] at ap1 ap2
  simp +contextual only [go_sem,sevalprocAttr,aC ne,aC ng,ap1,ap2]
  refine aI (DF h1 AB _) ?_
  rintro v M1 aV bG hv
  rw [Ph] at hv
  obtain ⟨s,rfl,hs⟩:=hv
  obtain ⟨nb1,ne1,ng1,_⟩:=bG
  obtain ⟨_,sa,sc,rfl,_⟩:=ax (by decide) (fun _ _=>br) hs
  simp +contextual only [go_sem,aD,sevalprocAttr,aC ne1,ap1]
  rw [show (2:Int)=((2:Nat):Int) from rfl,yM,show ((List.range 2).flatMap fun _=>[Value.slice none 0 0])=[.slice none 0 0,.slice none 0 0] from rfl]
  refine ⟨by decide,?_⟩
  intro b33 ahy E8
  simp only [bf,and_true] at E8
  have k0:aN M1 ⟨gk,0,none⟩=some (.pointer (some ⟨bv,0,none⟩)):=ay aV Y3
  simp +contextual only [go_sem,aD,sevalprocAttr,aC ne1,ap1,E8]
  refine bY 1 43 [(0,.pointer (some ⟨be,0,none⟩)),(1,.int .i64 1),(7,.slice sa N1.length sc),(9,.slice (some ⟨b33,0,none⟩) 2 2),(41,.slice (some ⟨gk,0,none⟩) 1 kc),(42,.int .i64 1)]
   (fun i e h=>∃ M' nv rv',bm M1 M'/\h=⟨T,M',[(bv,gW tv pc nv rv'),(be,[rv,.slice (some ⟨gd,0,none⟩) 2 dcap,.slice (some ⟨gk,0,none⟩) 1 kc,sv]),(gd,.slice a0 N0.length c0:: .slice a1 D1.length c1::junk)],[]⟩/\aJ M' h.L/\(i=0 ->nv=dv/\rv'=rwv/\M' b33=some [.slice none 0 0,.slice za m1.length zc])/\(i=1 ->RS M' (RD M') 1 [N0,N1] nv/\RS M' (RZ M') 2 rows' rv'))
   0 (by omega) (by simp only [aE,go_sem,sevalprocAttr]) (by simp only [go_sem,sevalprocAttr]) (aT fun he h5 hn5=>aB ⟨_,dv,rwv,he,rfl,hn5,fun _=>⟨rfl,rfl,h5⟩,fun h=>by omega⟩) ?_
  rintro i e h hi aG lm ⟨M2,nv,rv',bh,rfl,aZ,uu,Hu⟩
  simp only [aE] at aG
  have ep:=aV.trans bh
  have k2:=ay bh k0
  have vW:i=0\/i=1:=by omega
  rcases vW with rfl | rfl
  ·obtain ⟨rfl,rfl,hb⟩:=uu rfl
   have Hf:aJ M2 [(be,[rv,.slice (some ⟨gd,0,none⟩) 2 dcap,.slice (some ⟨gk,0,none⟩) 1 kc,sv]),(gd,[.slice a0 N0.length c0,.slice a1 D1.length c1])]:=⟨aZ.2.1,aZ.2.2.1,trivial⟩
   have uB:=gY Hf
   have hE:=ep.trans uB
   have rz:∀ {M3:aS},bm (fk M2 [(be,[rv,.slice (some ⟨gd,0,none⟩) 2 dcap,.slice (some ⟨gk,0,none⟩) 1 kc,sv]),(gd,[.slice a0 N0.length c0,.slice a1 D1.length c1])]) M3 ->l6 M3 [(be,[rv,.slice (some ⟨gd,0,none⟩) 2 dcap,.slice (some ⟨gk,0,none⟩) 1 kc,sv]),(gd,[.slice a0 N0.length c0,.slice a1 D1.length c1])]:=by
    intro M3 bE b c Pi
    simp only [List.mem_cons,Prod.mk.injEq,List.not_mem_nil,or_false] at Pi
    rcases Pi with ⟨rfl,rfl⟩ | ⟨rfl,rfl⟩
    ·exact ⟨bE _ _ (by simp [fk,aS.add]),by intro u hu;simp only [mn] at hu;rcases hu with rfl | rfl | rfl | rfl<;>first | exact mP.1 | exact sV | trivial⟩
    ·exact ⟨bE _ _ (by simp [fk,aS.add,ap2]),by simp [mC]⟩
   simp +contextual only [go_sem,aD,sevalprocAttr,aG,lm,k2]
   refine lO [(bv,gW tv pc nv rv')] [(be,[rv,.slice (some ⟨gd,0,none⟩) 2 dcap,.slice (some ⟨gk,0,none⟩) 1 kc,sv]),(gd,[.slice a0 N0.length c0,.slice a1 D1.length c1])] ?_ (Ah (now:=[N0,N1]) ?_ ?_ ?_ ?_ ?_ rk Vi Ze rfl rfl (by simp) ?_ j1 xu BQ mq bP _) ?_
   ·exact ⟨rfl,⟨[],(List.append_nil _).symm,.inl rfl⟩,rfl,⟨junk,rfl,.inr ⟨_,_,rfl,fun k n h=>by cases h⟩⟩,trivial⟩
   ·exact aH hE (cW hE) nl
   ·exact bA hE _ _ hp
   ·exact aH (jV ep _) (dz (jV ep _)) hd
   ·exact cR hE hr
   ·exact aH uB (dz uB) (Q9 hb bu (cR ep AB))
   ·intro i hi
    have vW:i=0\/i=1:=by simp at hi;omega
    rcases vW with rfl | rfl
    ·exact YZ
    ·exact Ph
   rintro r M3 L2 bE HL bB ⟨rfl,nv',rv'',rfl,Nu,tw,I8⟩
   have hE3:=nK Hf bE
   simp +contextual only [go_sem,aD,sevalprocAttr,lm]
   refine aR (aB ⟨0,by omega,rfl,1,by omega,rfl,?_,?_,_,nv',rv'',bh.trans hE3,rfl,bB,fun h=>by omega,fun _=>⟨QE (rz bE) (by simp [Eu,lC]) (sr tw) Nu,DM (rz bE) s8 I8⟩⟩)
   ·simp only [aE,aG,go_sem,sevalprocAttr]
   ·simp only [go_sem,sevalprocAttr];rfl
  ·obtain ⟨Nu,I8⟩:=Hu rfl
   obtain ⟨nb2,ne2,ng2,_⟩:=aZ
   simp +contextual only [go_sem,aD,sevalprocAttr,aG,lm,aC ne2,ap1,ap2]
   exact aQ aF.rfl' rfl rfl ⟨rfl,_,_,_,_,rfl,cR ep h0,cR bh hs,Nu,I8⟩
variable {M:aS}
theorem TP {r:Rel}{cs:List Value}{name:Bs}{b:Nat}(hr:gU M r cs)(hb:M b=some [st name])(T:Tm):bV Tryz.prog 134 [.agg ⟨cs⟩,.pointer (some ⟨b,0,none⟩)] T M [] [] (fun v _ _ _=>v=.bool (decide (r.name=name))) aM:=by
 obtain ⟨ca,cn,s1,a1,n1,a2,n2,a3,n3,rfl,iX,_⟩:=hF hr
 have k0:aN M ⟨b,0,none⟩=some (st name):=by simp [aN,hb]
 refine az ahY rfl rfl ?_
 intro bi _
 simp +contextual only [go_sem,sevalprocAttr]
 intro b2 T2 dN dy ei
 simp +contextual only [go_sem,sevalprocAttr,k0]
 exact al (ak dy (by simp))
theorem O8 {rels:List Rel}{rv:Value}{name:Bs}{b:Nat}(hr:RS M (gU M) 14 rels rv)(hb:M b=some [st name])(hn:∀ r∈rels,r.name≠name)(T:Tm):bV Tryz.prog 133 [rv,.func (.func 134) #[] #[.pointer (some ⟨b,0,none⟩)]] T M [] [] (fun v _ _ _=>v=.int .i64 (-1)) aM:=by
 obtain ⟨eZ,a,c,rfl,di,_,hg⟩:=ax (by decide) (fun _ _=>gV) hr
 refine az agf rfl rfl ?_
 intro bi _
 simp +contextual only [go_sem,aD,sevalprocAttr]
 refine aO rels.length 8 [(0,.slice a rels.length c),(1,.func (.func 134) #[] #[.pointer (some ⟨b,0,none⟩)]),(7,.int .i64 (rels.length:Int))] (fun i e h=>h=⟨T,M,[],[]⟩) 0 (by omega) (by simp only [aE,go_sem,sevalprocAttr]) (by simp only [go_sem,sevalprocAttr]) rfl ?_
 rintro i e h hi aG ht rfl
 simp only [aE] at aG
 by_cases aL:i<rels.length
 ·obtain ⟨b',o',cs',rfl,bQ,dV⟩:=hg i rels[i] (gq aL)
  have cu:=hn _ (gm aL)
  obtain ⟨ca,cn,s1,a1,n1,a2,n2,a3,n3,he,iX,_⟩:=hF dV
  have hc:=TP dV hb T
  subst he
  have y:=CP bQ
  simp +contextual only [go_sem,aD,sevalprocAttr,aG,ht,aL,y]
  refine aP hc ?_
  simp +contextual only [go_sem,aD,sevalprocAttr,ht,cu]
  refine ce aL ?_ ?_ rfl
  ·simp only [aE,aG,go_sem,sevalprocAttr]
  ·simp only [go_sem,sevalprocAttr,aA i (by omega)]
 ·have:i=rels.length:=by omega
  subst this
  simp +contextual only [go_sem,aD,sevalprocAttr,aG,ht,aL]
  exact ak aF.rfl' rfl
theorem Th {rels:List Rel}{be:Nat}{rv dv kv sv:Value}{name:Bs}(sq:M be=some [rv,dv,kv,sv])(hr:RS M (gU M) 14 rels rv)(hn:∀ r∈rels,r.name≠name)(T:Tm):bV Tryz.prog 89 [.pointer (some ⟨be,0,none⟩),st name] T M [] [] (fun v _ _ _=>v=.int .i64 (-1)) aM:=by
 have k0:aN M ⟨be,0,none⟩=some rv:=by simp [aN,sq]
 obtain ⟨_,a,c,rfl,_⟩:=ax (by decide) (fun _ _=>gV) hr
 refine az F89 rfl rfl ?_
 intro bi _
 simp +contextual only [go_sem,sevalprocAttr]
 intro b3 T3 ii fV gD
 simp +contextual only [go_sem,sevalprocAttr,k0]
 refine cT agf.bd (fun M' he hL _=>O8 (aH he (dP he) hr) hL.1 hn _) ?_
 simp +contextual only [go_sem,sevalprocAttr]
 exact al (ak fV rfl)
theorem un {c:Co}{cs:List Value}(h:ua c cs):cs=[st c.name,.int .i64 c.ty]:=h
theorem MD {n n':Bs}{t t':Int}{b:Nat}(hb:M b=some [st n',.int .i64 t'])(T:Tm):bV Tryz.prog 136 [.agg ⟨[st n,.int .i64 t]⟩,.pointer (some ⟨b,0,none⟩)] T M [] [] (fun v _ _ _=>v=.bool (decide (n=n'))) aM:=by
 have k0:aN M ⟨b,0,none⟩=some (st n'):=by simp [aN,hb]
 refine az aaF rfl rfl ?_
 intro bi _
 simp +contextual only [go_sem,sevalprocAttr]
 intro b2 T2 dN dy ei
 simp +contextual only [go_sem,sevalprocAttr,k0]
 exact al (ak dy (by simp))
theorem MO {cols:List Co}{cv:Value}{n':Bs}{t':Int}{b:Nat}(hr:RS M ua 2 cols cv)(hb:M b=some [st n',.int .i64 t'])(hn:∀ r∈cols,r.name≠n')(T:Tm):bV Tryz.prog 193 [cv,.func (.func 136) #[] #[.pointer (some ⟨b,0,none⟩)]] T M [] [] (fun v _ _ _=>v=.int .i64 (-1)) aM:=by
 obtain ⟨eZ,a,c,rfl,di,_,hg⟩:=ax (by decide) (fun _ _=>fQ) hr
 refine az ahJ rfl rfl ?_
 intro bi _
 simp +contextual only [go_sem,aD,sevalprocAttr]
 refine aO cols.length 8 [(0,.slice a cols.length c),(1,.func (.func 136) #[] #[.pointer (some ⟨b,0,none⟩)]),(7,.int .i64 (cols.length:Int))] (fun i e h=>h=⟨T,M,[],[]⟩) 0 (by omega) (by simp only [aE,go_sem,sevalprocAttr]) (by simp only [go_sem,sevalprocAttr]) rfl ?_
 rintro i e h hi aG ht rfl
 simp only [aE] at aG
 by_cases aL:i<cols.length
 ·obtain ⟨b',o',cs',rfl,bQ,dV⟩:=hg i cols[i] (gq aL)
  have cu:=hn _ (gm aL)
  obtain rfl:=un dV
  obtain ⟨y0,y1,_⟩:=bQ
  simp +contextual only [go_sem,aD,sevalprocAttr,aG,ht,aL,y0,y1]
  refine aP (MD hb T) ?_
  simp +contextual only [go_sem,aD,sevalprocAttr,ht,cu]
  refine ce aL ?_ ?_ rfl
  ·simp only [aE,aG,go_sem,sevalprocAttr]
  ·simp only [go_sem,sevalprocAttr,aA i (by omega)]
 ·have:i=cols.length:=by omega
  subst this
  simp +contextual only [go_sem,aD,sevalprocAttr,aG,ht,aL]
  exact ak aF.rfl' rfl
theorem Gn {α:Type}{r:α ->List Value ->Prop}{sz:Nat}(dS:∀ x cs,r x cs ->cs.length=sz):∀ {l:List α} {xs:List Value} (k:Nat),RL r l xs ->RL r (l.take k) (xs.take (k*sz))
 | [],xs,k,h=>by have:xs=[]:=h;subst this;simp [RL]
 | x::l,xs,0,h=>by simp [RL]
 | x::l,xs,k+1,h=>by
  obtain ⟨cs,rest,rfl,h1,h2⟩:=h
  have fS:=dS x cs h1
  have:(cs++rest).take ((k+1)*sz)=cs++rest.take (k*sz):=by
   rw [Nat.add_mul,Nat.one_mul,Nat.add_comm,<- fS,List.take_append,List.take_of_length_le (Nat.le_add_right _ _),Nat.add_sub_cancel_left]
  rw [this]
  exact ⟨cs,_,rfl,h1,Gn dS k h2⟩
theorem ED {α:Type}{r:α ->List Value ->Prop}{sz:Nat}(dO:0<sz)(dS:∀ x cs,r x cs ->cs.length=sz){M:aS}{l:List α}{a:Option Addr}{n c k:Nat}(h:RS M r sz l (.slice a n c))(hk:k<=l.length):
 RS M r sz (l.take k) (.slice a k c):=by
 obtain ⟨hb,xs,hs,hl⟩:=h
 have bq:=eL dS hl
 refine ⟨by rw [List.length_take];exact Nat.le_trans (Nat.mul_le_mul_right _ (Nat.min_le_right ..)) hb,xs.take (k*sz),?_,Gn dS k hl⟩
 rcases hs with ⟨a',c',hv,rfl,zw⟩ | ⟨b,o,n',c',hv,di,hn,ha⟩
 ·injection hv with h1 h2 h3
  subst h1 h2 h3
  left
  have o7:k=0:=by
   have:l.length=0:=by
    simp only [List.length_nil] at bq
    rcases Nat.mul_eq_zero.1 bq.symm with h | h
    ·exact h
    ·omega
   omega
  subst o7
  exact ⟨a,c,rfl,by simp,zw⟩
 ·injection hv with h1 h2 h3
  subst h1 h2 h3
  right
  have yF:n=l.length:=Nat.eq_of_mul_eq_mul_right dO (hn.symm.trans bq)
  have ph:k*sz<=xs.length:=by rw [hn];exact Nat.mul_le_mul_right _ (by omega)
  refine ⟨b,o,k,c,rfl,by omega,by rw [List.length_take];omega,?_⟩
  have h2:xs=xs.take (k*sz)++xs.drop (k*sz):=(List.take_append_drop _ _).symm
  rw [h2] at ha
  exact (fz.1 ha).1
theorem Jx (a:Option Addr)(c sz:Nat):kF a c 0 sz=a:=by
 unfold kF
 split
 ·rfl
 ·cases a<;>simp [Addr.add]
theorem Qu {cols:List Co}{cv:Value}{n':Bs}{t':Int}{b:Nat}(hr:RS M ua 2 cols cv)(hb:M b=some [st n',.int .i64 t'])(hn:∀ r∈cols,r.name≠n')(T:Tm):bV Tryz.prog 135 [cv,.func (.func 136) #[] #[.pointer (some ⟨b,0,none⟩)]] T M [] [] (fun v _ _ _=>v=.bool false) aM:=by
 refine az afY rfl rfl ?_
 intro bi _
 simp +contextual only [go_sem,sevalprocAttr]
 refine aP (MO hr hb hn _) ?_
 simp +contextual only [go_sem,sevalprocAttr]
 exact ak aF.rfl' (by simp)
theorem Rl {cols:List Co}{cv:Value}(hr:RS M ua 2 cols cv)(hn:(cols.map (·.name)).Nodup)(bq:cols.length<=1000000)(T:Tm):bV Tryz.prog 90 [cv] T M [] [] (fun v _ _ _=>v=.bool false) aM:=by
 have rL:=hr
 obtain ⟨eZ,a,c,rfl,di,_,hg⟩:=ax (by decide) (fun _ _=>fQ) hr
 refine az F90 rfl rfl ?_
 intro bi _
 simp +contextual only [go_sem,aD,sevalprocAttr]
 refine aO cols.length 7 [(0,.slice a cols.length c),(5,.slice a cols.length c),(6,.int .i64 (cols.length:Int))] (fun i e h=>∃ N',aF T N'/\h=⟨N',M,[],[]⟩) 0 (by omega) (by simp only [aE,go_sem,sevalprocAttr]) (by simp only [go_sem,sevalprocAttr]) ⟨T,aF.rfl',rfl⟩ ?_
 rintro i e h hi aG ht ⟨T1,dh,rfl⟩
 simp only [aE] at aG
 by_cases aL:i<cols.length
 ·obtain ⟨b',o',cs',rfl,bQ,dV⟩:=hg i cols[i] (gq aL)
  obtain rfl:=un dV
  obtain ⟨y0,y1,_⟩:=bQ
  have hic:i<=c:=by omega
  simp +contextual only [go_sem,aD,sevalprocAttr,aG,ht,aL,y0,y1,hic]
  intro b4 T4 eN fG iI
  rw [Jx]
  refine cT afY.bd (fun M' he hL _=>Qu (aH he (fun _ _ h=>h) (ED (by decide) (fun _ _=>fQ) rL (k:=i) (by omega))) hL.1 (fun r Es=> ?_) _) ?_
  ·obtain ⟨j,hj,rfl⟩:=List.getElem_of_mem Es
   have hj':j<i:=by rw [List.length_take] at hj;omega
   rw [List.getElem_take]
   have:=List.pairwise_iff_getElem.1 hn j i (by rw [List.length_map];omega) (by rw [List.length_map];omega) hj'
   simpa using this
  simp +contextual only [go_sem,aD,sevalprocAttr,ht]
  refine aR (al (aB ⟨cols.length - (i+1),by omega,rfl,i+1,by omega,rfl,?_,?_,T4,dh.trans fG,rfl⟩))
  ·simp only [aE,aG,go_sem,sevalprocAttr]
  ·simp only [go_sem,sevalprocAttr,aA i (by omega)]
 ·have:i=cols.length:=by omega
  subst this
  simp +contextual only [go_sem,aD,sevalprocAttr,aG,ht,aL]
  exact ak dh rfl
theorem zO {rels:List Rel}{r:Rel}{cs:List Value}{be:Nat}{rv kv sv:Value}{da:Option Addr}{dn dc:Nat}(sq:M be=some [rv,.slice da dn dc,kv,sv])(cG:RS M (gU M) 14 rels rv)(hr:gU M r cs)(hn:∀ x∈rels,x.name≠r.name)(jj:(r.cols.map (·.name)).Nodup)(cM:r.cols.length<=1000000)(hl:rels.length<16)(hd:dn<8)(T:Tm):
 bV Tryz.prog 50 [.pointer (some ⟨be,0,none⟩),.agg ⟨cs⟩] T M [] [] (fun v _ _ _=>v=.int .i64 0) aM:=by
 have k0:aN M ⟨be,0,none⟩=some rv:=by simp [aN,sq]
 have k1:aN M ⟨be,1,none⟩=some (.slice da dn dc):=by simp [aN,sq]
 obtain ⟨ca,cn,s1,a1,n1,a2,n2,a3,n3,rfl,iX,hco,_⟩:=hF hr
 have aig:=cG
 obtain ⟨_,a,c,rfl,_⟩:=ax (by decide) (fun _ _=>gV) cG
 refine az F50 rfl rfl ?_
 intro bi _
 simp +contextual only [go_sem,aD,sevalprocAttr]
 intro b3 T3 ii fV gD
 refine aP (Th sq aig hn _) ?_
 simp +contextual only [go_sem,sevalprocAttr,aC ii]
 refine aP (Rl hco jj cM _) ?_
 simp +contextual only [go_sem,aD,sevalprocAttr,aC ii,k0,k1]
 rw [if_neg (by omega)]
 exact al (ak fV rfl)
theorem NF {rels:List Rel}{be i:Nat}{rv dv kv sv:Value}{name:Bs}{gr n c:Nat}{cs:List Value}(sq:M be=some [rv,dv,kv,sv])(cG:RS M (gU M) 14 rels rv)(hi:i<rels.length)(tK:rels[i].name=name)(cu:∀ (j:Nat) (h:j<rels.length),j<i ->rels[j].name≠name)(rI:∀ (j:Nat) (h:j<rels.length),j<=i ->rels[j].view=false)(bq:rels.length<=1000)
 (mP:rv=.slice (some ⟨gr,0,none⟩) n c) (bQ:At M gr (i*14) cs) (fS:gU M rels[i] cs) (T:Tm):bV Tryz.prog 55 [.pointer (some ⟨be,0,none⟩),st name] T M [] [] (fun v _ _ _=>v=.tuple ⟨[.agg ⟨cs⟩,.int .i64 (i:Int),.bool true]⟩) aM:=by
 have k0:aN M ⟨be,0,none⟩=some rv:=by simp [aN,sq]
 obtain ⟨eZ,a,c',he,di,_,hg⟩:=ax (by decide) (fun _ _=>gV) cG
 obtain rfl:=mP
 cases he
 obtain ⟨ca,cn,s1,a1,n1,a2,n2,a3,n3,rfl,iX,_⟩:=hF fS
 have y:=CP bQ
 have ZC:=rI i hi (Nat.le_refl _)
 refine az F55 rfl rfl ?_
 intro bi _
 simp +contextual only [go_sem,aD,sevalprocAttr,k0]
 intro b4 T4 eN fG iI
 refine aO rels.length 15 [(1,st name),(4,.pointer (some ⟨b4,0,none⟩)),(13,.slice (some ⟨gr,0,none⟩) rels.length c),(14,.int .i64 (rels.length:Int))] (fun j e h=>j<=i/\e 7=.int .i64 (j:Int)/\∃ N',aF T4 N'/\h=⟨N',M,[(b4,[.string (bs []),.slice none 0 0,.bool false,.int .i64 0,.int .i64 0,.int .i64 0,.int .i64 0,.int .i64 0,.string (bs []),.int .i64 0,.slice none 0 0,.slice none 0 0,.slice none 0 0,.slice none 0 0])],[]⟩) 0 (by omega) (by simp only [aE,go_sem,sevalprocAttr]) (by simp only [go_sem,sevalprocAttr]) ⟨by omega,by simp only [go_sem,sevalprocAttr],T4,aF.rfl',rfl⟩ ?_
 rintro j e h hj aG ht ⟨xi,e7,N',jW,rfl⟩
 simp only [aE] at aG
 have aL:j<rels.length:=by omega
 by_cases wO:j=i
 ·subst wO
  simp +contextual only [go_sem,aD,sevalprocAttr,aG,ht,aL,y,iX,tK,ZC]
  intro b9 T9 qy gP ut pR
  refine eG ⟨T,fun _=>none,[(b9,_)],[]⟩ (gx qy) ?_
  simp +contextual only [go_sem,sevalprocAttr,aG,iX,tK,ZC,eN,gP,e7]
  refine ⟨gx qy,al (al (ak ((fG.trans jW).trans ut) ?_))⟩
  rfl
 ·obtain ⟨b',o',cs',C7,uC,dV⟩:=hg j rels[j] (gq aL)
  cases C7
  obtain ⟨ca',cn',s1',a1',n1',a2',n2',a3',n3',rfl,acg,_⟩:=hF dV
  rw [Nat.zero_add] at uC
  have y':=CP uC
  have Bl:=cu j aL (by omega)
  have k9:=rI j aL xi
  simp +contextual only [go_sem,aD,sevalprocAttr,aG,ht,aL,y',acg,Bl,k9,e7]
  intro b9 T9 qy gP ut pR
  refine aR (al (aB ⟨rels.length - (j+1),by omega,rfl,j+1,by omega,rfl,?_,?_,by omega,?_,T9,jW.trans ut,rfl⟩))
  ·simp only [aE,aG,go_sem,sevalprocAttr]
  ·simp only [go_sem,sevalprocAttr,aA j (by omega)]
  ·simp only [go_sem,sevalprocAttr,aA j (by omega)]
variable {M:aS}
theorem Nm {rels:List Rel}{be:Nat}{rv dv kv sv:Value}(hr:RS M (gU M) 14 rels rv)(hv:∀ r∈rels,r.view=false)(bq:rels.length<=1000)(hc:∀ r∈rels,r.cols.length<=1048576)(T:Tm):
 bV Tryz.prog 51 [.pointer (some ⟨be,0,none⟩)] T M [(be,[rv,dv,kv,sv])] [] (fun v M' L' _=>v=.int .i64 0/\L'=[(be,[rv,dv,.slice none 0 0,sv])]) aM:=by
 have rL:=hr
 obtain ⟨eZ,a,c,rfl,di,_,hg⟩:=ax (by decide) (fun _ _=>gV) hr
 refine az F51 rfl rfl ?_
 intro bi im
 have nb:=bi.1
 simp +contextual only [go_sem,sevalprocAttr,aC nb]
 refine aI (vh rL (by omega) hc _) ?_
 rintro v M1 aV bG k9
 have nb1:=bG.1
 obtain ⟨_,ta,tc,rfl,_⟩:=ax (by decide) (fun _ _=>dE) k9
 simp +contextual only [go_sem,aD,sevalprocAttr,aC nb1]
 refine aO rels.length 21 [(0,.pointer (some ⟨be,0,none⟩)),(19,.slice a rels.length c),(20,.int .i64 (rels.length:Int))] (fun i e h=>∃ N',aF T N'/\h=⟨N',M1,[(be,[.slice a rels.length c,dv,.slice none 0 0,sv])],[]⟩) 0 (by omega) (by simp only [aE,go_sem,sevalprocAttr]) (by simp only [go_sem,sevalprocAttr]) ⟨T,aF.rfl',rfl⟩ ?_
 rintro i e h hi aG ht ⟨N',jW,rfl⟩
 simp only [aE] at aG
 by_cases aL:i<rels.length
 ·obtain ⟨b',o',cs',rfl,bQ,dV⟩:=hg i rels[i] (gq aL)
  obtain ⟨ca,cn,s1,a1,n1,a2,n2,a3,n3,rfl,iX,_⟩:=hF dV
  have y:=CP (bQ.ext aV)
  have ZC:=hv _ (gm aL)
  simp +contextual only [go_sem,aD,sevalprocAttr,aG,ht,aL,y,iX,ZC]
  intro b5 T5 j6 ea lG oQ
  refine aR (al (aB ⟨rels.length - (i+1),by omega,rfl,i+1,by omega,rfl,?_,?_,T5,jW.trans lG,rfl⟩))
  ·simp only [aE,aG,go_sem,sevalprocAttr]
  ·simp only [go_sem,sevalprocAttr,aA i (by omega)]
 ·have:i=rels.length:=by omega
  subst this
  simp +contextual only [go_sem,aD,sevalprocAttr,aG,ht,aL]
  exact aQ jW rfl rfl ⟨rfl,rfl⟩
theorem vr {M:aS}:∀ {A B:LL},lV M (A++B) ->lV M A/\lV M B
 | [],_,h=>⟨trivial,h⟩
 | (_,_)::_,_,h=>⟨⟨h.1,(vr h.2).1⟩,(vr h.2).2⟩
theorem oT {α:Type}{el:TypeId}{sz:Nat}{r r':α ->List Value ->Prop}{M M':aS}{N:Tm}{l:List α}{lv:Value}{L:LL}(h:dW el sz r M N l lv L)(hr:∀ x cs,r x cs ->r' x cs)(hL:lV M' L)(hb:l.length*sz<=4398046511104):RS M' r' sz l lv:=by
 rcases h with ⟨rfl,rfl,rfl⟩ | ⟨g,cap,cs,junk,rfl,rfl,hN,fM,iH,hc,di,_⟩
 ·exact bu
 ·refine ⟨hb,cs,.inr ⟨g,0,l.length,cap,rfl,di,iH,?_⟩,dl hr fM⟩
  exact lf hL.1 _ 0 (fun i v hv=>by
   rw [Nat.zero_add,List.getElem?_append_left (by exact (List.getElem?_eq_some_iff.1 hv).1)];exact hv)
theorem lL {M:aS}(r:Rel)(cs:List Value)(h:gU M r cs):∀ u∈cs,u.oneCell'=true:=by
 obtain ⟨c,p,h1,h2,rfl⟩:=h
 obtain ⟨_,a,n,rfl,_⟩:=ax (by decide) (fun _ _=>fQ) h1
 intro u hu
 rcases wZ hu with hu | hu
 ·simp only [mn] at hu
  rcases hu with rfl | rfl | rfl<;>rfl
 ·exact yW h2 u hu
theorem Qv {T2:Tm}{h:Sh}{b b':Nat}{cs cs':List Value}(h1:fO ⟨T2,fun _=>none,[(b,cs)],[]⟩ h)(h2:fO ⟨T2,fun _=>none,[(b',cs')],[]⟩ h):fO ⟨T2,fun _=>none,[(b,cs),(b',cs')],[]⟩ h:=by
 intro a v hv
 by_cases hb:a.block=b
 ·exact h1 a v (by simpa [Sh.cell,eD,hb] using hv)
 ·exact h2 a v (by simpa [Sh.cell,eD,hb] using hv)
theorem jl {T0 T:Tm}{M:aS}{b b':Nat}{cs cs':List Value}{L2:LL}{R:RR}(hb:M b=none)(C7:M b'=none)(cu:¬ b'=b/\¬ b=b')(L1:LL)(h1:bf b L1)(h2:bf b' L1):fO ⟨T0,fun _=>none,[(b,cs),(b',cs')],[]⟩ ⟨T,M,L1++(b,cs)::(b',cs')::L2,R⟩:=by
 refine Qv (jX L1 hb h1) ?_
 have:=jX (T0:=T0) (T:=T) (L1++[(b,cs)]) (L2:=L2) (R:=R) (cs:=cs') C7 (show bf b' (L1++[(b,cs)]) by
  clear h1
  induction L1 with
  | nil=>exact ⟨cu,trivial⟩
  | cons p l ih=>obtain ⟨k,c⟩:=p;exact ⟨h2.1,ih h2.2⟩)
 rwa [List.append_assoc] at this
section
variable {α:Type} {el:TypeId} {sz:Nat} {r:α ->List Value ->Prop} {M:aS} {N:Tm} {l:List α} {lv:Value} {L:LL}
theorem fN {P:Program}{F:Fi}{s:List Vc.Item}{e:dp}{ds:List Deferred}{dd:Option Nat}{R:RR}{t:TypeId}{z:List Value}{b:Nat}{x:α}{cs:List Value}{LA:LL}(L0 L1 L2:LL)(hLA:LA=L0++(b,cs)::(L1++(L++L2)))(ah0:bf b L0)(hu:P.underlying t=some (.slice el))(bP:dR P t=some (el,sz,z))(cB:j8 P t=true)
 (h:dW el sz r M N l lv L) (hx:r x cs) (bq:cs.length=sz) (dt:∀ u∈cs,u.oneCell'=true) (hb:M b=none) (hl:l.length*sz+sz<=4398046511104) (dO:0<sz)
 (k:∀ N' lv' g cs',aF N N' ->bf g (L0++(b,cs)::(L1++L2)) ->dW el sz r M N' (l++[x]) lv' [(g,cs')] ->cy P F s (cI e dd lv') ds ⟨N',M,(g,cs')::(L0++(b,cs)::(L1++L2)),R⟩ ⟨⟩):nG P F t t lv (.slice (some ⟨b,0,none⟩) 1 1) dd s e ds ⟨N,M,LA,R⟩ ⟨⟩:=by
 subst hLA
 have hs:∀ L2:LL,Srcs P t sz ⟨N,M,L0++(b,cs)::L2,R⟩ (.slice (some ⟨b,0,none⟩) 1 1) cs:=fun L2=> .slice _ 1 _ _ _ hu (cD L0 hb ah0 (by rw [bq,Nat.one_mul])) dt
 have fin:∀ (xs:List Value),RL r l xs ->xs.length=l.length*sz ->ME lv el sz xs ⟨N,M,L0++(b,cs)::(L1++(L++L2)),R⟩ (L0++(b,cs)::(L1++L2)) ->nG P F t t lv (.slice (some ⟨b,0,none⟩) 1 1) dd s e ds ⟨N,M,L0++(b,cs)::(L1++(L++L2)),R⟩ ⟨⟩:=by
  intro xs fM iH ye
  refine DN bP cB ye (hs _) (hs _) (by omega) (by omega) ?_
  intro N' g m c junk jW hNg hMg uT hm hmc di
  have DT:m=(l++[x]).length:=by
   rw [List.length_append];simp only [ln]
   rw [iH,bq] at hm
   exact Nat.eq_of_mul_eq_mul_right dO (by rw [Nat.add_mul];omega)
  subst DT
  exact k N' _ g _ jW uT (.inr ⟨g,c,xs++cs,junk,rfl,rfl,hNg,cP fM ⟨cs,[],by simp,hx,rfl⟩,by rw [List.length_append,List.length_append,iH,bq,Nat.add_mul];simp,di,hmc,hMg⟩)
 rcases h with ⟨rfl,rfl,rfl⟩ | ⟨g,cap,xs,junk,rfl,rfl,hN,fM,iH,hc,di,_⟩
 ·exact fin [] rfl (by simp) (.inl ⟨rfl,rfl,by simp⟩)
 ·exact fin xs fM iH (.inr ⟨g,_,cap,junk,L0++(b,cs)::L1,L2,rfl,hN,by simp,by simp,iH,hc,di⟩)
end
theorem kq {b:Nat}:∀ {A B:LL},bf b (A++B) ↔ bf b A/\bf b B
 | [],B=>by simp [bf]
 | (k,c)::A,B=>by simp only [List.cons_append,bf,kq (A:=A),and_assoc]
def iy (s:Stm):Rel:=⟨s.name,s.cols,false,o9⟩
set_option maxHeartbeats 1000000 in
theorem AX {F:Fi}{k:List Vc.Item}{e:dp}{ds:List Deferred}{dd:Option Nat}{N:Tm}{Lr Ld:LL}{be sb so bx:Nat}{cx:List Value}{s:Stm}{sc:List Value}{rels:List Rel}{data:List (List Z)}{rv dv kv sv:Value}(bQ:At M sb so sc)(hs:my M s sc)
 (hr:dW 123 14 (gU M) M N rels rv Lr) (hd:dW 33 1 (RD M) M N data dv Ld) (bi:aJ M ((be,[rv,dv,kv,sv])::(Lr++(Ld++[(bx,cx)])))) (im:hY ((be,[rv,dv,kv,sv])::(Lr++(Ld++[(bx,cx)]))))
 (hn:∀ x∈rels,x.name≠s.name) (hv:∀ x∈rels,x.view=false) (hc:∀ x∈rels,x.cols.length<=1048576) (jj:(s.cols.map (·.name)).Nodup) (cM:s.cols.length<=1000000) (wJ:rels.length<16) (xu:data.length<8)
 (hk:∀ N' M' rv' dv' gr cr gd cd,aF N N' ->bm M M' ->dW 123 14 (gU M') M' N' (rels++[iy s]) rv' [(gr,cr)] ->dW 33 1 (RD M') M' N' (data++[[]]) dv' [(gd,cd)] ->aJ M' [(be,[rv',dv',.slice none 0 0,sv]),(gr,cr),(gd,cd),(bx,cx)] ->hY [(be,[rv',dv',.slice none 0 0,sv]),(gr,cr),(gd,cd),(bx,cx)] ->
  cy Tryz.prog F k (cI e dd (.int .i64 0)) ds ⟨N',M',[(be,[rv',dv',.slice none 0 0,sv]),(gr,cr),(gd,cd),(bx,cx)],[]⟩ ⟨⟩):
 dx Tryz.prog F 29 [.pointer (some ⟨be,0,none⟩),.pointer (some ⟨sb,so,none⟩)] dd k e ds ⟨N,M,(be,[rv,dv,kv,sv])::(Lr++(Ld++[(bx,cx)])),[]⟩ ⟨⟩:=by
 obtain ⟨ac,ad,ap,aq,ao,an,ar,ae,au,av,aw,rfl,hco,_⟩:=nQ hs
 obtain ⟨y0,y1,y2,_⟩:=bQ
 obtain ⟨ra,rc,rfl⟩:=cU hr
 obtain ⟨da,dc,rfl⟩:=cU hd
 have nb:=bi.1
 have ab:=im.1
 have abx:¬ be=bx/\¬ bx=be:=(kq.1 (kq.1 ab).2).2.1
 refine yz F29 rfl rfl ?_
 simp +contextual only [go_sem,sevalprocAttr]
 refine aX ?_
 simp +contextual only [go_sem,sevalprocAttr,y1,y2]
 intro b5 T5 j6 ea lG oQ
 refine ⟨dK bm.rfl' bi ea,?_⟩
 refine cT F50.bd (fun M' he hL _=>zO (r:=iy s) hL.2.1 (oT hr (dP he) (vr hL.2.2).1 (by omega)) ⟨_,_,aH he (fun _ _ h=>h) hco,pM,rfl⟩ hn jj cM wJ xu _) ?_
 simp +contextual only [go_sem,aD,sevalprocAttr]
 refine l5 (fun e' ds h=>ds=[]/\e' 0=.pointer (some ⟨be,0,none⟩)/\∃ N' rv' dv' gr cr gd cd L',aF T5 N'/\dW 123 14 (gU M) M N' (rels++[iy s]) rv' [(gr,cr)]/\dW 33 1 (RD M) M N' (data++[[]]) dv' [(gd,cd)]/\h=⟨N',M,L',[]⟩/\(be,[rv',dv',kv,sv])∈L'/\(gr,cr)∈L'/\(gd,cd)∈L'/\(bx,cx)∈L'/\gr≠be/\gd≠be/\gr≠gd/\gr≠bx/\gd≠bx) ?_ ?_
 ·intro S' eY
  refine eG ⟨T5,fun _=>none,[(b5,_),(be,_)],[]⟩ (jl j6 nb ⟨ea.1.2,ea.1.1⟩ [] trivial trivial) ?_
  simp +contextual only [go_sem,sevalprocAttr,ea.1]
  have alH:=ea.1
  have tP:¬ be=b5/\¬ b5=be:=⟨ea.1.2,ea.1.1⟩
  have hR:gU M (iy s) [.string (bs s.name),.slice ac s.cols.length ad,.bool false,.int .i64 0,.int .i64 0,.int .i64 0,.int .i64 0,.int .i64 0,.string (bs []),.int .i64 0,.slice none 0 0,.slice none 0 0,.slice none 0 0,.slice none 0 0]:=⟨_,_,hco,pM,rfl⟩
  have hZ:RD M [] [.slice none 0 0]:=⟨_,rfl,bu⟩
  constructor
  ·intro b29 XM gT
   refine ⟨jl j6 nb tP [(b29,_)] (by simp [bf,gT]) (by simp [bf,gT]),?_⟩
   constructor
   ·refine BU (L1:=[(b5,_),(be,_)]) (Tryz.underlying87) zB yw (x:=iy s) (eA lG hr) hR rfl (lL _ _ hR) XM (by omega) (by decide) ?_
    intro N4 lv' gr cr Bg eR rC
    simp only [bf,kq,nn] at eR
    obtain ⟨la,lc,rfl⟩:=cU rC
    simp +contextual only [go_sem,sevalprocAttr]
    refine ⟨jl j6 nb tP [(gr,_),(b29,_)] (by simp [bf,gT,eR]) (by simp [bf,gT,eR]),?_⟩
    intro b35 Tt ir
    refine ⟨jl j6 nb tP [(b35,_),(gr,_),(b29,_)] (by simp [bf,gT,eR,ir]) (by simp [bf,gT,eR,ir]),?_⟩
    refine fN [] [(gr,_),(b29,_),(b5,_),(be,_)] [(bx,cx)] rfl trivial (Tryz.underlying88) wl vD (x:=([]:List Z)) (eA (lG.trans Bg) hd) hZ rfl (by simp [Value.oneCell']) Tt (by omega) (by decide) ?_
    intro N5 dv' gd cd sd lT Bi
    simp only [bf,nn] at lT
    obtain ⟨wa,wc,rfl⟩:=cU Bi
    simp +contextual only [go_sem,sevalprocAttr,gT,eR,ir,lT,tP]
    refine ⟨jl j6 nb tP [(gd,_),(b35,_),(gr,_),(b29,_)] (by simp [bf,gT,eR,ir,lT]) (by simp [bf,gT,eR,ir,lT]),?_⟩
    exact eY _ _ _ ⟨rfl,by simp only [go_sem,sevalprocAttr],N5,_,_,gr,cr,gd,cd,_,Bg.trans sd,eA sd rC,Bi,rfl,by simp,by simp,by simp,by simp,by simp [eR],by simp [lT],by simp [lT],by simp [eR],by simp [lT]⟩
   ·intro b35 Tt ir
    refine ⟨jl j6 nb tP [(b35,_),(b29,_)] (by simp [bf,gT,ir]) (by simp [bf,gT,ir]),?_⟩
    refine fN [(b35,_)] [(b5,_),(be,_)] (Ld++[(bx,cx)]) rfl (by simp [bf,ir]) (Tryz.underlying87) zB yw (x:=iy s) (eA lG hr) hR rfl (lL _ _ hR) XM (by omega) (by decide) ?_
    intro N4 lv' gr cr Bg eR rC
    simp only [bf,kq,nn] at eR
    obtain ⟨la,lc,rfl⟩:=cU rC
    simp +contextual only [go_sem,sevalprocAttr]
    refine ⟨jl j6 nb tP [(gr,_),(b35,_),(b29,_)] (by simp [bf,gT,eR,ir]) (by simp [bf,gT,eR,ir]),?_⟩
    refine fN [(gr,_)] [(b29,_),(b5,_),(be,_)] [(bx,cx)] rfl (by simp [bf,eR]) (Tryz.underlying88) wl vD (x:=([]:List Z)) (eA (lG.trans Bg) hd) hZ rfl (by simp [Value.oneCell']) Tt (by omega) (by decide) ?_
    intro N5 dv' gd cd sd lT Bi
    simp only [bf,nn] at lT
    obtain ⟨wa,wc,rfl⟩:=cU Bi
    simp +contextual only [go_sem,sevalprocAttr,gT,eR,ir,lT,tP]
    exact ⟨jl j6 nb tP [(gd,_),(gr,_),(b35,_),(b29,_)] (by simp [bf,gT,eR,ir,lT]) (by simp [bf,gT,eR,ir,lT]),eY _ _ _ ⟨rfl,by simp only [go_sem,sevalprocAttr],N5,_,_,gr,cr,gd,cd,_,Bg.trans sd,eA sd rC,Bi,rfl,by simp,by simp,by simp,by simp,by simp [eR],by simp [lT],by simp [lT],by simp [eR],by simp [lT]⟩⟩
  ·intro b35 Tt ir
   refine ⟨jl j6 nb tP [(b35,_)] (by simp [bf,ir]) (by simp [bf,ir]),?_⟩
   intro b29 XM gT
   refine ⟨jl j6 nb tP [(b29,_),(b35,_)] (by simp [bf,gT,ir]) (by simp [bf,gT,ir]),?_⟩
   refine fN [] [(b35,_),(b5,_),(be,_)] (Ld++[(bx,cx)]) rfl trivial (Tryz.underlying87) zB yw (x:=iy s) (eA lG hr) hR rfl (lL _ _ hR) XM (by omega) (by decide) ?_
   intro N4 lv' gr cr Bg eR rC
   simp only [bf,kq,nn] at eR
   obtain ⟨la,lc,rfl⟩:=cU rC
   simp +contextual only [go_sem,sevalprocAttr]
   refine ⟨jl j6 nb tP [(gr,_),(b29,_),(b35,_)] (by simp [bf,gT,eR,ir]) (by simp [bf,gT,eR,ir]),?_⟩
   refine fN [(gr,_),(b29,_)] [(b5,_),(be,_)] [(bx,cx)] rfl (by simp [bf,eR,gT]) (Tryz.underlying88) wl vD (x:=([]:List Z)) (eA (lG.trans Bg) hd) hZ rfl (by simp [Value.oneCell']) Tt (by omega) (by decide) ?_
   intro N5 dv' gd cd sd lT Bi
   simp only [bf,nn] at lT
   obtain ⟨wa,wc,rfl⟩:=cU Bi
   simp +contextual only [go_sem,sevalprocAttr,gT,eR,ir,lT,tP]
   exact ⟨jl j6 nb tP [(gd,_),(gr,_),(b29,_),(b35,_)] (by simp [bf,gT,eR,ir,lT]) (by simp [bf,gT,eR,ir,lT]),eY _ _ _ ⟨rfl,by simp only [go_sem,sevalprocAttr],N5,_,_,gr,cr,gd,cd,_,Bg.trans sd,eA sd rC,Bi,rfl,by simp,by simp,by simp,by simp,by simp [eR],by simp [lT],by simp [lT],by simp [eR],by simp [lT]⟩⟩
 rintro e' ds' h' ⟨rfl,e0,N',rv',dv',gr,cr,gd,cd,L',jW,rC,Bi,rfl,m1,m2,m3,m4,n1,n2,n3,n4,n5⟩
 simp +contextual only [go_sem,sevalprocAttr,e0]
 refine cL (k:=fun h'=>h'=⟨N',M,[(be,[rv',dv',kv,sv]),(gr,cr),(gd,cd),(bx,cx)],[]⟩) (jE (L2:=[(be,[rv',dv',kv,sv]),(gr,cr),(gd,cd),(bx,cx)]) (by simp [m1,m2,m3,m4]) (by simp [aY,n3,n4,n5,Ne.symm n1,Ne.symm n2,abx]) (aB rfl)) ?_ F51.bd
 rintro h' rfl
 have g1:=jy rC
 have g2:=jy Bi
 have hnx:=(jF (jF bi.2)).1
 have Hf:aJ M [(gr,cr),(gd,cd),(bx,cx)]:=⟨g1.1,g2.1,hnx,trivial⟩
 have hE:=gY Hf
 refine lO [(be,[rv',dv',kv,sv])] [(gr,cr),(gd,cd),(bx,cx)] (A4 _) (Nm (oT rC (dP hE) ⟨by simp [fk,aS.add],trivial⟩ (by rw [List.length_append];simp only [ln];omega)) (fun r Es=> ?_) (by rw [List.length_append];simp only [ln];omega) (fun r Es=> ?_) _) ?_
 ·rcases wZ Es with h | h
  ·exact hv r h
  ·rw [List.mem_singleton.1 h];rfl
 ·rcases wZ Es with h | h
  ·exact hc r h
  ·rw [List.mem_singleton.1 h];exact Nat.le_trans cM (by decide)
 rintro r M2 L2 bh lh aZ ⟨rfl,rfl⟩
 have uB:=nK Hf bh
 simp +contextual only [go_sem,sevalprocAttr]
 exact hk _ _ _ _ _ _ _ _ (lG.trans jW) uB (fj (dP uB) ⟨aZ.2.1,trivial⟩ rC) (fj (dz uB) ⟨aZ.2.2.1,trivial⟩ Bi) aZ ⟨⟨⟨Ne.symm n1,n1⟩,⟨Ne.symm n2,n2⟩,abx,trivial⟩,⟨⟨n3,Ne.symm n3⟩,⟨n4,Ne.symm n4⟩,trivial⟩,⟨⟨n5,Ne.symm n5⟩,trivial⟩,trivial,trivial⟩
mutual
def gEx:Ex ->Bool
 | .mk _ _ _ kids=>Ds kids
def Ds:List Ex ->Bool
 | []=>true
 | x::l=>(x.k !=0 && gEx x) && Ds l
end
def agk (l:List Ag):Bool:=l.all fun a=>a.k !=0 && gEx a.x
mutual
def gPl:Pl ->Bool
 | .mk _ _ x xs ags kids=>(gEx x && Ds xs) && (agk ags && RN kids)
def RN:List Pl ->Bool
 | []=>true
 | p::l=>(p.k !=0 && gPl p) && RN l
end
section
variable {M2:aS} {Lp:LL}
theorem J2 {M:aS}{x:Ex}{cs:List Value}(h:ij M x cs):cs[0]?=some (.int .i64 x.k):=by
 obtain ⟨s,rfl,_⟩:=iQ.1 h;rfl
mutual
theorem xD (hz:l6 M2 Lp):∀ (x:Ex) (cs:List Value),gEx x=true ->ij M2 x cs ->ij (lg M2 Lp) x cs
 | .mk k v c kids,cs,hg,⟨s,xs,h1,h2,h3,h4⟩=>⟨s,xs,h1,h2,Jz hz (fun h0=>by
  cases kids with
  | nil=>exact absurd h4 h0
  | cons x l=>
   obtain ⟨cs,rest,rfl,h5,_⟩:=h4
   rw [gEx,Ds] at hg
   simp only [Bool.and_eq_true,bne_iff_ne,ne_eq] at hg
   have:=J2 h5
   exact ⟨0,.i64,x.k,by rw [List.getElem?_append_left (List.getElem?_eq_some_iff.1 this).1];exact this,hg.1.1⟩) h3,Gv hz kids xs hg h4⟩
theorem Gv (hz:l6 M2 Lp):∀ (l:List Ex) (xs:List Value),Ds l=true ->DG M2 l xs ->DG (lg M2 Lp) l xs
 | [],_,_,h=>h
 | x::l,xs,hg,⟨cs,rest,h1,h2,h3⟩=>by
  rw [Ds] at hg
  simp only [Bool.and_eq_true] at hg
  exact ⟨cs,rest,h1,xD hz x cs hg.1.2 h2,Gv hz l rest hg.2 h3⟩
end
theorem yR:∀ {l:List Ex},Ds l=true ->∀ x∈l,x.k≠0/\gEx x=true
 | y::l,h,x,hx=>by
  rw [Ds] at h
  simp only [Bool.and_eq_true,bne_iff_ne,ne_eq] at h
  rcases mY hx with rfl | hx
  ·exact h.1
  ·exact yR h.2 x hx
theorem XN (hz:l6 M2 Lp){l:List Ex}{v:Value}(hg:Ds l=true)(h:RS M2 (ij M2) 6 l v):RS (lg M2 Lp) (ij (lg M2 Lp)) 6 l v:=
 vl hz (fun x hx cs h=>xD hz x cs (yR hg x hx).2 h) (fun x hx cs h=>⟨0,.i64,x.k,J2 h,(yR hg x hx).1⟩) h
theorem To (hz:l6 M2 Lp){l:List Ag}{v:Value}(hg:agk l=true)(h:RS M2 (AG M2) 7 l v):RS (lg M2 Lp) (AG (lg M2 Lp)) 7 l v:=by
 have hm:∀ a∈l,a.k≠0/\gEx a.x=true:=fun a ha=>by
  have:=List.all_eq_true.1 hg a ha
  simpa using this
 exact vl hz (fun a ha cs h=>by obtain ⟨c,h1,h2⟩:=h;exact ⟨c,xD hz a.x c (hm a ha).2 h1,h2⟩) (fun a ha cs h=>by obtain ⟨c,h1,rfl⟩:=h;exact ⟨0,.i64,a.k,rfl,(hm a ha).1⟩) h
theorem Yh {M:aS}{p:Pl}{cs:List Value}(h:gR M p cs):cs[0]?=some (.int .i64 p.k):=by
 obtain ⟨xc,xv,av,s,rfl,_⟩:=j0.1 h;rfl
mutual
theorem K5 (hz:l6 M2 Lp):∀ (p:Pl) (cs:List Value),gPl p=true ->gR M2 p cs ->gR (lg M2 Lp) p cs
 | .mk k n x xs ags kids,cs,hg,⟨xc,xv,av,s,ys,h1,h2,h3,h4,h5,h6,h7⟩=>by
  rw [gPl] at hg
  simp only [Bool.and_eq_true] at hg
  refine ⟨xc,xv,av,s,ys,h1,xD hz x xc hg.1.1 h2,XN hz hg.1.2 h3,To hz hg.2.1 h4,h5,Jz hz (fun h0=> ?_) h6,GC hz kids ys hg.2.2 h7⟩
  cases kids with
  | nil=>exact absurd h7 h0
  | cons q l=>
   obtain ⟨cs,rest,rfl,h8,_⟩:=h7
   have xb:=hg.2.2
   rw [RN] at xb
   simp only [Bool.and_eq_true,bne_iff_ne,ne_eq] at xb
   have:=Yh h8
   exact ⟨0,.i64,q.k,by rw [List.getElem?_append_left (List.getElem?_eq_some_iff.1 this).1];exact this,xb.1.1⟩
theorem GC (hz:l6 M2 Lp):∀ (l:List Pl) (xs:List Value),RN l=true ->CC M2 l xs ->CC (lg M2 Lp) l xs
 | [],_,_,h=>h
 | p::l,xs,hg,⟨cs,rest,h1,h2,h3⟩=>by
  rw [RN] at hg
  simp only [Bool.and_eq_true] at hg
  exact ⟨cs,rest,h1,K5 hz p cs hg.1.2 h2,GC hz l rest hg.2 h3⟩
end
theorem SX (hz:l6 M2 Lp){l:List Co}{v:Value}(hg:∀ c∈l,c.ty≠0)(h:RS M2 ua 2 l v):RS (lg M2 Lp) ua 2 l v:=
 vl hz (fun _ _ _ h=>h) (fun c hc cs h=>⟨1,.i64,c.ty,by obtain rfl:=un h;rfl,hg c hc⟩) h
theorem Vt (hz:l6 M2 Lp){l:List (List Int)}{v:Value}(hg:∀ t∈l,∀ k∈t,k≠0)(hf:∀ b o n c,v=.slice (some ⟨b,o,none⟩) n c ->b∉aY Lp)(h:RS M2 (ms M2) 1 l v):RS (lg M2 Lp) (ms (lg M2 Lp)) 1 l v:=by
 obtain ⟨hb,xs,iG,wJ⟩:=h
 refine ⟨hb,xs,?_,uj (fun t ht cs h=>by obtain ⟨s,h1,h2⟩:=h;exact ⟨s,h1,vl hz (fun _ _ _ h=>h) (fun k hk cs h=>⟨0,.i64,k,by unfold RI at h;subst h;rfl,hg t ht k hk⟩) h2⟩) wJ⟩
 rcases iG with h | ⟨b,o,n,c,rfl,h2,h3,h4⟩
 ·exact .inl h
 ·refine .inr ⟨b,o,n,c,rfl,h2,h3,xt ?_ h4⟩
  show (if b∈aY Lp then none else M2 b)=_
  rw [if_neg (hf b o n c rfl)]
theorem GV {M:aS}:∀ {L:LL} {b:Nat} {c:List Value},(aY L).Nodup ->(b,c)∈L ->fk M L b=some c
 | (k,x)::l,b,c,hn,h=>by
  simp only [aY,List.map_cons,List.nodup_cons] at hn
  show (if b=k then some x else fk M l b)=some c
  rcases mY h with h | h
  ·injection h with h1 h2;subst h1 h2;rw [if_pos rfl]
  ·have eZ:b≠k:=fun he=>hn.1 (by rw [<- he];exact List.mem_map.2 ⟨(b,c),h,rfl⟩)
   rw [if_neg eZ,GV hn.2 h]
def Cn (L:LL):Prop:=∀ b c,(b,c)∈L ->∀ u∈c,mC u
theorem yl {M:aS}(hn:(aY Lp).Nodup)(hz:Cn Lp)(he:bm (fk M Lp) M2):l6 M2 Lp:=fun b c h=>⟨he _ _ (GV hn h),hz b c h⟩
end
section
variable {F:Fi} {k:List Vc.Item} {e:dp} {ds:List Deferred} {dd:Option Nat} {N:Tm} {M:aS} {L Lp:LL}
theorem Nv {rels:List Rel}{rv:Value}(hp:Dl Lp L)(hn:(aY Lp).Nodup)(hz:Cn Lp)(bi:aJ M L)(hr:RS (fk M Lp) (gU (fk M Lp)) 14 rels rv)(bq:rels.length<=1048576)(eC:∀ r∈rels,r.cols.length<=1048576/\∀ c∈r.cols,c.ty≠0)
 (hk:∀ M' tv,bm M M' ->aJ M' L ->RS M' (ms M') 1 (bN rels) tv ->cy Tryz.prog F k (cI e dd tv) ds ⟨N,M',L,[]⟩ ⟨⟩):dx Tryz.prog F 54 [rv] dd k e ds ⟨N,M,L,[]⟩ ⟨⟩:=by
 refine lO [] Lp hp (zD hr bq (fun r h=>(eC r h).1) _) ?_
 rintro r M2 L2 bh lh aZ ⟨cG,hf⟩
 obtain rfl:L2=[]:=by simpa [aY] using lh
 refine hk _ _ (nK (sT (nT hp) bi) bh) aZ (Vt (yl hn hz bh) ?_ (sr hf) cG)
 intro t ht x hx
 unfold bN at ht
 obtain ⟨r',Es,rfl⟩:=List.mem_map.1 ht
 obtain ⟨c,hc,rfl⟩:=List.mem_map.1 hx
 exact (eC r' (List.mem_filter.1 Es).1).2 c hc
theorem Gb {rels:List Rel}{rv:Value}{q:Q}{qc:List Value}{w:Pl×List Co}(hp:Dl Lp L)(hn:(aY Lp).Nodup)(hz:Cn Lp)(bi:aJ M L)(hr:RS (fk M Lp) (gU (fk M Lp)) 14 rels rv)(hq:RQ M q qc)(bq:rels.length<=1048576)(eC:∀ r∈rels,r.cols.length<=1048576)(cB:∀ s∈q.parts,OkSe s)
 (adg:q.parts.length<=q.ops.length+1) (s9:q.parts.length<=1048576) (Ww:0<=q.limit ->q.order.length<=1048576/\∀ x∈q.order,D6 x) (ZU:∀ r t,jp rels q=.ok r ->fq (bN rels) r.1=.ok t ->t.length<=r.2.length) (hb:il rels q=.ok w) (hgp:gPl w.1=true) (Hx:∀ c∈w.2,c.ty≠0)
 (hk:∀ M' cs cv,bm M M' ->aJ M' L ->gR M' w.1 cs ->RS M' ua 2 w.2 cv ->cy Tryz.prog F k (cI e dd (.tuple ⟨[.agg ⟨cs⟩,cv,.int .i64 0]⟩)) ds ⟨N,M',L,[]⟩ ⟨⟩):dx Tryz.prog F 52 [rv,.agg ⟨qc⟩] dd k e ds ⟨N,M,L,[]⟩ ⟨⟩:=by
 have Hf:=sT (nT hp) bi
 refine lO [] Lp hp (vm hr (Jd (gY Hf) _ _ hq) bq eC cB adg s9 Ww (fun e' he=> ?_) ZU _) ?_
 ·unfold il at hb;rw [he] at hb;cases hb
 rintro r M2 L2 bh lh aZ iC
 obtain rfl:L2=[]:=by simpa [aY] using lh
 unfold mV at iC
 rw [hb] at iC
 obtain ⟨cs,cv,rfl,h1,h2⟩:=iC
 have hs:=yl hn hz bh
 exact hk _ _ _ (nK Hf bh) aZ (K5 hs _ _ hgp h1) (SX hs Hx h2)
theorem aaU {aW:List (List Int)}{p:Pl}{pc:List Value}{data:List (List Z)}{tv dv:Value}{c:List Int}{z0:List Z}(hp:Dl Lp L)(hn:(aY Lp).Nodup)(hz:Cn Lp)(bi:aJ M L)(nl:RS M (ms M) 1 aW tv)(s9:gR M p pc)(hd:RS (fk M Lp) (RD (fk M Lp)) 1 data dv)(rk:fq aW p=.ok c)(Zx:Bc aW p data=.ok z0)(lU:wz p=true)(hg:mO z0)
 (hk:∀ N' M' bv zv,aF N N' ->bm M M' ->M' bv=none ->bf bv L ->aJ M' L ->RS M' (RZ M') 2 z0 zv ->cy Tryz.prog F k (cI e dd (.tuple ⟨[.pointer (some ⟨bv,0,none⟩),.int .i64 0]⟩)) ds ⟨N',M',(bv,gW tv pc dv zv)::L,[]⟩ ⟨⟩):dx Tryz.prog F 53 [tv,.agg ⟨pc⟩,dv] dd k e ds ⟨N,M,L,[]⟩ ⟨⟩:=by
 have akI:=s9
 obtain ⟨s1,a1,n1,a2,n2,a3,n3,rfl,ox,_⟩:=du s9
 obtain ⟨_,da,dc,rfl,_⟩:=ax (by decide) (fun _ _=>iq) hd
 obtain ⟨_,ta,tc,rfl,_⟩:=ax (by decide) (fun _ _=>dE) nl
 unfold OG gW at*
 simp only [List.nil_append,List.cons_append] at*
 refine yz F53 rfl rfl ?_
 simp +contextual only [go_sem,sevalprocAttr]
 intro b4 T4 eN eE fG iI
 refine cZ F96.bd fun M1 aV h4 bG=> ?_
 have Hf:=sT (nT hp) bG
 have hE:=gY Hf
 refine lO [] Lp hp (Vy (aH (aV.trans hE) (cW (aV.trans hE)) nl) (bA (aV.trans hE) _ _ akI) (aH (jV aV _) (dz (jV aV _)) hd) (fun e' he=>by rw [rk] at he;cases he) lU _) ?_
 rintro r M2 L2 bh lh aZ hv
 obtain rfl:L2=[]:=by simpa [aY] using lh
 rw [Zx] at hv
 obtain ⟨s,rfl,hs⟩:=hv
 have hs:=DM (yl hn hz bh) hg hs
 obtain ⟨_,sa,sc,rfl,_⟩:=ax (by decide) (fun _ _=>br) hs
 have uB:=nK Hf bh
 have y:=lf (uB _ _ h4) _ 0 (fun i v h=>by rw [Nat.zero_add];exact h)
 obtain ⟨y0,y1,y2,y3,y4,y5,y6,y7,y8,y9,y10,_⟩:=y
 simp +contextual only [go_sem,aD,sevalprocAttr,y0,y1,y2,y3,y4,y5,y6,y7,y8,y9,y10]
 intro bv T5 j6 ea lG oQ
 exact hk _ _ _ _ (fG.trans lG) (aV.trans uB) j6 ea aZ hs
end
theorem HX {α:Type}{r:α ->List Value ->Prop}{P:Value ->Prop}:∀ {l:List α} {xs:List Value},(∀ x∈l,∀ cs,r x cs ->∀ u∈cs,P u) ->RL r l xs ->∀ u∈xs,P u
 | [],_,_,h,u,hu=>by have h:_=[]:=h;rw [h] at hu;cases hu
 | x::l,_,hp,⟨cs,rest,h1,h2,h3⟩,u,hu=>by
  subst h1
  rcases wZ hu with hu | hu
  ·exact hp x (by simp) cs h2 u hu
  ·exact HX (fun y hy=>hp y (wU hy)) h3 u hu
theorem PC {M:aS}{r:Rel}{cs:List Value}(hp:r.plan=o9)(h:gU M r cs):∀ u∈cs,mC u:=by
 obtain ⟨c,p,h1,h2,rfl⟩:=h
 obtain ⟨_,a,n,rfl,_⟩:=ax (by decide) (fun _ _=>fQ) h1
 rw [hp] at h2
 obtain ⟨xc,xv,av,s,rfl,k1,k2,k3,k4⟩:=j0.1 h2
 obtain ⟨s2,rfl,k5⟩:=iQ.1 k1
 obtain ⟨_,a1,n1,rfl,_⟩:=ax (by decide) (fun _ _=>eb) k2
 obtain ⟨_,a2,n2,rfl,_⟩:=ax (by decide) (fun _ _=>mE) k3
 obtain ⟨_,a3,n3,rfl,_⟩:=ax (by decide) (fun _ _=>jo) k4
 obtain ⟨_,a4,n4,rfl,_⟩:=ax (by decide) (fun _ _=>eb) k5
 intro u hu
 simp only [nn,mn] at hu
 rcases hu with rfl | rfl | rfl | rfl | rfl | rfl | rfl | rfl | rfl | rfl | rfl | rfl | rfl | rfl<;>first | trivial | rfl
theorem uL {α:Type}{el:TypeId}{sz:Nat}{r:α ->List Value ->Prop}{M:aS}{N:Tm}{l:List α}{lv:Value}{L:LL}(h:dW el sz r M N l lv L)(hl:l≠[])(hb:l.length*sz<=4398046511104)(rL:∀ x cs,r x cs ->∃ v rest,cs=v::rest/\∀ k n,v≠ .int k n):∃ g cap cs junk,lv=.slice (some ⟨g,0,none⟩) l.length cap/\L=[(g,cs++junk)]/\Pfx cs junk/\RL r l cs/\
 ∀ (M':aS) (r':α ->List Value ->Prop),(∀ x cs,r x cs ->r' x cs) ->M' g=some cs ->RS M' r' sz l lv:=by
 rcases h with ⟨rfl,_⟩ | ⟨g,cap,cs,junk,rfl,rfl,hN,fM,iH,hc,di,_⟩
 ·exact absurd rfl hl
 ·refine ⟨g,cap,cs,junk,rfl,rfl,?_,fM,fun M' r' Es hg=>⟨hb,cs,.inr ⟨g,0,l.length,cap,rfl,di,iH,lf hg _ 0 (fun i v hv=>by rw [Nat.zero_add];exact hv)⟩,dl Es fM⟩⟩
  cases l with
  | nil=>exact absurd rfl hl
  | cons x l=>
   obtain ⟨c,rest,rfl,h1,_⟩:=fM
   obtain ⟨v,r1,rfl,hv⟩:=rL x c h1
   exact .inr ⟨v,r1++rest,rfl,hv⟩
variable {M:aS}
theorem Iw (x:Rel)(cs:List Value)(h:gU M x cs):∃ v rest,cs=v::rest/\∀ k n,v≠ .int k n:=by
 obtain ⟨c,p,h1,h2,rfl⟩:=h;exact ⟨_,_,rfl,fun k n h=>by cases h⟩
theorem Ge (x:List Z)(cs:List Value)(h:RD M x cs):∃ v rest,cs=v::rest/\∀ k n,v≠ .int k n:=by
 obtain ⟨v,rfl,h1⟩:=h
 obtain ⟨_,a,n,rfl,_⟩:=ax (by decide) (fun _ _=>br) h1
 exact ⟨_,_,rfl,fun k n h=>by cases h⟩
theorem VU {z:List Z}{cs:List Value}(h:RD M z cs):∀ u∈cs,mC u:=by
 obtain ⟨v,rfl,h1⟩:=h
 obtain ⟨_,a,n,rfl,_⟩:=ax (by decide) (fun _ _=>br) h1
 intro u hu
 rw [List.mem_singleton.1 hu];trivial
def iT (s:Stm)(w:Pl×List Co):Rel:=⟨s.name,w.2,true,w.1⟩
structure ViewOk (rels:List Rel) (data:List (List Z)) (s:Stm) (w:Pl×List Co) (z0:List Z):Prop where
 ok:∀ x∈s.q.parts,OkSe x
 par:s.q.parts.length<=s.q.ops.length+1
 parl:s.q.parts.length<=1048576
 ord:0<=s.q.limit ->s.q.order.length<=1048576/\∀ x∈s.q.order,D6 x
 wid:∀ r t,jp rels s.q=.ok r ->fq (bN rels) r.1=.ok t ->t.length<=r.2.length
 bnd:il rels s.q=.ok w
 gp:gPl w.1=true
 gc:∀ c∈w.2,c.ty≠0
 nm:∀ x∈rels,x.name≠s.name
 nd:(w.2.map (·.name)).Nodup
 cl:w.2.length<=1000000
 col:∃ c,fq (bN rels) w.1=.ok c
 ev:Bc (bN rels) w.1 data=.ok z0
 rn:wz w.1=true
 gz:mO z0
def RPt (b:Nat)(cs:List Value):Prop:=cs=[.pointer (some ⟨b,0,none⟩)]
set_option maxHeartbeats 1000000 in
theorem VF {F:Fi}{k:List Vc.Item}{e:dp}{ds:List Deferred}{dd:Option Nat}{N:Tm}{be sb so gr gd bx:Nat}{cr cd cx:List Value}{s:Stm}{sc:List Value}{rels:List Rel}{data:List (List Z)}{rv dv sv:Value}{w:Pl×List Co}{z0:List Z}(bQ:At M sb so sc)(hs:my M s sc)
 (hr:dW 123 14 (gU M) M N rels rv [(gr,cr)]) (hd:dW 33 1 (RD M) M N data dv [(gd,cd)]) (bi:aJ M [(be,[rv,dv,.slice none 0 0,sv]),(gr,cr),(gd,cd),(bx,cx)]) (im:hY [(be,[rv,dv,.slice none 0 0,sv]),(gr,cr),(gd,cd),(bx,cx)]) (hcx:∀ u∈cx,mC u)
 (ak2:rels≠[]) (ahs:data≠[]) (s9:∀ x∈rels,x.plan=o9) (hc:∀ x∈rels,x.cols.length<=1048576/\∀ c∈x.cols,c.ty≠0) (wJ:rels.length<16) (xu:data.length<8) (hv:ViewOk rels data s w z0) (sV:mC sv)
 (hk:∀ N' M' L' rv' kv' bv tv cs zv gr' cr' gk ck,aF N N' ->bm M M' ->dW 123 14 (gU M') M' N' (rels++[iT s w]) rv' [(gr',cr')] ->dW 128 1 RPt M' N' [bv] kv' [(gk,ck)] ->RS M' (ms M') 1 (bN rels) tv ->gR M' w.1 cs ->RS M' (RZ M') 2 z0 zv ->aJ M' [(gr',cr'),(gk,ck),(bv,gW tv cs dv zv),(be,[rv',dv,kv',sv]),(gd,cd),(bx,cx)] ->(aY [(gr',cr'),(gk,ck),(bv,gW tv cs dv zv),(be,[rv',dv,kv',sv]),(gd,cd),(bx,cx)]).Nodup ->(∀ p∈[(gr',cr'),(gk,ck),(bv,gW tv cs dv zv),(be,[rv',dv,kv',sv]),(gd,cd),(bx,cx)],p∈L') ->
  cy Tryz.prog F k (cI e dd (.int .i64 0)) ds ⟨N',M',L',[]⟩ ⟨⟩):
 dx Tryz.prog F 30 [.pointer (some ⟨be,0,none⟩),.pointer (some ⟨sb,so,none⟩)] dd k e ds ⟨N,M,[(be,[rv,dv,.slice none 0 0,sv]),(gr,cr),(gd,cd),(bx,cx)],[]⟩ ⟨⟩:=by
 have xh:=hs
 obtain ⟨ac,ad,ap,aq,ao,an,ar,ae,au,av,aw,rfl,hco,hq,_⟩:=nQ hs
 obtain ⟨y0,y1,y2,y3,y4,y5,y6,_⟩:=bQ
 obtain ⟨_,rcap,csr,jr,rfl,hLr,J7,aj5,cG⟩:=uL hr ak2 (by omega) Iw
 cases hLr
 obtain ⟨_,dcap,csd,jd,rfl,hLd,hpd,abR,uw⟩:=uL hd ahs (by omega) Ge
 cases hLd
 have zr:∀ u∈csr,mC u:=HX (fun x hx cs h=>PC (s9 x hx) h) aj5
 have zd:∀ u∈csd,mC u:=HX (fun x hx cs h=>VU h) abR
 obtain ⟨nb,nr,nd,nx,_⟩:=bi
 obtain ⟨ab,ar',axd,_⟩:=im
 simp only [bf,and_true] at ab ar' axd
 refine yz F30 rfl rfl ?_
 simp +contextual only [go_sem,sevalprocAttr]
 have zl:Cn [(be,[.slice (some ⟨gr,0,none⟩) rels.length rcap,.slice (some ⟨gd,0,none⟩) data.length dcap,.slice none 0 0,sv]),(gr,csr),(gd,csd),(bx,cx)]:=by
  intro b c Pi
  simp only [List.mem_cons,Prod.mk.injEq,List.not_mem_nil,or_false] at Pi
  rcases Pi with ⟨rfl,rfl⟩ | ⟨rfl,rfl⟩ | ⟨rfl,rfl⟩ | ⟨rfl,rfl⟩
  ·intro u hu
   simp only [mn] at hu
   rcases hu with rfl | rfl | rfl | rfl<;>first | exact sV | trivial
  ·exact zr
  ·exact zd
  ·exact hcx
 have nk:(aY [(be,[.slice (some ⟨gr,0,none⟩) rels.length rcap,.slice (some ⟨gd,0,none⟩) data.length dcap,.slice none 0 0,sv]),(gr,csr),(gd,csd),(bx,cx)]).Nodup:=by simp [aY,ab,ar',axd]
 have pre:Dl [(be,[.slice (some ⟨gr,0,none⟩) rels.length rcap,.slice (some ⟨gd,0,none⟩) data.length dcap,.slice none 0 0,sv]),(gr,csr),(gd,csd),(bx,cx)] [(be,[.slice (some ⟨gr,0,none⟩) rels.length rcap,.slice (some ⟨gd,0,none⟩) data.length dcap,.slice none 0 0,sv]),(gr,csr++jr),(gd,csd++jd),(bx,cx)]:=⟨rfl,⟨[],(List.append_nil _).symm,.inl rfl⟩,rfl,⟨jr,rfl,J7⟩,rfl,⟨jd,rfl,hpd⟩,rfl,⟨[],(List.append_nil _).symm,.inl rfl⟩,trivial⟩
 refine l5 (fun e' ds h=>ds=[]/\e' 0=.pointer (some ⟨be,0,none⟩)/\e' 1=.pointer (some ⟨sb,so,none⟩)/\∃ N' M' b5 cs cv,e' 5=.pointer (some ⟨b5,0,none⟩)/\e' 6=cv/\e' 7=.int .i64 0/\aF N N'/\bm M M'/\gR M' w.1 cs/\RS M' ua 2 w.2 cv/\h=⟨N',M',[(b5,cs),(be,[.slice (some ⟨gr,0,none⟩) rels.length rcap,.slice (some ⟨gd,0,none⟩) data.length dcap,.slice none 0 0,sv]),(gr,csr++jr),(gd,csd++jd),(bx,cx)],[]⟩/\aJ M' h.L/\(¬ b5=be/\¬ be=b5)/\(¬ b5=gr/\¬ gr=b5)/\(¬ b5=gd/\¬ gd=b5)/\(¬ b5=bx/\¬ bx=b5)) ?_ ?_
 ·intro S' eY
  refine aX ?_
  simp +contextual only [go_sem,sevalprocAttr,aC nb,y3,y4,y5,y6]
  constructor
  ·refine Gb pre nk zl ⟨nb,nr,nd,nx,trivial⟩ (cG _ _ (dP (gY ⟨nb,nr,nd,nx,trivial⟩)) (by simp [fk,aS.add,ab])) hq (by omega) (fun r h=>(hc r h).1) hv.ok hv.par hv.parl hv.ord hv.wid hv.bnd hv.gp hv.gc ?_
   intro M1 cs cv aV bG fS lk
   obtain ⟨c0,c1,c2,c3,c4,c5,c6,c7,c8,c9,c10,rfl,wA⟩:=cO fS
   obtain ⟨_,va,vc,rfl,_⟩:=ax (by decide) (fun _ _=>fQ) lk
   simp +contextual only [go_sem,sevalprocAttr,wA]
   refine ⟨fu aV bG,?_⟩
   intro b5 T5 j6 ea lG oQ
   refine ⟨dK aV bG ⟨ea.1,ea.2.1,ea.2.2.1,ea.2.2.2,trivial⟩,?_⟩
   exact eY _ _ _ ⟨rfl,by simp only [go_sem,sevalprocAttr],by simp only [go_sem,sevalprocAttr],T5,M1,b5,_,_,by simp only [go_sem,sevalprocAttr],by simp only [go_sem,sevalprocAttr],by simp only [go_sem,sevalprocAttr],lG,aV,fS,lk,rfl,⟨j6,bG⟩,ea⟩
  ·intro b5 T5 j6 ea lG oQ
   have bR:aJ M [(b5,Cz),(be,[.slice (some ⟨gr,0,none⟩) rels.length rcap,.slice (some ⟨gd,0,none⟩) data.length dcap,.slice none 0 0,sv]),(gr,csr++jr),(gd,csd++jd),(bx,cx)]:=⟨j6,nb,nr,nd,nx,trivial⟩
   refine ⟨dK bm.rfl' ⟨nb,nr,nd,nx,trivial⟩ ⟨ea.1,ea.2.1,ea.2.2.1,ea.2.2.2,trivial⟩,?_⟩
   have nk5:(aY ((b5,Cz)::[(be,[.slice (some ⟨gr,0,none⟩) rels.length rcap,.slice (some ⟨gd,0,none⟩) data.length dcap,.slice none 0 0,sv]),(gr,csr),(gd,csd),(bx,cx)])).Nodup:=by simp [aY,ab,ar',axd,ea]
   have zl5:Cn ((b5,Cz)::[(be,[.slice (some ⟨gr,0,none⟩) rels.length rcap,.slice (some ⟨gd,0,none⟩) data.length dcap,.slice none 0 0,sv]),(gr,csr),(gd,csd),(bx,cx)]):=by
    intro b c Pi
    rcases mY Pi with h | h
    ·cases h
     intro u hu
     simp only [Cz,mn] at hu
     rcases hu with rfl | rfl | rfl | rfl | rfl | rfl | rfl | rfl | rfl | rfl | rfl<;>first | trivial | rfl
    ·exact zl b c h
   refine Gb (Lp:=(b5,Cz)::[(be,[.slice (some ⟨gr,0,none⟩) rels.length rcap,.slice (some ⟨gd,0,none⟩) data.length dcap,.slice none 0 0,sv]),(gr,csr),(gd,csd),(bx,cx)]) ⟨rfl,⟨[],(List.append_nil _).symm,.inl rfl⟩,pre⟩ nk5 zl5 bR (cG _ _ (dP (gY ⟨j6,nb,nr,nd,nx,trivial⟩)) (by simp [fk,aS.add,ab,ea])) hq (by omega) (fun r h=>(hc r h).1) hv.ok hv.par hv.parl hv.ord hv.wid hv.bnd hv.gp hv.gc ?_
   intro M1 cs cv aV bG fS lk
   obtain ⟨c0,c1,c2,c3,c4,c5,c6,c7,c8,c9,c10,rfl,wA⟩:=cO fS
   obtain ⟨_,va,vc,rfl,_⟩:=ax (by decide) (fun _ _=>fQ) lk
   simp +contextual only [go_sem,sevalprocAttr,wA]
   exact eY _ _ _ ⟨rfl,by simp only [go_sem,sevalprocAttr],by simp only [go_sem,sevalprocAttr],T5,M1,b5,_,_,by simp only [go_sem,sevalprocAttr],by simp only [go_sem,sevalprocAttr],by simp only [go_sem,sevalprocAttr],lG,aV,fS,lk,rfl,bG,ea⟩
 rintro e' ds' h' ⟨rfl,e0,e1,N1,M1,b5,cs,cv,e5,e6,e7,pw,aV,fS,lk,rfl,bG,ea⟩
 have Mo:=fS
 obtain ⟨c0,c1,c2,c3,c4,c5,c6,c7,c8,c9,c10,rfl,wA⟩:=cO fS
 obtain ⟨_,va,vc,rfl,_⟩:=ax (by decide) (fun _ _=>fQ) lk
 simp +contextual only [go_sem,aD,sevalprocAttr,e7]
 refine aX ?_
 have y1':=ay aV y1
 obtain ⟨n5,nb1,nr1,nd1,nx1,_⟩:=bG
 simp +contextual only [go_sem,sevalprocAttr,e0,e1,e5,e6,y1',aC n5,wA]
 intro b8 T8 px eB ni sH
 have bG:aJ M1 [(b5,[c0,c1,c2,c3,c4,c5,c6,c7,c8,c9,c10]),(be,[.slice (some ⟨gr,0,none⟩) rels.length rcap,.slice (some ⟨gd,0,none⟩) data.length dcap,.slice none 0 0,sv]),(gr,csr++jr),(gd,csd++jd),(bx,cx)]:=⟨n5,nb1,nr1,nd1,nx1,trivial⟩
 refine ⟨dK bm.rfl' bG ⟨eB.1,eB.2.1,eB.2.2.1,eB.2.2.2.1,eB.2.2.2.2,trivial⟩,?_⟩
 refine cZ F50.bd fun M2 bh h8 aZ=> ?_
 refine cZ F50.bd fun M3 bE h5 bB=> ?_
 have W3:=bh.trans bE
 have aaK:=aV.trans W3
 replace h8:=bE _ _ h8
 refine cT F50.bd (fun M' he hL _=>zO (r:=iT s w) hL.1 (oT hr (dP (aaK.trans he)) ⟨hL.2.1,trivial⟩ (by omega)) ⟨_,_,aH (W3.trans he) (fun _ _ h=>h) lk,bA (W3.trans he) _ _ Mo,rfl⟩ hv.nm hv.nd hv.cl wJ xu _) ?_
 have x5:=lf h5 _ 0 (fun i v h=>by rw [Nat.zero_add];exact h)
 have x8:=lf h8 _ 0 (fun i v h=>by rw [Nat.zero_add];exact h)
 obtain ⟨p0,p1,p2,p3,p4,p5,p6,p7,p8,p9,p10,_⟩:=x5
 have q8:=CP x8
 simp only [Nat.zero_add] at p0 p1 p2 p3 p4 p5 p6 p7 p8 p9 p10 q8
 obtain ⟨nb3,nr3,nd3,nx3,_⟩:=bB
 simp +contextual only [go_sem,aD,sevalprocAttr]
 refine aX ?_
 simp +contextual only [go_sem,sevalprocAttr,e0,e5,aC nb3,p0,p1,p2,p3,p4,p5,p6,p7,p8,p9,p10]
 refine Nv pre nk zl ⟨nb3,nr3,nd3,nx3,trivial⟩ (cG _ _ (dP (aaK.trans (gY ⟨nb3,nr3,nd3,nx3,trivial⟩))) (by simp [fk,aS.add,ab])) (by omega) hc ?_
 intro M4 tv dD de nl
 obtain ⟨_,ta,tc,rfl,_⟩:=ax (by decide) (fun _ _=>dE) nl
 obtain ⟨nb4,nr4,nd4,nx4,_⟩:=de
 simp +contextual only [go_sem,sevalprocAttr]
 refine ⟨fu dD ⟨nb4,nr4,nd4,nx4,trivial⟩,?_⟩
 have Wp:=W3.trans dD
 have pg:=aaK.trans dD
 obtain ⟨c,rk⟩:=hv.col
 refine aaU pre nk zl ⟨nb4,nr4,nd4,nx4,trivial⟩ nl (bA Wp _ _ Mo) (uw _ _ (dz (pg.trans (gY ⟨nb4,nr4,nd4,nx4,trivial⟩))) (by simp [fk,aS.add,ab,ar'])) rk hv.ev hv.rn hv.gz ?_
 intro T5 M5 bv zv lG dJ hbv lI bR AB
 have aaA:=pg.trans dJ
 simp only [bf,and_true] at lI
 simp +contextual only [go_sem,aD,sevalprocAttr]
 refine ⟨dK (dD.trans dJ) bR ⟨lI.1,lI.2.1,lI.2.2.1,lI.2.2.2,trivial⟩,?_⟩
 obtain ⟨nb5,nr5,nd5,nx5,_⟩:=bR
 have q8':=CP ((x8.ext dD).ext dJ)
 simp only [Nat.zero_add] at q8'
 have hRc:∀ {M':aS},bm M5 M' ->gU M' (iT s w) [st s.name,.slice va w.2.length vc,.bool true,c0,c1,c2,c3,c4,c5,c6,c7,c8,c9,c10]:=fun he=>⟨_,_,aH ((Wp.trans dJ).trans he) (fun _ _ h=>h) lk,bA ((Wp.trans dJ).trans he) _ _ Mo,rfl⟩
 have hR:=hRc bm.rfl'
 have hP:RPt bv [.pointer (some ⟨bv,0,none⟩)]:=rfl
 have hNr:=pw.trans (ni.trans lG)
 have Wz:=eA hNr (fj (dP aaA) (show aJ M5 [(gr,_)] from ⟨nr5,trivial⟩) hr)
 have hd5:=eA hNr (fj (dz aaA) (show aJ M5 [(gd,_)] from ⟨nd5,trivial⟩) hd)
 refine l5 (fun e' ds h=>ds=[]/\∃ N' L' rv' kv' gr' cr' gk ck,aF T5 N'/\dW 123 14 (gU M5) M5 N' (rels++[iT s w]) rv' [(gr',cr')]/\dW 128 1 RPt M5 N' [bv] kv' [(gk,ck)]/\h=⟨N',M5,L',[]⟩/\(aY [(gr',cr'),(gk,ck),(bv,gW (.slice ta (bN rels).length tc) [c0,c1,c2,c3,c4,c5,c6,c7,c8,c9,c10] (.slice (some ⟨gd,0,none⟩) data.length dcap) zv),(be,[rv',.slice (some ⟨gd,0,none⟩) data.length dcap,kv',sv]),(gd,csd++jd),(bx,cx)]).Nodup/\(∀ p∈[(gr',cr'),(gk,ck),(bv,gW (.slice ta (bN rels).length tc) [c0,c1,c2,c3,c4,c5,c6,c7,c8,c9,c10] (.slice (some ⟨gd,0,none⟩) data.length dcap) zv),(be,[rv',.slice (some ⟨gd,0,none⟩) data.length dcap,kv',sv]),(gd,csd++jd),(bx,cx)],p∈L')) ?_ ?_
 rotate_left
 ·rintro e' ds' h' ⟨rfl,N',L',rv',kv',gr',cr',gk,ck,jW,rC,cB,rfl,jj,mQ⟩
  simp +contextual only [go_sem,sevalprocAttr]
  exact hk _ _ _ _ _ _ _ _ _ _ _ _ _ (hNr.trans jW) aaA rC cB (aH dJ (cW dJ) nl) (bA (Wp.trans dJ) _ _ Mo) AB ⟨(jy rC).1,(jy cB).1,hbv,nb5,nd5,nx5,trivial⟩ jj mQ
 intro S' eY
 have sq:∀ {N':Tm} {L2:LL} (L1:LL),bf be L1 ->fO ⟨T5,M5,[(be,[.slice (some ⟨gr,0,none⟩) rels.length rcap,.slice (some ⟨gd,0,none⟩) data.length dcap,.slice none 0 0,sv])],[]⟩ ⟨N',M5,L1++(be,[.slice (some ⟨gr,0,none⟩) rels.length rcap,.slice (some ⟨gd,0,none⟩) data.length dcap,.slice none 0 0,sv])::L2,[]⟩:=fun L1 h=>eX L1 bm.rfl' nb5 h
 refine eG ⟨T5,M5,[(be,[.slice (some ⟨gr,0,none⟩) rels.length rcap,.slice (some ⟨gd,0,none⟩) data.length dcap,.slice none 0 0,sv])],[]⟩ (sq [(bv,_)] ⟨⟨lI.1.2,lI.1.1⟩,trivial⟩) ?_
 simp +contextual only [go_sem,sevalprocAttr,e0,aC nb5,q8']
 constructor
 ·intro b64 Wd ml
  refine ⟨sq [(b64,_),(bv,_)] (by simp [bf,lI,ml]),?_⟩
  constructor
  ·refine fN [] [(bv,_),(be,_)] [(gd,_),(bx,cx)] rfl trivial (Tryz.underlying87) zB yw (x:=iT s w) Wz hR rfl (lL _ _ hR) Wd (by omega) (by decide) ?_
   intro N6 lv' gr' cr' hN6 eR rC
   simp only [bf,nn] at eR
   obtain ⟨la,lc,rfl⟩:=cU rC
   simp +contextual only [go_sem,sevalprocAttr]
   refine ⟨sq [(gr',_),(b64,_),(bv,_)] (by simp [bf,lI,ml,eR]),?_⟩
   intro b71 Io lr
   refine ⟨sq [(b71,_),(gr',_),(b64,_),(bv,_)] (by simp [bf,lI,ml,eR,lr]),?_⟩
   refine fN [] [(gr',_),(b64,_),(bv,_),(be,_),(gd,_),(bx,cx)] [] rfl trivial (Tryz.underlying89) Kt Kw (x:=bv) (l:=[]) (L:=[]) (r:=RPt) (.inl ⟨rfl,rfl,rfl⟩) hP rfl (by simp [Value.oneCell']) Io (by simp) (by decide) ?_
   intro N7 kv' gk ck Za nz cB
   simp only [bf,nn] at nz
   obtain ⟨wa,wc,rfl⟩:=cU cB
   simp +contextual only [go_sem,sevalprocAttr,lI,ml,eR,lr,nz]
   refine ⟨sq [(gk,_),(b71,_),(gr',_),(b64,_),(bv,_)] (by simp [bf,lI,ml,eR,lr,nz]),?_⟩
   exact eY _ _ _ ⟨rfl,N7,_,_,_,gr',cr',gk,ck,hN6.trans Za,eA Za rC,cB,rfl,by simp [aY,eR,nz,lI,ab,axd],by simp⟩
  ·intro b71 Io lr
   refine ⟨sq [(b71,_),(b64,_),(bv,_)] (by simp [bf,lI,ml,lr]),?_⟩
   refine fN [(b71,_)] [(bv,_),(be,_)] [(gd,_),(bx,cx)] rfl (by simp [bf,lr]) (Tryz.underlying87) zB yw (x:=iT s w) Wz hR rfl (lL _ _ hR) Wd (by omega) (by decide) ?_
   intro N6 lv' gr' cr' hN6 eR rC
   simp only [bf,nn] at eR
   obtain ⟨la,lc,rfl⟩:=cU rC
   simp +contextual only [go_sem,sevalprocAttr]
   refine ⟨sq [(gr',_),(b71,_),(b64,_),(bv,_)] (by simp [bf,lI,ml,eR,lr]),?_⟩
   refine fN [(gr',_)] [(b64,_),(bv,_),(be,_),(gd,_),(bx,cx)] [] rfl (by simp [bf,eR]) (Tryz.underlying89) Kt Kw (x:=bv) (l:=[]) (L:=[]) (r:=RPt) (.inl ⟨rfl,rfl,rfl⟩) hP rfl (by simp [Value.oneCell']) Io (by simp) (by decide) ?_
   intro N7 kv' gk ck Za nz cB
   simp only [bf,nn] at nz
   obtain ⟨wa,wc,rfl⟩:=cU cB
   simp +contextual only [go_sem,sevalprocAttr,lI,ml,eR,lr,nz]
   refine ⟨sq [(gk,_),(gr',_),(b71,_),(b64,_),(bv,_)] (by simp [bf,lI,ml,eR,lr,nz]),?_⟩
   exact eY _ _ _ ⟨rfl,N7,_,_,_,gr',cr',gk,ck,hN6.trans Za,eA Za rC,cB,rfl,by simp [aY,eR,nz,lI,ab,axd],by simp⟩
 ·intro b71 Io lr
  refine ⟨sq [(b71,_),(bv,_)] (by simp [bf,lI,lr]),?_⟩
  intro b64 Wd ml
  refine ⟨sq [(b64,_),(b71,_),(bv,_)] (by simp [bf,lI,ml,lr]),?_⟩
  refine fN [] [(b71,_),(bv,_),(be,_)] [(gd,_),(bx,cx)] rfl trivial (Tryz.underlying87) zB yw (x:=iT s w) Wz hR rfl (lL _ _ hR) Wd (by omega) (by decide) ?_
  intro N6 lv' gr' cr' hN6 eR rC
  simp only [bf,nn] at eR
  obtain ⟨la,lc,rfl⟩:=cU rC
  simp +contextual only [go_sem,sevalprocAttr]
  refine ⟨sq [(gr',_),(b64,_),(b71,_),(bv,_)] (by simp [bf,lI,ml,eR,lr]),?_⟩
  refine fN [(gr',_),(b64,_)] [(bv,_),(be,_),(gd,_),(bx,cx)] [] rfl (by simp [bf,eR,ml]) (Tryz.underlying89) Kt Kw (x:=bv) (l:=[]) (L:=[]) (r:=RPt) (.inl ⟨rfl,rfl,rfl⟩) hP rfl (by simp [Value.oneCell']) Io (by simp) (by decide) ?_
  intro N7 kv' gk ck Za nz cB
  simp only [bf,nn] at nz
  obtain ⟨wa,wc,rfl⟩:=cU cB
  simp +contextual only [go_sem,sevalprocAttr,lI,ml,eR,lr,nz]
  refine ⟨sq [(gk,_),(gr',_),(b64,_),(b71,_),(bv,_)] (by simp [bf,lI,ml,eR,lr,nz]),?_⟩
  exact eY _ _ _ ⟨rfl,N7,_,_,_,gr',cr',gk,ck,hN6.trans Za,eA Za rC,cB,rfl,by simp [aY,eR,nz,lI,ab,axd],by simp⟩
variable {M:aS}
theorem abl {l z:List Z}{lv:Value}(hl:RS M (RZ M) 2 l lv)(bq:l.length<=1600)(hw:∀ x∈l,ji x.row=0/\fZ x.w=true)(hs:ou l=.ok z)(T:Tm):bV Tryz.prog 57 [lv] T M [] [] (fun v M' _ _=>∃ zv,v=.tuple ⟨[zv,.int .i64 0]⟩/\RS M' (RZ M') 2 z zv) aM:=by
 have AI:=hl
 obtain ⟨eZ,a,c,rfl,di,_,hg⟩:=ax (by decide) (fun _ _=>br) hl
 have xy:¬ (1600:Int)<(l.length:Int):=by omega
 refine az F57 rfl rfl ?_
 intro bi _
 simp +contextual only [go_sem,aD,sevalprocAttr,xy]
 refine aO l.length 12 [(0,.slice a l.length c),(10,.slice a l.length c),(11,.int .i64 (l.length:Int))] (fun i e h=>∃ N',aF T N'/\h=⟨N',M,[],[]⟩) 0 (by omega) (by simp only [aE,go_sem,sevalprocAttr]) (by simp only [go_sem,sevalprocAttr]) ⟨T,aF.rfl',rfl⟩ ?_
 rintro i e h hi aG ht ⟨N',jW,rfl⟩
 simp only [aE] at aG
 by_cases aL:i<l.length
 ·obtain ⟨b',o',cs',rfl,bQ,s,cG,rfl⟩:=hg i l[i] (gq aL)
  obtain ⟨y0,y1,_⟩:=bQ
  obtain ⟨sa,sc,rfl⟩:=fR cG
  obtain ⟨h1,h2⟩:=hw _ (gm aL)
  simp +contextual only [go_sem,aD,sevalprocAttr,aG,ht,aL,y0,y1]
  intro b5 T5 j6 lG oQ
  refine aP (Ko cG _) ?_
  simp +contextual only [go_sem,aD,sevalprocAttr,h1,aC j6]
  refine aP (ux _ _) ?_
  simp +contextual only [go_sem,aD,sevalprocAttr,ht,h2]
  refine aR (al (aB ⟨l.length - (i+1),by omega,rfl,i+1,by omega,rfl,?_,?_,T5,jW.trans lG,rfl⟩))
  ·simp only [aE,aG,go_sem,sevalprocAttr]
  ·simp only [go_sem,sevalprocAttr,aA i (by omega)]
 ·have:i=l.length:=by omega
  subst this
  simp +contextual only [go_sem,aD,sevalprocAttr,aG,ht,aL]
  have h8:∀ x∈l,x.row.length<=4294967296:=fun x hx=>by
   have:=(hw x hx).1
   unfold ji at this
   split at this
   ·cases this
   ·omega
  refine aI (zf AI (by omega) h8 _) ?_
  rintro v M2 bh aZ hv
  rw [hs] at hv
  obtain ⟨s,rfl,h⟩:=hv
  simp +contextual only [go_sem,sevalprocAttr]
  exact ak jW ⟨_,rfl,h⟩
variable {aW:List (List Int)}
theorem Im {r:Rel}{cs:List Value}(h:gU M r cs):RL (gU M) [r] cs:=⟨cs,[],by simp,h,rfl⟩
set_option maxHeartbeats 1000000 in
theorem Iz {be gd bv gk n sb so gr:Nat}{kc dcap rn rc:Nat}{junk:List Value}{p:Pl}{pc sc:List Value}{c:List Int}{D0 D1 m0 m1 N0 N1 z zo d d' rows rows':List Z}{rels:List Rel}{s:Stm}{sv tv dv rwv d0 d1:Value}(bQ:At M sb so sc)(hs:my M s sc)(cG:RS M (gU M) 14 rels (.slice (some ⟨gr,0,none⟩) rn rc))
 (hi:n<rels.length) (tK:rels[n].name=s.name) (cu:∀ (j:Nat) (h:j<rels.length),j<n ->rels[j].name≠s.name) (rI:∀ (j:Nat) (h:j<rels.length),j<=n ->rels[j].view=false) (bq:rels.length<=1000) (cM:rels[n].cols.length<=8) (Wk:∀ r∈s.rows,mf (rels[n].cols.map (·.ty)) r=0) (wJ:s.rows.length<=1600) (hof:ou (s.rows.map fun r=>(⟨r,1⟩:Z))=.ok z)
 (hn:n=0/\m0=z/\m1=[]/\N1=D1\/n=1/\m0=[]/\m1=z/\N0=D0) (sV:mC sv)
 (nl:RS M (ms M) 1 aW tv) (hp:gR M p pc) (h0:RS M (RZ M) 2 D0 d0) (h1:RS M (RZ M) 2 D1 d1) (hr:RS M (RZ M) 2 rows rwv) (Y3:aN M ⟨gk,0,none⟩=some (.pointer (some ⟨bv,0,none⟩)))
 (hd:RS (fk M [(be,oX (.slice (some ⟨gr,0,none⟩) rn rc) gd dcap gk kc sv),(gd,[d0,d1])]) (RD (fk M [(be,oX (.slice (some ⟨gr,0,none⟩) rn rc) gd dcap gk kc sv),(gd,[d0,d1])])) 1 [D0,D1] dv)
 (rk:fq aW p=.ok c) (Vi:iU aW [D0,D1]=0) (Ze:iU aW [m0,m1]=0) (YZ:addM D0 m0=.ok N0) (Ph:addM D1 m1=.ok N1) (j1:mj aW [D0,D1] [m0,m1] p zo d) (xu:d.length<=4294967296) (BQ:∀ z∈d,z.row.length<=4294967296) (mq:ou d=.ok d') (bP:addM rows d'=.ok rows')
 (Eu:mO N0) (lC:mO N1) (s8:mO rows') (T:Tm):
 bV Tryz.prog 31 [.pointer (some ⟨be,0,none⟩),.pointer (some ⟨sb,so,none⟩)] T M [(bv,gW tv pc dv rwv),(be,oX (.slice (some ⟨gr,0,none⟩) rn rc) gd dcap gk kc sv),(gd,d0::d1::junk)] []
  (fun v M' L' _=>v=.int .i64 0/\∃ nv rv' w0 w1,L'=[(bv,gW tv pc nv rv'),(be,oX (.slice (some ⟨gr,0,none⟩) rn rc) gd dcap gk kc sv),(gd,w0::w1::junk)]/\RS M' (RZ M') 2 N0 w0/\RS M' (RZ M') 2 N1 w1/\RS M' (RD M') 1 [N0,N1] nv/\RS M' (RZ M') 2 rows' rv') aM:=by
 obtain ⟨ac,ad,ap,aq,ao,an,ar,ae,au,av,aw,rfl,hco,hq,hrw,_⟩:=nQ hs
 obtain ⟨y0,y1,y2,y3,y4,y5,y6,y7,_⟩:=bQ
 obtain ⟨_,_,_,hx,_,_,hg⟩:=ax (by decide) (fun _ _=>gV) cG
 cases hx
 obtain ⟨_,_,tcs,hx,WJ,Hs⟩:=hg n rels[n] (gq hi)
 cases hx
 rw [Nat.zero_add] at WJ
 refine az F31 rfl rfl ?_
 intro bi im
 simp +contextual only [go_sem,sevalprocAttr,y1]
 refine cT F55.bd (fun M' he hL _=>NF hL.2.1 (aH he (dP he) cG) hi tK cu rI bq rfl (WJ.ext he) (dP he _ _ Hs) _) ?_
 obtain ⟨ca,cn,s1,a1,n1,a2,n2,a3,n3,rfl,iX,hcc,_⟩:=hF Hs
 simp +contextual only [go_sem,aD,sevalprocAttr,iX]
 intro b5 T5 j6 ea lG oQ b28 af4 adn
 refine cZ F54.bd fun M1 aV h28 bG=> ?_
 have hvn:=rI n hi (Nat.le_refl _)
 have htb:bN [rels[n]]=[rels[n].cols.map (·.ty)]:=by simp [bN,hvn]
 refine aI (vh (dB (fun _ _=>gV) h28 (Im (dP aV _ _ Hs)) rfl (by simp)) (by simp) (fun r Es=>by rw [List.mem_singleton.1 Es];omega) _) ?_
 rintro v M2 bh aZ hv
 rw [htb] at hv
 have ry:=aV.trans bh
 obtain ⟨_,ta,tc,rfl,_⟩:=ax (by decide) (fun _ _=>dE) hv
 obtain ⟨tbb,tbo,cv,rfl,m0',lk⟩:=Ll hv (i:=0) (by simp)
 obtain ⟨_,cva,cvc,rfl,_⟩:=ax (by decide) (fun _ _=>ct) lk
 rw [Nat.add_zero] at m0'
 have y7':=ay ry y7
 obtain ⟨_,_,_,hx,_,_,ain⟩:=ax (by decide) (fun _ _=>mF) (aH ry (iP ry) hrw)
 cases hx
 simp +contextual only [go_sem,aD,sevalprocAttr,m0',y7']
 refine aO s.rows.length 37 [(0,.pointer (some ⟨be,0,none⟩)),(6,.int .i64 (n:Int)),(8,.slice cva (rels[n].cols.map (·.ty)).length cvc),(35,.slice au s.rows.length av),(36,.int .i64 (s.rows.length:Int))] (fun i e h=>∃ N' R' fv,aF T5 N'/\h=⟨N',M2,[(b5,[st rels[n].name,.slice ca rels[n].cols.length cn,.bool rels[n].view,.int .i64 rels[n].plan.k,.int .i64 rels[n].plan.n,.int .i64 rels[n].plan.x.k,.int .i64 rels[n].plan.x.v.k,.int .i64 rels[n].plan.x.v.n,st rels[n].plan.x.v.t,.int .i64 rels[n].plan.x.c,s1,.slice a1 rels[n].plan.xs.length n1,.slice a2 rels[n].plan.ags.length n2,.slice a3 rels[n].plan.kids.length n3]),(bv,gW tv pc dv rwv),(be,oX (.slice (some ⟨gr,0,none⟩) rels.length rc) gd dcap gk kc sv),(gd,d0::d1::junk)],R'⟩/\e 9=fv/\kT 38 2 (RZ M2) [] R' fv ((s.rows.take i).map fun r=>(⟨r,1⟩:Z))) 0 (by omega) (by simp only [aE,go_sem,sevalprocAttr]) (by simp only [go_sem,sevalprocAttr]) ⟨T5,_,_,aF.rfl',rfl,by simp only [go_sem,sevalprocAttr],cV⟩ ?_
 rintro i e h EK aG ht ⟨N',R',fv,jW,rfl,e9,bj⟩
 simp only [aE] at aG
 by_cases aL:i<s.rows.length
 ·obtain ⟨b',o',cs',rfl,ako,rs,Pr,rfl⟩:=ain i s.rows[i] (gq aL)
  have z0':=ako.1
  rw [Nat.mul_one] at z0'
  obtain ⟨sa,sc',rfl⟩:=fR Pr
  have hf:=Wk _ (gm aL)
  simp +contextual only [go_sem,aD,sevalprocAttr,aG,ht,aL,z0']
  refine aP (Ma lk Pr _) ?_
  simp +contextual only [go_sem,aD,sevalprocAttr,hf,e9]
  intro b50 aga ad1
  refine cA (Tryz.underlying33) je iY (x:=⟨s.rows[i],1⟩) bj ⟨_,Pr,rfl⟩ (fun _ _=>br) (iw (z:=⟨s.rows[i],1⟩) ⟨_,Pr,rfl⟩) aga (by rw [List.length_map,List.length_take];omega) (by decide) ?_
  intro fv' R2 bz
  have dY:((s.rows.take i).map fun r=>(⟨r,1⟩:Z))++[⟨s.rows[i],1⟩]=(s.rows.take (i+1)).map fun r=>(⟨r,1⟩:Z):=by
   rw [<- List.take_append_getElem aL,List.map_append];rfl
  rw [dY] at bz
  simp +contextual only [go_sem,sevalprocAttr,ht]
  refine aR (al (aB ⟨s.rows.length - (i+1),by omega,rfl,i+1,by omega,rfl,?_,?_,N',R2,fv',jW,rfl,?_,bz⟩))
  ·simp only [aE,aG,go_sem,sevalprocAttr]
  ·simp only [go_sem,sevalprocAttr,aA i (by omega)]
  ·simp only [go_sem,sevalprocAttr]
 ·have:i=s.rows.length:=by omega
  subst this
  rw [List.take_length] at bj
  obtain ⟨fa,fc,rfl⟩:=eI bj
  simp +contextual only [go_sem,aD,sevalprocAttr,aG,ht,aL,e9]
  refine mm F57.bd bj (by rw [List.length_map];omega) (by decide) aZ fun M3 bE bB VS=> ?_
  refine aI (abl (aH bm.rfl' (fJ bE) VS) (by rw [List.length_map];omega) (fun x hx=> ?_) hof _) ?_
  ·obtain ⟨r,Es,rfl⟩:=List.mem_map.1 hx
   exact ⟨nL (by rw [List.length_map];exact cM) (Wk r Es),rfl⟩
  rintro v M4 dD de ⟨zv,rfl,AB⟩
  obtain ⟨_,za,zc,rfl,_⟩:=ax (by decide) (fun _ _=>br) AB
  have pg:=(ry.trans bE).trans dD
  simp +contextual only [go_sem,aD,sevalprocAttr,aG]
  refine dC [(b5,_)] (Jg (rv:=.slice (some ⟨gr,0,none⟩) rels.length rc) hn ⟨trivial,fun k m h=>by cases h⟩ sV (aH pg (cW pg) nl) (bA pg _ _ hp) (cR pg h0) (cR pg h1) AB (cR pg hr) (ay pg Y3) (aH (jV pg _) (dz (jV pg _)) hd) rk Vi Ze YZ Ph j1 xu BQ mq bP Eu lC s8 _) ?_ (fun _ _ _ _ _ _ h=>h.elim)
  rintro v M5 L5 dJ hk5 bR ⟨rfl,nv,rv',w0,w1,rfl,k1,k2,k3,k4⟩
  simp +contextual only [go_sem,sevalprocAttr]
  exact al (aQ (lG.trans jW) rfl rfl ⟨rfl,_,_,_,_,rfl,k1,k2,k3,k4⟩)
def Mi (x:Ex):Prop:=∀ {M:aS} {b o b' o':Nat} {cs cs':List Value},At M b o cs ->ij M x cs ->At M b' o' cs' ->ij M x cs' ->∀ T,bV Tryz.prog 177 [.pointer (some ⟨b,o,none⟩),.pointer (some ⟨b',o',none⟩)] T M [] [] (fun r _ _ _=>r=.bool true) aM
theorem nf {M:aS}{b:Nat}{cs:List Value}(h:M b=some cs):At M b 0 cs:=lf h _ 0 (fun i v h=>by rw [Nat.zero_add];exact h)
variable {M:aS}
theorem KF {g:FuncId}(hg:g=221\/g=176){x:Ex}(hx:Mi x){cs cs':List Value}(h:ij M x cs)(h':ij M x cs')(T:Tm):bV Tryz.prog g [.agg ⟨cs⟩,.agg ⟨cs'⟩] T M [] [] (fun r _ _ _=>r=.bool true) aM:=by
 have h0:=h
 have h0':=h'
 obtain ⟨s,rfl,ks,hs⟩:=dF h
 obtain ⟨s',rfl,ks',yJ⟩:=dF h'
 rcases hg with rfl | rfl
 ·refine az adV rfl rfl ?_
  intro bi _
  simp +contextual only [go_sem,sevalprocAttr]
  intro b2 T2 dN dy ei b3 T3 ii df fV gD
  refine cT Yg.bd (fun M' he hL _=>hx (nf hL.2.1) (cJ he _ _ h0) (nf hL.1) (cJ he _ _ h0') _) ?_
  simp +contextual only [go_sem,sevalprocAttr]
  exact al (al (ak (dy.trans fV) rfl))
 ·refine az afK rfl rfl ?_
  intro bi _
  simp +contextual only [go_sem,sevalprocAttr]
  intro b2 T2 dN dy ei b3 T3 ii df fV gD
  refine cT Yg.bd (fun M' he hL _=>hx (nf hL.2.1) (cJ he _ _ h0) (nf hL.1) (cJ he _ _ h0') _) ?_
  simp +contextual only [go_sem,sevalprocAttr]
  exact al (al (ak (dy.trans fV) rfl))
theorem Rm {g:FuncId}{l:List Ex}{sv sv':Value}(Eu:dm Tryz.prog g=true)(Sb:∀ x∈l,∀ cs cs',ij M x cs ->ij M x cs' ->∀ T,bV Tryz.prog g [.agg ⟨cs⟩,.agg ⟨cs'⟩] T M [] [] (fun r _ _ _=>r=.bool true) aM)
 (hs:RS M (ij M) 6 l sv) (yJ:RS M (ij M) 6 l sv') (T:Tm):bV Tryz.prog 175 [sv,sv',.func (.func g) #[] #[]] T M [] [] (fun r _ _ _=>r=.bool true) aM:=by
 obtain ⟨eZ,a,c,rfl,di,_,hg⟩:=ax (by decide) (fun _ _=>eb) hs
 obtain ⟨_,a',c',rfl,af8,_,XV⟩:=ax (by decide) (fun _ _=>eb) yJ
 refine az ajI rfl rfl ?_
 intro bi _
 simp +contextual only [go_sem,aD,sevalprocAttr]
 refine aO l.length 17 [(1,.slice a' l.length c'),(2,.func (.func g) #[] #[]),(15,.slice a l.length c),(16,.int .i64 (l.length:Int))] (fun i e h=>∃ N',aF T N'/\h=⟨N',M,[],[]⟩) 0 (by omega) (by simp only [aE,go_sem,sevalprocAttr]) (by simp only [go_sem,sevalprocAttr]) ⟨T,aF.rfl',rfl⟩ ?_
 rintro i e h hi aG ht ⟨N',jW,rfl⟩
 simp only [aE] at aG
 by_cases aL:i<l.length
 ·obtain ⟨b',o',xs,rfl,bQ,dV⟩:=hg i l[i] (gq aL)
  obtain ⟨b'',o'',xs',rfl,uC,Hd⟩:=XV i l[i] (gq aL)
  have hc:=Sb _ (gm aL) xs xs' dV Hd
  obtain ⟨s,rfl,kss,_⟩:=dF dV
  obtain ⟨s',rfl,kss',_⟩:=dF Hd
  have y:=At6 bQ
  have y':=At6 uC
  simp +contextual only [go_sem,aD,sevalprocAttr,aG,ht,aL,y,y',kss,kss']
  intro b8 T8 px ni sH b9 T9 qy gP ut pR
  refine aP (hc _) ?_
  simp +contextual only [go_sem,aD,sevalprocAttr,ht]
  refine aR (al (al (aB ⟨l.length - (i+1),by omega,rfl,i+1,by omega,rfl,?_,?_,T9,(jW.trans ni).trans ut,rfl⟩)))
  ·simp only [aE,aG,go_sem,sevalprocAttr]
  ·simp only [go_sem,sevalprocAttr,aA i (by omega)]
 ·have:i=l.length:=by omega
  subst this
  simp +contextual only [go_sem,aD,sevalprocAttr,aG,ht,aL]
  exact ak jW rfl
theorem P9:∀ (sz:Nat) (x:Ex),SizeOf.sizeOf x<=sz ->Mi x:=by
 intro sz
 induction sz with
 | zero=>intro x hx;cases x;simp at hx
 | succ sz ih=>
  intro x dS M b o b' o' cs cs' bQ hx uC yL T
  obtain ⟨s,rfl,ks,hs⟩:=dF hx
  obtain ⟨s',rfl,ks',yJ⟩:=dF yL
  have y:=At6 bQ
  have y':=At6 uC
  refine az Yg rfl rfl ?_
  intro bi _
  simp +contextual only [go_sem,sevalprocAttr]
  refine aX ?_
  simp +contextual only [go_sem,sevalprocAttr,y,y',Z0]
  have hk:∀ y∈x.kids,Mi y:=fun y hy=>ih y (by
   have h4:=List.sizeOf_lt_of_mem hy
   cases x with | mk k v c kids=>
   simp only [Ex.kids] at h4
   simp only [Ex.mk.sizeOf_spec] at dS
   omega)
  refine aP (Rm adV.bd (fun y hy cs cs' h h' T=>KF (.inl rfl) (hk y hy) h h' T) hs yJ _) ?_
  simp +contextual only [go_sem,sevalprocAttr]
  exact ⟨fO.refl _,ak aF.rfl' rfl⟩
theorem aag {g:FuncId}{l:List Ag}{sv sv':Value}(Eu:dm Tryz.prog g=true)(Sb:∀ x∈l,∀ cs cs',AG M x cs ->AG M x cs' ->∀ T,bV Tryz.prog g [.agg ⟨cs⟩,.agg ⟨cs'⟩] T M [] [] (fun r _ _ _=>r=.bool true) aM)
 (hs:RS M (AG M) 7 l sv) (yJ:RS M (AG M) 7 l sv') (T:Tm):bV Tryz.prog 178 [sv,sv',.func (.func g) #[] #[]] T M [] [] (fun r _ _ _=>r=.bool true) aM:=by
 obtain ⟨eZ,a,c,rfl,di,_,hg⟩:=ax (by decide) (fun _ _=>mE) hs
 obtain ⟨_,a',c',rfl,af8,_,XV⟩:=ax (by decide) (fun _ _=>mE) yJ
 refine az ak7 rfl rfl ?_
 intro bi _
 simp +contextual only [go_sem,aD,sevalprocAttr]
 refine aO l.length 17 [(1,.slice a' l.length c'),(2,.func (.func g) #[] #[]),(15,.slice a l.length c),(16,.int .i64 (l.length:Int))] (fun i e h=>∃ N',aF T N'/\h=⟨N',M,[],[]⟩) 0 (by omega) (by simp only [aE,go_sem,sevalprocAttr]) (by simp only [go_sem,sevalprocAttr]) ⟨T,aF.rfl',rfl⟩ ?_
 rintro i e h hi aG ht ⟨N',jW,rfl⟩
 simp only [aE] at aG
 by_cases aL:i<l.length
 ·obtain ⟨b',o',xs,rfl,bQ,dV⟩:=hg i l[i] (gq aL)
  obtain ⟨b'',o'',xs',rfl,uC,Hd⟩:=XV i l[i] (gq aL)
  have hc:=Sb _ (gm aL) xs xs' dV Hd
  obtain ⟨s,rfl,kss,_⟩:=pV dV
  obtain ⟨s',rfl,kss',_⟩:=pV Hd
  have y:=At7 bQ
  have y':=At7 uC
  simp +contextual only [go_sem,aD,sevalprocAttr,aG,ht,aL,y,y',kss,kss']
  intro b8 T8 px ni sH b9 T9 qy gP ut pR
  refine aP (hc _) ?_
  simp +contextual only [go_sem,aD,sevalprocAttr,ht]
  refine aR (al (al (aB ⟨l.length - (i+1),by omega,rfl,i+1,by omega,rfl,?_,?_,T9,(jW.trans ni).trans ut,rfl⟩)))
  ·simp only [aE,aG,go_sem,sevalprocAttr]
  ·simp only [go_sem,sevalprocAttr,aA i (by omega)]
 ·have:i=l.length:=by omega
  subst this
  simp +contextual only [go_sem,aD,sevalprocAttr,aG,ht,aL]
  exact ak jW rfl
theorem acG {g:FuncId}{l:List Pl}{sv sv':Value}(Eu:dm Tryz.prog g=true)(Sb:∀ x∈l,∀ cs cs',gR M x cs ->gR M x cs' ->∀ T,bV Tryz.prog g [.agg ⟨cs⟩,.agg ⟨cs'⟩] T M [] [] (fun r _ _ _=>r=.bool true) aM)
 (hs:RS M (gR M) 11 l sv) (yJ:RS M (gR M) 11 l sv') (T:Tm):bV Tryz.prog 180 [sv,sv',.func (.func g) #[] #[]] T M [] [] (fun r _ _ _=>r=.bool true) aM:=by
 obtain ⟨eZ,a,c,rfl,di,_,hg⟩:=ax (by decide) (fun _ _=>jo) hs
 obtain ⟨_,a',c',rfl,af8,_,XV⟩:=ax (by decide) (fun _ _=>jo) yJ
 refine az akB rfl rfl ?_
 intro bi _
 simp +contextual only [go_sem,aD,sevalprocAttr]
 refine aO l.length 17 [(1,.slice a' l.length c'),(2,.func (.func g) #[] #[]),(15,.slice a l.length c),(16,.int .i64 (l.length:Int))] (fun i e h=>∃ N',aF T N'/\h=⟨N',M,[],[]⟩) 0 (by omega) (by simp only [aE,go_sem,sevalprocAttr]) (by simp only [go_sem,sevalprocAttr]) ⟨T,aF.rfl',rfl⟩ ?_
 rintro i e h hi aG ht ⟨N',jW,rfl⟩
 simp only [aE] at aG
 by_cases aL:i<l.length
 ·obtain ⟨b',o',xs,rfl,bQ,dV⟩:=hg i l[i] (gq aL)
  obtain ⟨b'',o'',xs',rfl,uC,Hd⟩:=XV i l[i] (gq aL)
  have hc:=Sb _ (gm aL) xs xs' dV Hd
  obtain ⟨s1,a1,n1,a2,n2,a3,n3,rfl,kss,_⟩:=du dV
  obtain ⟨s1',a1',n1',a2',n2',a3',n3',rfl,kss',_⟩:=du Hd
  obtain ⟨p0,p1,p2,p3,p4,p5,p6,p7,p8,p9,p10,_⟩:=bQ
  obtain ⟨q0,q1,q2,q3,q4,q5,q6,q7,q8,q9,q10,_⟩:=uC
  unfold OG at hc
  simp +contextual only [go_sem,aD,sevalprocAttr,aG,ht,aL,p0,p1,p2,p3,p4,p5,p6,p7,p8,p9,p10,q0,q1,q2,q3,q4,q5,q6,q7,q8,q9,q10,kss,kss']
  intro b8 T8 px ni sH b9 T9 qy gP ut pR
  refine aP (hc _) ?_
  simp +contextual only [go_sem,aD,sevalprocAttr,ht]
  refine aR (al (al (aB ⟨l.length - (i+1),by omega,rfl,i+1,by omega,rfl,?_,?_,T9,(jW.trans ni).trans ut,rfl⟩)))
  ·simp only [aE,aG,go_sem,sevalprocAttr]
  ·simp only [go_sem,sevalprocAttr,aA i (by omega)]
 ·have:i=l.length:=by omega
  subst this
  simp +contextual only [go_sem,aD,sevalprocAttr,aG,ht,aL]
  exact ak jW rfl
theorem uE (x:Ex):Mi x:=P9 _ x (Nat.le_refl _)
theorem U2 {l:List Ex}{sv sv':Value}(hs:RS M (ij M) 6 l sv)(yJ:RS M (ij M) 6 l sv')(T:Tm):bV Tryz.prog 174 [sv,sv'] T M [] [] (fun r _ _ _=>r=.bool true) aM:=by
 refine az ajo rfl rfl ?_
 intro bi _
 simp +contextual only [go_sem,sevalprocAttr]
 refine aP (Rm afK.bd (fun y hy cs cs' h h' T=>KF (.inr rfl) (uE y) h h' T) hs yJ _) ?_
 simp +contextual only [go_sem,sevalprocAttr]
 exact ak aF.rfl' rfl
theorem X6 {a:Ag}{cs cs':List Value}(h:AG M a cs)(h':AG M a cs')(T:Tm):bV Tryz.prog 179 [.agg ⟨cs⟩,.agg ⟨cs'⟩] T M [] [] (fun r _ _ _=>r=.bool true) aM:=by
 obtain ⟨s,rfl,ks,hx⟩:=pV h
 obtain ⟨s',rfl,ks',yL⟩:=pV h'
 refine az aeE rfl rfl ?_
 intro bi _
 simp +contextual only [go_sem,sevalprocAttr]
 intro b2 T2 dN dy ei b3 T3 ii df fV gD
 refine cT Yg.bd (fun M' he hL _=>uE a.x (nf hL.2.1).2 (cJ he _ _ hx) (nf hL.1).2 (cJ he _ _ yL) _) ?_
 simp +contextual only [go_sem,sevalprocAttr]
 exact al (al (ak (dy.trans fV) rfl))
def TT (p:Pl):Prop:=∀ {M:aS} {b o b' o':Nat} {cs cs':List Value},At M b o cs ->gR M p cs ->At M b' o' cs' ->gR M p cs' ->∀ T,bV Tryz.prog 111 [.pointer (some ⟨b,o,none⟩),.pointer (some ⟨b',o',none⟩)] T M [] [] (fun r _ _ _=>r=.bool true) aM
theorem Xt {p:Pl}(hp:TT p){cs cs':List Value}(h:gR M p cs)(h':gR M p cs')(T:Tm):bV Tryz.prog 181 [.agg ⟨cs⟩,.agg ⟨cs'⟩] T M [] [] (fun r _ _ _=>r=.bool true) aM:=by
 have h0:=h
 have h0':=h'
 obtain ⟨c0,c1,c2,c3,c4,c5,c6,c7,c8,c9,c10,rfl,hc⟩:=cO h
 obtain ⟨d0,d1,d2,d3,d4,d5,d6,d7,d8,d9,d10,rfl,hd⟩:=cO h'
 refine az aeD rfl rfl ?_
 intro bi _
 simp +contextual only [go_sem,sevalprocAttr]
 intro b2 T2 dN dy ei b3 T3 ii df fV gD
 refine cT acD.bd (fun M' he hL _=>hp (nf hL.2.1) (bA he _ _ h0) (nf hL.1) (bA he _ _ h0') _) ?_
 simp +contextual only [go_sem,sevalprocAttr]
 exact al (al (ak (dy.trans fV) rfl))
theorem Rv {p:Pl}{b o:Nat}{cs:List Value}(bQ:At M b o cs)(h:gR M p cs):∃ xc,At M b (o+2) xc/\ij M p.x xc:=by
 obtain ⟨xc,xv,av,s,rfl,h,_⟩:=j0.1 h
 exact ⟨xc,(fz.1 (fz.1 bQ).2).1,h⟩
theorem P5:∀ (sz:Nat) (p:Pl),SizeOf.sizeOf p<=sz ->TT p:=by
 intro sz
 induction sz with
 | zero=>intro p hp;cases p;simp at hp
 | succ sz ih=>
  intro p dS M b o b' o' cs cs' bQ hp uC DY T
  obtain ⟨s1,a1,n1,a2,n2,a3,n3,rfl,ks,hx,fM,Oa,pe⟩:=du hp
  obtain ⟨s1',a1',n1',a2',n2',a3',n3',rfl,ks',yL,ahp,afn,abJ⟩:=du DY
  have An:=bQ
  have afQ:=uC
  obtain ⟨p0,p1,p2,p3,p4,p5,p6,p7,p8,p9,p10,_⟩:=bQ
  obtain ⟨q0,q1,q2,q3,q4,q5,q6,q7,q8,q9,q10,_⟩:=uC
  have hk:∀ y∈p.kids,TT y:=fun y hy=>ih y (by
   have h4:=List.sizeOf_lt_of_mem hy
   cases p with | mk k n x xs ags kids=>
   simp only [Pl.kids] at h4
   simp only [Pl.mk.sizeOf_spec] at dS
   omega)
  refine az acD rfl rfl ?_
  intro bi _
  simp +contextual only [go_sem,sevalprocAttr]
  refine aX ?_
  simp +contextual only [go_sem,sevalprocAttr,p0,p1,q0,q1]
  obtain ⟨xc,k1,k2⟩:=Rv An hp
  obtain ⟨xc',k1',k2'⟩:=Rv afQ DY
  refine aP (uE p.x k1 k2 k1' k2' _) ?_
  simp +contextual only [go_sem,sevalprocAttr,p8,q8]
  refine ⟨fO.refl _,aP (U2 fM ahp _) ?_⟩
  simp +contextual only [go_sem,sevalprocAttr,p9,q9]
  refine ⟨fO.refl _,aP (aag aeE.bd (fun y hy cs cs' h h' T=>X6 h h' T) Oa afn _) ?_⟩
  simp +contextual only [go_sem,sevalprocAttr,p10,q10]
  refine ⟨fO.refl _,aP (acG aeD.bd (fun y hy cs cs' h h' T=>Xt (hk y hy) h h' T) pe abJ _) ?_⟩
  simp +contextual only [go_sem,sevalprocAttr]
  exact ⟨fO.refl _,ak aF.rfl' rfl⟩
end Go.Proofs.YtmeeifechggoeaaGreatDoor

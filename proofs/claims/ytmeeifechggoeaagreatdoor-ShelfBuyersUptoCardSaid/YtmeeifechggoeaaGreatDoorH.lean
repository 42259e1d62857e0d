import Derived.Test.YtmeeifechggoeaaGreatDoorG
import Derived.Recover
import Derived.Laws.Pointers
set_option linter.all false
namespace Go.Proofs.YtmeeifechggoeaaGreatDoor
open Go Vc
set_option maxRecDepth 10000
instance:Inhabited V:=⟨⟨0,0,[]⟩⟩
instance:Inhabited Z:=⟨⟨[],0⟩⟩
def eH (z:Z):Z:=⟨z.row.map bJ,z.w⟩
def Pp (x y:Z):Int:=bO x.row y.row
def oZ (x:Z):List Z:=if x.w=0 then [] else [x]
def fL (x:Z):List Z ->List Z
 | []=>oZ x
 | y::l=>if bO y.row x.row=0 then fL ⟨x.row,IntKind.i64.wrap (x.w+y.w)⟩ l else oZ x++fL y l
def oG:List Z ->List Z
 | []=>[]
 | x::l=>fL x l
def gM (l:List Z):List Z:=oG (jf Pp (l.map eH))
def ru (e:Z×Value):PV:=(e.2,.int .i64 e.1.w)
def Zz (x:Z):List Z ->Bool
 | y::_=>decide (bO y.row x.row=0)
 | []=>false
theorem EM {x:Z}{l:List Z}(h:∀ y r,l=y::r ->bO y.row x.row≠0):fL x l=oZ x++oG l:=by
 cases l with
 | nil=>simp [fL,oG]
 | cons y r=>rw [fL,if_neg (h y r rfl),oG]
theorem FN:∀ (n:Nat),((List.range n).flatMap fun _=>[Value.slice none 0 0,.int .i64 0])=fl ru (List.replicate n (⟨[],0⟩,.slice none 0 0))
 | 0=>rfl
 | n+1=>by
  rw [List.range_succ,List.flatMap_append,FN n,List.replicate_succ']
  simp [fl,ru]
theorem iw {M:aS}{z:Z}{cs:List Value}(h:RZ M z cs):∀ u∈cs,u.oneCell'=true:=by
 obtain ⟨s,h1,rfl⟩:=h
 have:=(dA h1).1
 intro u hu
 simp only [mn] at hu
 rcases hu with rfl | rfl<;>first | exact this | rfl
theorem aaw {α:Type}{enc:α ->PV}{l:List α}{i:Nat}(x:α)(h:i<l.length):((fl enc l).set (i*2) (enc x).1).set (i*2+1) (enc x).2=fl enc (l.set i x):=by
 have:=tO (enc:=enc) [] x h
 simpa using this
theorem Lb {α:Type}{enc:α ->PV}{l:List α}{i:Nat}(h:i<l.length):(fl enc l)[i*2]?=some (enc l[i]).1:=by
 have:=eg (enc:=enc) [] h
 simpa using this
theorem LR {α:Type}{enc:α ->PV}{l:List α}{i:Nat}(h:i<l.length):(fl enc l)[i*2+1]?=some (enc l[i]).2:=by
 have:=eh (enc:=enc) [] h
 simpa using this
theorem fR {M:aS}{r:List V}{v:Value}(h:RS M RV 3 r v):∃ a c,v=.slice a r.length c:=by
 obtain ⟨_,a,c,h,_⟩:=ax (by decide) (fun _ _=>eM) h;exact ⟨a,c,h⟩
variable {M:aS}
theorem NB {a b:List V}{av bv:Value}{m n:Int}(ha:RS M RV 3 a av)(hb:RS M RV 3 b bv)(T:Tm):bV Tryz.prog 210 [.agg ⟨[av,.int .i64 m]⟩,.agg ⟨[bv,.int .i64 n]⟩] T M [] [] (fun r _ _ _=>r=.int .i64 (bO a b)) aM:=by
 have h1:=(dA ha).1
 have h2:=(dA hb).1
 refine az afr rfl rfl ?_
 intro bi _
 simp +contextual only [go_sem,sevalprocAttr]
 intro b1 T1 fx dh fT b2 T2 dN fh dy ei
 refine aP (tD ha hb _) ?_
 simp +contextual only [go_sem,sevalprocAttr]
 exact ak (dh.trans dy) rfl
theorem aiy:CmpOk M ru 210 [] (fun x y=>Pp x.1 y.1) (fun e=>RS M RV 3 e.1.row e.2) where
 bod:=afr.bd
 one:=fun x hx=>⟨(dA hx).1,rfl⟩
 call:=fun x y hx hy T=>NB hx hy T
theorem N8 {fi fs fr fm ft fo:FuncId}(hs:SF fi fs fr fm ft fo){α:Type}[Inhabited α]{enc:α ->PV}{g:FuncId}{caps:List Value}{cf:α ->α ->Int}{ok:α ->Prop}(hc:CmpOk M enc g caps cf ok){db n:Nat}{l:List α}(hl:l.length=n)(cB:∀ e∈l,ok e)(hn:n<=4294967296)(T:Tm):
 bV Tryz.prog fo [.slice (some ⟨db,0,none⟩) n n,.func (.func g) #[] ⟨caps⟩] T M [(db,fl enc l)] [] (fun r M' L' R'=>r=.tuple #[]/\M'=M/\L'=[(db,fl enc (jf cf l))]/\R'=[]) aM:=by
 have:=QP hs (junk:=[]) (db:=db) hc hl (Nat.le_refl _) cB hn T
 simpa only [List.append_nil] using this
theorem Ek {l:List Z}{lv:Value}(hl:RS M (RZ M) 2 l lv)(bq:l.length<=4294967296)(bP:∀ z∈l,z.row.length<=4294967296)(T:Tm):bV Tryz.prog 150 [lv] T M [] [] (fun v M' _ _=>RS M' (RZ M') 2 (gM l) v) aM:=by
 obtain ⟨eZ,a,c,rfl,di,_,hg⟩:=ax (by decide) (fun _ _=>br) hl
 obtain ⟨S,hS⟩:∃ S,S=gM l:=⟨_,rfl⟩
 rw [<- hS]
 unfold gM at hS
 refine az af6 rfl rfl ?_
 intro bi _
 simp +contextual only [go_sem,aD,sevalprocAttr,bq]
 intro b3 ii
 rw [FN]
 refine aO l.length 14 [(3,.slice (some ⟨b3,0,none⟩) l.length l.length),(12,.slice a l.length c),(13,.int .i64 (l.length:Int))] (fun i e h=>∃ N' M' zs,aF T N'/\bm M M'/\M' b3=none/\h=⟨N',M',[(b3,fl ru zs)],[]⟩/\zs.length=l.length/\(zs.map Prod.fst).take i=(l.map eH).take i/\∀ e∈zs,RS M' RV 3 e.1.row e.2) 0 (by omega) (by simp only [aE,go_sem,sevalprocAttr]) (by simp only [go_sem,sevalprocAttr]) ⟨T,M,_,aF.rfl',bm.rfl',ii,rfl,by simp,by simp,by intro e he;rw [List.eq_of_mem_replicate he];exact bu⟩ ?_
 rintro i e h hi aG ht ⟨T1,M1,zs,dh,aV,IS,rfl,qh,tX,cB⟩
 simp only [aE] at aG
 by_cases aL:i<l.length
 ·obtain ⟨b',o',cs',rfl,bQ,s,cG,rfl⟩:=hg i l[i] (gq aL)
  obtain ⟨y0,y1,_⟩:=bQ.ext aV
  have iX:=(dA cG).1
  simp +contextual only [go_sem,aD,sevalprocAttr,aG,ht,aL,y0,y1,iX]
  intro b5 T5 j6 ea lG oQ
  refine aX ?_
  simp +contextual only [go_sem,sevalprocAttr,aG,aC j6]
  refine aI (Lo (qz aV cG) (bP _ (gm aL)) _) ?_
  rintro v M2 bh aZ hv
  simp only [aJ] at aZ
  have Bd:i*2+2<=(fl ru zs).length:=by rw [jh];omega
  obtain ⟨va,vc,rfl⟩:=fR hv
  simp +contextual only [go_sem,sevalprocAttr,ht,aL,ea,Bd]
  refine ⟨fu bh ⟨aZ.1,aZ.2.1,trivial⟩,?_⟩
  refine aR (al (aB ⟨l.length - (i+1),by omega,rfl,i+1,by omega,rfl,?_,?_,T5,M2,zs.set i (eH l[i],.slice va (l[i].row.map bJ).length vc),dh.trans lG,aV.trans bh,aZ.2.1,?_,by simpa using qh,?_,?_⟩))
  ·simp only [aE,aG,go_sem,sevalprocAttr]
  ·simp only [go_sem,sevalprocAttr,aA i (by omega)]
  ·have:=aaw (enc:=ru) (l:=zs) (i:=i) (eH l[i],.slice va (l[i].row.map bJ).length vc) (by omega)
   rw [<- this];rfl
  ·rw [List.map_set]
   exact rX tX (by simp;omega) (by simp [aL])
  ·intro e he
   rcases List.mem_or_eq_of_mem_set he with he | rfl
   ·exact qz bh (cB e he)
   ·exact hv
 have:i=l.length:=by omega
 subst this
 rw [List.take_of_length_le (by simp [qh]),List.take_of_length_le (by simp)] at tX
 simp +contextual only [go_sem,aD,sevalprocAttr,aG,ht,aL]
 refine jk (N8 .z aiy qh cB (by omega) _) ?_
 obtain ⟨zt,hzt⟩:∃ zt,zt=jf (fun x y=>Pp x.1 y.1) zs:=⟨_,rfl⟩
 have QX:=IN (fun x y:Z×Value=>Pp x.1 y.1) zs
 rw [<- hzt] at QX
 have hm:zt.map Prod.fst=jf Pp (l.map eH):=by rw [hzt,<- tX];exact (O0 (f:=Prod.fst) rfl (fun _ _=>rfl) zs).symm
 rw [<- hm] at hS
 have ztl:zt.length=l.length:=QX.1.trans qh
 have ztok:=QX.2 _ cB
 rw [<- hzt]
 simp +contextual only [go_sem,aD,sevalprocAttr]
 refine jD [(3,.slice (some ⟨b3,0,none⟩) l.length l.length)] (fun k e h=>∃ i N' R' fv acc,e 7=.int .i64 ((i:Nat):Int)/\e 6=fv/\aF T N'/\h=⟨N',M1,[(b3,fl ru zt)],R'⟩/\kT 38 2 (RZ M1) [] R' fv acc/\acc.length<=i/\i<=l.length/\k=l.length - i/\S=acc++oG ((zt.map Prod.fst).drop i)) l.length (by simp only [aE,aG,go_sem,sevalprocAttr]) ⟨0,T1,[],_,[],by simp only [go_sem,sevalprocAttr],by simp only [go_sem,sevalprocAttr],dh,rfl,cV,by simp,by omega,rfl,hS⟩ ?_
 rintro k e h aG ⟨i,N2,R2,fv,acc,e7,e6,AK,rfl,bj,jN,D5,rfl,am⟩
 simp only [aE] at aG
 by_cases aL:i<l.length
 rotate_left
 ·rw [List.drop_eq_nil_of_le (by simp;omega),oG,List.append_nil] at am
  simp +contextual only [go_sem,aD,sevalprocAttr,aG,e7,e6,aL]
  subst e6
  refine cz bj (by omega) (by decide) ⟨IS,trivial⟩ fun M2 bh aZ cG=>ak AK ?_
  rw [am]
  exact aH bm.rfl' (fJ bh) cG
 have hiz:i<zt.length:=by omega
 have c0:=Lb (enc:=ru) hiz
 have c1:=LR (enc:=ru) hiz
 obtain ⟨⟨x,xv⟩,hx⟩:∃ p,p=zt[i]:=⟨_,rfl⟩
 have hxr:RS M1 RV 3 x.row xv:=by have:=ztok _ (gm hiz);rw [<- hx] at this;exact this
 rw [<- hx] at c0 c1
 simp only [ru] at c0 c1
 have hmd:(zt.map Prod.fst).drop i=x::(zt.map Prod.fst).drop (i+1):=by
  rw [dq (by simpa using hiz)];simp [<- hx]
 rw [hmd,oG] at am
 obtain ⟨xa,xc,rfl⟩:=fR hxr
 simp +contextual only [go_sem,aD,sevalprocAttr,aG,e7,aL,aC IS,c0,c1]
 intro b8 T8 px eB ni sH
 refine jD [(3,.slice (some ⟨b3,0,none⟩) l.length l.length),(6,fv),(8,.pointer (some ⟨b8,0,none⟩))] (fun k e h=>∃ q y yv,e 7=.int .i64 ((q:Nat):Int)/\h=⟨T8,M1,[(b8,[yv,.int .i64 y.w]),(b3,fl ru zt)],R2⟩/\RS M1 RV 3 y.row yv/\i<q/\q<=l.length/\k=l.length - q/\S=acc++fL y ((zt.map Prod.fst).drop q)) (l.length - (i+1)) (by simp only [aE,aG,e6,go_sem,sevalprocAttr]) ⟨i+1,x,_,by simp only [go_sem,sevalprocAttr,aA i (by omega)],rfl,hxr,by omega,by omega,rfl,am⟩ ?_
 clear am hx hmd c0 c1 aG e7 e6
 rintro k e h aG ⟨q,y,yv,e7,rfl,ZS,hiq,hql,rfl,am⟩
 simp only [aE] at aG
 obtain ⟨ya,yc,rfl⟩:=fR ZS
 simp +contextual only [go_sem,sevalprocAttr]
 refine l5 (fun e ds h=>ds=[]/\aE e [(3,.slice (some ⟨b3,0,none⟩) l.length l.length),(6,fv),(8,.pointer (some ⟨b8,0,none⟩)),(7,.int .i64 ((q:Nat):Int))]/\e 55=.bool (Zz y ((zt.map Prod.fst).drop q))/\h=⟨T8,M1,[(b8,[.slice ya y.row.length yc,.int .i64 y.w]),(b3,fl ru zt)],R2⟩) (fun S' eY=> ?_) ?_
 ·refine aX ?_
  by_cases hq:q<l.length
  ·have hqz:q<zt.length:=by omega
   have c0:=Lb (enc:=ru) hqz
   have hz:=ztok _ (gm hqz)
   have BN:Zz y ((zt.map Prod.fst).drop q)=decide (bO zt[q].1.row y.row=0):=by
    rw [dq (by simpa using hqz)];simp [Zz]
   simp only [ru] at c0
   simp +contextual only [go_sem,sevalprocAttr,aG,e7,hq,aC IS,aC px,eB,c0]
   refine aP (tD hz ZS _) ?_
   simp +contextual only [go_sem,sevalprocAttr]
   exact eY _ _ _ ⟨rfl,by simp only [aE,go_sem,sevalprocAttr,aG,e7],by simp only [go_sem,sevalprocAttr,BN],rfl⟩
  ·have BN:Zz y ((zt.map Prod.fst).drop q)=false:=by
    rw [List.drop_eq_nil_of_le (by simp;omega)];rfl
   simp +contextual only [go_sem,sevalprocAttr,aG,e7,hq]
   exact eY _ _ _ ⟨rfl,by simp only [aE,go_sem,sevalprocAttr,aG,e7],by simp only [go_sem,sevalprocAttr,BN],rfl⟩
 clear aG e7
 rintro e ds h ⟨rfl,aG,e55,rfl⟩
 simp only [aE] at aG
 cases BN:Zz y ((zt.map Prod.fst).drop q) with
 | true=>
  obtain ⟨z,r,NW⟩:∃ z r,(zt.map Prod.fst).drop q=z::r:=by
   cases hd:(zt.map Prod.fst).drop q with
   | nil=>rw [hd] at BN;cases BN
   | cons z r=>exact ⟨z,r,rfl⟩
  have hqz:q<zt.length:=by
   have:=congrArg List.length NW
   simp only [List.length_drop,List.length_map,List.length_cons] at this
   omega
  have hdq:(zt.map Prod.fst).drop q=zt[q].1::(zt.map Prod.fst).drop (q+1):=by
   rw [dq (by simpa using hqz)];simp
  rw [hdq] at BN am
  simp only [Zz,decide_eq_true_eq] at BN
  rw [fL,if_pos BN] at am
  have hql:q<l.length:=by omega
  have c1:=LR (enc:=ru) hqz
  simp only [ru] at c1
  rw [hdq] at e55
  simp only [Zz,BN,decide_true] at e55
  simp +contextual only [go_sem,aD,sevalprocAttr,e55]
  refine aX ?_
  simp +contextual only [go_sem,sevalprocAttr,aG,hql,aC IS,aC px,eB,c1]
  exact mZ (m':=l.length - (q+1)) (by omega) (by simp only [aE,go_sem,sevalprocAttr,aG]) ⟨q+1,⟨y.row,IntKind.i64.wrap (y.w+zt[q].1.w)⟩,_,by simp only [go_sem,sevalprocAttr,aA q (by omega)],rfl,ZS,by omega,by omega,rfl,am⟩
 | false=>
  have hmg:fL y ((zt.map Prod.fst).drop q)=oZ y++oG ((zt.map Prod.fst).drop q):=EM (by
   intro z r hz
   rw [hz] at BN
   simpa [Zz] using BN)
  rw [hmg] at am
  rw [BN] at e55
  simp +contextual only [go_sem,aD,sevalprocAttr,aG,e55,aC px]
  by_cases hw:y.w=0
  ·rw [oZ,if_pos hw,List.nil_append] at am
   rw [if_pos hw]
   exact aR (al (aB ⟨l.length - q,by omega,rfl,by simp only [aE,go_sem,sevalprocAttr,aG],q,T8,R2,fv,acc,by simp only [go_sem,sevalprocAttr,aG],by simp only [go_sem,sevalprocAttr,aG],AK.trans ni,rfl,bj,by omega,hql,rfl,am⟩))
  ·rw [oZ,if_neg hw,<- List.append_assoc] at am
   rw [if_neg hw]
   intro b9 qy gP
   refine cA (Tryz.underlying33) je iY (x:=y) (cs:=[.slice ya y.row.length yc,.int .i64 y.w]) bj ⟨_,ZS,rfl⟩ (fun _ _=>br) (iw ⟨_,ZS,rfl⟩) qy (by omega) (by decide) ?_
   intro fv' R' bz
   simp +contextual only [go_sem,sevalprocAttr]
   exact aR (al (al (aB ⟨l.length - q,by omega,rfl,by simp only [aE,go_sem,sevalprocAttr,aG],q,T8,R',fv',acc++[y],by simp only [go_sem,sevalprocAttr,aG],by simp only [go_sem,sevalprocAttr],AK.trans ni,rfl,bz,by rw [List.length_append];simp only [ln];omega,hql,rfl,am⟩)))
def EW (res:Except Int (List Int))(v:Value)(M:aS):Prop:=match res with
 | .ok l=>∃ sv,v=.tuple ⟨[sv,.int .i64 0]⟩/\RS M RI 1 l sv
 | .error e=>e≠0/\∃ sv,v=.tuple ⟨[sv,.int .i64 e]⟩
def Qd (res:Except Int (List Int))(v:Value)(M:aS):Prop:=match res with
 | .ok l=>∃ sv,v=.tuple ⟨[sv,.int .i64 0]⟩/\RS M RI 1 l sv
 | .error e=>e≠0/\v=.tuple ⟨[.slice none 0 0,.int .i64 e]⟩
theorem Ip {res:Except Int (List Int)}{v:Value}{M:aS}(h:Qd res v M):EW res v M:=by
 cases res with
 | ok l=>exact h
 | error e=>exact ⟨h.1,_,h.2⟩
theorem vB {cols:List Int}{x:Ex}{l:List Ex}{t:Int}(h:kZ cols x=.ok t):ig cols (x::l)=BC t (ig cols l):=by
 rw [ig,h];cases ig cols l<;>rfl
theorem ss {cols:List Int}{x:Ex}{l:List Ex}{e:Int}(h:kZ cols x=.error e):ig cols (x::l)=.error e:=by rw [ig,h]
theorem RW {cols:List Int}{x:Ag}{l:List Ag}{t:Int}(h:uz cols x=.ok t):jg cols (x::l)=BC t (jg cols l):=by
 rw [jg,h];cases jg cols l<;>rfl
theorem NR {cols:List Int}{x:Ag}{l:List Ag}{e:Int}(h:uz cols x=.error e):jg cols (x::l)=.error e:=by rw [jg,h]
theorem At6 {M:aS}{b o:Nat}{v0 v1 v2 v3 v4 v5:Value}(h:At M b o [v0,v1,v2,v3,v4,v5]):aN M ⟨b,o,none⟩=some v0/\aN M ⟨b,o+1,none⟩=some v1/\aN M ⟨b,o+2,none⟩=some v2/\aN M ⟨b,o+3,none⟩=some v3/\aN M ⟨b,o+4,none⟩=some v4/\aN M ⟨b,o+5,none⟩=some v5:=
 ⟨h.1,h.2.1,h.2.2.1,h.2.2.2.1,h.2.2.2.2.1,h.2.2.2.2.2.1⟩
theorem tS {M:aS}{cols:List Int}{cv sv:Value}{xs:List Ex}(lk:RS M RI 1 cols cv)(hs:RS M (ij M) 6 xs sv)(T:Tm):
 bV Tryz.prog 202 [cv,sv] T M [] [] (fun r M' _ _=>Qd (fI cols xs) r M') aM:=by
 obtain ⟨eZ,a,c,rfl,di,_,hg⟩:=ax (by decide) (fun _ _=>eb) hs
 unfold fI
 refine az ajW rfl rfl ?_
 intro bi _
 by_cases h8:8<xs.length
 ·have th:(8:Int)<(xs.length:Int):=by omega
  rw [if_pos h8]
  simp +contextual only [go_sem,aD,sevalprocAttr,th]
  exact ak aF.rfl' ⟨by decide,rfl⟩
 have th:¬ (8:Int)<(xs.length:Int):=by omega
 rw [if_neg h8]
 simp +contextual only [go_sem,aD,sevalprocAttr,th]
 refine aO xs.length 16 [(0,cv),(14,.slice a xs.length c),(15,.int .i64 (xs.length:Int))] (fun i e h=>∃ N' M' R fv acc,aF T N'/\bm M M'/\h=⟨N',M',[],R⟩/\e 6=fv/\acc.length=i/\kT 3 1 RI [] R fv acc/\rh acc (ig cols (xs.drop i))=ig cols xs) 0 (by omega) (by simp only [aE,go_sem,sevalprocAttr]) (by simp only [go_sem,sevalprocAttr]) ⟨T,M,[],_,[],aF.rfl',bm.rfl',rfl,by simp only [go_sem,sevalprocAttr],rfl,cV,qt _⟩ ?_
 rintro i e h hi aG ht ⟨N1,M1,R1,fv,acc,pw,aV,rfl,e6,jN,bj,am⟩
 simp only [aE] at aG
 by_cases aL:i<xs.length
 ·obtain ⟨b',o',cs',rfl,bQ,dV⟩:=hg i xs[i] (gq aL)
  have V4:=cJ aV _ _ dV
  obtain ⟨s0,rfl,xh,o7⟩:=dF V4
  obtain ⟨x0,x1,x2,x3,x4,x5⟩:=At6 (bQ.ext aV)
  have bK:xs.drop i=xs[i]::xs.drop (i+1):=dq aL
  rw [bK] at am
  simp +contextual only [go_sem,aD,sevalprocAttr,aG,ht,aL,x0,x1,x2,x3,x4,x5,xh]
  intro b8 T8 px ni sH
  refine aI (C0 (aH aV (fun _ _ h=>h) lk) V4 T8) ?_
  rintro r M2 bh aZ hr
  have hT:=pw.trans ni
  cases nq:kZ cols xs[i] with
  | error er=>
   rw [nq] at hr
   obtain ⟨cu,t,rfl⟩:=hr
   rw [ss nq] at am
   rw [<- am]
   simp +contextual only [go_sem,aD,sevalprocAttr,cu]
   exact ak hT ⟨cu,rfl⟩
  | ok t=>
   rw [nq] at hr
   simp only [CK] at hr
   subst hr
   rw [vB nq,<- n8] at am
   simp +contextual only [go_sem,aD,sevalprocAttr,e6]
   intro b7 mN jv
   refine cA (Tryz.underlying54) kd ko (x:=t) bj rfl (fun _ _=>ct) (iO rfl) mN (by omega) (by decide) ?_
   intro fv' R' bz
   simp +contextual only [go_sem,sevalprocAttr,ht]
   refine aR (al (al (aB ⟨xs.length - (i+1),by omega,rfl,i+1,by omega,rfl,?_,?_,T8,M2,R',fv',acc++[t],hT,aV.trans bh,rfl,?_,?_,bz,am⟩)))
   ·simp only [aE,aG,go_sem,sevalprocAttr]
   ·simp only [go_sem,sevalprocAttr,aA i (by omega)]
   ·simp only [go_sem,sevalprocAttr]
   ·rw [List.length_append,jN];rfl
 ·have:i=xs.length:=by omega
  subst this
  rw [List.drop_length] at am
  simp only [ig,rh,List.append_nil] at am
  rw [<- am]
  simp +contextual only [go_sem,aD,sevalprocAttr,aG,ht,aL,e6]
  exact cz bj (by omega) (by decide) bi fun M2 bh aZ cG=>ak pw ⟨_,rfl,cG⟩
theorem pV {M:aS}{a:Ag}{cs:List Value}(h:AG M a cs):∃ s,cs=[.int .i64 a.k,.int .i64 a.x.k,.int .i64 a.x.v.k,.int .i64 a.x.v.n,st a.x.v.t,.int .i64 a.x.c,s]/\s.oneCell'=true/\ij M a.x [.int .i64 a.x.k,.int .i64 a.x.v.k,.int .i64 a.x.v.n,st a.x.v.t,.int .i64 a.x.c,s]:=by
 obtain ⟨c,h1,rfl⟩:=h
 obtain ⟨s,rfl,h2,_⟩:=dF h1
 exact ⟨s,rfl,h2,h1⟩
theorem EB {M:aS}{cols:List Int}{cv sv:Value}{l:List Ag}(lk:RS M RI 1 cols cv)(hs:RS M (AG M) 7 l sv)(bq:l.length<=1048576)(T:Tm):
 bV Tryz.prog 232 [cv,sv] T M [] [] (fun r M' _ _=>Qd (jg cols l) r M') aM:=by
 obtain ⟨eZ,a,c,rfl,di,_,hg⟩:=ax (by decide) (fun _ _=>mE) hs
 refine az ai2 rfl rfl ?_
 intro bi _
 simp +contextual only [go_sem,aD,sevalprocAttr]
 refine aO l.length 14 [(0,cv),(12,.slice a l.length c),(13,.int .i64 (l.length:Int))] (fun i e h=>∃ N' M' R fv acc,aF T N'/\bm M M'/\h=⟨N',M',[],R⟩/\e 6=fv/\acc.length=i/\kT 3 1 RI [] R fv acc/\rh acc (jg cols (l.drop i))=jg cols l) 0 (by omega) (by simp only [aE,go_sem,sevalprocAttr]) (by simp only [go_sem,sevalprocAttr]) ⟨T,M,[],_,[],aF.rfl',bm.rfl',rfl,by simp only [go_sem,sevalprocAttr],rfl,cV,qt _⟩ ?_
 rintro i e h hi aG ht ⟨N1,M1,R1,fv,acc,pw,aV,rfl,e6,jN,bj,am⟩
 simp only [aE] at aG
 by_cases aL:i<l.length
 ·obtain ⟨b',o',cs',rfl,bQ,dV⟩:=hg i l[i] (gq aL)
  obtain ⟨s0,rfl,xh,wV⟩:=pV (qM aV _ _ dV)
  obtain ⟨x0,x1,x2,x3,x4,x5,x6⟩:=At7 (bQ.ext aV)
  have bK:l.drop i=l[i]::l.drop (i+1):=dq aL
  rw [bK] at am
  have FX:∀ (t:Int),uz cols l[i]=.ok t ->rh (acc++[t]) (jg cols (l.drop (i+1)))=jg cols l:=fun t h=>by rw [RW h,<- n8] at am;exact am
  have SH:∀ (er:Int),uz cols l[i]=.error er ->jg cols l=.error er:=fun er h=>by rw [NR h] at am;exact am.symm
  simp +contextual only [go_sem,aD,sevalprocAttr,aG,ht,aL,e6,x0,x1,x2,x3,x4,x5,x6,xh]
  intro b8 T8 px ni sH
  have hT:=pw.trans ni
  by_cases hk:l[i].k<1\/5<l[i].k
  ·rw [if_pos hk]
   have:=SH 1 (by unfold uz;rw [if_pos hk])
   rw [this]
   exact ak hT ⟨by decide,rfl⟩
  rw [if_neg hk]
  by_cases D2:l[i].k=1
  ·rw [if_pos D2]
   have qL:=FX 3 (by unfold uz;rw [if_neg hk,if_pos D2])
   intro b7 mN jv
   refine cA (Tryz.underlying54) kd ko (x:=(3:Int)) (cs:=[.int .i64 3]) bj rfl (fun _ _=>ct) (iO rfl) mN (by omega) (by decide) ?_
   intro fv' R' bz
   simp +contextual only [go_sem,sevalprocAttr,ht]
   refine aR (al (al (aB ⟨l.length - (i+1),by omega,rfl,i+1,by omega,rfl,?_,?_,T8,M1,R',fv',acc++[3],hT,aV,rfl,?_,?_,bz,qL⟩)))
   ·simp only [aE,aG,go_sem,sevalprocAttr]
   ·simp only [go_sem,sevalprocAttr,aA i (by omega)]
   ·simp only [go_sem,sevalprocAttr]
   ·rw [List.length_append,jN];rfl
  rw [if_neg D2]
  have V4:ij M1 l[i].x [.int .i64 l[i].x.k,.int .i64 l[i].x.v.k,.int .i64 l[i].x.v.n,st l[i].x.v.t,.int .i64 l[i].x.c,s0]:=wV
  refine aI (C0 (aH aV (fun _ _ h=>h) lk) V4 T8) ?_
  rintro r M2 bh aZ hr
  cases nq:kZ cols l[i].x with
  | error er=>
   rw [nq] at hr
   obtain ⟨cu,t,rfl⟩:=hr
   rw [SH er (by unfold uz;rw [if_neg hk,if_neg D2,nq])]
   simp +contextual only [go_sem,aD,sevalprocAttr,cu]
   exact ak hT ⟨cu,rfl⟩
  | ok t=>
   rw [nq] at hr
   simp only [CK] at hr
   subst hr
   simp only [aJ] at aZ
   have Vg:aN M2 ⟨b8,0,none⟩=none:=by first | exact aZ | simp [aN,aZ]
   by_cases g1:l[i].k=3
   ·by_cases g2:t=3
    ·have qL:=FX 3 (by unfold uz;rw [if_neg hk,if_neg D2,nq];simp [g1,g2])
     simp +contextual only [go_sem,aD,sevalprocAttr,e6,Vg,g1,g2]
     intro b7 mN jv
     refine cA (Tryz.underlying54) kd ko (x:=(3:Int)) (cs:=[.int .i64 3]) bj rfl (fun _ _=>ct) (iO rfl) mN (by omega) (by decide) ?_
     intro fv' R' bz
     simp +contextual only [go_sem,sevalprocAttr,ht]
     refine aR (al (al (aB ⟨l.length - (i+1),by omega,rfl,i+1,by omega,rfl,?_,?_,T8,M2,R',fv',acc++[3],hT,aV.trans bh,rfl,?_,?_,bz,qL⟩)))
     ·simp only [aE,aG,go_sem,sevalprocAttr]
     ·simp only [go_sem,sevalprocAttr,aA i (by omega)]
     ·simp only [go_sem,sevalprocAttr]
     ·rw [List.length_append,jN];rfl
    ·by_cases g3:t=1
     ·have qL:=FX 3 (by unfold uz;rw [if_neg hk,if_neg D2,nq];simp [g1,g3])
      simp +contextual only [go_sem,aD,sevalprocAttr,e6,Vg,g1,g3]
      intro b7 mN jv
      refine cA (Tryz.underlying54) kd ko (x:=(3:Int)) (cs:=[.int .i64 3]) bj rfl (fun _ _=>ct) (iO rfl) mN (by omega) (by decide) ?_
      intro fv' R' bz
      simp +contextual only [go_sem,sevalprocAttr,ht]
      refine aR (al (al (aB ⟨l.length - (i+1),by omega,rfl,i+1,by omega,rfl,?_,?_,T8,M2,R',fv',acc++[3],hT,aV.trans bh,rfl,?_,?_,bz,qL⟩)))
      ·simp only [aE,aG,go_sem,sevalprocAttr]
      ·simp only [go_sem,sevalprocAttr,aA i (by omega)]
      ·simp only [go_sem,sevalprocAttr]
      ·rw [List.length_append,jN];rfl
     ·rw [SH 9 (by unfold uz;rw [if_neg hk,if_neg D2,nq];simp [g1,g2,g3])]
      simp +contextual only [go_sem,aD,sevalprocAttr,Vg,g1,g2,g3]
      exact ak hT ⟨by decide,rfl⟩
   ·by_cases g4:4<=l[i].k
    ·have qL:=FX t (by unfold uz;rw [if_neg hk,if_neg D2,nq];simp [g1,g4])
     simp +contextual only [go_sem,aD,sevalprocAttr,e6,Vg,g1,g4]
     intro b7 mN jv
     refine cA (Tryz.underlying54) kd ko (x:=(t:Int)) (cs:=[.int .i64 t]) bj rfl (fun _ _=>ct) (iO rfl) mN (by omega) (by decide) ?_
     intro fv' R' bz
     simp +contextual only [go_sem,sevalprocAttr,ht]
     refine aR (al (al (aB ⟨l.length - (i+1),by omega,rfl,i+1,by omega,rfl,?_,?_,T8,M2,R',fv',acc++[t],hT,aV.trans bh,rfl,?_,?_,bz,qL⟩)))
     ·simp only [aE,aG,go_sem,sevalprocAttr]
     ·simp only [go_sem,sevalprocAttr,aA i (by omega)]
     ·simp only [go_sem,sevalprocAttr]
     ·rw [List.length_append,jN];rfl
    ·have qL:=FX 3 (by unfold uz;rw [if_neg hk,if_neg D2,nq];simp [g1,g4])
     simp +contextual only [go_sem,aD,sevalprocAttr,e6,Vg,g1,g4]
     intro b7 mN jv
     refine cA (Tryz.underlying54) kd ko (x:=(3:Int)) (cs:=[.int .i64 3]) bj rfl (fun _ _=>ct) (iO rfl) mN (by omega) (by decide) ?_
     intro fv' R' bz
     simp +contextual only [go_sem,sevalprocAttr,ht]
     refine aR (al (al (aB ⟨l.length - (i+1),by omega,rfl,i+1,by omega,rfl,?_,?_,T8,M2,R',fv',acc++[3],hT,aV.trans bh,rfl,?_,?_,bz,qL⟩)))
     ·simp only [aE,aG,go_sem,sevalprocAttr]
     ·simp only [go_sem,sevalprocAttr,aA i (by omega)]
     ·simp only [go_sem,sevalprocAttr]
     ·rw [List.length_append,jN];rfl
 ·have:i=l.length:=by omega
  subst this
  rw [List.drop_length] at am
  simp only [jg,rh,List.append_nil] at am
  rw [<- am]
  simp +contextual only [go_sem,aD,sevalprocAttr,aG,ht,aL,e6]
  exact cz bj (by omega) (by decide) bi fun M2 bh aZ cG=>ak pw ⟨_,rfl,cG⟩
theorem P8 (k:Int){M:aS}(T:Tm):bV Tryz.prog 200 [.int .i64 k] T M [] [] (fun r _ _ _=>r=.int .i64 (hX k)) aM:=by
 refine az akb rfl rfl ?_
 intro _ _
 simp +contextual only [go_sem,aD,sevalprocAttr]
 (repeat' split)<;>(refine ak aF.rfl' ?_;refine cN ?_;simp only [hX];grind)
theorem V3 {M:aS}{l:List Int}{a:Option Addr}{c:Nat}(hs:RS M RI 1 l (.slice a l.length c)):0<l.length ->∃ b o,a=some ⟨b,o,none⟩/\∀ (i:Nat),i<l.length ->aN M ⟨b,o+i,none⟩=some (.int .i64 (l.getD i 0)):=by
 obtain ⟨_,a',c',h',_,_,hg⟩:=ax (by decide) (fun _ _=>ct) hs
 cases h'
 intro h0
 obtain ⟨b,o,cs,rfl,_⟩:=hg 0 l[0] (gq h0)
 refine ⟨b,o,rfl,fun i hi=> ?_⟩
 obtain ⟨b2,o2,cs2,h2,bQ,hr⟩:=hg i l[i] (gq hi)
 cases h2
 unfold RI at hr;subst hr
 have:=xG bQ
 rw [Nat.mul_one] at this
 rw [this,List.getD_eq_getElem?_getD,gq hi];rfl
theorem HZ {a b:List Int}{i:Nat}(hi:i<a.length)(hj:i<b.length):lu (a.drop i) (b.drop i)=match j9 a[i] b[i] with
 | none=> .error 9
 | some o=>BC o (lu (a.drop (i+1)) (b.drop (i+1))):=by
 rw [dq hi,dq hj,lu]
 cases j9 a[i] b[i] with
 | none=>rfl
 | some o=>simp only;cases lu (a.drop (i+1)) (b.drop (i+1))<;>rfl
theorem vK {M:aS}{l m:List Int}{lv mv:Value}(hl:RS M RI 1 l lv)(hm:RS M RI 1 m mv)(bq:l.length<=1048576)(T:Tm):bV Tryz.prog 203 [lv,mv] T M [] [] (fun r M' _ _=>Qd (nP l m) r M') aM:=by
 obtain ⟨eZ,a,c,rfl,di,_,hg⟩:=ax (by decide) (fun _ _=>ct) hl
 obtain ⟨_,a2,c2,rfl,ph,_,xb⟩:=ax (by decide) (fun _ _=>ct) hm
 have gO:=V3 hm
 refine az akT rfl rfl ?_
 intro bi _
 unfold nP
 by_cases cu:l.length≠m.length
 ·rw [if_pos cu]
  have j7:¬ (l.length:Int)=(m.length:Int):=by omega
  simp +contextual only [go_sem,aD,sevalprocAttr,j7]
  exact ak aF.rfl' ⟨by decide,rfl⟩
 rw [if_neg cu]
 have hlm:l.length=m.length:=by omega
 simp +contextual only [go_sem,aD,sevalprocAttr,hlm]
 refine aO l.length 16 [(1,.slice a2 m.length c2),(14,.slice a l.length c),(15,.int .i64 (l.length:Int))] (fun i e h=>∃ R fv acc,h=⟨T,M,[],R⟩/\e 6=fv/\acc.length=i/\kT 3 1 RI [] R fv acc/\rh acc (lu (l.drop i) (m.drop i))=lu l m) 0 (by omega) (by simp only [aE,go_sem,sevalprocAttr,hlm]) (by simp only [go_sem,sevalprocAttr]) ⟨[],_,[],rfl,by simp only [go_sem,sevalprocAttr],rfl,cV,qt _⟩ ?_
 rintro i e h hi aG ht ⟨R1,fv,acc,rfl,e6,jN,bj,am⟩
 simp only [aE] at aG
 by_cases aL:i<l.length
 ·obtain ⟨b',o',cs',rfl,bQ,dV⟩:=hg i l[i] (gq aL)
  unfold RI at dV;subst dV
  have x0:=xG bQ
  rw [Nat.mul_one] at x0
  have H3:i<m.length:=by omega
  obtain ⟨b2,o2,rfl,hgi⟩:=gO (by omega)
  have y0:=hgi i H3
  rw [List.getD_eq_getElem?_getD,gq H3,Option.getD_some] at y0
  rw [HZ aL H3] at am
  have vv:∀ (o:Int),j9 l[i] m[i]=some o ->rh (acc++[o]) (lu (l.drop (i+1)) (m.drop (i+1)))=lu l m:=fun o h=>by rw [h] at am;rw [n8];exact am
  by_cases h1:l[i]=m[i]
  ·have qL:=vv m[i] (by unfold j9;rw [if_pos (.inl h1),h1])
   simp +contextual only [go_sem,aD,sevalprocAttr,aG,ht,aL,H3,e6,x0,y0,h1]
   intro b7 mN
   refine cA (Tryz.underlying54) kd ko (x:=m[i]) (cs:=[.int .i64 m[i]]) bj rfl (fun _ _=>ct) (iO rfl) mN (by omega) (by decide) ?_
   intro fv' R' bz
   simp +contextual only [go_sem,sevalprocAttr,ht]
   refine aR (al (aB ⟨l.length - (i+1),by omega,rfl,i+1,by omega,rfl,?_,?_,R',fv',acc++[m[i]],rfl,?_,?_,bz,qL⟩))
   ·simp only [aE,aG,go_sem,sevalprocAttr]
   ·simp only [go_sem,sevalprocAttr,aA i (by omega)]
   ·simp only [go_sem,sevalprocAttr]
   ·rw [List.length_append,jN];rfl
  ·by_cases h2:m[i]=1
   ·have qL:=vv l[i] (by unfold j9;rw [if_pos (.inr h2)])
    simp +contextual only [go_sem,aD,sevalprocAttr,aG,ht,aL,H3,e6,x0,y0,h2]
    intro b7 mN
    refine cA (Tryz.underlying54) kd ko (x:=l[i]) (cs:=[.int .i64 l[i]]) bj rfl (fun _ _=>ct) (iO rfl) mN (by omega) (by decide) ?_
    intro fv' R' bz
    simp +contextual only [go_sem,sevalprocAttr,ht]
    refine aR (al (aB ⟨l.length - (i+1),by omega,rfl,i+1,by omega,rfl,?_,?_,R',fv',acc++[l[i]],rfl,?_,?_,bz,qL⟩))
    ·simp only [aE,aG,go_sem,sevalprocAttr]
    ·simp only [go_sem,sevalprocAttr,aA i (by omega)]
    ·simp only [go_sem,sevalprocAttr]
    ·rw [List.length_append,jN];rfl
   ·by_cases h3:l[i]=1
    ·have qL:=vv m[i] (by unfold j9;rw [if_neg (fun h=>h.elim h1 h2),if_pos h3])
     have h4:¬ 1=m[i]:=fun h=>h2 h.symm
     simp +contextual only [go_sem,aD,sevalprocAttr,aG,ht,aL,H3,e6,x0,y0,h2,h3,h4]
     intro b7 mN
     refine cA (Tryz.underlying54) kd ko (x:=m[i]) (cs:=[.int .i64 m[i]]) bj rfl (fun _ _=>ct) (iO rfl) mN (by omega) (by decide) ?_
     intro fv' R' bz
     simp +contextual only [go_sem,sevalprocAttr,ht]
     refine aR (al (aB ⟨l.length - (i+1),by omega,rfl,i+1,by omega,rfl,?_,?_,R',fv',acc++[m[i]],rfl,?_,?_,bz,qL⟩))
     ·simp only [aE,aG,go_sem,sevalprocAttr]
     ·simp only [go_sem,sevalprocAttr,aA i (by omega)]
     ·simp only [go_sem,sevalprocAttr]
     ·rw [List.length_append,jN];rfl
    ·have:j9 l[i] m[i]=none:=by unfold j9;rw [if_neg (fun h=>h.elim h1 h2),if_neg h3]
     rw [this] at am
     rw [<- am]
     simp +contextual only [go_sem,aD,sevalprocAttr,aG,ht,aL,H3,x0,y0,h1,h2,h3]
     exact ak aF.rfl' ⟨by decide,rfl⟩
 ·have:i=l.length:=by omega
  subst this
  have ug:lu ([]:List Int) []=.ok []:=by simp [lu]
  rw [List.drop_length,List.drop_eq_nil_of_le (by omega),ug] at am
  simp only [rh,List.append_nil] at am
  rw [<- am]
  simp +contextual only [go_sem,aD,sevalprocAttr,aG,ht,aL,e6]
  exact cz bj (by omega) (by decide) bi fun M2 bh aZ cG=>ak aF.rfl' ⟨_,rfl,cG⟩
def dW {α:Type}(el:TypeId)(sz:Nat)(r:α ->List Value ->Prop)(M:aS)(N:Tm)(l:List α)(lv:Value)(L:LL):Prop:=
 (l=[]/\lv=.slice none 0 0/\L=[])\/
 ∃ g cap cs junk,lv=.slice (some ⟨g,0,none⟩) l.length cap/\L=[(g,cs++junk)]/\N g=some el/\RL r l cs/\cs.length=l.length*sz/\(cs++junk).length=cap*sz/\l.length<=cap/\M g=none
section
variable {α:Type} {el:TypeId} {sz:Nat} {r:α ->List Value ->Prop} {M:aS} {N:Tm} {l:List α} {lv:Value} {L:LL}
theorem eA {N':Tm}(hN:aF N N')(h:dW el sz r M N l lv L):dW el sz r M N' l lv L:=by
 rcases h with h | ⟨g,cap,cs,junk,h1,h2,h3,h4⟩
 ·exact .inl h
 ·exact .inr ⟨g,cap,cs,junk,h1,h2,hN _ _ h3,h4⟩
theorem fj {M':aS}{r':α ->List Value ->Prop}(hr:∀ x cs,r x cs ->r' x cs)(hn:aJ M' L)(h:dW el sz r M N l lv L):dW el sz r' M' N l lv L:=by
 rcases h with h | ⟨g,cap,cs,junk,h1,rfl,h3,h4,h5,h6,h7,_⟩
 ·exact .inl h
 ·exact .inr ⟨g,cap,cs,junk,h1,rfl,h3,dl hr h4,h5,h6,h7,hn.1⟩
theorem cU (h:dW el sz r M N l lv L):∃ a c,lv=.slice a l.length c:=by
 rcases h with ⟨rfl,rfl,rfl⟩ | ⟨g,cap,cs,junk,rfl,_⟩<;>exact ⟨_,_,rfl⟩
theorem nY {P:Program}{F:Fi}{s:List Vc.Item}{e:dp}{ds:List Deferred}{dd:Option Nat}{R:RR}{t:TypeId}{z:List Value}{b:Nat}{x:α}{cs:List Value}{L1:LL}(hu:P.underlying t=some (.slice el))(bP:dR P t=some (el,sz,z))(cB:j8 P t=true)
 (h:dW el sz r M N l lv L) (hx:r x cs) (bq:cs.length=sz) (dt:∀ u∈cs,u.oneCell'=true) (hb:M b=none) (hl:l.length*sz+sz<=4398046511104) (dO:0<sz)
 (k:∀ N' lv' g cs',aF N N' ->bf g ((b,cs)::L1) ->dW el sz r M N' (l++[x]) lv' [(g,cs')] ->cy P F s (cI e dd lv') ds ⟨N',M,(g,cs')::(b,cs)::L1,R⟩ ⟨⟩):nG P F t t lv (.slice (some ⟨b,0,none⟩) 1 1) dd s e ds ⟨N,M,(b,cs)::L1++L,R⟩ ⟨⟩:=by
 have hs:∀ L2:LL,Srcs P t sz ⟨N,M,(b,cs)::L2,R⟩ (.slice (some ⟨b,0,none⟩) 1 1) cs:=fun L2=> .slice _ 1 _ _ _ hu (cD [] hb trivial (by rw [bq,Nat.one_mul])) dt
 have fin:∀ (xs:List Value),RL r l xs ->xs.length=l.length*sz ->ME lv el sz xs ⟨N,M,(b,cs)::L1++L,R⟩ ((b,cs)::L1) ->nG P F t t lv (.slice (some ⟨b,0,none⟩) 1 1) dd s e ds ⟨N,M,(b,cs)::L1++L,R⟩ ⟨⟩:=by
  intro xs fM iH ye
  refine DN bP cB ye (hs _) (hs _) (by omega) (by omega) ?_
  intro N' g m c junk jW hNg hMg uT hm hmc di
  have DT:m=(l++[x]).length:=by
   rw [List.length_append];simp only [ln]
   rw [iH,bq] at hm
   exact Nat.eq_of_mul_eq_mul_right dO (by rw [Nat.add_mul];omega)
  subst DT
  exact k N' _ g _ jW uT (.inr ⟨g,c,xs++cs,junk,rfl,rfl,hNg,cP fM ⟨cs,[],by simp,hx,rfl⟩,by rw [List.length_append,List.length_append,iH,bq,Nat.add_mul];simp,di,hmc,hMg⟩)
 rcases h with ⟨rfl,rfl,rfl⟩ | ⟨g,cap,xs,junk,rfl,rfl,hN,fM,iH,hc,di,_⟩
 ·exact fin [] rfl (by simp) (.inl ⟨rfl,rfl,by simp⟩)
 ·exact fin xs fM iH (.inr ⟨g,_,cap,junk,(b,cs)::L1,[],rfl,hN,by simp,by simp,iH,hc,di⟩)
theorem jJ {R:RR}{L2:LL}{k:Sh ->Prop}(h:dW el sz r M N l lv L)(hb:l.length*sz<=4398046511104)(hn:aJ M L2)
 (hk:∀ M',bm M M' ->aJ M' L2 ->RS M' r sz l lv ->cq ⟨N,M',L2,R⟩ k):cq ⟨N,M,L++L2,R⟩ k:=by
 rcases h with ⟨rfl,rfl,rfl⟩ | ⟨g,cap,cs,junk,rfl,rfl,hN,fM,iH,hc,di,_⟩
 ·exact hk M bm.rfl' hn bu
 ·refine aT fun he h1 h2=>hk _ he h2 ⟨hb,cs,.inr ⟨g,0,l.length,cap,rfl,di,iH,?_⟩,fM⟩
  exact lf h1 _ 0 (fun i v hv=>by
   rw [Nat.zero_add,List.getElem?_append_left (by exact (List.getElem?_eq_some_iff.1 hv).1)];exact hv)
theorem jy (h:dW el sz r M N l lv L):aJ M L:=by
 rcases h with ⟨_,_,rfl⟩ | ⟨g,cap,cs0,junk,_,rfl,_,_,_,_,_,hg⟩
 ·trivial
 ·exact ⟨hg,trivial⟩
end
def xI (M:aS)(v:Value):Prop:=∀ b o n c,v=.slice (some ⟨b,o,none⟩) n c ->M b=none
theorem wk {α:Type}{el:TypeId}{sz:Nat}{r:α ->List Value ->Prop}{M M0:aS}{N:Tm}{l:List α}{lv:Value}{L:LL}(he:bm M0 M)(h:dW el sz r M N l lv L):xI M0 lv:=by
 rintro b o n c rfl
 rcases h with ⟨_,h,_⟩ | ⟨g,cap,cs,junk,h,_,_,_,_,_,_,hg⟩
 ·cases h
 ·cases h
  cases h0:M0 b with
  | none=>rfl
  | some x=>rw [he _ _ h0] at hg;cases hg
def ms (M:aS)(t:List Int)(cs:List Value):Prop:=∃ v,cs=[v]/\RS M RI 1 t v
theorem dE {M:aS}{t:List Int}{cs}(h:ms M t cs):cs.length=1:=by obtain ⟨v,rfl,_⟩:=h;rfl
theorem cW {M M':aS}(hM:bm M M')(t:List Int)(cs)(h:ms M t cs):ms M' t cs:=by
 obtain ⟨v,rfl,h⟩:=h
 exact ⟨v,rfl,aH hM (fun _ _ h=>h) h⟩
theorem Gl {M:aS}{t:List Int}{cs}(h:ms M t cs):∀ u∈cs,u.oneCell'=true:=by
 obtain ⟨v,rfl,h⟩:=h
 obtain ⟨_,a,c,rfl,_⟩:=ax (by decide) (fun _ _=>ct) h
 intro u hu
 simp only [List.mem_singleton] at hu
 subst hu;rfl
theorem Dn {rels:List Rel}{i:Nat}(hi:i<rels.length):bN (rels.take (i+1))=bN (rels.take i)++(if rels[i].view=true then [] else [rels[i].cols.map (·.ty)]):=by
 rw [<- List.take_append_getElem hi]
 unfold bN
 rw [List.filter_append,List.map_append]
 congr 1
 cases h:rels[i].view<;>simp [h]
theorem zD {M:aS}{rels:List Rel}{rv:Value}(hr:RS M (gU M) 14 rels rv)(bq:rels.length<=1048576)(eC:∀ r∈rels,r.cols.length<=1048576)(T:Tm):
 bV Tryz.prog 54 [rv] T M [] [] (fun r M' _ _=>RS M' (ms M') 1 (bN rels) r/\xI M r) aM:=by
 obtain ⟨eZ,a,c,rfl,di,_,hg⟩:=ax (by decide) (fun _ _=>gV) hr
 refine az F54 rfl rfl ?_
 intro bi _
 simp +contextual only [go_sem,aD,sevalprocAttr]
 refine aO rels.length 11 [(9,.slice a rels.length c),(10,.int .i64 (rels.length:Int))] (fun i e h=>∃ N' M' L' fv,aF T N'/\bm M M'/\h=⟨N',M',L',[]⟩/\e 3=fv/\dW 54 1 (ms M') M' N' (bN (rels.take i)) fv L'/\(bN (rels.take i)).length<=i) 0 (by omega) (by simp only [aE,go_sem,sevalprocAttr]) (by simp only [go_sem,sevalprocAttr]) ⟨T,M,[],_,aF.rfl',bm.rfl',rfl,by simp only [go_sem,sevalprocAttr],.inl ⟨by simp [bN],rfl,rfl⟩,by simp [bN]⟩ ?_
 rintro i e h hi aG ht ⟨N1,M1,L1,fv,pw,aV,rfl,e3,bj,D3⟩
 simp only [aE] at aG
 by_cases aL:i<rels.length
 ·obtain ⟨b',o',cs',rfl,bQ,dV⟩:=hg i rels[i] (gq aL)
  obtain ⟨ca,cn,s1,a1,n1,a2,n2,a3,n3,rfl,iX,fS,s9⟩:=hF (dP aV _ _ dV)
  obtain ⟨x0,x1,x2,x3,x4,x5,x6,x7,x8,x9,x10,x11,x12,x13⟩:=CP (bQ.ext aV)
  have gF:=Dn aL
  simp +contextual only [go_sem,aD,sevalprocAttr,aG,ht,aL,x0,x1,x2,x3,x4,x5,x6,x7,x8,x9,x10,x11,x12,x13,iX]
  intro b5 T5 j6 ea lG oQ
  have dh:=pw.trans lG
  by_cases rI:rels[i].view=true
  ·rw [if_pos rI]
   rw [if_pos rI,List.append_nil] at gF
   refine aR (al (aB ⟨rels.length - (i+1),by omega,rfl,i+1,by omega,rfl,?_,?_,T5,M1,L1,fv,dh,aV,rfl,?_,?_,?_⟩))
   ·simp only [aE,aG,go_sem,sevalprocAttr]
   ·simp only [go_sem,sevalprocAttr,aA i (by omega)]
   ·simp only [e3,go_sem,sevalprocAttr]
   ·rw [gF];exact eA lG bj
   ·rw [gF];omega
  rw [if_neg rI]
  rw [if_neg rI] at gF
  obtain ⟨hcb,_,_,hcx,akg,_,hcg⟩:=ax (by decide) (fun _ _=>fQ) fS
  cases hcx
  have aen:=eC rels[i] (gm aL)
  refine bY rels[i].cols.length 20 [(3,fv),(9,.slice (some ⟨b',o',none⟩) rels.length c),(10,.int .i64 (rels.length:Int)),(11,.int .i64 (i:Nat)),(18,.slice ca rels[i].cols.length cn),(19,.int .i64 (rels[i].cols.length:Int))]
   (fun j e h=>∃ N' M' R' tv,aF T N'/\aF N1 N'/\bm M1 M'/\aJ M' L1/\h=⟨N',M',L1,R'⟩/\e 6=tv/\(j<rels[i].cols.length ->kT 3 1 RI [] R' tv ((rels[i].cols.take j).map (·.ty)))/\(j=rels[i].cols.length ->R'=[]/\RS M' RI 1 (rels[i].cols.map (·.ty)) tv))
   0 (by omega) (by simp only [aE,aG,e3,ht,go_sem,sevalprocAttr]) (by simp only [go_sem,sevalprocAttr]) ?_ ?_
  ·exact al (aB ⟨T5,M1,[],.slice none 0 0,dh,lG,bm.rfl',jy bj,rfl,by simp only [go_sem,sevalprocAttr],fun _=>cV,fun h0=>⟨rfl,by rw [List.eq_nil_of_length_eq_zero h0.symm];exact bu⟩⟩)
  ·rintro j e h hj ec Qk ⟨N2,M2,R2,tv,AK,abn,bh,pi,rfl,e6,akh,adN⟩
   simp only [aE] at ec
   by_cases tz:j<rels[i].cols.length
   ·obtain ⟨bc,oc,cc',rfl,UF,hrc⟩:=hcg j rels[i].cols[j] (gq tz)
    unfold ua at hrc
    subst hrc
    obtain ⟨z0,z1⟩:=At2 (UF.ext bh)
    have zw:=akh tz
    simp +contextual only [go_sem,aD,sevalprocAttr,ec,Qk,tz,z0,z1,e6]
    intro b8 T8 px eB ni sH b7 mN jv
    have tX:(rels[i].cols.take (j+1)).map (·.ty)=(rels[i].cols.take j).map (·.ty)++[rels[i].cols[j].ty]:=by
     rw [<- List.take_append_getElem tz,List.map_append];rfl
    have Ny:((rels[i].cols.take j).map (·.ty)).length=j:=by rw [List.length_map,List.length_take];omega
    refine cA (Tryz.underlying54) kd ko (x:=rels[i].cols[j].ty) (cs:=[.int .i64 rels[i].cols[j].ty]) zw rfl (fun _ _=>ct) (iO rfl) mN (by omega) (by decide) ?_
    intro tv' R' VQ
    rw [<- tX] at VQ
    simp +contextual only [go_sem,sevalprocAttr,Qk]
    refine aR (al (al ?_))
    by_cases hje:j+1=rels[i].cols.length
    ·have aeG:(rels[i].cols.take (j+1)).map (·.ty)=rels[i].cols.map (·.ty):=by rw [hje,List.take_length]
     rw [aeG] at VQ
     refine cz VQ (by rw [List.length_map];omega) (by decide) pi fun M3 bE H2 cG=>aB ⟨rels[i].cols.length - (j+1),by omega,rfl,j+1,by omega,rfl,?_,?_,T8,M3,[],tv',AK.trans ni,abn.trans ni,bh.trans bE,H2,rfl,?_,fun h=>absurd h (by omega),fun _=>⟨rfl,cG⟩⟩
     ·simp only [aE,ec,go_sem,sevalprocAttr]
     ·simp only [go_sem,sevalprocAttr,aA j (by omega)]
     ·simp only [go_sem,sevalprocAttr]
    ·refine aB ⟨rels[i].cols.length - (j+1),by omega,rfl,j+1,by omega,rfl,?_,?_,T8,M2,R',tv',AK.trans ni,abn.trans ni,bh,pi,rfl,?_,fun _=>VQ,fun h=>absurd h hje⟩
     ·simp only [aE,ec,go_sem,sevalprocAttr]
     ·simp only [go_sem,sevalprocAttr,aA j (by omega)]
     ·simp only [go_sem,sevalprocAttr]
   ·have:j=rels[i].cols.length:=by omega
    subst this
    obtain ⟨rfl,cG⟩:=adN rfl
    obtain ⟨_,ta,tc,rfl,_⟩:=ax (by decide) (fun _ _=>ct) cG
    simp +contextual only [go_sem,aD,sevalprocAttr,ec,Qk,tz,e6]
    intro b7 mN jv
    refine nY (L1:=[]) (Tryz.underlying131) yE yO (eA abn (fj (cW bh) pi bj)) ⟨_,rfl,cG⟩ rfl (Gl (M:=M2) ⟨_,rfl,cG⟩) mN (by omega) (by decide) ?_
    intro N4 fv' g cs' Bg uT bz
    simp +contextual only [go_sem,sevalprocAttr,ec]
    refine aR (cY (List.perm_append_comm (l₁:=[_])) (al (aB ⟨rels.length - (i+1),by omega,rfl,i+1,by omega,rfl,?_,?_,N4,M2,_,fv',AK.trans Bg,aV.trans bh,rfl,?_,?_,?_⟩)))
    ·simp only [aE,ec,go_sem,sevalprocAttr]
    ·simp only [go_sem,sevalprocAttr,aA i (by omega)]
    ·simp only [go_sem,sevalprocAttr]
    ·rw [gF];exact bz
    ·rw [gF,List.length_append];simp only [ln];omega
 ·have:i=rels.length:=by omega
  subst this
  rw [List.take_length] at bj D3
  simp +contextual only [go_sem,aD,sevalprocAttr,aG,ht,aL,e3]
  rw [<- List.append_nil L1]
  exact jJ (L2:=[]) bj (by omega) trivial fun M2 bh aZ cG=>ak pw ⟨aH bm.rfl' (cW bh) cG,wk aV bj⟩
theorem vh {M:aS}{rels:List Rel}{rv:Value}(hr:RS M (gU M) 14 rels rv)(bq:rels.length<=1048576)(eC:∀ r∈rels,r.cols.length<=1048576)(T:Tm):
 bV Tryz.prog 54 [rv] T M [] [] (fun r M' _ _=>RS M' (ms M') 1 (bN rels) r) aM:=(zD hr bq eC T).mono (fun _ _ _ _ _ _ _ h=>h.1) (fun _ _ _ _ _ _ _ h=>h)
theorem XP {M:aS}(n:Nat)(hn:n<=1073741824)(T:Tm):
 Vn Tryz.prog 233 [.slice none 0 0,.int .i64 (n:Nat)] T M [] [] 1 (fun v _ _ R'=>∃ a c,v=.slice a 0 c/\R'=[(v,3,1,[])]) aM:=by
 refine ny aiJ rfl rfl ?_
 intro bi _
 have h0:¬ ((n:Int)<0):=by omega
 by_cases hz:n=0
 ·subst hz
  simp +contextual only [go_sem,aD,sevalprocAttr, -Int.reduceAdd, -Int.reduceSub, -Int.reduceMul]
  exact eF (aQ aF.rfl' rfl rfl ⟨none,0,rfl,rfl⟩)
 ·have hp:0<n:=by omega
  have DY:(0:Int)<(n:Int):=by omega
  have hw:IntKind.i64.wrap (n:Int)=(n:Int):=bH (by omega) (by omega)
  have HF:IntKind.i64.wrap (0 - 0)=0:=by decide
  have FG:IntKind.i64.wrap ((n:Int) - IntKind.i64.wrap (0 - 0))=(n:Int):=by rw [HF,Int.sub_zero];exact hw
  have wN:kF none 0 0 1=none:=rfl
  simp +contextual only [go_sem,aD,sevalprocAttr, -Int.reduceAdd, -Int.reduceSub, -Int.reduceMul,h0]
  rw [FG,if_pos DY,wN]
  refine yx (ik:=.i64) kd ko Tryz.underlying3 hp (by omega) ?_
  intro a c zs qh di
  simp +contextual only [go_sem,sevalprocAttr, -Int.reduceAdd, -Int.reduceSub, -Int.reduceMul]
  have YF:kF a c 0 1=a:=by
   unfold kF
   cases a<;>simp [Addr.add]
  rw [YF]
  exact oU (by decide) (aQ aF.rfl' rfl rfl ⟨a,c,rfl,rfl⟩)
theorem NO {M:aS}{l:List Int}{lv:Value}(hl:RS M RI 1 l lv)(bq:l.length<=16777216)(T:Tm):
 bV Tryz.prog 146 [lv] T M [] [] (fun v M' _ _=>RS M' RI 1 l v) aM:=by
 obtain ⟨eZ,a,c,rfl,di,zw,gO⟩:=ax (by decide) (fun _ _=>ct) hl
 refine az aht rfl rfl ?_
 intro bi _
 by_cases h0:l=[]
 ·subst h0
  cases a with
  | none=>
   cases zw rfl
   simp +contextual only [go_sem,aD,sevalprocAttr, -Int.reduceAdd, -Int.reduceSub, -Int.reduceMul]
   exact ak aF.rfl' bu
  | some p=>
   simp +contextual only [go_sem,aD,sevalprocAttr, -Int.reduceAdd, -Int.reduceSub, -Int.reduceMul]
   intro b hb
   refine wj kd ko (.slice p 0 c [] _ Tryz.underlying54 rfl (by simp)) (by omega) ?_
   simp +contextual only [go_sem,sevalprocAttr, -Int.reduceAdd, -Int.reduceSub, -Int.reduceMul]
   exact aT fun he dN aZ=>ak aF.rfl' (dB (fun _ _=>ct) dN (l:=[]) rfl rfl (by omega))
 ·obtain ⟨p,hp⟩:∃ p,a=some p:=by
   cases l with
   | nil=>exact (h0 rfl).elim
   | cons x l=>obtain ⟨b,o,cs,h,_⟩:=gO 0 x rfl;exact ⟨_,h⟩
  subst hp
  obtain ⟨ys,J1,AA,Aw⟩:=jn (P:=Tryz.prog) Tryz.underlying54 (fun _ _=>ct) (fun _ _ h=>iO h) hl
  have dO:0<l.length:=List.length_pos_iff.2 h0
  simp +contextual only [go_sem,aD,sevalprocAttr, -Int.reduceAdd, -Int.reduceSub, -Int.reduceMul]
  intro b hb
  refine l4 (n:=0) (xs:=[]) kd ko (Aw _ _ _) rfl (by omega) (by simp only [List.length_nil];omega) ?_
  intro ra rm rc jc
  have jA:rm=l.length:=by simp only [List.length_nil] at jc;omega
  subst jA
  simp +contextual only [go_sem,sevalprocAttr, -Int.reduceAdd, -Int.reduceSub, -Int.reduceMul]
  refine al (cK (fun M2 bh aZ iG=>ak aF.rfl' ⟨eZ,_,iG,AA⟩) (by decide))
theorem sy {M:aS}{ls:List (List Int)}{sv:Value}(hs:RS M (ms M) 1 ls sv)(bq:ls.length<=64)(hl:∀ l∈ls,l.length<=16777216)(T:Tm):
 bV Tryz.prog 205 [sv] T M [] [] (fun v M' _ _=>RS M' RI 1 ls.flatten v) aM:=by
 obtain ⟨eZ,a,c,rfl,di,_,hg⟩:=ax (by decide) (fun _ _=>dE) hs
 obtain ⟨B,hB⟩:∃ B:Nat,B=16777216:=⟨_,rfl⟩
 rw [<- hB] at hl
 have GN:∀ i,(ls.take i).flatten.length<=i*B:=by
  intro i
  induction i with
  | zero=>simp
  | succ i ih=>
   rw [Nat.succ_mul]
   by_cases hi:i<ls.length
   ·rw [<- List.take_append_getElem hi,List.flatten_append,List.length_append]
    have:=hl ls[i] (gm hi)
    simp only [List.flatten_cons,List.flatten_nil,List.append_nil]
    omega
   ·rw [List.take_of_length_le (by omega)]
    rw [List.take_of_length_le (by omega)] at ih
    omega
 have mq:∀ i,i<=ls.length ->(ls.take i).flatten.length<=1073741824:=by
  intro i hi
  refine Nat.le_trans (GN i) ?_
  rw [hB]
  exact Nat.le_trans (Nat.mul_le_mul_right _ (show i<=64 by omega)) (by decide)
 refine az WT rfl rfl ?_
 intro bi _
 simp +contextual only [go_sem,aD,sevalprocAttr, -Int.reduceAdd, -Int.reduceSub, -Int.reduceMul]
 refine aO ls.length 11 [(0,.slice a ls.length c),(9,.slice a ls.length c),(10,.int .i64 (ls.length:Int))] (fun i e h=>h=⟨T,M,[],[]⟩/\e 3=.int .i64 ((ls.take i).flatten.length:Int)) 0 (by omega) (by simp only [aE,go_sem,sevalprocAttr, -Int.reduceAdd, -Int.reduceSub, -Int.reduceMul]) (by simp only [go_sem,sevalprocAttr, -Int.reduceAdd, -Int.reduceSub, -Int.reduceMul]) ⟨rfl,by simp only [go_sem,sevalprocAttr, -Int.reduceAdd, -Int.reduceSub, -Int.reduceMul];simp⟩ ?_
 rintro i e h hi aG ht ⟨rfl,e3⟩
 simp only [aE] at aG
 have Vj:=mq i hi
 by_cases aL:i<ls.length
 ·obtain ⟨b',o',cs',rfl,bQ,v,rfl,mP⟩:=hg i ls[i] (gq aL)
  obtain ⟨_,va,vc,rfl,_⟩:=ax (by decide) (fun _ _=>ct) mP
  have x0:=xG bQ
  rw [Nat.mul_one] at x0
  have gF:(ls.take (i+1)).flatten.length=(ls.take i).flatten.length+ls[i].length:=by
   rw [<- List.take_append_getElem aL,List.flatten_append,List.length_append];simp
  have G8:=mq (i+1) aL
  have hw:IntKind.i64.wrap (((ls.take i).flatten.length:Int)+(ls[i].length:Int))=((ls.take (i+1)).flatten.length:Int):=by
   have h1:((ls.take i).flatten.length:Int)+(ls[i].length:Int)=((ls.take (i+1)).flatten.length:Int):=by omega
   rw [h1,bH (by omega) (by omega)]
  have YW:¬ (((ls.take (i+1)).flatten.length:Int)<0):=by omega
  simp +contextual only [go_sem,aD,sevalprocAttr, -Int.reduceAdd, -Int.reduceSub, -Int.reduceMul,aG,ht,aL,x0,e3,hw,YW]
  refine aR (aB ⟨ls.length - (i+1),by omega,rfl,i+1,by omega,rfl,?_,?_,rfl,?_⟩)
  ·simp only [aE,aG,go_sem,sevalprocAttr, -Int.reduceAdd, -Int.reduceSub, -Int.reduceMul]
  ·simp only [go_sem,sevalprocAttr, -Int.reduceAdd, -Int.reduceSub, -Int.reduceMul,aA i (by omega)]
  ·simp only [go_sem,sevalprocAttr, -Int.reduceAdd, -Int.reduceSub, -Int.reduceMul]
 ·have:i=ls.length:=by omega
  subst this
  rw [List.take_length] at e3 Vj
  simp +contextual only [go_sem,aD,sevalprocAttr, -Int.reduceAdd, -Int.reduceSub, -Int.reduceMul,aG,ht,aL,e3]
  refine lM (XP ls.flatten.length Vj T) ?_ (fun _ _ _ _ h=>h.elim)
  rintro v M2 row bh aZ ⟨ga,gc,rfl,bP⟩
  simp only [List.cons.injEq,and_true] at bP
  subst bP
  simp +contextual only [go_sem,aD,sevalprocAttr, -Int.reduceAdd, -Int.reduceSub, -Int.reduceMul,aG]
  refine aO ls.length 27 [(0,.slice a ls.length c),(25,.slice a ls.length c),(26,.int .i64 (ls.length:Int))] (fun i e h=>∃ R fv,h=⟨T,M2,[],R⟩/\e 6=fv/\kT 3 1 RI [] R fv (ls.take i).flatten) 0 (by omega) (by simp only [aE,aG,go_sem,sevalprocAttr, -Int.reduceAdd, -Int.reduceSub, -Int.reduceMul]) (by simp only [go_sem,sevalprocAttr, -Int.reduceAdd, -Int.reduceSub, -Int.reduceMul]) ⟨[(.slice ga 0 gc,3,1,[])],.slice ga 0 gc,rfl,by simp only [go_sem,sevalprocAttr, -Int.reduceAdd, -Int.reduceSub, -Int.reduceMul],by rw [List.take_zero];exact .inr ⟨ga,gc,[],rfl,rfl,rfl⟩⟩ ?_
  clear aG ht e3 aL hi e
  rintro i e h hi aG ht ⟨R1,fv,rfl,e6,bj⟩
  simp only [aE] at aG
  have Tz:=mq i hi
  by_cases aL:i<ls.length
  ·obtain ⟨b',o',cs',rfl,bQ,v,rfl,mP⟩:=hg i ls[i] (gq aL)
   obtain ⟨_,va,vc,rfl,_⟩:=ax (by decide) (fun _ _=>ct) mP
   have x0:=xG (bQ.ext bh)
   rw [Nat.mul_one] at x0
   have gF:(ls.take (i+1)).flatten=(ls.take i).flatten++ls[i]:=by
    rw [<- List.take_append_getElem aL,List.flatten_append];simp
   have G8:=mq (i+1) aL
   obtain ⟨ys,J1,AA,Aw⟩:=jn (P:=Tryz.prog) Tryz.underlying54 (fun _ _=>ct) (fun _ _ h=>iO h) (aH bh (fun _ _ h=>h) mP)
   simp +contextual only [go_sem,aD,sevalprocAttr, -Int.reduceAdd, -Int.reduceSub, -Int.reduceMul,aG,ht,aL,x0,e6]
   refine pU kd ko bj AA (fun _=>Aw _ _ _) (fun _ _=>ct) (by rw [gF,List.length_append] at G8;omega) (by decide) ?_
   intro fv' R' bz
   rw [<- gF] at bz
   simp +contextual only [go_sem,sevalprocAttr, -Int.reduceAdd, -Int.reduceSub, -Int.reduceMul,ht]
   refine aR (aB ⟨ls.length - (i+1),by omega,rfl,i+1,by omega,rfl,?_,?_,R',fv',rfl,?_,bz⟩)
   ·simp only [aE,aG,go_sem,sevalprocAttr, -Int.reduceAdd, -Int.reduceSub, -Int.reduceMul]
   ·simp only [go_sem,sevalprocAttr, -Int.reduceAdd, -Int.reduceSub, -Int.reduceMul,aA i (by omega)]
   ·simp only [go_sem,sevalprocAttr, -Int.reduceAdd, -Int.reduceSub, -Int.reduceMul]
  ·have:i=ls.length:=by omega
   subst this
   rw [List.take_length] at bj Tz
   simp +contextual only [go_sem,aD,sevalprocAttr, -Int.reduceAdd, -Int.reduceSub, -Int.reduceMul,aG,ht,aL,e6]
   exact cz bj (by omega) (by decide) aZ fun M3 bE bB cG=>ak aF.rfl' cG
theorem xj {v:V}{cs:List Value}(h:RV v cs):∀ u∈cs,u.oneCell'=true:=by
 unfold RV V.cs at h;subst h
 intro u hu
 simp only [mn] at hu
 rcases hu with rfl | rfl | rfl<;>rfl
theorem UW {M:aS}(n:Nat)(hn:n<=1073741824)(T:Tm):
 Vn Tryz.prog 212 [.slice none 0 0,.int .i64 (n:Nat)] T M [] [] 1 (fun v _ _ R'=>∃ a c,v=.slice a 0 c/\R'=[(v,38,2,[])]) aM:=by
 refine ny ai6 rfl rfl ?_
 intro bi _
 have h0:¬ ((n:Int)<0):=by omega
 by_cases hz:n=0
 ·subst hz
  simp +contextual only [go_sem,aD,sevalprocAttr, -Int.reduceAdd, -Int.reduceSub, -Int.reduceMul]
  exact eF (aQ aF.rfl' rfl rfl ⟨none,0,rfl,rfl⟩)
 ·have hp:0<n:=by omega
  have DY:(0:Int)<(n:Int):=by omega
  have hw:IntKind.i64.wrap (n:Int)=(n:Int):=bH (by omega) (by omega)
  have HF:IntKind.i64.wrap (0 - 0)=0:=by decide
  have FG:IntKind.i64.wrap ((n:Int) - IntKind.i64.wrap (0 - 0))=(n:Int):=by rw [HF,Int.sub_zero];exact hw
  have wN:kF none 0 0 2=none:=rfl
  simp +contextual only [go_sem,aD,sevalprocAttr, -Int.reduceAdd, -Int.reduceSub, -Int.reduceMul,h0]
  rw [FG,if_pos DY,wN]
  refine yx (ik:=.i64) je iY Tryz.underlying3 hp (by omega) ?_
  intro a c zs qh di
  simp +contextual only [go_sem,sevalprocAttr, -Int.reduceAdd, -Int.reduceSub, -Int.reduceMul]
  have YF:kF a c 0 2=a:=by
   unfold kF
   cases a<;>simp [Addr.add]
  rw [YF]
  exact oU (by decide) (aQ aF.rfl' rfl rfl ⟨a,c,rfl,rfl⟩)
theorem HM {M:aS}{ls:List (List Z)}{sv:Value}(hs:RS M (fun l cs=>∃ v,cs=[v]/\RS M (RZ M) 2 l v) 1 ls sv)(bq:ls.length<=64)(hl:∀ l∈ls,l.length<=16777216)(T:Tm):
 bV Tryz.prog 152 [sv] T M [] [] (fun v M' _ _=>RS M' (RZ M') 2 ls.flatten v) aM:=by
 obtain ⟨eZ,a,c,rfl,di,_,hg⟩:=ax (by decide) (by rintro _ _ ⟨_,rfl,_⟩;rfl) hs
 obtain ⟨B,hB⟩:∃ B:Nat,B=16777216:=⟨_,rfl⟩
 rw [<- hB] at hl
 have GN:∀ i,(ls.take i).flatten.length<=i*B:=by
  intro i
  induction i with
  | zero=>simp
  | succ i ih=>
   rw [Nat.succ_mul]
   by_cases hi:i<ls.length
   ·rw [<- List.take_append_getElem hi,List.flatten_append,List.length_append]
    have:=hl ls[i] (gm hi)
    simp only [List.flatten_cons,List.flatten_nil,List.append_nil]
    omega
   ·rw [List.take_of_length_le (by omega)]
    rw [List.take_of_length_le (by omega)] at ih
    omega
 have mq:∀ i,i<=ls.length ->(ls.take i).flatten.length<=1073741824:=by
  intro i hi
  refine Nat.le_trans (GN i) ?_
  rw [hB]
  exact Nat.le_trans (Nat.mul_le_mul_right _ (show i<=64 by omega)) (by decide)
 refine az adt rfl rfl ?_
 intro bi _
 simp +contextual only [go_sem,aD,sevalprocAttr, -Int.reduceAdd, -Int.reduceSub, -Int.reduceMul]
 refine aO ls.length 11 [(0,.slice a ls.length c),(9,.slice a ls.length c),(10,.int .i64 (ls.length:Int))] (fun i e h=>h=⟨T,M,[],[]⟩/\e 3=.int .i64 ((ls.take i).flatten.length:Int)) 0 (by omega) (by simp only [aE,go_sem,sevalprocAttr, -Int.reduceAdd, -Int.reduceSub, -Int.reduceMul]) (by simp only [go_sem,sevalprocAttr, -Int.reduceAdd, -Int.reduceSub, -Int.reduceMul]) ⟨rfl,by simp only [go_sem,sevalprocAttr, -Int.reduceAdd, -Int.reduceSub, -Int.reduceMul];simp⟩ ?_
 rintro i e h hi aG ht ⟨rfl,e3⟩
 simp only [aE] at aG
 have Vj:=mq i hi
 by_cases aL:i<ls.length
 ·obtain ⟨b',o',cs',rfl,bQ,v,rfl,mP⟩:=hg i ls[i] (gq aL)
  obtain ⟨_,va,vc,rfl,_⟩:=ax (by decide) (fun _ _=>br) mP
  have x0:=xG bQ
  rw [Nat.mul_one] at x0
  have gF:(ls.take (i+1)).flatten.length=(ls.take i).flatten.length+ls[i].length:=by
   rw [<- List.take_append_getElem aL,List.flatten_append,List.length_append];simp
  have G8:=mq (i+1) aL
  have hw:IntKind.i64.wrap (((ls.take i).flatten.length:Int)+(ls[i].length:Int))=((ls.take (i+1)).flatten.length:Int):=by
   have h1:((ls.take i).flatten.length:Int)+(ls[i].length:Int)=((ls.take (i+1)).flatten.length:Int):=by omega
   rw [h1,bH (by omega) (by omega)]
  have YW:¬ (((ls.take (i+1)).flatten.length:Int)<0):=by omega
  simp +contextual only [go_sem,aD,sevalprocAttr, -Int.reduceAdd, -Int.reduceSub, -Int.reduceMul,aG,ht,aL,x0,e3,hw,YW]
  refine aR (aB ⟨ls.length - (i+1),by omega,rfl,i+1,by omega,rfl,?_,?_,rfl,?_⟩)
  ·simp only [aE,aG,go_sem,sevalprocAttr, -Int.reduceAdd, -Int.reduceSub, -Int.reduceMul]
  ·simp only [go_sem,sevalprocAttr, -Int.reduceAdd, -Int.reduceSub, -Int.reduceMul,aA i (by omega)]
  ·simp only [go_sem,sevalprocAttr, -Int.reduceAdd, -Int.reduceSub, -Int.reduceMul]
 ·have:i=ls.length:=by omega
  subst this
  rw [List.take_length] at e3 Vj
  simp +contextual only [go_sem,aD,sevalprocAttr, -Int.reduceAdd, -Int.reduceSub, -Int.reduceMul,aG,ht,aL,e3]
  refine lM (UW ls.flatten.length Vj T) ?_ (fun _ _ _ _ h=>h.elim)
  rintro v M2 row bh aZ ⟨ga,gc,rfl,bP⟩
  simp only [List.cons.injEq,and_true] at bP
  subst bP
  simp +contextual only [go_sem,aD,sevalprocAttr, -Int.reduceAdd, -Int.reduceSub, -Int.reduceMul,aG]
  refine aO ls.length 27 [(0,.slice a ls.length c),(25,.slice a ls.length c),(26,.int .i64 (ls.length:Int))] (fun i e h=>∃ R fv,h=⟨T,M2,[],R⟩/\e 6=fv/\kT 38 2 (RZ M2) [] R fv (ls.take i).flatten) 0 (by omega) (by simp only [aE,aG,go_sem,sevalprocAttr, -Int.reduceAdd, -Int.reduceSub, -Int.reduceMul]) (by simp only [go_sem,sevalprocAttr, -Int.reduceAdd, -Int.reduceSub, -Int.reduceMul]) ⟨[(.slice ga 0 gc,38,2,[])],.slice ga 0 gc,rfl,by simp only [go_sem,sevalprocAttr, -Int.reduceAdd, -Int.reduceSub, -Int.reduceMul],by rw [List.take_zero];exact .inr ⟨ga,gc,[],rfl,rfl,rfl⟩⟩ ?_
  clear aG ht e3 aL hi e
  rintro i e h hi aG ht ⟨R1,fv,rfl,e6,bj⟩
  simp only [aE] at aG
  have Tz:=mq i hi
  by_cases aL:i<ls.length
  ·obtain ⟨b',o',cs',rfl,bQ,v,rfl,mP⟩:=hg i ls[i] (gq aL)
   obtain ⟨_,va,vc,rfl,_⟩:=ax (by decide) (fun _ _=>br) mP
   have x0:=xG (bQ.ext bh)
   rw [Nat.mul_one] at x0
   have gF:(ls.take (i+1)).flatten=(ls.take i).flatten++ls[i]:=by
    rw [<- List.take_append_getElem aL,List.flatten_append];simp
   have G8:=mq (i+1) aL
   obtain ⟨ys,J1,AA,Aw⟩:=jn (P:=Tryz.prog) Tryz.underlying33 (fun _ _=>br) (fun _ _ h=>iw h) (aH bh (fJ bh) mP)
   simp +contextual only [go_sem,aD,sevalprocAttr, -Int.reduceAdd, -Int.reduceSub, -Int.reduceMul,aG,ht,aL,x0,e6]
   refine pU je iY bj AA (fun _=>Aw _ _ _) (fun _ _=>br) (by rw [gF,List.length_append] at G8;omega) (by decide) ?_
   intro fv' R' bz
   rw [<- gF] at bz
   simp +contextual only [go_sem,sevalprocAttr, -Int.reduceAdd, -Int.reduceSub, -Int.reduceMul,ht]
   refine aR (aB ⟨ls.length - (i+1),by omega,rfl,i+1,by omega,rfl,?_,?_,R',fv',rfl,?_,bz⟩)
   ·simp only [aE,aG,go_sem,sevalprocAttr, -Int.reduceAdd, -Int.reduceSub, -Int.reduceMul]
   ·simp only [go_sem,sevalprocAttr, -Int.reduceAdd, -Int.reduceSub, -Int.reduceMul,aA i (by omega)]
   ·simp only [go_sem,sevalprocAttr, -Int.reduceAdd, -Int.reduceSub, -Int.reduceMul]
  ·have:i=ls.length:=by omega
   subst this
   rw [List.take_length] at bj Tz
   simp +contextual only [go_sem,aD,sevalprocAttr, -Int.reduceAdd, -Int.reduceSub, -Int.reduceMul,aG,ht,aL,e6]
   exact cz bj (by omega) (by decide) aZ fun M3 bE bB cG=>ak aF.rfl' (aH bm.rfl' (fJ bE) cG)
def CG (z:List Z):Int:=if z.any (fun x=> !fZ x.w)=true then 3 else if 400<z.length then 5 else 0
def Wc (z:List Z):Except Int (List Z):=if CG z=0 then .ok z else .error (CG z)
def ou (l:List Z):Except Int (List Z):=Wc (gM l)
def Fl (res:Except Int (List Z))(v:Value)(M:aS):Prop:=match res with
 | .ok z=>∃ s,v=.tuple ⟨[s,.int .i64 0]⟩/\RS M (RZ M) 2 z s
 | .error e=>e≠0/\v=.tuple ⟨[.slice none 0 0,.int .i64 e]⟩
variable {M:aS}
theorem Xb {z:Z}{cs:List Value}(hz:RZ M z cs)(T:Tm):bV Tryz.prog 208 [.agg ⟨cs⟩] T M [] [] (fun r _ _ _=>r=.bool (!fZ z.w)) aM:=by
 obtain ⟨s,hs,rfl⟩:=hz
 have h1:=(dA hs).1
 refine az aiK rfl rfl ?_
 intro _ _
 simp +contextual only [go_sem,sevalprocAttr]
 intro b1 T1 fx dh fT
 refine aP (ux z.w _) ?_
 simp +contextual only [go_sem,sevalprocAttr]
 exact ak dh rfl
theorem EX {z:List Z}{zv:Value}(hz:RS M (RZ M) 2 z zv)(T:Tm):bV Tryz.prog 244 [zv,.func (.func 208) #[] #[]] T M [] [] (fun r _ _ _=>∃ n,r=.int .i64 n/\(0<=n ↔ z.any (fun x=> !fZ x.w)=true)) aM:=by
 obtain ⟨eZ,a,c,rfl,di,_,hg⟩:=ax (by decide) (fun _ _=>br) hz
 refine az ajS rfl rfl ?_
 intro bi _
 simp +contextual only [go_sem,aD,sevalprocAttr]
 refine aO z.length 8 [(0,.slice a z.length c),(1,.func (.func 208) #[] #[]),(7,.int .i64 (z.length:Int))] (fun i e h=>h=⟨T,M,[],[]⟩/\z.any (fun x=> !fZ x.w)=(z.drop i).any (fun x=> !fZ x.w)) 0 (by omega) (by simp only [aE,go_sem,sevalprocAttr]) (by simp only [go_sem,sevalprocAttr]) ⟨rfl,rfl⟩ ?_
 rintro i e h hi aG ht ⟨rfl,am⟩
 simp only [aE] at aG
 by_cases aL:i<z.length
 ·obtain ⟨b',o',cs',rfl,bQ,s,bP,rfl⟩:=hg i z[i] (gq aL)
  obtain ⟨y0,y1,_⟩:=bQ
  rw [dq aL,List.any_cons] at am
  simp +contextual only [go_sem,aD,sevalprocAttr,aG,ht,aL,y0,y1]
  refine aP (Xb (z:=z[i]) ⟨s,bP,rfl⟩ _) ?_
  cases hw:fZ z[i].w with
  | true=>
   rw [hw,Bool.not_true,Bool.false_or] at am
   simp +contextual only [go_sem,aD,sevalprocAttr,ht]
   refine ce aL ?_ ?_ ⟨rfl,am⟩
   ·simp only [aE,aG,go_sem,sevalprocAttr]
   ·simp only [go_sem,sevalprocAttr,aA i (by omega)]
  | false=>
   rw [hw,Bool.not_false,Bool.true_or] at am
   simp +contextual only [go_sem,aD,sevalprocAttr]
   exact ak aF.rfl' ⟨_,rfl,by rw [am];simp⟩
 ·have:i=z.length:=by omega
  subst this
  rw [List.drop_length] at am
  simp +contextual only [go_sem,aD,sevalprocAttr,aG,ht,aL]
  exact ak aF.rfl' ⟨_,rfl,by rw [am];simp⟩
theorem abw {z:List Z}{zv:Value}(hz:RS M (RZ M) 2 z zv)(T:Tm):bV Tryz.prog 149 [zv] T M [] [] (fun r _ _ _=>r=.tuple ⟨[if CG z=0 then zv else .slice none 0 0,.int .i64 (CG z)]⟩) aM:=by
 obtain ⟨eZ,a,c,rfl,di,_,hg⟩:=ax (by decide) (fun _ _=>br) hz
 obtain ⟨E,hE⟩:∃ E,E=CG z:=⟨_,rfl⟩
 rw [<- hE]
 unfold CG at hE
 refine az aii rfl rfl ?_
 intro bi _
 simp +contextual only [go_sem,sevalprocAttr]
 have hC:bV Tryz.prog 207 [.slice a z.length c,.func (.func 208) #[] #[]] T M [] [] (fun r _ _ _=>r=.bool (z.any (fun x=> !fZ x.w))) aM:=by
  refine az aj1 rfl rfl ?_
  intro bi _
  simp +contextual only [go_sem,sevalprocAttr]
  refine aI (EX hz T) ?_
  rintro _ M1 aV _ ⟨n,rfl,hn⟩
  simp +contextual only [go_sem,sevalprocAttr]
  refine ak aF.rfl' ?_
  congr 1
  rw [Bool.eq_iff_iff,<- hn];simp
 refine aP hC ?_
 cases ha:z.any (fun x=> !fZ x.w) with
 | true=>
  rw [ha,if_pos rfl] at hE
  subst hE
  simp +contextual only [go_sem,aD,sevalprocAttr]
  exact ak aF.rfl' rfl
 | false=>
  rw [ha,if_neg Bool.false_ne_true] at hE
  by_cases h4:400<z.length
  ·have WK:(400:Int)<(z.length:Int):=by omega
   rw [if_pos h4] at hE
   subst hE
   simp +contextual only [go_sem,aD,sevalprocAttr,WK]
   exact ak aF.rfl' rfl
  ·have WK:¬ (400:Int)<(z.length:Int):=by omega
   rw [if_neg h4] at hE
   subst hE
   simp +contextual only [go_sem,aD,sevalprocAttr,WK]
   exact ak aF.rfl' rfl
theorem zf {l:List Z}{lv:Value}(hl:RS M (RZ M) 2 l lv)(bq:l.length<=4294967296)(bP:∀ z∈l,z.row.length<=4294967296)(T:Tm):bV Tryz.prog 99 [lv] T M [] [] (fun v M' _ _=>Fl (ou l) v M') aM:=by
 refine az F99 rfl rfl ?_
 intro bi _
 simp +contextual only [go_sem,sevalprocAttr]
 refine aI (Ek hl bq bP T) ?_
 rintro v M1 aV _ hv
 simp +contextual only [go_sem,sevalprocAttr]
 refine aP (abw hv _) ?_
 simp +contextual only [go_sem,sevalprocAttr]
 refine ak aF.rfl' ?_
 unfold ou Wc
 by_cases h:CG (gM l)=0
 ·rw [if_pos h,if_pos h,h];exact ⟨_,rfl,hv⟩
 ·rw [if_neg h,if_neg h];exact ⟨h,rfl⟩
def yi (fw:Int ->Int):List Z ->List Z
 | []=>[]
 | x::l=>(if fw x.w=0 then [] else [⟨x.row.map bJ,fw x.w⟩])++yi fw l
def yT (fw:Int ->Int)(z:List Z):Except Int (List Z):=if dI z=0 then .ok (yi fw z) else .error (dI z)
def VZ (res:Except Int (List Z))(v:Value)(M:aS)(R:RR):Prop:=match res with
 | .ok z=>∃ a c xs,v=.tuple ⟨[.slice a z.length c,.int .i64 0]⟩/\RL (RZ M) z xs/\R=[(.slice a z.length c,38,2,xs)]
 | .error e=>e≠0/\v=.tuple ⟨[.slice none 0 0,.int .i64 e]⟩/\R=[(.slice none 0 0,38,2,[])]
theorem BG (fw:Int ->Int):∀ (z:List Z),(yi fw z).length<=z.length
 | []=>Nat.le_refl _
 | x::l=>by
  have:=BG fw l
  rw [yi,List.length_append]
  split<;>simp only [List.length_nil,List.length_cons]<;>omega
variable {M:aS}
theorem ww {z:List Z}(h:dI z=0):∀ x∈z,ji x.row=0:=by
 have key:∀ (z:List Z) p,XF p z=0 ->∀ x∈z,ji x.row=0:=by
  intro z
  induction z with
  | nil=>intro p _ x hx;cases hx
  | cons y l ih=>
   intro p h0 x hx
   rw [XF,kM] at h0
   split at h0
   ·rename_i cu;exact absurd h0 cu
   rename_i hz
   simp only [ne_eq,Decidable.not_not] at hz
   rcases mY hx with rfl | hx
   ·unfold GK at hz
    rw [kM] at hz
    split at hz
    ·rename_i cu;exact absurd hz cu
    ·rename_i hr;simpa using hr
   ·exact ih _ h0 x hx
 unfold dI at h
 split at h
 ·cases h
 ·exact key z none h
theorem kz {z:List Z}(h:dI z=0):z.length<=400/\∀ x∈z,x.row.length<=8:=by
 refine ⟨?_,fun x hx=> ?_⟩
 ·unfold dI at h;split at h
  ·cases h
  ·omega
 ·have hr:=ww h x hx
  unfold ji at hr;split at hr
  ·cases hr
  ·omega
theorem Yv {g:FuncId}{fw:Int ->Int}(Eu:dm Tryz.prog g=true)(hf:∀ (w:Int) (M:aS) (T:Tm),bV Tryz.prog g [.int .i64 w] T M [] [] (fun r _ _ _=>r=.int .i64 (fw w)) aM){z:List Z}{zv:Value}(hz:RS M (RZ M) 2 z zv)(T:Tm):
 Vn Tryz.prog 109 [zv,.func (.func g) #[] #[]] T M [] [] 1 (fun v M' _ R'=>VZ (yT fw z) v M' R') aM:=by
 obtain ⟨eZ,a,c,rfl,di,_,hg⟩:=ax (by decide) (fun _ _=>br) hz
 obtain ⟨S,hS⟩:∃ S,S=yT fw z:=⟨_,rfl⟩
 rw [<- hS]
 unfold yT at hS
 refine ny aiB rfl rfl ?_
 intro bi _
 simp +contextual only [go_sem,sevalprocAttr]
 intro b12 V9
 refine cT abB.bd (fun M' he hL _=>Cs (zs:=[z]) (dB (by rintro _ _ ⟨_,_,rfl⟩;rfl) hL.1 ⟨_,[],rfl,⟨_,cR he hz,rfl⟩,rfl⟩ rfl (by simp)) _) ?_
 simp only [mu]
 by_cases hw:dI z=0
 rotate_left
 ·rw [if_neg hw] at hS
  rw [nI hw]
  simp +contextual only [go_sem,aD,sevalprocAttr,hw]
  refine al (eF (e:=38) (sz:=2) (aQ aF.rfl' rfl rfl ?_))
  rw [hS];exact ⟨hw,rfl,rfl⟩
 rw [if_pos hw] at hS
 obtain ⟨hz4,hz8⟩:=kz hw
 rw [hw,nE]
 simp +contextual only [go_sem,aD,sevalprocAttr]
 refine bY z.length 19 [(1,.func (.func g) #[] #[]),(17,.slice a z.length c),(18,.int .i64 (z.length:Int))] (fun i e h=>∃ N' M' R' fv acc,aF T N'/\bm M M'/\h=⟨N',M',[],R'⟩/\e 7=fv/\kT 38 2 (RZ M') [] R' fv acc/\acc.length<=i/\S=.ok (acc++yi fw (z.drop i))) 0 (by omega) (by simp only [aE,go_sem,sevalprocAttr]) (by simp only [go_sem,sevalprocAttr]) (al (aB ⟨T,M,[],_,[],aF.rfl',bm.rfl',rfl,by simp only [go_sem,sevalprocAttr],cV,by simp,hS⟩)) ?_
 rintro i e h hi aG ht ⟨T1,M1,R1,fv,acc,dh,aV,rfl,e7,bj,jN,am⟩
 simp only [aE] at aG
 by_cases aL:i<z.length
 ·obtain ⟨b',o',cs',rfl,bQ,s,cG,rfl⟩:=hg i z[i] (gq aL)
  obtain ⟨y0,y1,_⟩:=bQ.ext aV
  obtain ⟨sa,sc,rfl⟩:=fR cG
  rw [dq aL,yi] at am
  simp +contextual only [go_sem,aD,sevalprocAttr,aG,ht,aL,y0,y1]
  intro b9 T9 qy ut pR
  have hT:=dh.trans ut
  refine aP (hf z[i].w _ _) ?_
  by_cases h0:fw z[i].w=0
  ·rw [if_pos h0,List.nil_append] at am
   simp +contextual only [go_sem,aD,sevalprocAttr,ht,h0]
   refine aR (al (aB ⟨z.length - (i+1),by omega,rfl,i+1,by omega,rfl,?_,?_,T9,M1,R1,fv,acc,hT,aV,rfl,?_,bj,by omega,am⟩))
   ·simp only [aE,aG,go_sem,sevalprocAttr]
   ·simp only [go_sem,sevalprocAttr,aA i (by omega)]
   ·simp only [go_sem,sevalprocAttr,e7]
  ·rw [if_neg h0,<- List.append_assoc] at am
   simp +contextual only [go_sem,aD,sevalprocAttr,h0,aC qy]
   refine aI (Lo (qz aV cG) (by have:=hz8 _ (gm aL);omega) _) ?_
   rintro v M2 bh aZ hv
   simp only [aJ] at aZ
   obtain ⟨va,vc,rfl⟩:=fR hv
   simp +contextual only [go_sem,sevalprocAttr,e7]
   intro b3 ii df
   refine cA (Tryz.underlying33) je iY (x:=⟨z[i].row.map bJ,fw z[i].w⟩) (ey (fJ bh) bj) ⟨_,hv,rfl⟩ (fun _ _=>br) (iw (z:=⟨z[i].row.map bJ,fw z[i].w⟩) ⟨_,hv,rfl⟩) ii (by omega) (by decide) ?_
   intro fv' R' bz
   simp +contextual only [go_sem,sevalprocAttr,ht]
   refine aR (al (al (aB ⟨z.length - (i+1),by omega,rfl,i+1,by omega,rfl,?_,?_,T9,M2,R',fv',acc++[⟨z[i].row.map bJ,fw z[i].w⟩],hT,aV.trans bh,rfl,?_,bz,by rw [List.length_append];simp only [ln];omega,am⟩)))
   ·simp only [aE,aG,go_sem,sevalprocAttr]
   ·simp only [go_sem,sevalprocAttr,aA i (by omega)]
   ·simp only [go_sem,sevalprocAttr]
 ·have:i=z.length:=by omega
  subst this
  rw [List.drop_length,yi,List.append_nil] at am
  simp +contextual only [go_sem,aD,sevalprocAttr,aG,ht,aL,e7]
  rw [am]
  rcases bj with ⟨rfl,rfl,rfl⟩ | ⟨ra,rc,xs,rfl,wJ,rfl⟩
  ·exact eF (aQ dh rfl rfl ⟨none,0,[],rfl,rfl,rfl⟩)
  ·exact aQ dh rfl rfl ⟨ra,rc,xs,rfl,wJ,rfl⟩
def afB (w:Int):Int:=if 0>w then 0 else w
def ab3 (w:Int):Int:=if 1<afB w then 1 else afB w
theorem WN (w:Int)(M:aS)(T:Tm):bV Tryz.prog 265 [.int .i64 w] T M [] [] (fun r _ _ _=>r=.int .i64 (ab3 w)) aM:=by
 refine az af0 rfl rfl ?_
 intro _ _
 simp +contextual only [go_sem,sevalprocAttr]
 exact ak aF.rfl' rfl
theorem FU {res:Except Int (List Z)}{v:Value}{M:aS}{R:RR}(h:VZ res v M R):∃ s e,v=.tuple ⟨[s,.int .i64 e]⟩/\s.oneCell'=true:=by
 cases res with
 | ok z=>obtain ⟨a,c,xs,rfl,_⟩:=h;exact ⟨_,_,rfl,rfl⟩
 | error e=>obtain ⟨_,rfl,_⟩:=h;exact ⟨_,_,rfl,rfl⟩
theorem GJ {z:List Z}{zv:Value}(hz:RS M (RZ M) 2 z zv)(T:Tm):Vn Tryz.prog 241 [zv] T M [] [] 1 (fun v M' _ R'=>VZ (yT ab3 z) v M' R') aM:=by
 refine ny ahA rfl rfl ?_
 intro bi _
 simp +contextual only [go_sem,sevalprocAttr]
 refine lM (Yv af0.bd WN hz T) ?_ (fun _ _ _ _ h=>h.elim)
 rintro v M1 row aV _ hv
 obtain ⟨s,e,rfl,_⟩:=FU hv
 simp +contextual only [go_sem,sevalprocAttr]
 exact aQ aF.rfl' rfl rfl hv
theorem X5 {M:aS}{b:Nat}{x y:List Z}{xv yv:Value}(hx:RS M (RZ M) 2 x xv)(hy:RS M (RZ M) 2 y yv)(hb:M b=some [xv,yv]):
 RS M (fun l cs=>∃ v,cs=[v]/\RS M (RZ M) 2 l v) 1 [x,y] (.slice (some ⟨b,0,none⟩) 2 2):=
 dB (by rintro _ _ ⟨_,rfl,_⟩;rfl) hb ⟨[xv],[yv],rfl,⟨_,rfl,hx⟩,[yv],[],rfl,⟨_,rfl,hy⟩,rfl⟩ rfl (by simp)
theorem TJ {M:aS}{b:Nat}{x y:List Z}{xv yv:Value}(hx:RS M (RZ M) 2 x xv)(hy:RS M (RZ M) 2 y yv)(hb:M b=some [xv,yv]):
 RS M (fun l cs=>∃ v,RS M (RZ M) 2 l v/\cs=[v]) 1 [x,y] (.slice (some ⟨b,0,none⟩) 2 2):=
 dB (by rintro _ _ ⟨_,_,rfl⟩;rfl) hb ⟨[xv],[yv],rfl,⟨_,hx,rfl⟩,[yv],[],rfl,⟨_,hy,rfl⟩,rfl⟩ rfl (by simp)
def addM (a b:List Z):Except Int (List Z):=if kM (dI a) (dI b)=0 then ou (a++b) else .error (kM (dI a) (dI b))
theorem DF {a b:List Z}{av bv:Value}(ha:RS M (RZ M) 2 a av)(hb:RS M (RZ M) 2 b bv)(T:Tm):bV Tryz.prog 100 [av,bv] T M [] [] (fun v M' _ _=>Fl (addM a b) v M') aM:=by
 have YZ:=ha
 have hb0:=hb
 obtain ⟨eZ,aa,ac,rfl,_⟩:=ax (by decide) (fun _ _=>br) ha
 obtain ⟨Of,ba,bc,rfl,_⟩:=ax (by decide) (fun _ _=>br) hb
 obtain ⟨S,hS⟩:∃ S,S=addM a b:=⟨_,rfl⟩
 rw [<- hS]
 unfold addM at hS
 refine az aj2 rfl rfl ?_
 intro bi _
 simp +contextual only [go_sem,sevalprocAttr]
 intro b9 qy
 refine cT abB.bd (fun M' he hL _=>Cs (TJ (cR he YZ) (cR he hb0) hL.1) _) ?_
 have hf:mu dI [a,b]=kM (dI a) (dI b):=by
  have h0:∀ x,kM x 0=x:=by intro x;unfold kM;split<;>omega
  simp only [mu,h0]
 rw [hf]
 by_cases hw:kM (dI a) (dI b)=0
 rotate_left
 ·rw [if_neg hw] at hS
  simp +contextual only [go_sem,aD,sevalprocAttr,hw]
  refine al (ak aF.rfl' ?_)
  rw [hS];exact ⟨hw,rfl⟩
 rw [if_pos hw] at hS
 have hwa:dI a=0:=by unfold kM at hw;split at hw<;>omega
 have hwb:dI b=0:=by unfold kM at hw;split at hw<;>omega
 obtain ⟨DZ,ha8⟩:=kz hwa
 obtain ⟨eN,px⟩:=kz hwb
 rw [hw]
 simp +contextual only [go_sem,aD,sevalprocAttr]
 intro b16 Pa KS
 refine cZ adt.bd fun M1 aV ZN bG=> ?_
 refine aI (HM (X5 (cR aV YZ) (cR aV hb0) ZN) (by simp) (by intro l hl;simp only [mn] at hl;rcases hl with rfl | rfl<;>omega) _) ?_
 rintro v M2 bh _ hv
 have Vf:[a,b].flatten=a++b:=by simp
 rw [Vf] at hv
 simp +contextual only [go_sem,sevalprocAttr]
 refine aI (zf hv (by rw [List.length_append];omega) (by intro z hz;rcases wZ hz with h | h;have:=ha8 z h;omega;have:=px z h;omega) _) ?_
 rintro r M3 bE _ hr
 rw [<- hS] at hr
 obtain ⟨s,e,rfl⟩:∃ s e,r=.tuple ⟨[s,.int .i64 e]⟩:=by
  cases S with
  | ok z=>obtain ⟨s,h,_⟩:=hr;exact ⟨s,0,h⟩
  | error e=>obtain ⟨_,h⟩:=hr;exact ⟨_,e,h⟩
 simp +contextual only [go_sem,sevalprocAttr]
 exact al (ak aF.rfl' hr)
theorem SP {k:Int}{t:List Int}{e:Int}(h:vf k t=.error e):e≠0:=by
 unfold vf at h
 repeat' split at h
 all_goals first | (cases h;done) | (injection h with h;omega)
mutual
theorem LP (cols:List Int):∀ (x:Ex) (bI n:Nat) (e:Int) (m:Nat),pp cols bI n x=(.error e,m) ->e≠0
 | .mk k v c kids,bI,n,e,m,h=>by
  rw [pp] at h
  split at h
  ·injection h with h _;injection h with h;omega
  split at h
  ·injection h with h _;injection h with h;omega
  split at h
  ·injection h with h _;injection h with h;omega
  split at h
  ·rename_i e' m' hl
   injection h with h _;injection h with h
   subst h
   exact KB cols kids _ _ _ _ hl
  ·rename_i t m' hl
   injection h with h _
   split at h
   ·split at h
    ·cases h
    ·rename_i hw;injection h with h;rw [<- h];exact hw
   split at h
   ·split at h
    ·cases h
    ·injection h with h;omega
   split at h
   ·cases h
   ·exact SP h
theorem KB (cols:List Int):∀ (l:List Ex) (bI n:Nat) (e:Int) (m:Nat),mS cols bI n l=(.error e,m) ->e≠0
 | [],_,_,_,_,h=>by rw [mS] at h;cases h
 | x::l,bI,n,e,m,h=>by
  rw [mS] at h
  split at h
  ·rename_i e' m' hx
   injection h with h _;injection h with h
   subst h
   exact LP cols x _ _ _ _ hx
  ·split at h
   ·rename_i e' m' hx
    injection h with h _;injection h with h
    subst h
    exact KB cols l _ _ _ _ hx
   ·cases h
end
theorem SM {cols:List Int}{x:Ex}{e:Int}(h:kZ cols x=.error e):e≠0:=by
 unfold kZ at h
 split at h
 ·injection h with h;omega
 split at h
 ·exact LP cols x 1 0 e _ (Prod.ext h rfl)
 ·injection h with h;omega
theorem zQ {v:V}(h:eO v=0):(bJ v).t.length<=1099511627776:=by
 unfold eO at h
 unfold bJ
 repeat' split
 all_goals first | exact Nat.zero_le _ | (dsimp only;subst_vars;simp_all;omega)
mutual
theorem Bx (cols:List Int):∀ (x:Ex) (bI n:Nat) (t:Int) (m:Nat),pp cols bI n x=(.ok t,m) ->sK x
 | .mk k v c kids,bI,n,t,m,h=>by
  rw [pp] at h
  split at h
  ·cases h
  split at h
  ·cases h
  rename_i o7
  split at h
  ·cases h
  rename_i pm
  simp only [ne_eq,Decidable.not_not] at pm
  have hkr:1<=k/\k<=18:=by
   unfold fX at o7
   repeat' split at o7
   all_goals omega
  split at h
  ·cases h
  ·rename_i t' m' hl
   refine ⟨hkr,?_,?_,pm,A3 cols kids _ _ _ _ hl⟩
   ·intro h1
    rw [if_pos h1] at h
    injection h with h _
    split at h
    ·rename_i hw;exact zQ hw
    ·cases h
   intro h2
   subst h2
   rw [if_neg (by omega),if_pos rfl] at h
   injection h with h _
   split at h
   ·rename_i hc;exact hc.1
   ·cases h
theorem A3 (cols:List Int):∀ (l:List Ex) (bI n:Nat) (t:List Int) (m:Nat),mS cols bI n l=(.ok t,m) ->D8 l
 | [],_,_,_,_,h=>trivial
 | x::l,bI,n,t,m,h=>by
  rw [mS] at h
  split at h
  ·cases h
  ·rename_i t' m' h1
   split at h
   ·cases h
   ·rename_i ts m2 h2
    exact ⟨Bx cols x _ _ _ _ h1,A3 cols l _ _ _ _ h2⟩
end
theorem PM {cols:List Int}{x:Ex}{t:Int}(h:kZ cols x=.ok t):sK x:=by
 unfold kZ at h
 split at h
 ·cases h
 split at h
 ·exact Bx cols x 1 0 t _ (Prod.ext h rfl)
 ·cases h
def ZH (n:Nat)(z:List Z):Prop:=∀ x∈z,x.row.length<=n/\tV x.row
def dk (xs:List Ex)(row:List V):List V:=xs.map fun x=>Ht x row
theorem uW {cols:List Int}{z:List Z}(h:jq cols z=0):cols.length<=8/\dI z=0:=by
 unfold jq at h
 split at h
 ·cases h
 ·refine ⟨by omega,?_⟩
  unfold kM at h;split at h
  ·rename_i h2;exact absurd h h2
  ·rename_i h2;simpa using h2
theorem zI {a b:Int}(h:kM a b=0):a=0/\b=0:=by
 unfold kM at h;split at h
 ·rename_i h2;exact absurd h h2
 ·rename_i h2;exact ⟨by simpa using h2,h⟩
theorem A1 {α:Type}{f:α ->Int}:∀ {l:List α},mu f l=0 ->∀ x∈l,f x=0
 | y::l,h,x,hx=>by
  obtain ⟨h1,h2⟩:=zI h
  rcases mY hx with rfl | hx
  ·exact h1
  ·exact A1 h2 x hx
theorem JK {cols:List Int}{z:List Z}(h:jq cols z=0):∀ r∈z,tV r.row:=by
 intro r hr v hv
 have h1:=ww (uW h).2 r hr
 unfold ji at h1
 split at h1
 ·cases h1
 ·exact zQ (A1 h1 v hv)
variable {M:aS}
theorem mm {α:Type}{F:Fi}{f:FuncId}{args:List Value}{dd:Option Nat}{s:List Vc.Item}{e:dp}{ds:List Deferred}{N:Tm}{L:LL}{el:TypeId}{sz:Nat}{r:α ->List Value ->Prop}{R0 R:RR}{fv:Value}{acc:List α}(hb:dm Tryz.prog f=true)
 (h:kT el sz r R0 R fv acc) (Cg:acc.length*sz<=4398046511104) (dO:0<sz) (bi:aJ M L) (k:∀ M',bm M M' ->aJ M' L ->RS M' r sz acc fv ->dx Tryz.prog F f args dd s e ds ⟨N,M',L,R0⟩ ⟨⟩):dx Tryz.prog F f args dd s e ds ⟨N,M,L,R⟩ ⟨⟩:=
 cL (k:=fun h'=>∃ M',bm M M'/\aJ M' L/\RS M' r sz acc fv/\h'=⟨N,M',L,R0⟩) (cz h Cg dO bi fun M' he hn cG=>aB ⟨M',he,hn,cG,rfl⟩) (by rintro h' ⟨M',he,hn,cG,rfl⟩;exact k M' he hn cG) hb
theorem ql {res:Except Int (List Z)}{v:Value}{M:aS}(h:Fl res v M):∃ s e,v=.tuple ⟨[s,.int .i64 e]⟩:=by
 cases res with
 | ok z=>obtain ⟨s,h,_⟩:=h;exact ⟨s,0,h⟩
 | error e=>obtain ⟨_,h⟩:=h;exact ⟨_,e,h⟩
theorem Ba {xs:List Ex}{row:List V}{xv rv:Value}(hx:RS M (ij M) 6 xs xv)(hr:RS M RV 3 row rv)(cB:∀ x∈xs,sK x)(bP:tV row)(T:Tm):bV Tryz.prog 258 [xv,rv] T M [] [] (fun v M' _ _=>RS M' RV 3 (dk xs row) v) aM:=by
 obtain ⟨eZ,a,c,rfl,di,_,hg⟩:=ax (by decide) (fun _ _=>eb) hx
 refine az ahh rfl rfl ?_
 intro bi _
 simp +contextual only [go_sem,aD,sevalprocAttr]
 refine aO xs.length 9 [(0,.slice a xs.length c),(1,rv),(8,.int .i64 (xs.length:Int))] (fun i e h=>∃ R' fv,h=⟨T,M,[],R'⟩/\e 5=fv/\kT 28 3 RV [] R' fv (dk (xs.take i) row)) 0 (by omega) (by simp only [aE,go_sem,sevalprocAttr]) (by simp only [go_sem,sevalprocAttr]) ⟨[],_,rfl,by simp only [go_sem,sevalprocAttr],cV⟩ ?_
 rintro i e h hi aG ht ⟨R1,fv,rfl,e5,bj⟩
 simp only [aE] at aG
 by_cases aL:i<xs.length
 ·obtain ⟨b',o',cs',rfl,bQ,hxr⟩:=hg i xs[i] (gq aL)
  have hm:=gm aL
  simp +contextual only [go_sem,aD,sevalprocAttr,aG,ht,aL]
  refine aP (VG _ xs[i] (Nat.le_refl _) _ _ _ _ _ _ _ bQ hxr hr (cB _ hm) bP) ?_
  simp +contextual only [go_sem,sevalprocAttr,e5,V.cs]
  intro b7 mN
  refine cA (Tryz.underlying30) zG yP (x:=Ht xs[i] row) bj rfl (fun _ _=>eM) (xj rfl) mN (by simp [dk];omega) (by decide) ?_
  intro fv' R' bz
  have dY:dk (xs.take i) row++[Ht xs[i] row]=dk (xs.take (i+1)) row:=by
   unfold dk;rw [<- List.take_append_getElem aL,List.map_append];rfl
  rw [dY] at bz
  simp +contextual only [go_sem,sevalprocAttr,ht]
  refine aR (al (aB ⟨xs.length - (i+1),by omega,rfl,i+1,by omega,rfl,?_,?_,R',fv',rfl,?_,bz⟩))
  ·simp only [aE,aG,go_sem,sevalprocAttr]
  ·simp only [go_sem,sevalprocAttr,aA i (by omega)]
  ·simp only [go_sem,sevalprocAttr]
 ·have:i=xs.length:=by omega
  subst this
  rw [List.take_length] at bj
  simp +contextual only [go_sem,aD,sevalprocAttr,aG,ht,aL,e5]
  exact cz bj (by simp [dk];omega) (by decide) bi fun M2 bh aZ cG=>ak aF.rfl' cG
section
variable {σ:Type} (step:σ ->Nat ->Nat ->List V ->σ) (x:Ex)
end
structure CbOk {σ:Type} (g:FuncId) (caps:List Value) (I:σ ->aS ->LL ->RR ->Prop) (na nb:Nat) (ok:List V ->Prop) (sz:σ ->Nat) (step:σ ->Nat ->Nat ->List V ->σ):Prop where
 len:∀ s i k row,sz (step s i k row)<=sz s+1
 bod:dm Tryz.prog g=true
 ext:∀ s M M' L R,I s M L R ->bm M M' ->aJ M' L ->I s M' L R
 call:∀ s M L R i k row rv T,I s M L R ->i<na ->k<nb ->sz s<=i*nb+k ->ok row ->RS M RV 3 row rv ->
  bV Tryz.prog g ([.int .i64 ((i:Nat):Int),.int .i64 ((k:Nat):Int),rv]++caps) T M L R (fun r M' L' R'=>r=.tuple #[]/\I (step s i k row) M' L' R') aM
variable {M:aS}
theorem rP {cols:List Int}:∀ {xs:List Ex} {ts:List Int},ig cols xs=.ok ts ->∀ x∈xs,∃ t,kZ cols x=.ok t
 | [],ts,_,x,hx=>by cases hx
 | y::l,ts,h,x,hx=>by
  cases ht:kZ cols y with
  | error e=>rw [ss ht] at h;cases h
  | ok t=>
   rw [vB ht] at h
   cases hl:ig cols l with
   | error e=>rw [hl] at h;cases h
   | ok ts'=>
    rcases mY hx with rfl | hx
    ·exact ⟨t,ht⟩
    ·exact rP hl x hx
theorem B2 {cols:List Int}:∀ {xs:List Ex} {e:Int},ig cols xs=.error e ->e≠0
 | [],e,h=>by cases h
 | y::l,e,h=>by
  cases ht:kZ cols y with
  | error e'=>rw [ss ht] at h;injection h with h;rw [<- h];exact SM ht
  | ok t=>
   rw [vB ht] at h
   cases hl:ig cols l with
   | error e'=>rw [hl] at h;injection h with h;rw [<- h];exact B2 hl
   | ok ts'=>rw [hl] at h;cases h
theorem EG {cols:List Int}{xs:List Ex}{ts:List Int}(h:fI cols xs=.ok ts):∀ x∈xs,sK x:=by
 unfold fI at h
 split at h
 ·cases h
 intro x hm
 obtain ⟨t,ht⟩:=rP h x hm
 exact PM ht
theorem HJ {cols:List Int}{xs:List Ex}{ts:List Int}(h:fI cols xs=.ok ts):xs.length<=8:=by
 unfold fI at h
 split at h
 ·cases h
 ·omega
def jO (xs:List Ex)(z:List Z):List Z:=z.map fun r=>⟨dk xs r.row,r.w⟩
def CQ {α:Type}(r:Except Int α):Int:=match r with
 | .ok _=>0
 | .error e=>e
def WX (cols:List Int)(xs:List Ex)(z:List Z):Except Int (List Z):=if CQ (fI cols xs)=0 then if jq cols z=0 then ou (jO xs z) else .error (jq cols z) else .error (CQ (fI cols xs))
variable {M:aS}
theorem Yc {M M':aS}(he:bm M M'){l:List Int}{v:Value}(h:RS M RI 1 l v):RS M' RI 1 l v:=aH he (fun _ _ h=>h) h
theorem LS {M M':aS}(he:bm M M'){l:List Ex}{v:Value}(h:RS M (ij M) 6 l v):RS M' (ij M') 6 l v:=aH he (cJ he) h
theorem Rh {res:Except Int (List Int)}{v:Value}{M:aS}(h:Qd res v M):∃ s,v=.tuple ⟨[s,.int .i64 (CQ res)]⟩:=by
 cases res with
 | ok l=>obtain ⟨s,h,_⟩:=h;exact ⟨s,h⟩
 | error e=>exact ⟨_,h.2⟩
theorem Wv {α:Type}{r:Except Int α}(hn:∀ e,r=.error e ->e≠0)(h:CQ r=0):∃ a,r=.ok a:=by
 cases r with
 | ok a=>exact ⟨a,rfl⟩
 | error e=>exact absurd h (hn e rfl)
theorem OZ {cols:List Int}{xs:List Ex}{e:Int}(h:fI cols xs=.error e):e≠0:=by
 unfold fI at h
 split at h
 ·injection h with h;omega
 ·exact B2 h
theorem abK {cols:List Int}{cv xv zv:Value}{xs:List Ex}{z:List Z}(hc:RS M RI 1 cols cv)(hx:RS M (ij M) 6 xs xv)(hz:RS M (RZ M) 2 z zv)(T:Tm):bV Tryz.prog 234 [cv,xv,zv] T M [] [] (fun v M' _ _=>Fl (WX cols xs z) v M') aM:=by
 have xx:=hz
 obtain ⟨eZ,a,c,rfl,di,_,hg⟩:=ax (by decide) (fun _ _=>br) hz
 obtain ⟨S,hS⟩:∃ S,S=WX cols xs z:=⟨_,rfl⟩
 rw [<- hS]
 unfold WX at hS
 refine az ahx rfl rfl ?_
 intro bi _
 simp +contextual only [go_sem,sevalprocAttr]
 refine aI (tS hc hx _) ?_
 rintro v0 M0 Fj afv wE
 obtain ⟨s0,rfl⟩:=Rh wE
 by_cases ht:CQ (fI cols xs)=0
 rotate_left
 ·rw [if_neg ht] at hS
  simp +contextual only [go_sem,aD,sevalprocAttr,ht]
  refine ak aF.rfl' ?_
  rw [hS];exact ⟨ht,rfl⟩
 rw [if_pos ht] at hS
 obtain ⟨ts,ZQ⟩:=Wv (fun _=>OZ) ht
 have cB:=EG ZQ
 have hx8:=HJ ZQ
 simp +contextual only [go_sem,aD,sevalprocAttr,ht]
 refine aP (Eo (Yc Fj hc) (cR Fj xx) _) ?_
 by_cases hw:jq cols z=0
 rotate_left
 ·rw [if_neg hw] at hS
  simp +contextual only [go_sem,aD,sevalprocAttr,hw]
  refine ak aF.rfl' ?_
  rw [hS];exact ⟨hw,rfl⟩
 rw [if_pos hw] at hS
 have U7:=JK hw
 obtain ⟨hz4,hz8⟩:=kz (uW hw).2
 simp +contextual only [go_sem,aD,sevalprocAttr,hw]
 refine bY z.length 31 [(1,xv),(29,.slice a z.length c),(30,.int .i64 (z.length:Int))] (fun i e h=>∃ N' M' R' fv,aF T N'/\bm M M'/\h=⟨N',M',[],R'⟩/\e 11=fv/\kT 38 2 (RZ M') [] R' fv (jO xs (z.take i))) 0 (by omega) (by simp only [aE,go_sem,sevalprocAttr]) (by simp only [go_sem,sevalprocAttr]) (aB ⟨T,M0,[],_,aF.rfl',Fj,rfl,by simp only [go_sem,sevalprocAttr],cV⟩) ?_
 rintro i e h hi aG lm ⟨T1,M1,R1,fv,dh,aV,rfl,e11,bj⟩
 simp only [aE] at aG
 by_cases aL:i<z.length
 ·obtain ⟨b',o',cs',rfl,bQ,s,cG,rfl⟩:=hg i z[i] (gq aL)
  obtain ⟨y0,y1,_⟩:=bQ.ext aV
  obtain ⟨sa,sc,rfl⟩:=fR cG
  simp +contextual only [go_sem,aD,sevalprocAttr,aG,lm,aL,y0,y1]
  intro b13 T13 OM DH TK
  have hT:=dh.trans DH
  refine aX ?_
  simp +contextual only [go_sem,sevalprocAttr,aG,e11,aC OM]
  refine aI (Ba (LS aV hx) (qz aV cG) cB (U7 _ (gm aL)) _) ?_
  rintro v M2 bh aZ hv
  simp only [aJ] at aZ
  obtain ⟨va,vc,rfl⟩:=fR hv
  simp +contextual only [go_sem,sevalprocAttr]
  refine ⟨fu bh aZ,?_⟩
  intro b3 ii df
  refine ⟨dK bh aZ ⟨df,trivial⟩,?_⟩
  refine cA (Tryz.underlying33) je iY (x:=⟨dk xs z[i].row,z[i].w⟩) (ey (fJ bh) bj) ⟨_,hv,rfl⟩ (fun _ _=>br) (iw (z:=⟨dk xs z[i].row,z[i].w⟩) ⟨_,hv,rfl⟩) ii (by simp [jO];omega) (by decide) ?_
  intro fv' R' bz
  have dY:jO xs (z.take i)++[⟨dk xs z[i].row,z[i].w⟩]=jO xs (z.take (i+1)):=by
   unfold jO;rw [<- List.take_append_getElem aL,List.map_append];rfl
  rw [dY] at bz
  simp +contextual only [go_sem,sevalprocAttr,lm]
  refine ⟨dK bh aZ ⟨df,trivial⟩,aR (al (al (aB ⟨z.length - (i+1),by omega,rfl,i+1,by omega,rfl,?_,?_,T13,M2,R',fv',hT,aV.trans bh,rfl,?_,bz⟩)))⟩
  ·simp only [aE,aG,go_sem,sevalprocAttr]
  ·simp only [go_sem,sevalprocAttr,aA i (by omega)]
  ·simp only [go_sem,sevalprocAttr]
 ·have:i=z.length:=by omega
  subst this
  rw [List.take_length] at bj
  simp +contextual only [go_sem,aD,sevalprocAttr,aG,lm,aL,e11]
  have hml:(jO xs z).length<=400:=by simp [jO];omega
  refine mm F99.bd bj (by omega) (by decide) trivial fun M2 bh aZ cG=> ?_
  refine aI (zf (aH bm.rfl' (fJ bh) cG) (by omega) (fun r hr=>by obtain ⟨r0,_,rfl⟩:=List.mem_map.1 hr;simp [dk];omega) _) ?_
  rintro v M3 bE _ hv
  rw [<- hS] at hv
  obtain ⟨s,e,rfl⟩:=ql hv
  simp +contextual only [go_sem,sevalprocAttr]
  exact ak dh hv
def RD (M:aS)(z:List Z)(cs:List Value):Prop:=∃ v,cs=[v]/\RS M (RZ M) 2 z v
theorem iq {M:aS}{z:List Z}{cs}(h:RD M z cs):cs.length=1:=by obtain ⟨_,rfl,_⟩:=h;rfl
theorem dz {M M':aS}(he:bm M M')(z:List Z)(cs)(h:RD M z cs):RD M' z cs:=by
 obtain ⟨v,rfl,h⟩:=h;exact ⟨v,rfl,cR he h⟩
def wi:List (List Int) ->List (List Z) ->Int
 | t::ts,z::zs=>kM (jq t z) (wi ts zs)
 | _,_=>0
def iU (aW:List (List Int))(data:List (List Z)):Int:=if data.length=aW.length then wi aW data else 8
variable {M:aS}
theorem De {aW:List (List Int)}{data:List (List Z)}{tv dv:Value}(ht:RS M (ms M) 1 aW tv)(hd:RS M (RD M) 1 data dv)(T:Tm):
 bV Tryz.prog 147 [tv,dv] T M [] [] (fun r _ _ _=>r=.int .i64 (iU aW data)) aM:=by
 obtain ⟨eZ,ta,tc,rfl,di,_,hg⟩:=ax (by decide) (fun _ _=>dE) ht
 obtain ⟨Of,da,dc,rfl,ph,_,xb⟩:=ax (by decide) (fun _ _=>iq) hd
 obtain ⟨S,hS⟩:∃ S,S=iU aW data:=⟨_,rfl⟩
 rw [<- hS]
 unfold iU at hS
 refine az akC rfl rfl ?_
 intro bi _
 by_cases hl:data.length=aW.length
 rotate_left
 ·have jm:¬ (data.length:Int)=(aW.length:Int):=by omega
  rw [if_neg hl] at hS
  simp +contextual only [go_sem,aD,sevalprocAttr,jm]
  exact ak aF.rfl' (by rw [hS])
 have jm:(data.length:Int)=(aW.length:Int):=by omega
 rw [if_pos hl] at hS
 simp +contextual only [go_sem,aD,sevalprocAttr,jm]
 refine aO data.length 15 [(0,.slice ta aW.length tc),(13,.slice da data.length dc),(14,.int .i64 (aW.length:Int))] (fun i e h=>h=⟨T,M,[],[]⟩/\S=wi (aW.drop i) (data.drop i)) 0 (by omega) (by simp only [aE,go_sem,sevalprocAttr]) (by simp only [go_sem,sevalprocAttr]) ⟨rfl,hS⟩ ?_
 rintro i e h hi aG lm ⟨rfl,am⟩
 simp only [aE] at aG
 by_cases aL:i<data.length
 ·have GB:i<aW.length:=by omega
  obtain ⟨b',o',cs',rfl,bQ,tv,rfl,nl⟩:=hg i aW[i] (gq GB)
  obtain ⟨b2,o2,cs2,rfl,oK,zv,rfl,AB⟩:=xb i data[i] (gq aL)
  have y0:=bQ.1
  have x0:=oK.1
  rw [Nat.mul_one] at y0 x0
  rw [dq aL,dq GB,wi] at am
  simp +contextual only [go_sem,aD,sevalprocAttr,aG,lm,aL,GB,y0,x0]
  refine aP (Eo nl AB _) ?_
  by_cases hw:jq aW[i] data[i]=0
  ·rw [hw,nE] at am
   simp +contextual only [go_sem,aD,sevalprocAttr,lm,hw]
   refine aR (aB ⟨data.length - (i+1),by omega,rfl,i+1,by omega,rfl,?_,?_,rfl,am⟩)
   ·simp only [aE,aG,go_sem,sevalprocAttr]
   ·simp only [go_sem,sevalprocAttr,aA i (by omega)]
  ·rw [nI hw] at am
   simp +contextual only [go_sem,aD,sevalprocAttr,hw]
   exact ak aF.rfl' (by rw [am])
 ·have:i=data.length:=by omega
  subst this
  rw [List.drop_length] at am
  have h0:S=0:=by rw [am];cases aW.drop data.length<;>rfl
  have nB:¬ data.length<aW.length:=by omega
  simp +contextual only [go_sem,aD,sevalprocAttr,aG,lm,nB]
  exact ak aF.rfl' (by rw [h0])
def rD (p:Pl)(c:List (List Int))(z:List (List Z)):Except Int (List Z):=if p.k=3 then WX (c.getD 0 []) p.xs (z.getD 0 []) else yT ab3 (z.getD 0 [])
def XC (k:Int):Bool:=decide (k=3) || decide (k=11)
variable {M:aS}
theorem Ll {c:List (List Int)}{ca:Option Addr}{cc i:Nat}(h:RS M (ms M) 1 c (.slice ca c.length cc))(hi:i<c.length):∃ b o v,ca=some ⟨b,o,none⟩/\aN M ⟨b,o+i,none⟩=some v/\RS M RI 1 (c.getD i []) v:=by
 obtain ⟨_,a,c',he,_,_,hg⟩:=ax (by decide) (fun _ _=>dE) h
 cases he
 obtain ⟨b,o,cs,hb,bQ,v,rfl,hv⟩:=hg i c[i] (gq hi)
 refine ⟨b,o,v,hb,?_,?_⟩
 ·have:=bQ.1;rw [Nat.mul_one] at this;exact this
 ·rw [List.getD_eq_getElem?_getD,gq hi];exact hv
theorem oI {c:List (List Z)}{ca:Option Addr}{cc i:Nat}(h:RS M (RD M) 1 c (.slice ca c.length cc))(hi:i<c.length):∃ b o v,ca=some ⟨b,o,none⟩/\aN M ⟨b,o+i,none⟩=some v/\RS M (RZ M) 2 (c.getD i []) v:=by
 obtain ⟨_,a,c',he,_,_,hg⟩:=ax (by decide) (fun _ _=>iq) h
 cases he
 obtain ⟨b,o,cs,hb,bQ,v,rfl,hv⟩:=hg i c[i] (gq hi)
 refine ⟨b,o,v,hb,?_,?_⟩
 ·have:=bQ.1;rw [Nat.mul_one] at this;exact this
 ·rw [List.getD_eq_getElem?_getD,gq hi];exact hv
theorem Ng {fw:Int ->Int}{z z':List Z}(h:yT fw z=.ok z'):z'.length<=400:=by
 unfold yT at h
 split at h
 ·rename_i hw
  cases h
  exact Nat.le_trans (BG fw z) (kz hw).1
 ·cases h
theorem I2 {N:Tm}{L:LL}{R0:RR}{k:Sh ->Prop}{res:Except Int (List Z)}{v:Value}{row:Value×TypeId×Nat×List Value}(hb:∀ z,res=.ok z ->z.length<=400)(h:VZ res v M [row])(hk:∀ M',Fl res v M' ->cq ⟨N,M',L,R0⟩ k):cq ⟨N,M,L,row::R0⟩ k:=by
 cases res with
 | ok z=>
  obtain ⟨a,c,xs,rfl,fM,bP⟩:=h
  simp only [List.cons.injEq,and_true] at bP
  subst bP
  have iH:=eL (fun _ _=>br) fM
  refine cK (fun M' he _ iG=>hk M' ⟨_,rfl,by have:=hb z rfl;omega,xs,iG,dl (fJ he) fM⟩) (by decide)
 | error e=>
  obtain ⟨cu,rfl,bP⟩:=h
  exact kY (hk M ⟨cu,rfl⟩)
theorem Uw {p:Pl}{bp op:Nat}{pc:List Value}{c:List (List Int)}{z:List (List Z)}{cv zv:Value}(bQ:At M bp op pc)(hp:gR M p pc)(hc:RS M (ms M) 1 c cv)(hz:RS M (RD M) 1 z zv)(h1:1<=c.length/\1<=z.length)(lU:XC p.k=true)
 (T:Tm):
 bV Tryz.prog 206 [.pointer (some ⟨bp,op,none⟩),cv,zv] T M [] [] (fun v M' _ _=>Fl (rD p c z) v M') aM:=by
 obtain ⟨s1,a1,n1,a2,n2,a3,n3,rfl,ox,_,fM,Oa,_⟩:=du hp
 obtain ⟨y0,y1,y2,y3,y4,y5,y6,y7,y8,y9,y10,_⟩:=bQ
 have hx:ij M p.x [.int .i64 p.x.k,.int .i64 p.x.v.k,.int .i64 p.x.v.n,st p.x.v.t,.int .i64 p.x.c,s1]:=by
  obtain ⟨xc,xv,av,s,he,h,_⟩:=j0.1 hp
  obtain ⟨s2,rfl,_⟩:=dF h
  cases he;exact h
 obtain ⟨_,ca,cc,rfl,_⟩:=ax (by decide) (fun _ _=>dE) hc
 obtain ⟨_,za,zc,rfl,_⟩:=ax (by decide) (fun _ _=>iq) hz
 obtain ⟨cb,co,v0,rfl,m0,EI⟩:=Ll hc (i:=0) (by omega)
 obtain ⟨zb,zo,w0,rfl,k0,xx⟩:=oI hz (i:=0) (by omega)
 have g0:(0:Int)<(c.length:Int):=by omega
 have g0':(0:Int)<(z.length:Int):=by omega
 rw [Nat.add_zero] at m0 k0
 obtain ⟨S,hS⟩:∃ S,S=rD p c z:=⟨_,rfl⟩
 rw [<- hS]
 unfold rD at hS
 refine az PK rfl rfl ?_
 intro bi _
 by_cases HL:p.k=3
 ·rw [if_pos HL] at hS
  simp +contextual only [go_sem,aD,sevalprocAttr,y0,HL]
  refine aX ?_
  simp +contextual only [go_sem,sevalprocAttr,y8,m0,k0,g0,g0']
  refine aI (abK EI fM xx _) ?_
  rintro v M1 aV bG hv
  rw [<- hS] at hv
  obtain ⟨s,e,rfl⟩:=ql hv
  simp +contextual only [go_sem,sevalprocAttr]
  exact ak aF.rfl' hv
 rw [if_neg HL] at hS
 have ah8:p.k=11:=by simpa [XC,HL] using lU
 simp +contextual only [go_sem,aD,sevalprocAttr,y0,k0,g0',ah8]
 refine lM (GJ xx _) ?_ (fun _ _ _ _ h=>h.elim)
 rintro v M1 row aV bG hv
 rw [<- hS] at hv
 obtain ⟨s,e,rfl,_⟩:=FU hv
 simp +contextual only [go_sem,sevalprocAttr]
 exact I2 (fun z' hz'=>Ng (hS.symm.trans hz')) hv fun M2 hr=>ak aF.rfl' hr
set_option maxHeartbeats 1000000
def fY (aW:List (List Int))(p:Pl):List Int:=match fq aW p with
 | .ok c=>c
 | .error _=>[]
mutual
def wu (aW:List (List Int))(data:List (List Z)):Pl ->Except Int (List Z)
 | .mk k n x xs ags kids=>if k=1 then ou (data.getD n.toNat []) else match jR aW data kids with
  | .error e=> .error e
  | .ok zs=>rD (.mk k n x xs ags []) (kids.map (fY aW)) zs
def jR (aW:List (List Int))(data:List (List Z)):List Pl ->Except Int (List (List Z))
 | []=> .ok []
 | p::l=>match wu aW data p with
  | .error e=> .error e
  | .ok z=>match jR aW data l with
   | .error e=> .error e
   | .ok zs=> .ok (z::zs)
end
mutual
def wz:Pl ->Bool
 | .mk k _ _ _ _ kids=>(decide (k=1) || XC k) && Df kids
def Df:List Pl ->Bool
 | []=>true
 | p::l=>wz p && Df l
end
theorem yy:∀ {l:List Pl},Df l=true ->∀ p∈l,wz p=true
 | q::l,h,p,hp=>by
  rw [Df,Bool.and_eq_true] at h
  rcases mY hp with rfl | hp
  ·exact h.1
  ·exact yy h.2 p hp
def Bc (aW:List (List Int))(p:Pl)(data:List (List Z)):Except Int (List Z):=match fq aW p with
 | .error e=> .error e
 | .ok _=>if iU aW data=0 then wu aW data p else .error (iU aW data)
mutual
theorem wm (aW:List (List Int)):∀ (p:Pl) (d d' m m':Nat) (c:List Int) (q:Nat),d'<=d ->m'<=m ->eS aW d m p=(.ok c,q) ->∃ q',q'+m<=q+m'/\eS aW d' m' p=(.ok c,q')
 | .mk k n x xs ags kids,d,d',m,m',c,q,hd,hm,h=>by
  rw [eS] at h ⊢
  split at h
  ·cases h
  split at h
  ·cases h
  split at h
  ·cases h
  rename_i h1 h2 h3
  rw [if_neg (by omega),if_neg h2,if_neg h3]
  split at h
  ·cases h
  ·rename_i cs m1 hl
   obtain ⟨q',hq,jm⟩:=xL aW kids _ (d'+1) _ (m'+1) _ _ (by omega) (by omega) hl
   rw [jm]
   simp only [Prod.mk.injEq] at h
   obtain ⟨h,rfl⟩:=h
   exact ⟨q',by omega,by dsimp only;rw [h]⟩
theorem xL (aW:List (List Int)):∀ (l:List Pl) (d d' m m':Nat) (c:List (List Int)) (q:Nat),d'<=d ->m'<=m ->gG aW d m l=(.ok c,q) ->∃ q',q'+m<=q+m'/\gG aW d' m' l=(.ok c,q')
 | [],d,d',m,m',c,q,hd,hm,h=>by
  rw [gG] at h ⊢
  cases h
  exact ⟨m',by omega,rfl⟩
 | p::l,d,d',m,m',c,q,hd,hm,h=>by
  rw [gG] at h ⊢
  split at h
  ·cases h
  ·rename_i c1 m1 hp
   obtain ⟨q1,hq1,DY⟩:=wm aW p _ d' _ m' _ _ hd hm hp
   rw [DY]
   dsimp only
   split at h
   ·cases h
   ·rename_i cs m2 hl
    obtain ⟨q2,hq2,jm⟩:=xL aW l _ d' _ q1 _ _ hd (by omega) hl
    rw [jm]
    cases h
    exact ⟨q2,by omega,rfl⟩
end
def zE (k n:Int)(a:List Int)(xs:List Ex)(ags:List Ag):Except Int (List Int):=
 if k=12 then (if 8<xs.length+ags.length then .error 5 else match fI a xs with
  | .error e=> .error e
  | .ok ks=>match jg a ags with | .ok g=> .ok (ks++g) | .error e=> .error e)
 else match fI a xs with
  | .error e=> .error e
  | .ok _=>if n<0\/50<n then .error 3 else .ok a
theorem xJ {cols:List Int}:∀ {xs:List Ex} {l:List Int},ig cols xs=.ok l ->l.length=xs.length
 | [],l,h=>by rw [ig] at h;cases h;rfl
 | x::xs,l,h=>by
  rw [ig] at h
  split at h
  ·cases h
  ·split at h
   ·rename_i ts h2
    cases h
    rw [List.length_cons,List.length_cons,xJ h2]
   ·cases h
theorem sR {cols:List Int}{xs:List Ex}{l:List Int}(h:fI cols xs=.ok l):l.length=xs.length/\xs.length<=8:=by
 unfold fI at h
 split at h
 ·cases h
 ·exact ⟨xJ h,by omega⟩
theorem uS {cols:List Int}:∀ {xs:List Ag} {l:List Int},jg cols xs=.ok l ->l.length=xs.length
 | [],l,h=>by rw [jg] at h;cases h;rfl
 | x::xs,l,h=>by
  rw [jg] at h
  split at h
  ·cases h
  ·split at h
   ·rename_i ts h2
    cases h
    rw [List.length_cons,List.length_cons,uS h2]
   ·cases h
theorem ad5 {M:aS}{b o:Nat}{v0 v1 v2 v3 v4 v5 v6 v7 v8 v9 v10:Value}(h:At M b o [v0,v1,v2,v3,v4,v5,v6,v7,v8,v9,v10]):aN M ⟨b,o,none⟩=some v0/\aN M ⟨b,o+1,none⟩=some v1/\aN M ⟨b,o+8,none⟩=some v8/\aN M ⟨b,o+9,none⟩=some v9/\aN M ⟨b,o+10,none⟩=some v10:=by
 obtain ⟨h0,h1,h2,h3,h4,h5,h6,h7,h8,h9,DX,_⟩:=h
 exact ⟨h0,h1,h8,h9,DX⟩
theorem Jh {M:aS}{cols:List Int}{cv:Value}{p:Pl}{b o:Nat}{cs:List Value}(bQ:At M b o cs)(hp:gR M p cs)(lk:RS M RI 1 cols cv)(hk:p.k=12\/p.k=13)(T:Tm):
 bV Tryz.prog 204 [.pointer (some ⟨b,o,none⟩),cv] T M [] [] (fun r M' _ _=>EW (zE p.k p.n cols p.xs p.ags) r M') aM:=by
 obtain ⟨s1,a1,n1,a2,n2,a3,n3,rfl,iX,hkx,fM,CN,pe⟩:=du hp
 obtain ⟨x0,x1,x8,x9,x10⟩:=ad5 bQ
 have hlx:=(ax (by decide) (fun _ _=>eb) fM).1
 have hla:=(ax (by decide) (fun _ _=>mE) CN).1
 obtain ⟨_,ca,cc,rfl,_⟩:=ax (by decide) (fun _ _=>ct) lk
 refine az ajd rfl rfl ?_
 intro bi _
 simp +contextual only [go_sem,sevalprocAttr]
 refine aX ?_
 have hw:IntKind.i64.wrap ((p.xs.length:Int)+(p.ags.length:Int))=((p.xs.length+p.ags.length:Nat):Int):=by
  rw [bH (by omega) (by omega)];omega
 rcases hk with hk | hk
 ·unfold zE
  rw [if_pos hk]
  by_cases h8:8<p.xs.length+p.ags.length
  ·have th:(8:Int)<((p.xs.length+p.ags.length:Nat):Int):=by omega
   rw [if_pos h8]
   simp +contextual only [go_sem,aD,sevalprocAttr,x0,x8,x9,hk,hw,th]
   exact ak aF.rfl' ⟨by decide,_,rfl⟩
  ·have th:¬ (8:Int)<((p.xs.length+p.ags.length:Nat):Int):=by omega
   rw [if_neg h8]
   simp +contextual only [go_sem,aD,sevalprocAttr,x0,x8,x9,hk,hw,th]
   refine aI (tS lk fM T) ?_
   rintro r M2 bh aZ hr
   cases nq:fI cols p.xs with
   | error er=>
    rw [nq] at hr
    obtain ⟨cu,rfl⟩:=hr
    simp +contextual only [go_sem,aD,sevalprocAttr,cu]
    exact ak aF.rfl' ⟨cu,_,rfl⟩
   | ok ks=>
    rw [nq] at hr
    obtain ⟨kv,rfl,Pm⟩:=hr
    have y0:=ay bh x0
    have y9:=ay bh x9
    obtain ⟨pm,_⟩:=sR nq
    obtain ⟨_,ka,kc,rfl,_⟩:=ax (by decide) (fun _ _=>ct) Pm
    simp +contextual only [go_sem,aD,sevalprocAttr,y0,y9,hk]
    refine aI (EB (aH bh (fun _ _ h=>h) lk) (aH bh (qM bh) CN) (by omega) T) ?_
    rintro r M3 bE bB hr
    have afA:=aH bE (fun _ _ h=>h) Pm
    cases aam:jg cols p.ags with
    | error er=>
     rw [aam] at hr
     obtain ⟨cu,rfl⟩:=hr
     simp +contextual only [go_sem,sevalprocAttr]
     intro b1 fx
     refine cZ WT.bd fun M4 dD eN de=> ?_
     have hls:RS M4 (ms M4) 1 [ks,[]] (.slice (some ⟨b1,0,none⟩) 2 2):=dB (fun _ _=>dE) eN (l:=[ks,[]]) ⟨_,_,rfl,⟨_,rfl,aH dD (fun _ _ h=>h) afA⟩,_,_,rfl,⟨_,rfl,bu⟩,rfl⟩ rfl (by omega)
     refine aI (sy hls (by simp) (by intro l hl;simp only [mn] at hl;rcases hl with rfl | rfl<;>(try simp only [List.length_nil])<;>omega) T) ?_
     rintro v M5 dJ bR hv
     simp +contextual only [go_sem,sevalprocAttr]
     exact ak aF.rfl' ⟨cu,_,rfl⟩
    | ok g=>
     rw [aam] at hr
     obtain ⟨gv,rfl,hgv⟩:=hr
     have U9:=uS aam
     obtain ⟨_,ga,gc,rfl,_⟩:=ax (by decide) (fun _ _=>ct) hgv
     simp +contextual only [go_sem,sevalprocAttr]
     intro b1 fx
     refine cZ WT.bd fun M4 dD eN de=> ?_
     have hls:RS M4 (ms M4) 1 [ks,g] (.slice (some ⟨b1,0,none⟩) 2 2):=dB (fun _ _=>dE) eN (l:=[ks,g]) ⟨_,_,rfl,⟨_,rfl,aH dD (fun _ _ h=>h) afA⟩,_,_,rfl,⟨_,rfl,aH dD (fun _ _ h=>h) hgv⟩,rfl⟩ rfl (by omega)
     refine aI (sy hls (by simp) (by intro l hl;simp only [mn] at hl;rcases hl with rfl | rfl<;>(try simp only [List.length_nil])<;>omega) T) ?_
     rintro v M5 dJ bR hv
     simp +contextual only [go_sem,sevalprocAttr]
     refine ak aF.rfl' ⟨_,rfl,?_⟩
     simpa using hv
 ·unfold zE
  rw [if_neg (by omega)]
  simp +contextual only [go_sem,aD,sevalprocAttr,x0,x8,hk]
  refine aI (tS lk fM T) ?_
  rintro r M2 bh aZ hr
  cases nq:fI cols p.xs with
  | error er=>
   rw [nq] at hr
   obtain ⟨cu,rfl⟩:=hr
   simp +contextual only [go_sem,aD,sevalprocAttr,cu]
   exact ak aF.rfl' ⟨cu,_,rfl⟩
  | ok ks=>
   rw [nq] at hr
   obtain ⟨kv,rfl,Pm⟩:=hr
   have y0:=ay bh x0
   have y1:=ay bh x1
   simp +contextual only [go_sem,aD,sevalprocAttr,y0,y1,hk]
   split
   ·exact ak aF.rfl' ⟨by decide,_,rfl⟩
   ·exact ak aF.rfl' ⟨_,rfl,aH bh (fun _ _ h=>h) lk⟩
mutual
theorem Ce (aW:List (List Int))(bI n:Nat):∀ p,n<=60 ->(eS aW bI n p).2<=61/\(∀ t,(eS aW bI n p).1=.ok t ->(eS aW bI n p).2<=60)
 | .mk k c x xs ags kids,hn=>by
  rw [eS]
  split
  ·exact ⟨by simp only;omega,fun t h=>by simp at h⟩
  ·split
   ·exact ⟨by simp only;omega,fun t h=>by simp at h⟩
   ·split
    ·exact ⟨by simp only;omega,fun t h=>by simp at h⟩
    ·have:=Gi aW (bI+1) (n+1) kids (by omega)
     split
     ·rename_i e m hm
      rw [hm] at this
      exact ⟨this.1,fun t h=>by simp at h⟩
     ·rename_i t m hm
      rw [hm] at this
      have h2:=this.2 t rfl
      simp only at h2
      exact ⟨by simp only;omega,fun _ _=>h2⟩
theorem Gi (aW:List (List Int))(bI n:Nat):∀ l,n<=60 ->(gG aW bI n l).2<=61/\(∀ t,(gG aW bI n l).1=.ok t ->(gG aW bI n l).2<=60)
 | [],hn=>by rw [gG];exact ⟨by simp only;omega,fun _ _=>hn⟩
 | x::l,hn=>by
  rw [gG]
  have hx:=Ce aW bI n x hn
  split
  ·rename_i e m hm
   rw [hm] at hx
   exact ⟨hx.1,fun t h=>by simp at h⟩
  ·rename_i t m hm
   rw [hm] at hx
   have hl:=Gi aW bI m l (hx.2 t rfl)
   split
   ·rename_i e m' DT
    rw [DT] at hl
    exact ⟨hl.1,fun t h=>by simp at h⟩
   ·rename_i ts m' DT
    rw [DT] at hl
    exact ⟨hl.1,fun _ _=>hl.2 ts rfl⟩
end
def yf (acc:List (List Int)):Except Int (List (List Int))×Nat ->Except Int (List (List Int))×Nat
 | (.ok l,m)=>(.ok (acc++l),m)
 | (.error e,m)=>(.error e,m)
theorem MH (r):yf [] r=r:=by obtain ⟨r,m⟩:=r;cases r<;>rfl
theorem UZ {aW:List (List Int)}{bI n m:Nat}{x:Pl}{l:List Pl}{t:List Int}{acc:List (List Int)}(h:eS aW bI n x=(.ok t,m)):yf acc (gG aW bI n (x::l))=yf (acc++[t]) (gG aW bI m l):=by
 rw [gG,h]
 simp only
 rcases hl:gG aW bI m l with ⟨r,m'⟩
 cases r<;>simp [yf]
theorem NU {aW:List (List Int)}{bI n m:Nat}{x:Pl}{l:List Pl}{e:Int}{acc:List (List Int)}(h:eS aW bI n x=(.error e,m)):yf acc (gG aW bI n (x::l))=(.error e,m):=by
 rw [gG,h];rfl
theorem FH {aW:List (List Int)}{k n:Int}{x:Ex}{xs:List Ex}{ags:List Ag}{c:List (List Int)}(hk:k=12\/k=13):kS aW k n x xs ags c=zE k n (c.getD 0 []) xs ags:=by
 unfold kS zE
 generalize hA:fI (c.getD 0 []) xs=A
 generalize hB:jg (c.getD 0 []) ags=B
 rcases hk with rfl | rfl<;>cases A<;>cases B<;>simp_all
theorem Ci:∀ {a b l:List Int},lu a b=.ok l ->l.length<=a.length
 | [],b,l,h=>by simp [lu] at h;subst h;exact Nat.le_refl _
 | t::a,[],l,h=>by simp [lu] at h;subst h;simp
 | t::a,u::b,l,h=>by
  rw [lu] at h
  split at h
  ·cases h
  ·split at h
   ·rename_i m hm
    cases h
    have:=Ci hm
    simp only [List.length_cons];omega
   ·cases h
theorem yU {c:List (List Int)}(h:∀ t∈c,t.length<=8)(i:Nat):(c.getD i []).length<=8:=by
 rw [List.getD_eq_getElem?_getD]
 by_cases hi:i<c.length
 ·rw [gq hi];exact h _ (gm hi)
 ·rw [List.getElem?_eq_none (by omega)];simp
theorem My {aW:List (List Int)}{k n:Int}{x:Ex}{xs:List Ex}{ags:List Ag}{c:List (List Int)}{l:List Int}(ht:∀ t∈aW,t.length<=8)(hc:∀ t∈c,t.length<=8)(h:kS aW k n x xs ags c=.ok l):l.length<=8:=by
 have h0:=yU hc 0
 have h1:=yU hc 1
 unfold kS at h
 simp only at h
 split at h
 ·split at h
  ·injection h with h;rw [<- h];exact yU ht _
  ·cases h
 split at h
 ·split at h
  ·injection h with h;rw [<- h];exact h0
  ·cases h
 split at h
 ·have:=sR h;omega
 split at h
 ·unfold nP at h
  split at h
  ·cases h
  ·have:=Ci h;omega
 split at h
 ·injection h with h;rw [<- h];exact h0
 split at h
 ·split at h
  ·cases h
  ·split at h
   ·cases h
   ·rename_i ks hks
    split at h
    ·rename_i g hg
     injection h with h
     have e1:=sR hks
     have e2:=uS hg
     rw [<- h,List.length_append]
     omega
    ·cases h
 split at h
 ·split at h
  ·cases h
  ·split at h
   ·cases h
   ·injection h with h;rw [<- h];exact h0
 split at h
 ·cases h
 ·split at h
  ·cases h
  ·injection h with h
   rw [<- h]
   split<;>omega
mutual
theorem se {aW:List (List Int)}(ht:∀ t∈aW,t.length<=8)(bI n:Nat):∀ p {l},(eS aW bI n p).1=.ok l ->l.length<=8
 | .mk k c x xs ags kids,l,h=>by
  rw [eS] at h
  split at h
  ·cases h
  ·split at h
   ·cases h
   ·split at h
    ·cases h
    ·split at h
     ·cases h
     ·rename_i c m hm
      have h2:=A6 ht (bI+1) (n+1) kids (l:=c) (by rw [hm])
      exact My ht h2 h
theorem A6 {aW:List (List Int)}(ht:∀ t∈aW,t.length<=8)(bI n:Nat):∀ ps {l},(gG aW bI n ps).1=.ok l ->∀ t∈l,t.length<=8
 | [],l,h=>by rw [gG] at h;cases h;intro t ht;cases ht
 | p::ps,l,h=>by
  rw [gG] at h
  split at h
  ·cases h
  ·rename_i t m hm
   split at h
   ·cases h
   ·rename_i ts m' DT
    injection h with h
    intro u hu
    rw [<- h,List.mem_cons] at hu
    rcases hu with rfl | hu
    ·exact se ht bI n p (by rw [hm])
    ·exact A6 ht bI m ps (by rw [DT]) u hu
end
def B7 (l cols:List Int)(x:Ex):Except Int (List Int):=match rF cols x with | .ok _=> .ok l | .error e=> .error e
theorem IB {aW:List (List Int)}{n:Int}{x:Ex}{xs:List Ex}{ags:List Ag}{c:List (List Int)}:kS aW 2 n x xs ags c=B7 (c.getD 0 []) (c.getD 0 []) x:=by
 unfold kS B7
 rw [if_neg (by decide),if_pos rfl]
 cases rF (c.getD 0 []) x<;>rfl
theorem JS {aW:List (List Int)}{k n:Int}{x:Ex}{xs:List Ex}{ags:List Ag}{c:List (List Int)}(hk:4<=k/\k<=7):kS aW k n x xs ags c=
 if 8<(c.getD 0 []++c.getD 1 []).length then .error 5 else B7 (if k=5\/k=6 then c.getD 0 [] else c.getD 0 []++c.getD 1 []) (c.getD 0 []++c.getD 1 []) x:=by
 unfold kS B7
 simp only
 rw [if_neg (by omega),if_neg (by omega),if_neg (by omega),if_neg (by omega),if_neg (by omega),if_neg (by omega),if_neg (by omega)]
 split
 ·rfl
 ·cases rF (c.getD 0 []++c.getD 1 []) x<;>rfl
theorem qF {l cols:List Int}{x:Ex}{sv:Value}{M:aS}(hs:RS M RI 1 l sv)(he:∀ e,rF cols x=.error e ->e≠0):EW (B7 l cols x) (.tuple ⟨[sv,.int .i64 (Kp cols x)]⟩) M:=by
 unfold B7 Kp
 cases h:rF cols x with
 | ok u=>exact ⟨sv,rfl,hs⟩
 | error e=>exact ⟨he e h,sv,rfl⟩
theorem Zk {M:aS}{b o:Nat}{v0 v1 v2 v3 v4 v5 v6 v7 v8 v9 v10:Value}(h:At M b o [v0,v1,v2,v3,v4,v5,v6,v7,v8,v9,v10]):aN M ⟨b,o+2,none⟩=some v2/\aN M ⟨b,o+3,none⟩=some v3/\aN M ⟨b,o+4,none⟩=some v4/\aN M ⟨b,o+5,none⟩=some v5/\aN M ⟨b,o+6,none⟩=some v6/\aN M ⟨b,o+7,none⟩=some v7:=by
 obtain ⟨h0,h1,h2,h3,h4,h5,h6,h7,h8,h9,DX,_⟩:=h
 exact ⟨h2,h3,h4,h5,h6,h7⟩
theorem Jf {k:Int}(h:0<=hX k)(h1:k≠1):hX k=1\/hX k=2:=by
 unfold hX at h ⊢
 grind
theorem lQ {res:Except Int (List Int)}{v:Value}{M:aS}(h:EW res v M):∃ sv er,v=.tuple ⟨[sv,.int .i64 er]⟩:=by
 cases res with
 | ok l=>obtain ⟨sv,rfl,_⟩:=h;exact ⟨_,_,rfl⟩
 | error e=>obtain ⟨_,sv,rfl⟩:=h;exact ⟨_,_,rfl⟩
def ClX (p:Pl):Prop:=∀ (M:aS) (T:Tm) (b o hb bI n:Nat) (cs:List Value) (aW:List (List Int)) (tv:Value),At M b o cs ->gR M p cs ->RS M (ms M) 1 aW tv ->(∀ t∈aW,t.length<=8) ->n<=60 ->bI<=16 ->
 bV Tryz.prog 145 [.pointer (some ⟨hb,0,none⟩),.pointer (some ⟨b,o,none⟩),.int .i64 (bI:Int)] T M [(hb,[tv,.int .i64 (n:Int)])] [] (fun r M' L' R'=>EW (eS aW bI n p).1 r M'/\L'=[(hb,[tv,.int .i64 ((eS aW bI n p).2:Int)])]/\R'=[]) aM
theorem clX:∀ (sz:Nat) (p:Pl),SizeOf.sizeOf p<=sz ->ClX p:=by
 intro sz
 induction sz with
 | zero=>intro p hp;cases p;simp at hp
 | succ sz ih=>
  intro p dS M T b o hb bI n cs aW tv bQ hp nl Dc hn Zj
  obtain ⟨s1,a1,n1,a2,n2,a3,n3,rfl,iX,hkx,fM,CN,pe⟩:=du hp
  obtain ⟨m0,m1,m8,m9,m10⟩:=ad5 bQ
  obtain ⟨eZ,a',c',iG,di,zw,hg⟩:=ax (by decide) (fun _ _=>jo) pe
  injection iG with h1 h2 h3
  subst h1 h3
  cases p with | mk k pn x xs ags kids=>
  simp only [Pl.k,Pl.n,Pl.x,Pl.xs,Pl.ags,Pl.kids] at m0 m1 m8 m9 m10 fM CN pe di hg eZ hkx
  obtain ⟨S,hS⟩:∃ S,S=eS aW bI n (.mk k pn x xs ags kids):=⟨_,rfl⟩
  rw [<- hS]
  rw [eS] at hS
  have hwn:=aA n (by omega)
  have Xq:=aA bI (by omega)
  refine az aid rfl rfl ?_
  intro bi _
  simp only [aJ,and_true] at bi
  simp +contextual only [go_sem,aD,sevalprocAttr,bi,hwn,m0]
  by_cases vO:60<n+1\/15<bI
  ·rw [if_pos vO] at hS
   rw [if_pos (by omega)]
   exact aQ aF.rfl' rfl rfl ⟨by rw [hS];exact ⟨by decide,_,rfl⟩,by rw [hS],rfl⟩
  rw [if_neg vO] at hS
  rw [if_neg (by omega)]
  refine aI (P8 k T) ?_
  rintro r M1 aV bG rfl
  simp only [aJ,and_true] at bG
  replace m0:=ay aV m0
  replace m1:=ay aV m1
  replace m8:=ay aV m8
  replace m9:=ay aV m9
  replace m10:=ay aV m10
  by_cases o7:hX k<0
  ·rw [if_pos o7] at hS
   simp +contextual only [go_sem,aD,sevalprocAttr,o7]
   exact aQ aF.rfl' rfl rfl ⟨by rw [hS];exact ⟨by decide,_,rfl⟩,by rw [hS],rfl⟩
  rw [if_neg o7] at hS
  by_cases pm:(kids.length:Int)=hX k
  ·rw [if_neg (fun h=>h pm)] at hS
   have HL:kids.length<=2:=by
    have:hX k<=2:=by unfold hX;repeat' split<;>omega
    omega
   simp +contextual only [go_sem,aD,sevalprocAttr,o7,pm,m10]
   refine bY kids.length 51 [(0,.pointer (some ⟨hb,0,none⟩)),(1,.pointer (some ⟨b,o,none⟩)),(2,.int .i64 (bI:Int)),(50,.int .i64 (kids.length:Int))]
    (fun i e h=>∃ (M':aS) (n':Nat) (R:RR) (fv:Value) (acc:List (List Int)),bm M1 M'/\M' hb=none/\n'<=60/\h=⟨T,M',[(hb,[tv,.int .i64 (n':Int)])],R⟩/\e 9=fv/\acc.length=i/\(i<kids.length ->kT 54 1 (ms M') [] R fv acc)/\(i=kids.length ->R=[]/\RS M' (ms M') 1 acc fv)/\yf acc (gG aW (bI+1) n' (kids.drop i))=gG aW (bI+1) (n+1) kids/\∀ t∈acc,t.length<=8)
    0 (by omega) (by simp only [aE,pm,go_sem,sevalprocAttr]) (by simp only [go_sem,sevalprocAttr]) (aB ⟨M1,n+1,[],.slice none 0 0,[],bm.rfl',bG,by omega,rfl,by simp only [go_sem,sevalprocAttr],rfl,fun _=>cV,fun _=>⟨rfl,bu⟩,MH _,by intro t ht;cases ht⟩) ?_
   rintro i e h hi aG ht ⟨M2,n',R2,fv,acc,bh,n2,Vm,rfl,e9,jN,bj,tw,am,Yr⟩
   simp only [aE] at aG
   have x10:=ay bh m10
   by_cases aL:i<kids.length
   ·obtain ⟨b',o',cs',rfl,vq,dV⟩:=hg i kids[i] (gq aL)
    have ep:=aV.trans bh
    have bK:kids.drop i=kids[i]::kids.drop (i+1):=dq aL
    rw [bK] at am
    have IG:SizeOf.sizeOf kids[i]<=sz:=by
     have h1:=List.sizeOf_lt_of_mem (gm aL)
     simp only [Pl.mk.sizeOf_spec] at dS
     omega
    have ph:=Ce aW (bI+1) n' kids[i] Vm
    have zw:=bj aL
    simp +contextual only [go_sem,aD,sevalprocAttr,aG,ht,aL,x10,Xq]
    refine dC [] (ih kids[i] IG M2 T b' _ hb (bI+1) n' cs' aW tv (vq.ext ep) (bA ep _ _ dV) (aH ep (cW ep) nl) Dc Vm (by omega)) ?_ (fun _ _ _ _ _ _ h=>h.elim)
    rintro r M3 L' bE yQ bB ⟨hr,rfl, -⟩
    simp only [List.nil_append,aJ,and_true] at bB
    rcases nq:eS aW (bI+1) n' kids[i] with ⟨r1,m⟩
    rw [nq] at hr ph
    cases r1 with
    | error er=>
     obtain ⟨cu,t,rfl⟩:=hr
     rw [NU nq] at am
     rw [<- am] at hS
     simp +contextual only [go_sem,aD,sevalprocAttr,cu]
     refine bW (aQ aF.rfl' rfl rfl ⟨?_,?_,rfl⟩)
     ·rw [hS];exact ⟨cu,_,rfl⟩
     ·rw [hS]
    | ok t=>
     simp only [EW] at hr
     obtain ⟨kv,rfl,Pm⟩:=hr
     obtain ⟨_,ka,kc,rfl,_⟩:=ax (by decide) (fun _ _=>ct) Pm
     rw [UZ nq] at am
     have Y4:∀ u∈acc++[t],u.length<=8:=by
      intro u hu
      rw [List.mem_append,List.mem_singleton] at hu
      rcases hu with hu | rfl
      ·exact Yr u hu
      ·exact se Dc (bI+1) n' kids[i] (by rw [nq])
     simp +contextual only [go_sem,aD,sevalprocAttr,e9]
     intro b7 mN jv
     have hT:=bh.trans bE
     refine cA (Tryz.underlying131) yE yO (ey (cW bE) zw) ⟨_,rfl,Pm⟩ (fun _ _=>dE) (Gl (M:=M3) ⟨_,rfl,Pm⟩) mN (by omega) (by decide) ?_
     intro fv' R' bz
     simp +contextual only [go_sem,sevalprocAttr,ht]
     refine aR (al ?_)
     by_cases Dt:i+1=kids.length
     ·refine cz bz (by rw [List.length_append];simp only [ln];omega) (by decide) ⟨bB,trivial⟩ fun M4 dD de cG=>aB ⟨kids.length - (i+1),by omega,rfl,i+1,by omega,rfl,?_,?_,M4,m,[],fv',acc++[t],hT.trans dD,de.1,ph.2 t rfl,rfl,?_,?_,fun h=>absurd h (by omega),fun _=>⟨rfl,aH bm.rfl' (cW dD) cG⟩,am,Y4⟩
      ·simp only [aE,aG,go_sem,sevalprocAttr]
      ·simp only [go_sem,sevalprocAttr,aA i (by omega)]
      ·simp only [go_sem,sevalprocAttr]
      ·rw [List.length_append,jN];rfl
     ·refine aB ⟨kids.length - (i+1),by omega,rfl,i+1,by omega,rfl,?_,?_,M3,m,R',fv',acc++[t],hT,bB,ph.2 t rfl,rfl,?_,?_,fun _=>bz,fun h=>absurd h Dt,am,Y4⟩
      ·simp only [aE,aG,go_sem,sevalprocAttr]
      ·simp only [go_sem,sevalprocAttr,aA i (by omega)]
      ·simp only [go_sem,sevalprocAttr]
      ·rw [List.length_append,jN];rfl
   ·have:i=kids.length:=by omega
    subst this
    obtain ⟨rfl,YX⟩:=tw rfl
    rw [List.drop_length,gG] at am
    simp only [yf,List.append_nil] at am
    rw [<- am] at hS
    simp only at hS
    have ep:=aV.trans bh
    replace m0:=ay bh m0
    replace m1:=ay bh m1
    by_cases k1:k=1
    ·subst k1
     unfold kS at hS
     rw [if_pos rfl] at hS
     obtain ⟨_,ta,tc,rfl,htc,_,htg⟩:=ax (by decide) (fun _ _=>dE) nl
     simp +contextual only [go_sem,aD,sevalprocAttr,aG,ht,aL,m0]
     refine aX ?_
     by_cases Al:pn<0
     ·rw [if_neg (by omega)] at hS
      simp +contextual only [go_sem,aD,sevalprocAttr,aG,m1,Al]
      refine bW (aQ aF.rfl' rfl rfl ⟨?_,by rw [hS],rfl⟩)
      rw [hS];exact ⟨by decide,_,rfl⟩
     ·by_cases Pw:(aW.length:Int)<=pn
      ·rw [if_neg (by omega)] at hS
       simp +contextual only [go_sem,aD,sevalprocAttr,aG,m1,n2,Al,Pw]
       refine bW (aQ aF.rfl' rfl rfl ⟨?_,by rw [hS],rfl⟩)
       rw [hS];exact ⟨by decide,_,rfl⟩
      ·rw [if_pos (by omega)] at hS
       obtain ⟨j,rfl⟩:=Int.eq_ofNat_of_zero_le (show 0<=pn by omega)
       have Ny:j<aW.length:=by omega
       obtain ⟨b',o',cs',rfl,vq,v,rfl,mP⟩:=htg j aW[j] (gq Ny)
       have z0:=xG (vq.ext ep)
       rw [Nat.mul_one] at z0
       simp +contextual only [go_sem,aD,sevalprocAttr,aG,m1,n2,Al,Pw]
       refine aX ?_
       simp +contextual only [go_sem,sevalprocAttr,aG,m1,n2,Ny,z0]
       refine aQ aF.rfl' rfl rfl ⟨?_,by rw [hS],rfl⟩
       have WS:aW.getD (j:Int).toNat []=aW[j]:=by simp [List.getD,Ny]
       rw [hS,WS]
       exact ⟨_,rfl,aH ep (fun _ _ h=>h) mP⟩
    have Lu:1<=kids.length:=by
     have:=Jf (by omega:0<=hX k) k1
     omega
    obtain ⟨_,fa,fc,rfl,hfc,_,hfg⟩:=ax (by decide) (fun _ _=>dE) YX
    obtain ⟨b0,o0,cs0,rfl,An,v0,rfl,wE⟩:=hfg 0 acc[0] (gq (by omega))
    obtain ⟨_,c0a,c0c,rfl,_⟩:=ax (by decide) (fun _ _=>ct) wE
    have z0:=xG An
    rw [Nat.zero_mul,Nat.add_zero] at z0
    have D3:0<acc.length:=by omega
    have zU:(0:Int)<(acc.length:Int):=by omega
    have Eu:acc.getD 0 []=acc[0]:=by simp [List.getD,D3]
    by_cases k10:k=10\/k=11
    ·have j1:kS aW k pn x xs ags acc=.ok (acc.getD 0 []):=by unfold kS;rcases k10 with rfl | rfl<;>simp
     rw [j1] at hS
     rcases k10 with rfl | rfl
     ·simp +contextual only [go_sem,aD,sevalprocAttr,aG,ht,aL,m0,e9,zU,z0]
      refine aQ aF.rfl' rfl rfl ⟨?_,by rw [hS],rfl⟩
      rw [hS,Eu]
      exact ⟨_,rfl,wE⟩
     ·simp +contextual only [go_sem,aD,sevalprocAttr,aG,ht,aL,m0,e9,zU,z0]
      refine aQ aF.rfl' rfl rfl ⟨?_,by rw [hS],rfl⟩
      rw [hS,Eu]
      exact ⟨_,rfl,wE⟩
    ·by_cases k12:k=12\/k=13
     ·rw [FH k12,Eu] at hS
      have s9:=bA ep _ _ hp
      have ahj:=bQ.ext ep
      have s8:=Jh (cols:=acc[0]) ahj s9 wE k12 T
      simp only [Pl.k,Pl.n,Pl.xs,Pl.ags] at s8
      rcases k12 with rfl | rfl
      ·simp +contextual only [go_sem,aD,sevalprocAttr,aG,ht,aL,m0,e9,zU,z0]
       refine aI s8 ?_
       rintro r M3 bE bB hr
       obtain ⟨sv,er,rfl⟩:=lQ hr
       simp +contextual only [go_sem,sevalprocAttr]
       exact aQ aF.rfl' rfl rfl ⟨by rw [hS];exact hr,by rw [hS],rfl⟩
      ·simp +contextual only [go_sem,aD,sevalprocAttr,aG,ht,aL,m0,e9,zU,z0]
       refine aI s8 ?_
       rintro r M3 bE bB hr
       obtain ⟨sv,er,rfl⟩:=lQ hr
       simp +contextual only [go_sem,sevalprocAttr]
       exact aQ aF.rfl' rfl rfl ⟨by rw [hS];exact hr,by rw [hS],rfl⟩
     ·by_cases k3:k=3
      ·have j1:kS aW k pn x xs ags acc=fI (acc.getD 0 []) xs:=by unfold kS;subst k3;simp
       rw [j1,Eu] at hS
       subst k3
       replace m8:=ay bh m8
       simp +contextual only [go_sem,aD,sevalprocAttr,aG,ht,aL,m0]
       refine aX ?_
       simp +contextual only [go_sem,sevalprocAttr,aG,m8,e9,zU,z0]
       refine aI (tS wE (aH ep (cJ ep) fM) T) ?_
       rintro r M3 bE bB hr
       replace hr:=Ip hr
       obtain ⟨sv,er,rfl⟩:=lQ hr
       simp +contextual only [go_sem,sevalprocAttr]
       exact aQ aF.rfl' rfl rfl ⟨by rw [hS];exact hr,by rw [hS],rfl⟩
      ·by_cases k2:k=2
       ·subst k2
        rw [IB,Eu] at hS
        obtain ⟨x2,x3,x4,x5,x6,x7⟩:=Zk (bQ.ext ep)
        have Hr:ij M2 x [.int .i64 x.k,.int .i64 x.v.k,.int .i64 x.v.n,st x.v.t,.int .i64 x.c,s1]:=iQ.2 ⟨s1,rfl,aH ep (cJ ep) hkx⟩
        simp +contextual only [go_sem,aD,sevalprocAttr,aG,ht,aL,m0]
        refine aX ?_
        simp +contextual only [go_sem,sevalprocAttr,aG,e9,zU,z0,x2,x3,x4,x5,x6,x7]
        refine aI (xC wE Hr T) ?_
        rintro r M3 bE bB ⟨rfl,hre⟩
        simp +contextual only [go_sem,sevalprocAttr]
        simp only [aJ,and_true] at bB
        exact ⟨fu bE ⟨bB,trivial⟩,aQ aF.rfl' rfl rfl ⟨by rw [hS];exact qF (aH bE (fun _ _ h=>h) wE) hre,by rw [hS],rfl⟩⟩
       have ahQ:4<=k/\k<=9:=by
        unfold hX at o7
        grind
       have anP:hX k=2:=by unfold hX;rw [if_neg k1,if_pos ahQ]
       have aa0:1<acc.length:=by omega
       have Tp:(1:Int)<(acc.length:Int):=by omega
       have lC:acc.getD 1 []=acc[1]:=by simp [List.getD,aa0]
       obtain ⟨b1,o1,cs1,hbo,xO,v1,rfl,k9⟩:=hfg 1 acc[1] (gq aa0)
       cases hbo
       obtain ⟨_,c1a,c1c,rfl,_⟩:=ax (by decide) (fun _ _=>ct) k9
       have z1:=xG xO
       rw [Nat.one_mul] at z1
       by_cases k8:k=8\/k=9
       ·have j1:kS aW k pn x xs ags acc=nP (acc.getD 0 []) (acc.getD 1 []):=by unfold kS;rcases k8 with rfl | rfl<;>simp
        rw [j1,Eu,lC] at hS
        have AI:acc[0].length<=1048576:=Nat.le_trans (Yr _ (gm D3)) (by decide)
        rcases k8 with rfl | rfl
        ·simp +contextual only [go_sem,aD,sevalprocAttr,aG,ht,aL,m0]
         refine aX ?_
         simp +contextual only [go_sem,sevalprocAttr,e9,zU,Tp,z0,z1]
         refine aI (vK wE k9 (by omega) T) ?_
         rintro r M3 bE bB hr
         replace hr:=Ip hr
         obtain ⟨sv,er,rfl⟩:=lQ hr
         simp +contextual only [go_sem,sevalprocAttr]
         exact aQ aF.rfl' rfl rfl ⟨by rw [hS];exact hr,by rw [hS],rfl⟩
        ·simp +contextual only [go_sem,aD,sevalprocAttr,aG,ht,aL,m0]
         refine aX ?_
         simp +contextual only [go_sem,sevalprocAttr,e9,zU,Tp,z0,z1]
         refine aI (vK wE k9 (by omega) T) ?_
         rintro r M3 bE bB hr
         replace hr:=Ip hr
         obtain ⟨sv,er,rfl⟩:=lQ hr
         simp +contextual only [go_sem,sevalprocAttr]
         exact aQ aF.rfl' rfl rfl ⟨by rw [hS];exact hr,by rw [hS],rfl⟩
       ·have aiQ:4<=k/\k<=7:=by omega
        rw [JS aiQ,Eu,lC] at hS
        obtain ⟨x2,x3,x4,x5,x6,x7⟩:=Zk (bQ.ext ep)
        have Hr:ij M2 x [.int .i64 x.k,.int .i64 x.v.k,.int .i64 x.v.n,st x.v.t,.int .i64 x.c,s1]:=iQ.2 ⟨s1,rfl,aH ep (cJ ep) hkx⟩
        have k8a:¬ k=8:=fun h=>k8 (.inl h)
        have k9a:¬ k=9:=fun h=>k8 (.inr h)
        have k10a:¬ k=10:=fun h=>k10 (.inl h)
        have k11a:¬ k=11:=fun h=>k10 (.inr h)
        have k12a:¬ k=12:=fun h=>k12 (.inl h)
        have k13a:¬ k=13:=fun h=>k12 (.inr h)
        simp +contextual only [go_sem,aD,sevalprocAttr,aG,ht,aL,m0,k1,k2,k3,k8a,k9a,k10a,k11a,k12a,k13a]
        refine aX ?_
        simp +contextual only [go_sem,sevalprocAttr,e9,zU,Tp,z0,z1]
        intro b1 fx vu
        refine ⟨dK bm.rfl' ⟨n2,trivial⟩ ⟨vu,trivial⟩,?_⟩
        refine cZ WT.bd fun M4 dD eN de=> ?_
        simp only [aJ,and_true] at de
        have hls:RS M4 (ms M4) 1 [acc[0],acc[1]] (.slice (some ⟨b1,0,none⟩) 2 2):=dB (fun _ _=>dE) eN (l:=[acc[0],acc[1]]) ⟨_,_,rfl,⟨_,rfl,aH dD (fun _ _ h=>h) wE⟩,_,_,rfl,⟨_,rfl,aH dD (fun _ _ h=>h) k9⟩,rfl⟩ rfl (by omega)
        have AI:=Yr _ (gm D3)
        have gK:=Yr _ (gm aa0)
        refine aI (sy hls (by simp) (by intro l hl;simp only [mn] at hl;rcases hl with rfl | rfl<;>omega) T) ?_
        rintro v M5 dJ bR hv
        simp only [aJ,and_true] at bR
        rw [List.flatten_cons,List.flatten_cons,List.flatten_nil,List.append_nil] at hv
        obtain ⟨_,va,vc,rfl,_⟩:=ax (by decide) (fun _ _=>ct) hv
        have xF:=dD.trans dJ
        replace m0:=ay xF m0
        simp +contextual only [go_sem,aD,sevalprocAttr]
        refine ⟨fu xF ⟨bR,trivial⟩,?_⟩
        by_cases h8:8<(acc[0]++acc[1]).length
        ·have th:(8:Int)<((acc[0]++acc[1]).length:Int):=by omega
         rw [if_pos h8] at hS
         simp +contextual only [go_sem,sevalprocAttr,th]
         exact aQ aF.rfl' rfl rfl ⟨by rw [hS];exact ⟨by decide,_,rfl⟩,by rw [hS],rfl⟩
        have th:¬ (8:Int)<((acc[0]++acc[1]).length:Int):=by omega
        rw [if_neg h8] at hS
        replace Hr:=cJ xF _ _ Hr
        replace x2:=ay xF x2
        replace x3:=ay xF x3
        replace x4:=ay xF x4
        replace x5:=ay xF x5
        replace x6:=ay xF x6
        replace x7:=ay xF x7
        replace z0:=ay xF z0
        by_cases h56:k=5\/k=6
        ·rw [if_pos h56] at hS
         rcases h56 with rfl | rfl
         ·simp +contextual only [go_sem,aD,sevalprocAttr,aG,th,m0]
          refine aX ?_
          simp +contextual only [go_sem,sevalprocAttr,aG,e9,zU,z0,x2,x3,x4,x5,x6,x7]
          refine aI (xC hv Hr T) ?_
          rintro r M6 eP bU ⟨rfl,hre⟩
          simp only [aJ,and_true] at bU
          simp +contextual only [go_sem,sevalprocAttr]
          exact ⟨fu eP ⟨bU,trivial⟩,aQ aF.rfl' rfl rfl ⟨by rw [hS];exact qF (aH (xF.trans eP) (fun _ _ h=>h) wE) hre,by rw [hS],rfl⟩⟩
         ·simp +contextual only [go_sem,aD,sevalprocAttr,aG,th,m0]
          refine aX ?_
          simp +contextual only [go_sem,sevalprocAttr,aG,e9,zU,z0,x2,x3,x4,x5,x6,x7]
          refine aI (xC hv Hr T) ?_
          rintro r M6 eP bU ⟨rfl,hre⟩
          simp only [aJ,and_true] at bU
          simp +contextual only [go_sem,sevalprocAttr]
          exact ⟨fu eP ⟨bU,trivial⟩,aQ aF.rfl' rfl rfl ⟨by rw [hS];exact qF (aH (xF.trans eP) (fun _ _ h=>h) wE) hre,by rw [hS],rfl⟩⟩
        ·rw [if_neg h56] at hS
         have k5a:¬ k=5:=fun h=>h56 (.inl h)
         have k6a:¬ k=6:=fun h=>h56 (.inr h)
         simp +contextual only [go_sem,aD,sevalprocAttr,aG,th,m0,k5a,k6a]
         simp +contextual only [go_sem,sevalprocAttr,aG,x2,x3,x4,x5,x6,x7]
         refine aI (xC hv Hr T) ?_
         rintro r M6 eP bU ⟨rfl,hre⟩
         simp only [aJ,and_true] at bU
         simp +contextual only [go_sem,sevalprocAttr]
         exact aQ aF.rfl' rfl rfl ⟨by rw [hS];exact qF (aH eP (fun _ _ h=>h) hv) hre,by rw [hS],rfl⟩
  ·rw [if_pos pm] at hS
   simp +contextual only [go_sem,aD,sevalprocAttr,o7,pm,m10]
   exact aQ aF.rfl' rfl rfl ⟨by rw [hS];exact ⟨by decide,_,rfl⟩,by rw [hS],rfl⟩
theorem EF:∀ {aW:List (List Int)},wL aW=0 ->∀ t∈aW,t.length<=8
 | [],_,t,ht=>by cases ht
 | u::l,h,t,ht=>by
  rw [wL] at h
  split at h
  ·cases h
  ·split at h
   ·rcases mY ht with rfl | ht
    ·omega
    ·exact EF h t ht
   ·cases h
theorem ur {M:aS}{aW:List (List Int)}{tv:Value}{p:Pl}{cs:List Value}(nl:RS M (ms M) 1 aW tv)(hp:gR M p cs)(T:Tm):
 bV Tryz.prog 95 [tv,.agg ⟨cs⟩] T M [] [] (fun r M' _ _=>EW (fq aW p) r M') aM:=by
 obtain ⟨eZ,a,c,rfl,di,_,hg⟩:=ax (by decide) (fun _ _=>dE) nl
 have cM:=jo hp
 have dt:=yW hp
 obtain ⟨s1,a1,n1,a2,n2,a3,n3,fS,iX,_⟩:=du hp
 unfold OG at fS
 unfold fq
 refine az F95 rfl rfl ?_
 intro bi _
 by_cases h8:8<aW.length
 ·have th:(8:Int)<(aW.length:Int):=by omega
  rw [if_pos h8]
  subst fS
  simp +contextual only [go_sem,aD,sevalprocAttr,th]
  intro b3 T3 ii fV gD
  exact ak fV ⟨by decide,_,rfl⟩
 have th:¬ (8:Int)<(aW.length:Int):=by omega
 rw [if_neg h8]
 rw [fS]
 simp +contextual only [go_sem,aD,sevalprocAttr,th]
 intro b3 T3 ii fV gD
 refine bY aW.length 17 [(0,.slice a aW.length c),(3,.pointer (some ⟨b3,0,none⟩)),(15,.slice a aW.length c),(16,.int .i64 (aW.length:Int))] (fun i e h=>∃ M',bm M M'/\M' b3=some cs/\h=⟨T3,M',[],[]⟩/\wL (aW.drop i)=wL aW) 0 (by omega) (by simp only [aE,go_sem,sevalprocAttr]) (by simp only [go_sem,sevalprocAttr]) (aT fun he h3 _=>aB ⟨_,he,by rw [fS];exact h3,rfl,rfl⟩) ?_
 rintro i e h hi aG ht ⟨M1,aV,h3,rfl,am⟩
 simp only [aE] at aG
 by_cases aL:i<aW.length
 ·obtain ⟨b',o',cs',rfl,bQ,v,rfl,mP⟩:=hg i aW[i] (gq aL)
  obtain ⟨_,va,vc,rfl,_,_,hvg⟩:=ax (by decide) (fun _ _=>ct) mP
  have x0:=xG (bQ.ext aV)
  rw [Nat.mul_one] at x0
  have bK:aW.drop i=aW[i]::aW.drop (i+1):=dq aL
  rw [bK,wL] at am
  by_cases tU:8<aW[i].length
  ·have abt:(8:Int)<(aW[i].length:Int):=by omega
   rw [if_pos tU] at am
   rw [<- am,if_pos (by decide)]
   simp +contextual only [go_sem,aD,sevalprocAttr,aG,ht,aL,x0,abt]
   exact ak fV ⟨by decide,_,rfl⟩
  have abt:¬ (8:Int)<(aW[i].length:Int):=by omega
  rw [if_neg tU] at am
  simp +contextual only [go_sem,aD,sevalprocAttr,aG,ht,aL,x0,abt]
  refine aO aW[i].length 26 [(0,.slice (some ⟨b',o',none⟩) aW.length c),(3,.pointer (some ⟨b3,0,none⟩)),(15,.slice (some ⟨b',o',none⟩) aW.length c),(16,.int .i64 (aW.length:Int)),(17,.int .i64 (i:Int)),(24,.slice va aW[i].length vc),(25,.int .i64 (aW[i].length:Int))] (fun j e h=>h=⟨T3,M1,[],[]⟩/\(aW[i].drop j).all (fun t=>decide (1<=t/\t<=4))=aW[i].all (fun t=>decide (1<=t/\t<=4))) 0 (by omega) (by simp only [aE,aG,ht,go_sem,sevalprocAttr]) (by simp only [go_sem,sevalprocAttr]) ⟨rfl,rfl⟩ ?_
  clear aG ht e
  rintro j e h hj aG ht ⟨rfl,wM⟩
  simp only [aE] at aG
  by_cases rp:j<aW[i].length
  ·obtain ⟨b2,o2,cs2,dN,oK,dV⟩:=hvg j aW[i][j] (gq rp)
   unfold RI at dV;subst dV dN
   have y0:=xG (oK.ext aV)
   rw [Nat.mul_one] at y0
   have If:aW[i].drop j=aW[i][j]::aW[i].drop (j+1):=dq rp
   rw [If,List.all_cons] at wM
   by_cases hb:1<=aW[i][j]/\aW[i][j]<=4
   ·rw [decide_eq_true hb,Bool.true_and] at wM
    have fx:¬ aW[i][j]<1:=by omega
    have dN:¬ 4<aW[i][j]:=by omega
    simp +contextual only [go_sem,aD,sevalprocAttr,aG,ht,rp,y0,fx,dN]
    refine ce rp ?_ ?_ ⟨rfl,wM⟩
    ·simp only [aE,aG,go_sem,sevalprocAttr]
    ·simp only [go_sem,sevalprocAttr,aA j (by omega)]
   ·rw [decide_eq_false hb,Bool.false_and] at wM
    rw [<- wM,if_neg (by decide)] at am
    rw [<- am,if_pos (by decide)]
    by_cases fx:aW[i][j]<1
    ·simp +contextual only [go_sem,aD,sevalprocAttr,aG,ht,rp,y0,fx]
     exact ak fV ⟨by decide,_,rfl⟩
    ·have dN:4<aW[i][j]:=by omega
     simp +contextual only [go_sem,aD,sevalprocAttr,aG,ht,rp,y0,fx,dN]
     exact ak fV ⟨by decide,_,rfl⟩
  ·have:j=aW[i].length:=by omega
   subst this
   rw [List.drop_length] at wM
   rw [<- wM,List.all_nil,if_pos rfl] at am
   simp +contextual only [go_sem,aD,sevalprocAttr,aG,ht,rp]
   refine ce aL ?_ ?_ ⟨M1,aV,h3,rfl,am⟩
   ·simp only [aE,aG,go_sem,sevalprocAttr]
   ·simp only [go_sem,sevalprocAttr,aA i (by omega)]
 ·have:i=aW.length:=by omega
  subst this
  rw [List.drop_length,wL] at am
  rw [<- am,if_neg (by simp)]
  have Dc:=EF am.symm
  simp +contextual only [go_sem,aD,sevalprocAttr,aG,ht,aL]
  intro b9 T9 qy ut pR
  refine dC [] (clX _ p (Nat.le_refl _) M1 T9 b3 0 b9 1 0 _ aW _ (Dz h3) (bA aV _ _ hp) (aH aV (cW aV) nl) Dc (by omega) (by omega)) ?_ (fun _ _ _ _ _ _ h=>h.elim)
  rintro r M3 L' bE yQ bB ⟨hr,rfl, -⟩
  have hTT:=fV.trans ut
  cases nq:(eS aW 1 0 p).1 with
  | ok t=>
   rw [nq] at hr
   obtain ⟨kv,rfl,Pm⟩:=hr
   have Dc:=se Dc 1 0 p nq
   simp +contextual only [go_sem,aD,sevalprocAttr]
   refine aI (NO Pm (by omega) _) ?_
   rintro r M4 dD de hr
   simp +contextual only [go_sem,sevalprocAttr]
   exact ak hTT ⟨_,rfl,hr⟩
  | error er=>
   rw [nq] at hr
   obtain ⟨cu,t,rfl⟩:=hr
   simp +contextual only [go_sem,aD,sevalprocAttr,cu]
   exact ak hTT ⟨cu,_,rfl⟩
theorem GL:∀ {aW:List (List Int)} {data:List (List Z)},data.length=aW.length ->wi aW data=0 ->∀ z∈data,dI z=0
 | [],[],_,_,z,hz=>by cases hz
 | [],_::_,h,_,z,hz=>by simp at h
 | _::_,[],h,_,z,hz=>by cases hz
 | t::ts,y::zs,h,h0,z,hz=>by
  rw [wi] at h0
  obtain ⟨h1,h2⟩:=zI h0
  rcases mY hz with rfl | hz
  ·exact (uW h1).2
  ·exact GL (by simpa using h) h2 z hz
theorem UM {aW:List (List Int)}{data:List (List Z)}(h:iU aW data=0):data.length=aW.length/\∀ z∈data,dI z=0:=by
 unfold iU at h
 split at h
 ·rename_i hl;exact ⟨hl,GL hl h⟩
 ·cases h
theorem Bb (aW:List (List Int)):∀ {l:List Pl} {d m:Nat} {cs:List (List Int)} {q:Nat},gG aW d m l=(.ok cs,q) ->cs.length=l.length/\∀ p∈l,∃ m' c q',eS aW d m' p=(.ok c,q')
 | [],d,m,cs,q,h=>by rw [gG] at h;cases h;exact ⟨rfl,fun p hp=>by cases hp⟩
 | x::l,d,m,cs,q,h=>by
  rw [gG] at h
  split at h
  ·cases h
  ·rename_i c1 m1 hp
   split at h
   ·cases h
   ·rename_i cs2 m2 hl
    simp only [Prod.mk.injEq] at h
    obtain ⟨h,_⟩:=h
    injection h with h
    obtain ⟨h1,h2⟩:=Bb aW hl
    refine ⟨by rw [<- h];simp [h1],fun p DY=> ?_⟩
    rcases mY DY with rfl | DY
    ·exact ⟨_,_,_,hp⟩
    ·exact h2 p DY
theorem Pv {aW:List (List Int)}{p:Pl}{d m:Nat}{c:List Int}{q:Nat}(h8:aW.length<=8)(htw:wL aW=0)(h:eS aW (d+1) m p=(.ok c,q)):fq aW p=.ok (fY aW p):=by
 obtain ⟨q',_,h'⟩:=wm aW p (d+1) 1 m 0 c q (by omega) (by omega) h
 have:fq aW p=.ok c:=by unfold fq;rw [if_neg (by omega),if_neg (by simp [htw]),h']
 unfold fY;rw [this]
def HR (zs:List (List Z))(r:Except Int (List (List Z))):Except Int (List (List Z)):=match r with
 | .ok l=> .ok (zs++l)
 | .error e=> .error e
theorem EU {aW data}{p:Pl}{l:List Pl}{zs:List (List Z)}{z:List Z}(h:wu aW data p=.ok z):HR zs (jR aW data (p::l))=HR (zs++[z]) (jR aW data l):=by
 rw [jR,h]
 dsimp only
 cases jR aW data l with
 | ok l'=>simp [HR]
 | error e=>rfl
theorem HI {aW data}{p:Pl}{l:List Pl}{zs:List (List Z)}{e:Int}(h:wu aW data p=.error e):HR zs (jR aW data (p::l))=.error e:=by
 rw [jR,h];rfl
def PlB (aW:List (List Int))(data:List (List Z))(p:Pl):Prop:=∀ (M:aS) (T:Tm) (bp op:Nat) (pc:List Value) (tv dv:Value),At M bp op pc ->gR M p pc ->RS M (ms M) 1 aW tv ->RS M (RD M) 1 data dv ->(∃ d m c q,eS aW d m p=(.ok c,q)) ->wz p=true ->
 bV Tryz.prog 148 [tv,.pointer (some ⟨bp,op,none⟩),dv] T M [] [] (fun v M' _ _=>Fl (wu aW data p) v M') aM
theorem Np {aW:List (List Int)}{data:List (List Z)}(h8:aW.length<=8)(htw:wL aW=0)(Vi:iU aW data=0):∀ (sz:Nat) (p:Pl),SizeOf.sizeOf p<=sz ->PlB aW data p:=by
 obtain ⟨xu,hdz⟩:=UM Vi
 intro sz
 induction sz with
 | zero=>intro p hp;cases p;simp at hp
 | succ sz ih=>
  rintro ⟨k,n,x,xs,ags,kids⟩ dS M T bp op pc tv dv bQ hp nl PO ⟨d,m,c,q,eC⟩ lU
  rw [wz,Bool.and_eq_true,Bool.or_eq_true,decide_eq_true_eq] at lU
  rw [eS] at eC
  split at eC
  ·cases eC
  split at eC
  ·cases eC
  split at eC
  ·cases eC
  rename_i o7 D2 lh
  split at eC
  ·cases eC
  rename_i cs m1 cM
  simp only [Prod.mk.injEq] at eC
  obtain ⟨j1,_⟩:=eC
  have Ar:=hp
  obtain ⟨s1,a1,n1,a2,n2,a3,n3,rfl,ox,_,fM,Oa,pe⟩:=du hp
  have An:=bQ
  obtain ⟨y0,y1,y2,y3,y4,y5,y6,y7,y8,y9,y10,_⟩:=bQ
  simp only [Pl.k,Pl.n,Pl.kids] at y0 y1 y10 pe
  obtain ⟨_,da,dc,rfl,_⟩:=ax (by decide) (fun _ _=>iq) PO
  obtain ⟨S,hS⟩:∃ S,S=wu aW data (.mk k n x xs ags kids):=⟨_,rfl⟩
  rw [<- hS]
  rw [wu] at hS
  refine az ae5 rfl rfl ?_
  intro bi _
  by_cases hk:k=1
  ·rw [if_pos hk] at hS
   unfold kS at j1
   simp only [if_pos hk] at j1
   split at j1
   rotate_left
   ·cases j1
   rename_i hn
   obtain ⟨db,do',v0,rfl,m0,xx⟩:=oI PO (i:=n.toNat) (by omega)
   have Vm:n<(data.length:Int):=by omega
   have mQ:data.getD n.toNat []∈data:=by
    rw [List.getD_eq_getElem?_getD,gq (by omega)];exact gm (by omega)
   obtain ⟨hz4,hz8⟩:=kz (hdz _ mQ)
   simp +contextual only [go_sem,aD,sevalprocAttr,y0,y1,hk,hn.1,Vm,m0]
   refine aI (zf xx (by omega) (fun r hr=>by have:=hz8 r hr;omega) _) ?_
   rintro v M1 aV bG hv
   rw [<- hS] at hv
   obtain ⟨s,e,rfl⟩:=ql hv
   simp +contextual only [go_sem,sevalprocAttr]
   exact ak aF.rfl' hv
  ·rw [if_neg hk] at hS
   simp +contextual only [go_sem,aD,sevalprocAttr,y0,y10,hk]
   obtain ⟨aob,akz⟩:=Bb aW cM
   obtain ⟨_,ka,kc,hke,ahG,_,hkg⟩:=ax (by decide) (fun _ _=>jo) pe
   cases hke
   have uD:jR aW data kids=HR [] (jR aW data (kids.drop 0)):=by rw [List.drop_zero];cases jR aW data kids<;>rfl
   have pm:kids.length<=2:=by
    have hh:=lh
    simp only [ne_eq,Decidable.not_not] at hh
    unfold hX at hh
    repeat' split at hh
    all_goals omega
   refine bY kids.length 35 [(0,tv),(1,.pointer (some ⟨bp,op,none⟩)),(2,.slice da data.length dc),(34,.int .i64 (kids.length:Int))] (fun i e h=>∃ N' M' L' R' cv zv zs,aF T N'/\bm M M'/\h=⟨N',M',L',R'⟩/\e 8=cv/\e 9=zv/\kT 54 1 (ms M') [] R' cv ((kids.take i).map (fY aW))/\dW 33 1 (RD M') M' N' zs zv L'/\zs.length=i/\jR aW data kids=HR zs (jR aW data (kids.drop i))) 0 (by omega) (by simp only [aE,go_sem,sevalprocAttr]) (by simp only [go_sem,sevalprocAttr]) (aB ⟨T,M,[],[],_,_,[],aF.rfl',bm.rfl',rfl,by simp only [go_sem,sevalprocAttr],by simp only [go_sem,sevalprocAttr],cV,.inl ⟨rfl,rfl,rfl⟩,rfl,uD⟩) ?_
   rintro i e h hi aG lm ⟨T1,M1,L1,R1,cv,zv,zs,dh,aV,rfl,e8,e9,bj,KW,qh,Zx⟩
   simp only [aE] at aG
   rw [Zx] at hS
   by_cases aL:i<kids.length
   ·obtain ⟨b',o',kcs,rfl,vq,RY⟩:=hkg i kids[i] (gq aL)
    have mQ:=gm aL
    obtain ⟨mk,ck,qk,hck⟩:=akz _ mQ
    have hcK:=Pv h8 htw hck
    have IG:SizeOf.sizeOf kids[i]<=sz:=by
     have:=List.sizeOf_lt_of_mem mQ
     simp at dS;omega
    have y10':=ay aV y10
    rw [dq aL] at hS Zx
    simp +contextual only [go_sem,aD,sevalprocAttr,aG,lm,aL,y10']
    refine aI (ih kids[i] IG M1 _ b' _ kcs tv _ (vq.ext aV) (bA aV _ _ RY) (aH aV (cW aV) nl) (aH aV (dz aV) PO) ⟨_,_,_,_,hck⟩ (yy lU.2 _ mQ)) ?_
    rintro v M2 bh aZ hv
    have ep:=aV.trans bh
    have y10'':=ay ep y10
    cases hz:wu aW data kids[i] with
    | error er=>
     rw [hz] at hv
     obtain ⟨cu,rfl⟩:=hv
     rw [HI hz] at hS
     simp +contextual only [go_sem,aD,sevalprocAttr,cu]
     refine bW (bM (ak dh ?_))
     rw [hS];exact ⟨cu,rfl⟩
    | ok z=>
     rw [hz] at hv
     obtain ⟨zs',rfl,adS⟩:=hv
     rw [EU hz] at hS Zx
     obtain ⟨t1,p1,m1',p2,m2',p3,m3',rfl,ox2,_⟩:=du RY
     obtain ⟨x0,x1,x2,x3,x4,x5,x6,x7,x8,x9,x10,_⟩:=vq.ext ep
     simp +contextual only [go_sem,aD,sevalprocAttr,aG,aL,y10'',x0,x1,x2,x3,x4,x5,x6,x7,x8,x9,x10]
     refine aI (ur (aH ep (cW ep) nl) (bA ep _ _ RY) _) ?_
     rintro v3 M3 bE bB Ut
     rw [hcK] at Ut
     obtain ⟨sv,rfl,sV⟩:=Ut
     have te:=ep.trans bE
     have YN:=bh.trans bE
     obtain ⟨_,sva,svc,rfl,_⟩:=ax (by decide) (fun _ _=>ct) sV
     obtain ⟨_,za,zc,rfl,_⟩:=ax (by decide) (fun _ _=>br) adS
     simp +contextual only [go_sem,sevalprocAttr,e8]
     intro b67 akH alI
     refine cA (Tryz.underlying131) yE yO (x:=fY aW kids[i]) (ey (cW YN) bj) ⟨_,rfl,sV⟩ (fun _ _=>dE) (by simp [Value.oneCell']) akH (by rw [List.length_map,List.length_take];omega) (by decide) ?_
     intro cv' R' bz
     simp +contextual only [go_sem,sevalprocAttr,e9]
     intro b71 Io lr
     have aa8:dW 33 1 (RD M3) M3 T1 zs zv L1:=fj (dz YN) bB KW
     have aiM:=cR bE adS
     refine nY (L1:=[(b67,[.slice sva (fY aW kids[i]).length svc])]) (Tryz.underlying88) wl vD (x:=z) aa8 ⟨_,rfl,aiM⟩ rfl (by simp [Value.oneCell']) Io (by omega) (by decide) ?_
     intro N4 lv' g cs' Bg uT abe
     simp +contextual only [go_sem,sevalprocAttr,lm]
     have dY:(kids.take i).map (fY aW)++[fY aW kids[i]]=(kids.take (i+1)).map (fY aW):=by
      rw [<- List.take_append_getElem aL,List.map_append];rfl
     rw [dY] at bz
     refine aR (cY (List.perm_append_comm (l₁:=[_])) (al (al (aB ⟨kids.length - (i+1),by omega,rfl,i+1,by omega,rfl,?_,?_,N4,M3,_,R',cv',lv',zs++[z],dh.trans Bg,te,rfl,?_,?_,bz,abe,?_,?_⟩))))
     ·simp only [aE,aG,go_sem,sevalprocAttr]
     ·simp only [go_sem,sevalprocAttr,aA i (by omega)]
     ·simp only [go_sem,sevalprocAttr]
     ·simp only [go_sem,sevalprocAttr]
     ·rw [List.length_append];simp [qh]
     ·exact Zx
   ·have:i=kids.length:=by omega
    subst this
    rw [List.drop_length,jR] at hS
    rw [List.take_length] at bj
    simp only [HR,List.append_nil] at hS
    obtain ⟨_,_,rfl⟩:=eI bj
    obtain ⟨_,_,rfl⟩:=cU KW
    simp +contextual only [go_sem,aD,sevalprocAttr,aG,lm,aL,e8,e9]
    have bG:aJ M1 L1:=by
     rcases KW with ⟨_,_,rfl⟩ | ⟨g,cap,cs0,junk,_,rfl,_,_,_,_,_,hg⟩
     ·trivial
     ·exact ⟨hg,trivial⟩
    refine mm PK.bd bj (by rw [List.length_map];omega) (by decide) bG fun M2 bh aZ cG=> ?_
    have aaE:=fj (dz bh) aZ KW
    refine cL (k:=fun h'=>∃ M3,bm M2 M3/\RS M3 (RD M3) 1 zs (.slice _ zs.length _)/\h'=⟨T1,M3,[],[]⟩) (by
     rw [<- List.append_nil L1]
     exact jJ (L2:=[]) aaE (by omega) trivial fun M3 bE _ ZE=>aB ⟨M3,bE,aH bm.rfl' (dz bE) ZE,rfl⟩) ?_ PK.bd
    rintro h' ⟨M3,bE,ZE,rfl⟩
    have YN:=bh.trans bE
    have te:=aV.trans YN
    have hkk:1<=kids.length/\(4<=k/\k<=9 ->2<=kids.length):=by
     have hh:=lh
     simp only [ne_eq,Decidable.not_not] at hh
     unfold hX at hh D2
     repeat' split at hh
     all_goals (repeat' split at D2)<;>(constructor<;>omega)
    have hml:(kids.map (fY aW)).length=kids.length:=List.length_map ..
    refine aI (Uw (p:=.mk k n x xs ags kids) (An.ext te) (bA te _ _ Ar) (aH bE (cW bE) (aH bm.rfl' (cW bh) cG)) ZE (by omega) (lU.1.resolve_left hk) _) ?_
    rintro v M4 dD de hv
    have hSS:S=rD (.mk k n x xs ags kids) (kids.map (fY aW)) zs:=hS
    rw [<- hSS] at hv
    obtain ⟨s,e,rfl⟩:=ql hv
    simp +contextual only [go_sem,sevalprocAttr]
    exact ak dh hv
variable {M:aS}
theorem SN {res:Except Int (List Int)}{v:Value}{M:aS}(h:EW res v M):∃ s,v=.tuple ⟨[s,.int .i64 (CQ res)]⟩:=by
 cases res with
 | ok l=>obtain ⟨s,h,_⟩:=h;exact ⟨s,h⟩
 | error e=>obtain ⟨_,s,h⟩:=h;exact ⟨s,h⟩
theorem Vy {aW:List (List Int)}{data:List (List Z)}{p:Pl}{pc:List Value}{tv dv:Value}(nl:RS M (ms M) 1 aW tv)(hp:gR M p pc)(PO:RS M (RD M) 1 data dv)(cu:∀ e,fq aW p=.error e ->e≠0)(lU:wz p=true)(T:Tm):
 bV Tryz.prog 96 [tv,.agg ⟨pc⟩,dv] T M [] [] (fun v M' _ _=>Fl (Bc aW p data) v M') aM:=by
 have Ar:=hp
 obtain ⟨s1,a1,n1,a2,n2,a3,n3,rfl,ox,_⟩:=du hp
 obtain ⟨S,hS⟩:∃ S,S=Bc aW p data:=⟨_,rfl⟩
 rw [<- hS]
 unfold Bc at hS
 unfold OG at Ar
 refine az F96 rfl rfl ?_
 intro bi _
 unfold OG
 simp +contextual only [go_sem,sevalprocAttr]
 intro b4 T4 eN fG iI
 refine aI (ur nl Ar _) ?_
 rintro v0 M0 Fj afv wE
 obtain ⟨s0,rfl⟩:=SN wE
 cases hc:fq aW p with
 | error er=>
  rw [hc] at hS
  have he:CQ (fq aW p)=er:=by rw [hc];rfl
  have her:=cu _ hc
  simp +contextual only [go_sem,aD,sevalprocAttr,CQ,her]
  refine al (ak fG ?_)
  rw [hS];exact ⟨her,rfl⟩
 | ok c=>
  rw [hc] at hS
  simp +contextual only [go_sem,aD,sevalprocAttr,CQ]
  refine aP (De (aH Fj (cW Fj) nl) (aH Fj (dz Fj) PO) _) ?_
  by_cases hd:iU aW data=0
  rotate_left
  ·simp only [if_neg hd] at hS
   simp +contextual only [go_sem,aD,sevalprocAttr,hd]
   refine al (ak fG ?_)
   rw [hS];exact ⟨hd,rfl⟩
  simp only [if_pos hd] at hS
  have h8:aW.length<=8:=by
   have:=hc;unfold fq at this
   split at this
   ·cases this
   ·omega
  have htw:wL aW=0:=by
   have:=hc;unfold fq at this
   split at this
   ·cases this
   split at this
   ·cases this
   ·rename_i h;simpa using h
  have hcp:∃ d m c q,eS aW d m p=(.ok c,q):=by
   have:=hc;unfold fq at this
   rw [if_neg (by omega),if_neg (by simp [htw])] at this
   exact ⟨1,0,c,(eS aW 1 0 p).2,Prod.ext this rfl⟩
  simp +contextual only [go_sem,aD,sevalprocAttr,hd]
  refine xM [] ae5.bd fun M1 aV ai1 _=> ?_
  have Kf:=Fj.trans aV
  refine aI (Np h8 htw hd _ p (Nat.le_refl _) M1 _ b4 0 _ _ _ (lf ai1 _ 0 (fun i v h=>by rw [Nat.zero_add];exact h)) (bA Kf _ _ Ar) (aH Kf (cW Kf) nl) (aH Kf (dz Kf) PO) hcp lU) ?_
  rintro v M2 bh _ hv
  rw [<- hS] at hv
  obtain ⟨s,e,rfl⟩:=ql hv
  simp +contextual only [go_sem,sevalprocAttr]
  exact ak fG hv
variable {M:aS}
theorem RH {l:List Z}{av bv:Value}(ha:RS M (RZ M) 2 l av)(hb:RS M (RZ M) 2 l bv)(T:Tm):bV Tryz.prog 10 [av,bv] T M [] [] (fun r _ _ _=>r=.bool true) aM:=by
 obtain ⟨eZ,aa,ac,rfl,di,_,hg⟩:=ax (by decide) (fun _ _=>br) ha
 obtain ⟨_,ba,bc,rfl,ph,_,xb⟩:=ax (by decide) (fun _ _=>br) hb
 refine az F10 rfl rfl ?_
 intro bi _
 simp +contextual only [go_sem,aD,sevalprocAttr]
 refine aO l.length 14 [(0,.slice aa l.length ac),(1,.slice ba l.length bc),(13,.int .i64 (l.length:Int))] (fun i e h=>h=⟨T,M,[],[]⟩) 0 (by omega) (by simp only [aE,go_sem,sevalprocAttr]) (by simp only [go_sem,sevalprocAttr]) rfl ?_
 rintro i e h hi aG ht rfl
 simp only [aE] at aG
 by_cases aL:i<l.length
 ·obtain ⟨b',o',cs',rfl,bQ,v1,hr1,rfl⟩:=hg i l[i] (gq aL)
  obtain ⟨b2,o2,cs2,rfl,oK,v2,ZW,rfl⟩:=xb i l[i] (gq aL)
  obtain ⟨y0,y1,_⟩:=bQ
  obtain ⟨x0,x1,_⟩:=oK
  obtain ⟨_,pa,pc,rfl,_,_,hp⟩:=ax (by decide) (fun _ _=>eM) hr1
  obtain ⟨_,qa,qc,rfl,_,_,hq⟩:=ax (by decide) (fun _ _=>eM) ZW
  simp +contextual only [go_sem,aD,sevalprocAttr,aG,ht,aL]
  refine aX ?_
  simp +contextual only [go_sem,aD,sevalprocAttr,aG,aL,y0,y1,x0,x1]
  refine aO l[i].row.length 49 [(0,.slice (some ⟨b',o',none⟩) l.length ac),(1,.slice (some ⟨b2,o2,none⟩) l.length bc),(13,.int .i64 (l.length:Int)),(14,.int .i64 (i:Int)),(5,.int .i64 (i:Int)),(48,.int .i64 (l[i].row.length:Int))] (fun j e h=>h=⟨T,M,[],[]⟩) 0 (by omega) (by simp only [aE,go_sem,sevalprocAttr,aG,ht]) (by simp only [go_sem,sevalprocAttr]) rfl ?_
  clear aG ht
  rintro j e h hj aG ht rfl
  simp only [aE] at aG
  by_cases rp:j<l[i].row.length
  ·obtain ⟨pb,po,pcs,rfl,PZ,k9⟩:=hp j l[i].row[j] (gq rp)
   obtain ⟨qb,qo,qcs,rfl,akM,sj⟩:=hq j l[i].row[j] (gq rp)
   unfold RV V.cs at k9 sj
   subst k9 sj
   obtain ⟨z0,z1,z2,_⟩:=PZ
   obtain ⟨w0,w1,w2,_⟩:=akM
   simp +contextual only [go_sem,aD,sevalprocAttr,aG,ht,rp]
   refine aX ?_
   simp +contextual only [go_sem,aD,sevalprocAttr,aG,ht,aL,rp,y0,x0,z0,z1,z2,w0,w1,w2,aau]
   refine aR (aB ⟨l[i].row.length - (j+1),by omega,rfl,j+1,by omega,rfl,?_,?_,rfl⟩)
   ·simp only [aE,aG,go_sem,sevalprocAttr]
   ·simp only [go_sem,sevalprocAttr,aA j (by omega)]
  ·have:j=l[i].row.length:=by omega
   subst this
   simp +contextual only [go_sem,aD,sevalprocAttr,aG,ht,rp]
   refine aR (aB ⟨l.length - (i+1),by omega,rfl,i+1,by omega,rfl,?_,?_,rfl⟩)
   ·simp only [aE,aG,go_sem,sevalprocAttr]
   ·simp only [go_sem,sevalprocAttr,aA i (by omega)]
 ·have:i=l.length:=by omega
  subst this
  simp +contextual only [go_sem,aD,sevalprocAttr,aG,ht,aL]
  exact ak aF.rfl' rfl
open Go Vc Go.RowKit
theorem Gd {F:Fi}{c:Code}{e:dp}{ds:List Deferred}{h:Sh}(hr:cy Tryz.prog F [.code c] e ds h ⟨⟩):Vh Tryz.prog F.dr c F.k e ds h:=hr
def PL (e:Int)(r:Bool):PanicEntry:={v:=.iface 173 (.agg #[.int .i64 e]),recovered:=r}
theorem AL (p q r:Addr)(w:World):
 CallsD Tryz.prog 91 #[.pointer (some p),.pointer (some q),.pointer (some r)] .returning w fun e u' w'=>e=.returned (.tuple #[])/\u'=.returning/\w'=w:=by
 have mixed:=mx
 refine callsD_of_wpS Tryz.func91 rfl fun c₀ cs hu=> ?_
 apply wpS_seq
 apply wpS_region
 simp [wpOpsS,go_sem,recoverD,hu,Exit.thenS]
 refine wpS_of_wp ?_
 go_wp2
 cases c₀
 simp_all [bodyPostS,results]
set_option maxHeartbeats 4000000 in
theorem DR {w:World}{U:List Nat}{T:Tm}{M:aS}{bs:List (Option Nat)}{b4 b5 b6:Nat}{er:Int}{v0 v1 v10 v2 v3 v4 v5 v6 v7 v8 v9 vc ve:Value}(hi:Hp ⟨w,M,U⟩ ⟨T,M,[(b4,[v0,v1,v2,v3,v4,v5,v6,v7,v8,v9,v10]),(b5,[vc]),(b6,[ve])],[]⟩ w bs):
 CallsD Tryz.prog 91 #[.pointer (some ⟨b4,0,none⟩),.pointer (some ⟨b5,0,none⟩),.pointer (some ⟨b6,0,none⟩)] (.panicking [PL er false]) w fun e u' w'=>e=.returned (.tuple #[])/\u'=.panicking [PL er true]/\
  Dw w U T M [b4,b5,b6] 0 M [(b4,[.int .i64 0,.int .i64 0,.int .i64 0,.int .i64 0,.int .i64 0,st [],.int .i64 0,.slice none 0 0,.slice none 0 0,.slice none 0 0,.slice none 0 0]),(b5,[.slice none 0 0]),(b6,[.int .i64 er])] [] w':=by
 have mixed:=mx
 have hTA:∀ (v:Array Value) (w:World),(Instr.typeAssert (.iface 173 (.agg v)) 20 173 true).run Tryz.prog w=.ok (.tuple #[.agg v,.bool true]) w:=fun _ _=>by kernel_rfl
 refine callsD_of_wpS Tryz.func91 rfl fun c₀ cs hu=> ?_
 unfold PL at hu
 apply wpS_seq
 apply wpS_region
 simp [wpOpsS,go_sem,recoverD,hu,Exit.thenS]
 refine wpS_of_wp ?_
 go_wp2
 have h2:=hi.alloc (t:=173) [.int .i64 er]
 have im:=h2.apart
 have jj:=h2.nodup
 have hns:M w.heap.size=none:=(im _ (by simp)).1
 have hn0:M b4=none:=(im _ (by simp)).1
 have Bl:M b5=none:=(im _ (by simp)).1
 have pi:M b6=none:=(im _ (by simp)).1
 have hp:(¬ w.heap.size=b4/\¬ w.heap.size=b5/\¬ w.heap.size=b6/\¬ b4=b5/\¬ b4=b6/\¬ b5=b6)/\(¬ b4=w.heap.size/\¬ b5=w.heap.size/\¬ b6=w.heap.size/\¬ b5=b4/\¬ b6=b4/\¬ b6=b5):=by
  simp at jj
  grind
 refine wp_mono (jK (c₀:=⟨w,M,U⟩) (n:=15) (dr:=[(7,.take 0<| .take 1<| .take 2<| .eff 3 false (.eff 4 false (.eff 5 true (.done)<| .no)<| .no)<| .no)]) mx _ (Fi.k ⟨[(7,.take 0<| .take 1<| .take 2<| .eff 3 false (.eff 4 false (.eff 5 true (.done)<| .no)<| .no)<| .no)],fun _ ds h=>ds=[]/\cq h (vA T [b4,b5,b6] 0 (fun _ M' L' R'=>M'=M/\L'=[(b4,[.int .i64 0,.int .i64 0,.int .i64 0,.int .i64 0,.int .i64 0,st [],.int .i64 0,.slice none 0 0,.slice none 0 0,.slice none 0 0,.slice none 0 0]),(b5,[.slice none 0 0]),(b6,[.int .i64 er])]/\R'=[]) undef),fun _ _ _ _=>False⟩)
  (fun t=>Array.getD _ t undef) [] _ _ _ (by kernel_rfl) ⟨?_,rfl,fun _=>rfl⟩ ⟨_,h2⟩ ?_) ?_
 ·simp
 ·refine Gd (F:=⟨[(7,.take 0<| .take 1<| .take 2<| .eff 3 false (.eff 4 false (.eff 5 true (.done)<| .no)<| .no)<| .no)],_,_⟩) ?_
  generalize hE:(fun t=>Array.getD _ t undef)=env
  have e0:env 0=.pointer (some ⟨b4,0,none⟩):=by rw [<- hE];simp
  have e1:env 1=.pointer (some ⟨b5,0,none⟩):=by rw [<- hE];simp
  have e2:env 2=.pointer (some ⟨b6,0,none⟩):=by rw [<- hE];simp
  have e4:env 4=.pointer (some ⟨w.heap.size,0,none⟩):=by rw [<- hE];simp
  clear hE
  have hT:aF T (T.add w.heap.size 173):=hi.extT
  generalize w.heap.size=bx at*
  simp +contextual only [go_sem,sevalprocAttr]
  refine ⟨fun _ _ _ _ _ _ _ _ _ h=>h,?_⟩
  refine eG ⟨T,fun _=>none,[(bx,_)],[]⟩ (gx hns) ?_
  simp +contextual only [go_sem,sevalprocAttr,e0,e1,e2,e4,hp]
  repeat refine ⟨gx hns,?_⟩
  exact al (aQ hT rfl rfl ⟨rfl,rfl,rfl⟩)
 ·rintro ex act w' hq
  cases ex with
  | normal=>
   obtain ⟨e,ds,h,ha,hw,rfl,cM⟩:=hq
   obtain ⟨h',gh,hT,hk,hR,hM,hL,No⟩:=cM _ _ hw
   have iC:=ky hT gh hk hR
   rw [hM,hL,No] at iC
   have uw:=ha.2.1
   simp only [Exit.inBlock]
   cases c₀
   exact ⟨uw,_,rfl,.tuple #[],results_none rfl _ _ _,rfl,rfl,iC⟩
  | ret=>
   obtain ⟨e,ds,h,ha,hw,rfl,cM⟩:=hq
   obtain ⟨h',gh,hT,hk,hR,hM,hL,No⟩:=cM _ _ hw
   have iC:=ky hT gh hk hR
   rw [hM,hL,No] at iC
   have uw:=ha.2.1
   simp only [Exit.inBlock]
   cases c₀
   exact ⟨uw,_,rfl,.tuple #[],results_none rfl _ _ _,rfl,rfl,iC⟩
  | panic ch=>obtain ⟨_,_,_,_,_,h⟩:=hq;exact h.elim
  | exit id=>obtain ⟨_,_,_,_,_,h⟩:=hq;exact h.elim
  | goto l=>exact hq.elim
  | outgrown=>exact hq.elim
end Go.Proofs.YtmeeifechggoeaaGreatDoor

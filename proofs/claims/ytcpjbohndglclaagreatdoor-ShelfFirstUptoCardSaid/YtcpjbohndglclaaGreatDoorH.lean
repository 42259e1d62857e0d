import Derived.Test.YtcpjbohndglclaaGreatDoorG
set_option linter.all false
namespace Go.Proofs.YtcpjbohndglclaaGreatDoor
open Go Vc
set_option maxRecDepth 10000
set_option maxHeartbeats 1000000
def dT {α:Type}[Inhabited α](cf:α ->α ->Int)(l:List α)(a m b:Nat):Nat:=
 E3 (fun c=> !pw cf l ((a+b) / 2+m - 1 - c) c) (if (a+b) / 2<m then (a+b) / 2+m - b else a) (if (a+b) / 2<m then (a+b) / 2 else m)
def oD {α:Type}[Inhabited α](l:List α)(m st en:Nat):List α:=if st<m/\m<en then CC l m (m - st) (en - m) else l
def nC {α:Type}[Inhabited α](cf:α ->α ->Int)(l:List α)(a m b:Nat):List α:=
 if m - a=1 then w9 l a (E3 (fun h=>pw cf l h a) m b)
 else if b - m=1 then vj (E3 (fun h=> !pw cf l m h) a m) m l
 else if (a+b) / 2<(a+b) / 2+m - dT cf l a m b/\(a+b) / 2+m - dT cf l a m b<b then
  nC cf (if a<dT cf l a m b/\dT cf l a m b<(a+b) / 2 then nC cf (oD l m (dT cf l a m b) ((a+b) / 2+m - dT cf l a m b)) a (dT cf l a m b) ((a+b) / 2) else oD l m (dT cf l a m b) ((a+b) / 2+m - dT cf l a m b))
   ((a+b) / 2) ((a+b) / 2+m - dT cf l a m b) b
 else (if a<dT cf l a m b/\dT cf l a m b<(a+b) / 2 then nC cf (oD l m (dT cf l a m b) ((a+b) / 2+m - dT cf l a m b)) a (dT cf l a m b) ((a+b) / 2) else oD l m (dT cf l a m b) ((a+b) / 2+m - dT cf l a m b))
termination_by b - a
decreasing_by all_goals omega
def yy (p:Nat ->Bool)(i j:Nat)(h:i<=j):i<=E3 p i j/\E3 p i j<=j:=by
 fun_induction E3 p i j with
 | case1 i j h1 h2 ih=>have:=ih (by omega);omega
 | case2 i j h1 h2 ih=>have:=ih (by omega);omega
 | case3 i j h1=>omega
def Xv (i j:Nat)(h:i+j<=9223372036854775807):IntKind.u64.wrap ((i+j:Nat):Int)=((i+j:Nat):Int):=by
 rw [IntKind.wrap_u64];omega
def Lk (x:Nat):(x:Int).fdiv (2 ^ (min 1 64))=((x / 2:Nat):Int):=by
 have:(2:Int) ^ (min 1 64)=2:=by decide
 rw [this]
 exact Int.fdiv_eq_ediv_of_nonneg _ (by omega)
def QL {α:Type}[Inhabited α](l:List α)(k e:Nat)(he:e<=l.length):(w9 l k e).length=l.length/\∀ ok:α ->Prop,(∀ x∈l,ok x) ->∀ x∈w9 l k e,ok x:=by
 fun_induction w9 l k e with
 | case1 l k h ih=>
  have ih:=ih (by rw [kQ];omega)
  exact ⟨by rw [ih.1,kQ],fun ok h2=>ih.2 ok (qC (by omega) (by omega) h2)⟩
 | case2 l k h=>exact ⟨rfl,fun _ h=>h⟩
theorem E4 {α:Type}[Inhabited α](i:Nat):∀ (k:Nat) (l:List α),k<l.length ->(vj i k l).length=l.length/\∀ ok:α ->Prop,(∀ x∈l,ok x) ->∀ x∈vj i k l,ok x
 | 0,l,_=>⟨rfl,fun _ h=>h⟩
 | k+1,l,hk=>by
  rw [vj]
  split
  ·have ih:=E4 i k (sw l (k+1) k) (by rw [kQ];omega)
   exact ⟨by rw [ih.1,kQ],fun ok h2=>ih.2 ok (qC (by omega) (by omega) h2)⟩
  ·exact ⟨rfl,fun _ h=>h⟩
def UP {α:Type}[Inhabited α](cf:α ->α ->Int)(l:List α)(a m b:Nat)(h1:a<m)(h2:m<b):a<=dT cf l a m b/\dT cf l a m b<=m/\dT cf l a m b<=(a+b) / 2/\(a+b) / 2+m - dT cf l a m b<=b:=by
 unfold dT
 have:=yy (fun c=> !pw cf l ((a+b) / 2+m - 1 - c) c) (if (a+b) / 2<m then (a+b) / 2+m - b else a) (if (a+b) / 2<m then (a+b) / 2 else m) (by split<;>omega)
 revert this
 split<;>(intro this;omega)
def uJ {α:Type}[Inhabited α]:∀ (d:Nat) (cf:α ->α ->Int) (l:List α) (a m b:Nat),b - a<=d ->a<m ->m<b ->b<=l.length ->(nC cf l a m b).length=l.length/\∀ ok:α ->Prop,(∀ x∈l,ok x) ->∀ x∈nC cf l a m b,ok x:=by
 intro d
 induction d with
 | zero=>intro cf l a m b h1 h2 h3 _;exfalso;omega
 | succ d ih=>
  intro cf l a m b hd ham hmb hb
  rw [nC]
  split
  ·have:=yy (fun h=>pw cf l h a) m b (by omega)
   exact QL _ _ _ (by omega)
  split
  ·exact E4 _ _ _ (by omega)
  have qZ:=UP cf l a m b ham hmb
  obtain ⟨st,hs⟩:∃ st,st=dT cf l a m b:=⟨_,rfl⟩
  rw [<- hs] at qZ ⊢
  have h1:(oD l m st ((a+b) / 2+m - st)).length=l.length/\∀ ok:α ->Prop,(∀ x∈l,ok x) ->∀ x∈oD l m st ((a+b) / 2+m - st),ok x:=by
   unfold oD
   split
   ·exact ⟨Mh _ _ _ _,fun ok h=>Mi _ _ _ _ (by omega) (by omega) (by omega) h⟩
   ·exact ⟨rfl,fun _ h=>h⟩
  obtain ⟨l1,gZ⟩:∃ l1,l1=oD l m st ((a+b) / 2+m - st):=⟨_,rfl⟩
  rw [<- gZ] at h1 ⊢
  obtain ⟨l2,fD⟩:∃ l2,l2=if a<st/\st<(a+b) / 2 then nC cf l1 a st ((a+b) / 2) else l1:=⟨_,rfl⟩
  rw [<- fD]
  have h2:l2.length=l.length/\∀ ok:α ->Prop,(∀ x∈l,ok x) ->∀ x∈l2,ok x:=by
   rw [fD]
   split
   ·rename_i hq
    have hi:=ih cf l1 a st ((a+b) / 2) (by omega) hq.1 hq.2 (by omega)
    exact ⟨hi.1.trans h1.1,fun ok h=>hi.2 ok (h1.2 ok h)⟩
   ·exact h1
  split
  ·rename_i hq
   have hi:=ih cf l2 ((a+b) / 2) ((a+b) / 2+m - st) b (by omega) hq.1 hq.2 (by omega)
   exact ⟨hi.1.trans h2.1,fun ok h=>hi.2 ok (h2.2 ok h)⟩
  ·exact h2
variable {M:aR} {α:Type} [Inhabited α] {enc:α ->PV}
def ajD (fm:FuncId)(enc:α ->PV)(g:FuncId)(caps:List Value)(cf:α ->α ->Int)(ok:α ->Prop)(M:aR)(d:Nat):Prop:=∀ (db n cap a m b:Nat) (l:List α) (junk:List Value),b - a<=d ->l.length=n ->n<=cap ->(∀ e∈l,ok e) ->a<m ->m<b ->b<=n ->n<=4294967296 ->∀ T:Tm,
 bU Tryz.prog fm [.slice (some ⟨db,0,none⟩) n cap,.int .i64 (a:Int),.int .i64 (m:Int),.int .i64 (b:Int),.func (.func g) #[] ⟨caps⟩] T M [(db,fl enc l++junk)] [] (fun r M' L' R'=>r=.tuple #[]/\M'=M/\L'=[(db,fl enc (nC cf l a m b)++junk)]/\R'=[]) aM
theorem K6 {fi fs fr fm ft fo:FuncId}(hs:SF fi fs fr fm ft fo){g:FuncId}{caps:List Value}{cf:α ->α ->Int}{ok:α ->Prop}(hc:CmpOk M enc g caps cf ok):∀ d,ajD fm enc g caps cf ok M d:=by
 intro d
 induction d with
 | zero=>intro db n cap a m b l junk hd hl mi ce ham hmb hb hn T;omega
 | succ d ih=>
  intro db n cap a m b l junk hd hl mi ce ham hmb hb hn T
  obtain ⟨S,hS⟩:∃ S,S=nC cf l a m b:=⟨_,rfl⟩
  rw [<- hS]
  rw [nC] at hS
  have w1:IntKind.i64.wrap ((m:Int) - (a:Int))=((m - a:Nat):Int):=by rw [bJ (by omega) (by omega)];omega
  have w2:IntKind.i64.wrap ((b:Int) - (m:Int))=((b - m:Nat):Int):=by rw [bJ (by omega) (by omega)];omega
  have DJ:=hs
  cases hs
  all_goals
   refine az ajm rfl rfl ?_
   intro bj _
   by_cases h1:m - a=1
   ·rw [if_pos h1] at hS
    have qW:((m - a:Nat):Int)=1:=by omega
    simp +contextual only [go_sem,aD,sevalprocAttr,w1,qW]
    obtain ⟨E,hE⟩:∃ E,E=E3 (fun h=>pw cf l h a) m b:=⟨_,rfl⟩
    rw [<- hE] at hS
    have hEb:=yy (fun h=>pw cf l h a) m b (by omega)
    rw [<- hE] at hEb
    refine iU [(0,.slice (some ⟨db,0,none⟩) n cap),(1,.int .i64 (a:Int)),(2,.int .i64 (m:Int)),(3,.int .i64 (b:Int)),(4,.func (.func g) #[] ⟨caps⟩)] (fun k e h=>∃ i j,e 10=.int .i64 ((i:Nat):Int)/\e 11=.int .i64 ((j:Nat):Int)/\h=⟨T,M,[(db,fl enc l++junk)],[]⟩/\m<=i/\i<=j/\b>=j/\k=j - i/\E=E3 (fun h=>pw cf l h a) i j) (b - m) (by simp only [aE,go_sem,sevalprocAttr]) ⟨m,b,by simp only [go_sem,sevalprocAttr],by simp only [go_sem,sevalprocAttr],rfl,by omega,by omega,by omega,rfl,hE⟩ ?_
    rintro k e h aI ⟨i,j,e10,e11,rfl,HY,zp,ZB,rfl,am⟩
    simp only [aE] at aI
    rw [E3] at am
    by_cases aL:i<j
    ·rw [if_pos aL] at am
     have w3:IntKind.i64.wrap ((i:Int)+(j:Int))=((i+j:Nat):Int):=by rw [bJ (by omega) (by omega)];omega
     have w4:IntKind.i64.wrap (((i+j) / 2:Nat):Int)=(((i+j) / 2:Nat):Int):=bJ (by omega) (by omega)
     have hx:(i+j) / 2<l.length:=by omega
     have X0:(i+j) / 2<n:=by omega
     have cx0:=ej (enc:=enc) junk hx
     have cx1:=ek (enc:=enc) junk hx
     have ox:=hc.one _ (ce _ (gm hx))
     have hy:a<l.length:=by omega
     have X1:a<n:=by omega
     have cy0:=ej (enc:=enc) junk hy
     have cy1:=ek (enc:=enc) junk hy
     have oy:=hc.one _ (ce _ (gm hy))
     simp +contextual only [go_sem,aD,sevalprocAttr,e10,e11,aL,w3,Xv i j (by omega),Lk,w4]
     refine aT ?_
     simp +contextual only [go_sem,sevalprocAttr,aI,X0,cx0,cx1,X1,cy0,cy1,aB bj.1]
     refine aP (hc.call _ _ (ce _ (gm hx)) (ce _ (gm hy)) _) ?_
     by_cases xT:cf (l[(i+j) / 2]'hx) (l[a]'hy)<0
     ·have hp:pw cf l ((i+j) / 2) (a)=true:=by simp only [pw,fK hx,fK hy];simp [xT]
      rw [if_pos (by simp [hp])] at am
      simp +contextual only [go_sem,aD,sevalprocAttr,xT,aA ((i+j) / 2) (by omega)]
      exact oZ (m':=j - ((i+j) / 2+1)) (by omega) (by simp only [aE,go_sem,sevalprocAttr,aI]) ⟨(i+j) / 2+1,j,by simp only [go_sem,sevalprocAttr],by simp only [go_sem,sevalprocAttr,e11],rfl,by omega,by omega,by omega,rfl,am⟩
     ·have hp:pw cf l ((i+j) / 2) (a)=false:=by simp only [pw,fK hx,fK hy];simp [xT]
      rw [if_neg (by simp [hp])] at am
      simp +contextual only [go_sem,aD,sevalprocAttr,xT]
      exact oZ (m':=(i+j) / 2 - i) (by omega) (by simp only [aE,go_sem,sevalprocAttr,aI]) ⟨i,(i+j) / 2,by simp only [go_sem,sevalprocAttr,e10],by simp only [go_sem,sevalprocAttr],rfl,by omega,by omega,by omega,rfl,am⟩
    rw [if_neg aL] at am
    obtain rfl:=am.symm
    simp +contextual only [go_sem,aD,sevalprocAttr,aI,e10,e11,aL]
    have we:IntKind.i64.wrap ((i:Int) - 1)=((i - 1:Nat):Int):=by rw [bJ (by omega) (by omega)];omega
    refine iU [(0,.slice (some ⟨db,0,none⟩) n cap),(1,.int .i64 (a:Int)),(2,.int .i64 (m:Int)),(3,.int .i64 (b:Int)),(4,.func (.func g) #[] ⟨caps⟩),(10,.int .i64 ((i:Nat):Int))] (fun k e h=>∃ q l',e 13=.int .i64 ((q:Nat):Int)/\h=⟨T,M,[(db,fl enc l'++junk)],[]⟩/\l'.length=n/\(∀ e∈l',ok e)/\k=i - q/\S=w9 l' q i) (i - a) (by simp only [aE,go_sem,sevalprocAttr,aI,e10]) ⟨a,l,by simp only [go_sem,sevalprocAttr],rfl,hl,ce,rfl,hS⟩ ?_
    rintro k e h aI ⟨q,l',e13,rfl,jL,jf,rfl,am⟩
    simp only [aE] at aI
    rw [w9] at am
    by_cases hq:q+1<i
    ·rw [if_pos hq] at am
     have hq':(q:Int)<((i - 1:Nat):Int):=by omega
     have hx:q<l'.length:=by omega
     have X0:q<n:=by omega
     have cx0:=ej (enc:=enc) junk hx
     have cx1:=ek (enc:=enc) junk hx
     have ox:=hc.one _ (jf _ (gm hx))
     have hy:q+1<l'.length:=by omega
     have X1:q+1<n:=by omega
     have cy0:=ej (enc:=enc) junk hy
     have cy1:=ek (enc:=enc) junk hy
     have oy:=hc.one _ (jf _ (gm hy))
     have hlx:q*2+2<=(fl enc l'++junk).length:=by rw [List.length_append,ee];omega
     have hly:(q+1)*2+2<=(fl enc l'++junk).length:=by rw [List.length_append,ee];omega
     simp +contextual only [go_sem,aD,sevalprocAttr,aI,e13,we,hq']
     refine aT ?_
     simp +contextual only [go_sem,sevalprocAttr,aI,e13,X0,cx0,cx1,ox,X1,cy0,cy1,oy,aB bj.1,hlx,hly,aA q (by omega)]
     refine oZ (m':=i - (q+1)) (by omega) (by simp only [aE,go_sem,sevalprocAttr,aI]) ⟨q+1,sw l' q (q+1),?_,?_,by rw [kQ];exact jL,qC hx hy jf,rfl,am⟩
     ·simp only [go_sem,sevalprocAttr]
     ·rw [qV junk hx hy]
    rw [if_neg hq] at am
    have hq':¬ (q:Int)<((i - 1:Nat):Int):=by omega
    simp +contextual only [go_sem,aD,sevalprocAttr,aI,e13,we,hq']
    exact aQ aG.rfl' rfl rfl ⟨rfl,rfl,by rw [am],rfl⟩
   rw [if_neg h1] at hS
   have qW:¬ ((m - a:Nat):Int)=1:=by omega
   by_cases h2:b - m=1
   ·rw [if_pos h2] at hS
    have I6:((b - m:Nat):Int)=1:=by omega
    simp +contextual only [go_sem,aD,sevalprocAttr,w1,qW,w2,I6]
    obtain ⟨E,hE⟩:∃ E,E=E3 (fun h=> !pw cf l m h) a m:=⟨_,rfl⟩
    rw [<- hE] at hS
    have hEb:=yy (fun h=> !pw cf l m h) a m (by omega)
    rw [<- hE] at hEb
    refine iU [(0,.slice (some ⟨db,0,none⟩) n cap),(1,.int .i64 (a:Int)),(2,.int .i64 (m:Int)),(3,.int .i64 (b:Int)),(4,.func (.func g) #[] ⟨caps⟩)] (fun k e h=>∃ i j,e 14=.int .i64 ((i:Nat):Int)/\e 15=.int .i64 ((j:Nat):Int)/\h=⟨T,M,[(db,fl enc l++junk)],[]⟩/\a<=i/\i<=j/\m>=j/\k=j - i/\E=E3 (fun h=> !pw cf l m h) i j) (m - a) (by simp only [aE,go_sem,sevalprocAttr]) ⟨a,m,by simp only [go_sem,sevalprocAttr],by simp only [go_sem,sevalprocAttr],rfl,by omega,by omega,by omega,rfl,hE⟩ ?_
    rintro k e h aI ⟨i,j,e10,e11,rfl,HY,zp,ZB,rfl,am⟩
    simp only [aE] at aI
    rw [E3] at am
    by_cases aL:i<j
    ·rw [if_pos aL] at am
     have w3:IntKind.i64.wrap ((i:Int)+(j:Int))=((i+j:Nat):Int):=by rw [bJ (by omega) (by omega)];omega
     have w4:IntKind.i64.wrap (((i+j) / 2:Nat):Int)=(((i+j) / 2:Nat):Int):=bJ (by omega) (by omega)
     have hx:m<l.length:=by omega
     have X0:m<n:=by omega
     have cx0:=ej (enc:=enc) junk hx
     have cx1:=ek (enc:=enc) junk hx
     have ox:=hc.one _ (ce _ (gm hx))
     have hy:(i+j) / 2<l.length:=by omega
     have X1:(i+j) / 2<n:=by omega
     have cy0:=ej (enc:=enc) junk hy
     have cy1:=ek (enc:=enc) junk hy
     have oy:=hc.one _ (ce _ (gm hy))
     simp +contextual only [go_sem,aD,sevalprocAttr,e10,e11,aL,w3,Xv i j (by omega),Lk,w4]
     refine aT ?_
     simp +contextual only [go_sem,sevalprocAttr,aI,X0,cx0,cx1,X1,cy0,cy1,aB bj.1]
     refine aP (hc.call _ _ (ce _ (gm hx)) (ce _ (gm hy)) _) ?_
     by_cases xT:cf (l[m]'hx) (l[(i+j) / 2]'hy)<0
     ·have hp:pw cf l (m) ((i+j) / 2)=true:=by simp only [pw,fK hx,fK hy];simp [xT]
      rw [if_neg (by simp [hp])] at am
      simp +contextual only [go_sem,aD,sevalprocAttr,xT]
      exact oZ (m':=(i+j) / 2 - i) (by omega) (by simp only [aE,go_sem,sevalprocAttr,aI]) ⟨i,(i+j) / 2,by simp only [go_sem,sevalprocAttr,e10],by simp only [go_sem,sevalprocAttr],rfl,by omega,by omega,by omega,rfl,am⟩
     ·have hp:pw cf l (m) ((i+j) / 2)=false:=by simp only [pw,fK hx,fK hy];simp [xT]
      rw [if_pos (by simp [hp])] at am
      simp +contextual only [go_sem,aD,sevalprocAttr,xT,aA ((i+j) / 2) (by omega)]
      exact oZ (m':=j - ((i+j) / 2+1)) (by omega) (by simp only [aE,go_sem,sevalprocAttr,aI]) ⟨(i+j) / 2+1,j,by simp only [go_sem,sevalprocAttr],by simp only [go_sem,sevalprocAttr,e11],rfl,by omega,by omega,by omega,rfl,am⟩
    rw [if_neg aL] at am
    obtain rfl:=am.symm
    simp +contextual only [go_sem,aD,sevalprocAttr,aI,e10,e11,aL]
    refine iU [(0,.slice (some ⟨db,0,none⟩) n cap),(1,.int .i64 (a:Int)),(2,.int .i64 (m:Int)),(3,.int .i64 (b:Int)),(4,.func (.func g) #[] ⟨caps⟩),(14,.int .i64 ((i:Nat):Int))] (fun k e h=>∃ q l',e 17=.int .i64 ((q:Nat):Int)/\h=⟨T,M,[(db,fl enc l'++junk)],[]⟩/\l'.length=n/\(∀ e∈l',ok e)/\q<=m/\k=q/\S=vj i q l') m (by simp only [aE,go_sem,sevalprocAttr,aI,e10]) ⟨m,l,by simp only [go_sem,sevalprocAttr],rfl,hl,ce,by omega,rfl,hS⟩ ?_
    rintro q e h aI ⟨_,l',e13,rfl,jL,jf,hqm,rfl,am⟩
    simp only [aE] at aI
    by_cases hq:i<q
    ·obtain ⟨q,rfl⟩:∃ k,q=k+1:=⟨q - 1,by omega⟩
     rw [vj,if_pos hq] at am
     have hx:q<l'.length:=by omega
     have X0:q<n:=by omega
     have cx0:=ej (enc:=enc) junk hx
     have cx1:=ek (enc:=enc) junk hx
     have ox:=hc.one _ (jf _ (gm hx))
     have hy:q+1<l'.length:=by omega
     have X1:q+1<n:=by omega
     have cy0:=ej (enc:=enc) junk hy
     have cy1:=ek (enc:=enc) junk hy
     have oy:=hc.one _ (jf _ (gm hy))
     have e1:IntKind.i64.wrap (((q+1:Nat):Int) - 1)=((q:Nat):Int):=by rw [bJ (by omega) (by omega)];omega
     have hlx:q*2+2<=(fl enc l'++junk).length:=by rw [List.length_append,ee];omega
     have hly:(q+1)*2+2<=(fl enc l'++junk).length:=by rw [List.length_append,ee];omega
     simp +contextual only [go_sem,aD,sevalprocAttr,aI,e13,hq]
     refine aT ?_
     simp +contextual only [go_sem,sevalprocAttr,aI,e13,X0,cx0,cx1,ox,X1,cy0,cy1,oy,aB bj.1,hlx,hly,e1]
     refine oZ (m':=q) (by omega) (by simp only [aE,go_sem,sevalprocAttr,aI]) ⟨q,sw l' (q+1) q,?_,?_,by rw [kQ];exact jL,qC hy hx jf,by omega,rfl,am⟩
     ·simp only [go_sem,sevalprocAttr]
     ·rw [qV junk hy hx]
    have am:S=l':=by
     cases q with
     | zero=>rw [am,vj]
     | succ q=>rw [am,vj,if_neg hq]
    simp +contextual only [go_sem,aD,sevalprocAttr,aI,e13,hq]
    exact aQ aG.rfl' rfl rfl ⟨rfl,rfl,by rw [am],rfl⟩
   rw [if_neg h2] at hS
   have I6:¬ ((b - m:Nat):Int)=1:=by omega
   obtain ⟨mid,SQ⟩:∃ mid,mid=(a+b) / 2:=⟨_,rfl⟩
   have wab:IntKind.i64.wrap ((a:Int)+(b:Int))=((a+b:Nat):Int):=by rw [bJ (by omega) (by omega)];omega
   have wm0:IntKind.i64.wrap (mid:Int)=(mid:Int):=bJ (by omega) (by omega)
   have wm1:IntKind.i64.wrap ((mid:Int)+(m:Int))=((mid+m:Nat):Int):=by rw [bJ (by omega) (by omega)];omega
   obtain ⟨s0,tB⟩:∃ s0,s0=if mid<m then mid+m - b else a:=⟨_,rfl⟩
   obtain ⟨r0,uT⟩:∃ r0,r0=if mid<m then mid else m:=⟨_,rfl⟩
   have xl:s0<=r0/\r0<=m/\r0<=mid/\mid+m - s0<=b/\a<=s0/\s0<=m:=by rw [tB,uT];split<;>omega
   simp +contextual only [go_sem,sevalprocAttr,w1,qW]
   simp only [dM,Bool.false_eq_true,if_false]
   simp +contextual only [go_sem,sevalprocAttr,w2,I6]
   simp only [dM,Bool.false_eq_true,if_false]
   simp +contextual only [go_sem,sevalprocAttr,wab,Xv a b (by omega),Lk,<- SQ,wm0,wm1]
   refine fg (fun e ds h=>ds=[]/\aE e [(0,.slice (some ⟨db,0,none⟩) n cap),(1,.int .i64 (a:Int)),(2,.int .i64 (m:Int)),(3,.int .i64 (b:Int)),(4,.func (.func g) #[] ⟨caps⟩),(18,.int .i64 ((mid:Nat):Int)),(19,.int .i64 ((mid+m:Nat):Int)),(20,.int .i64 ((s0:Nat):Int)),(21,.int .i64 ((r0:Nat):Int))]/\h=⟨T,M,[(db,fl enc l++junk)],[]⟩) (fun S' fh=> ?_) ?_
   ·rw [dM]
    by_cases hmm:mid<m
    ·rw [if_pos hmm] at tB uT
     have wn:IntKind.i64.wrap (((mid+m:Nat):Int) - (b:Int))=((mid+m - b:Nat):Int):=by rw [bJ (by omega) (by omega)];omega
     simp +contextual only [go_sem,sevalprocAttr,hmm,wn]
     exact fh _ _ _ ⟨rfl,by simp only [aE,tB,uT,go_sem,sevalprocAttr],rfl⟩
    ·rw [if_neg hmm] at tB uT
     simp +contextual only [go_sem,sevalprocAttr,hmm]
     exact fh _ _ _ ⟨rfl,by simp only [aE,tB,uT,go_sem,sevalprocAttr],rfl⟩
   rintro e ds h ⟨rfl,aI,rfl⟩
   simp only [aE] at aI
   have wn1:IntKind.i64.wrap (((mid+m:Nat):Int) - 1)=((mid+m - 1:Nat):Int):=by rw [bJ (by omega) (by omega)];omega
   simp +contextual only [go_sem,sevalprocAttr,Nc,aI,wn1]
   obtain ⟨E,hE⟩:∃ E,E=E3 (fun c=> !pw cf l (mid+m - 1 - c) c) s0 r0:=⟨_,rfl⟩
   have hEb:=yy (fun c=> !pw cf l (mid+m - 1 - c) c) s0 r0 (by omega)
   rw [<- hE] at hEb
   refine iU [(0,.slice (some ⟨db,0,none⟩) n cap),(1,.int .i64 (a:Int)),(2,.int .i64 (m:Int)),(3,.int .i64 (b:Int)),(4,.func (.func g) #[] ⟨caps⟩),(18,.int .i64 ((mid:Nat):Int)),(19,.int .i64 ((mid+m:Nat):Int)),(22,.int .i64 ((mid+m - 1:Nat):Int))] (fun k e h=>∃ i j,e 20=.int .i64 ((i:Nat):Int)/\e 21=.int .i64 ((j:Nat):Int)/\h=⟨T,M,[(db,fl enc l++junk)],[]⟩/\s0<=i/\i<=j/\r0>=j/\k=j - i/\E=E3 (fun c=> !pw cf l (mid+m - 1 - c) c) i j) (r0 - s0) (by simp only [aE,go_sem,sevalprocAttr,aI]) ⟨s0,r0,by simp only [go_sem,sevalprocAttr,aI],by simp only [go_sem,sevalprocAttr,aI],rfl,by omega,by omega,by omega,rfl,hE⟩ ?_
   rintro k e h aI ⟨i,j,e10,e11,rfl,HY,zp,ZB,rfl,am⟩
   simp only [aE] at aI
   rw [E3] at am
   by_cases aL:i<j
   ·rw [if_pos aL] at am
    have w3:IntKind.i64.wrap ((i:Int)+(j:Int))=((i+j:Nat):Int):=by rw [bJ (by omega) (by omega)];omega
    have w4:IntKind.i64.wrap (((i+j) / 2:Nat):Int)=(((i+j) / 2:Nat):Int):=bJ (by omega) (by omega)
    have hx:mid+m - 1 - (i+j) / 2<l.length:=by omega
    have X0:mid+m - 1 - (i+j) / 2<n:=by omega
    have cx0:=ej (enc:=enc) junk hx
    have cx1:=ek (enc:=enc) junk hx
    have ox:=hc.one _ (ce _ (gm hx))
    have hy:(i+j) / 2<l.length:=by omega
    have X1:(i+j) / 2<n:=by omega
    have cy0:=ej (enc:=enc) junk hy
    have cy1:=ek (enc:=enc) junk hy
    have oy:=hc.one _ (ce _ (gm hy))
    have wpc:IntKind.i64.wrap (((mid+m - 1:Nat):Int) - (((i+j) / 2:Nat):Int))=((mid+m - 1 - (i+j) / 2:Nat):Int):=by rw [bJ (by omega) (by omega)];omega
    simp +contextual only [go_sem,aD,sevalprocAttr,e10,e11,aL,w3,Xv i j (by omega),Lk,w4]
    refine aT ?_
    simp +contextual only [go_sem,sevalprocAttr,aI,X0,cx0,cx1,X1,cy0,cy1,aB bj.1,wpc]
    refine aP (hc.call _ _ (ce _ (gm hx)) (ce _ (gm hy)) _) ?_
    by_cases xT:cf (l[mid+m - 1 - (i+j) / 2]'hx) (l[(i+j) / 2]'hy)<0
    ·have hp:pw cf l (mid+m - 1 - (i+j) / 2) ((i+j) / 2)=true:=by simp only [pw,fK hx,fK hy];simp [xT]
     rw [if_neg (by simp [hp])] at am
     simp +contextual only [go_sem,aD,sevalprocAttr,xT]
     exact oZ (m':=(i+j) / 2 - i) (by omega) (by simp only [aE,go_sem,sevalprocAttr,aI]) ⟨i,(i+j) / 2,by simp only [go_sem,sevalprocAttr,e10],by simp only [go_sem,sevalprocAttr],rfl,by omega,by omega,by omega,rfl,am⟩
    ·have hp:pw cf l (mid+m - 1 - (i+j) / 2) ((i+j) / 2)=false:=by simp only [pw,fK hx,fK hy];simp [xT]
     rw [if_pos (by simp [hp])] at am
     simp +contextual only [go_sem,aD,sevalprocAttr,xT,aA ((i+j) / 2) (by omega)]
     exact oZ (m':=j - ((i+j) / 2+1)) (by omega) (by simp only [aE,go_sem,sevalprocAttr,aI]) ⟨(i+j) / 2+1,j,by simp only [go_sem,sevalprocAttr],by simp only [go_sem,sevalprocAttr,e11],rfl,by omega,by omega,by omega,rfl,am⟩
   rw [if_neg aL] at am
   obtain rfl:=am.symm
   simp +contextual only [go_sem,sevalprocAttr,e10,e11,aL]
   simp only [dM,Bool.false_eq_true,if_false]
   have qZ:dT cf l a m b=i:=by unfold dT;rw [<- SQ,<- tB,<- uT];exact hE.symm
   have wen:IntKind.i64.wrap (((mid+m:Nat):Int) - (i:Int))=((mid+m - i:Nat):Int):=by rw [bJ (by omega) (by omega)];omega
   obtain ⟨en,hen⟩:∃ en,en=mid+m - i:=⟨_,rfl⟩
   rw [qZ,<- SQ,<- hen] at hS
   have apP:mid<=en/\en<=b/\m<=en:=by omega
   simp +contextual only [go_sem,sevalprocAttr,aI,e10,wen,<- hen]
   obtain ⟨l1,gZ⟩:∃ l1,l1=oD l m i en:=⟨_,rfl⟩
   rw [<- gZ] at hS
   have l1n:l1.length=n:=by rw [gZ];unfold oD;split;rw [Mh];exact hl;exact hl
   have l1ok:∀ e∈l1,ok e:=by rw [gZ];unfold oD;split;exact Mi _ _ _ _ (by omega) (by omega) (by omega) ce;exact ce
   refine fg (fun e ds h=>ds=[]/\aE e [(0,.slice (some ⟨db,0,none⟩) n cap),(1,.int .i64 (a:Int)),(3,.int .i64 (b:Int)),(4,.func (.func g) #[] ⟨caps⟩),(18,.int .i64 ((mid:Nat):Int)),(20,.int .i64 ((i:Nat):Int)),(24,.int .i64 ((en:Nat):Int))]/\h=⟨T,M,[(db,fl enc l1++junk)],[]⟩) (fun S' fh=> ?_) ?_
   ·rw [dM]
    by_cases hr:i<m/\m<en
    ·have abZ:l1=CC l m (m - i) (en - m):=by rw [gZ,oD,if_pos hr]
     simp +contextual only [go_sem,sevalprocAttr,hr,aI,e10]
     refine iI (W1 DJ hc.one hl mi ce hr.1 hr.2 (by omega) hn _) ?_
     simp +contextual only [go_sem,sevalprocAttr]
     exact fh _ _ _ ⟨rfl,by simp only [aE,go_sem,sevalprocAttr,aI,e10],by rw [abZ]⟩
    ·have abZ:l1=l:=by rw [gZ,oD,if_neg hr]
     simp +contextual only [go_sem,sevalprocAttr,hr]
     exact fh _ _ _ ⟨rfl,by simp only [aE,go_sem,sevalprocAttr,aI,e10],by rw [abZ]⟩
   rintro e2 ds h ⟨rfl,aI,rfl⟩
   simp only [aE] at aI
   simp +contextual only [go_sem,sevalprocAttr,aI]
   obtain ⟨l2,fD⟩:∃ l2,l2=if a<i/\i<mid then nC cf l1 a i mid else l1:=⟨_,rfl⟩
   rw [<- fD] at hS
   have l2i:l2.length=n/\∀ e∈l2,ok e:=by
    rw [fD]
    split
    ·rename_i hq
     have hi:=uJ _ cf l1 a i mid (Nat.le_refl _) hq.1 hq.2 (by omega)
     exact ⟨by rw [hi.1];exact l1n,hi.2 ok l1ok⟩
    ·exact ⟨l1n,l1ok⟩
   refine fg (fun e ds h=>ds=[]/\aE e [(0,.slice (some ⟨db,0,none⟩) n cap),(3,.int .i64 (b:Int)),(4,.func (.func g) #[] ⟨caps⟩),(18,.int .i64 ((mid:Nat):Int)),(24,.int .i64 ((en:Nat):Int))]/\h=⟨T,M,[(db,fl enc l2++junk)],[]⟩) (fun S' fh=> ?_) ?_
   ·rw [dM]
    by_cases hr:a<i/\i<mid
    ·rw [if_pos hr] at fD
     simp +contextual only [go_sem,sevalprocAttr,hr,aI]
     refine iI (ih db n cap a i mid l1 junk (by omega) l1n mi l1ok hr.1 hr.2 (by omega) hn _) ?_
     simp +contextual only [go_sem,sevalprocAttr]
     exact fh _ _ _ ⟨rfl,by simp only [aE,go_sem,sevalprocAttr,aI],by rw [fD]⟩
    ·rw [if_neg hr] at fD
     simp +contextual only [go_sem,sevalprocAttr,hr]
     exact fh _ _ _ ⟨rfl,by simp only [aE,go_sem,sevalprocAttr,aI],by rw [fD]⟩
   rintro e3 ds h ⟨rfl,aI,rfl⟩
   simp only [aE] at aI
   by_cases hr:mid<en/\en<b
   ·rw [if_pos hr] at hS
    simp +contextual only [go_sem,aD,sevalprocAttr,hr,aI]
    refine iI (ih db n cap mid en b l2 junk (by omega) l2i.1 mi l2i.2 hr.1 hr.2 (by omega) hn _) ?_
    simp +contextual only [go_sem,sevalprocAttr]
    exact aQ aG.rfl' rfl rfl ⟨rfl,rfl,by rw [hS],rfl⟩
   ·rw [if_neg hr] at hS
    simp +contextual only [go_sem,aD,sevalprocAttr,hr,aI]
    exact aQ aG.rfl' rfl rfl ⟨rfl,rfl,by rw [hS],rfl⟩
def Pm {α:Type}[Inhabited α](cf:α ->α ->Int)(l:List α)(a n:Nat):List α:=if a+20<=n then Pm cf (qh cf l a (a+20)) (a+20) n else qh cf l a n
termination_by n - a
decreasing_by omega
def OX {α:Type}[Inhabited α](cf:α ->α ->Int)(s:Nat)(l:List α)(a n:Nat):List α:=
 if 0<s/\a+2*s<=n then OX cf s (nC cf l a (a+s) (a+2*s)) (a+2*s) n else if 0<s/\a+s<n then nC cf l a (a+s) n else l
termination_by n - a
decreasing_by omega
def P3 {α:Type}[Inhabited α](cf:α ->α ->Int)(s:Nat)(l:List α)(n:Nat):List α:=if 0<s/\s<n then P3 cf (2*s) (OX cf s l 0 n) n else l
termination_by n - s
decreasing_by omega
def fk {α:Type}[Inhabited α](cf:α ->α ->Int)(l:List α):List α:=P3 cf 20 (Pm cf l 0 l.length) l.length
def pJ {α:Type}[Inhabited α](l l':List α):Prop:=l'.length=l.length/\∀ ok:α ->Prop,(∀ x∈l,ok x) ->∀ x∈l',ok x
def pJ.rfl' {α:Type}[Inhabited α]{l:List α}:pJ l l:=⟨rfl,fun _ h=>h⟩
def pJ.trans {α:Type}[Inhabited α]{a b c:List α}(h:pJ a b)(h':pJ b c):pJ a c:=⟨h'.1.trans h.1,fun ok hh=>h'.2 ok (h.2 ok hh)⟩
theorem zG {α:Type}[Inhabited α](cf:α ->α ->Int)(a:Nat):∀ (j:Nat) (l:List α),j<l.length ->pJ l (lB cf a j l)
 | 0,l,_=> .rfl'
 | j+1,l,hj=>by
  rw [lB]
  split
  ·exact pJ.trans ⟨kQ _ _ _,fun ok h=>qC hj (by omega) h⟩ (zG cf a j _ (by rw [kQ];omega))
  ·exact .rfl'
theorem Cf {α:Type}[Inhabited α](cf:α ->α ->Int)(a:Nat):∀ (f i:Nat) (l:List α),i+f<=l.length ->pJ l (xo cf a f i l)
 | 0,i,l,_=> .rfl'
 | f+1,i,l,h=>by
  have h1:=zG cf a i l (by omega)
  exact h1.trans (Cf cf a f (i+1) _ (by rw [h1.1];omega))
def vH {α:Type}[Inhabited α](cf:α ->α ->Int)(l:List α)(a b:Nat)(h:b<=l.length):pJ l (qh cf l a b):=by
 unfold qh
 by_cases Xq:a+1<=b
 ·exact Cf cf a _ _ _ (by omega)
 ·have:b - (a+1)=0:=by omega
  rw [this];exact .rfl'
def Hk {α:Type}[Inhabited α](cf:α ->α ->Int)(l:List α)(a n:Nat)(h:n<=l.length):pJ l (Pm cf l a n):=by
 fun_induction Pm cf l a n with
 | case1 l a h1 ih=>have h2:=vH cf l a (a+20) (by omega);exact h2.trans (ih (by rw [h2.1];exact h))
 | case2 l a h1=>exact vH cf l a n h
def Gu {α:Type}[Inhabited α](cf:α ->α ->Int)(s:Nat)(l:List α)(a n:Nat)(h:n<=l.length):pJ l (OX cf s l a n):=by
 fun_induction OX cf s l a n with
 | case1 l a h1 ih=>have h2:=uJ _ cf l a (a+s) (a+2*s) (Nat.le_refl _) (by omega) (by omega) (by omega);exact pJ.trans h2 (ih (by rw [h2.1];exact h))
 | case2 l a h1 h2=>exact uJ _ cf l a (a+s) n (Nat.le_refl _) (by omega) (by omega) (by omega)
 | case3=>exact .rfl'
def TC {α:Type}[Inhabited α](cf:α ->α ->Int)(s:Nat)(l:List α)(n:Nat)(h:n<=l.length):pJ l (P3 cf s l n):=by
 fun_induction P3 cf s l n with
 | case1 s l h1 ih=>have h2:=Gu cf s l 0 n h;exact h2.trans (ih (by rw [h2.1];exact h))
 | case2=>exact .rfl'
def gy {α:Type}[Inhabited α](cf:α ->α ->Int)(l:List α):pJ l (fk cf l):=by
 have h:=Hk cf l 0 l.length (Nat.le_refl _)
 exact h.trans (TC cf 20 _ _ (by rw [h.1];exact Nat.le_refl _))
variable {M:aR} {α:Type} [Inhabited α] {enc:α ->PV}
def RF {fi fs fr fm ft fo:FuncId}(hs:SF fi fs fr fm ft fo){g:FuncId}{caps:List Value}{cf:α ->α ->Int}{ok:α ->Prop}(hc:CmpOk M enc g caps cf ok){db n cap:Nat}{l:List α}{junk:List Value}(hl:l.length=n)(mi:n<=cap)(ce:∀ e∈l,ok e)(hn:n<=4294967296)(T:Tm):
 bU Tryz.prog ft [.slice (some ⟨db,0,none⟩) n cap,.int .i64 (n:Int),.func (.func g) #[] ⟨caps⟩] T M [(db,fl enc l++junk)] [] (fun r M' L' R'=>r=.tuple #[]/\M'=M/\L'=[(db,fl enc (fk cf l)++junk)]/\R'=[]) aM:=by
 obtain ⟨S,hS⟩:∃ S,S=fk cf l:=⟨_,rfl⟩
 rw [<- hS]
 unfold fk at hS
 rw [hl] at hS
 obtain ⟨l1,gZ⟩:∃ l1,l1=Pm cf l 0 n:=⟨_,rfl⟩
 rw [<- gZ] at hS
 have iQ:pJ l l1:=by rw [gZ];exact Hk cf l 0 n (by omega)
 have DJ:=hs
 cases hs
 all_goals
  refine az aei rfl rfl ?_
  intro bj _
  simp +contextual only [go_sem,aD,sevalprocAttr]
  refine iU [(0,.slice (some ⟨db,0,none⟩) n cap),(1,.int .i64 (n:Int)),(2,.func (.func g) #[] ⟨caps⟩),(6,.int .i64 20)] (fun k e h=>∃ a l',e 7=.int .i64 ((a:Nat):Int)/\e 8=.int .i64 ((a+20:Nat):Int)/\h=⟨T,M,[(db,fl enc l'++junk)],[]⟩/\l'.length=n/\(∀ e∈l',ok e)/\a<=n/\k=n - a/\l1=Pm cf l' a n) n (by simp only [aE,go_sem,sevalprocAttr]) ⟨0,l,by simp only [go_sem,sevalprocAttr],by simp only [go_sem,sevalprocAttr],rfl,hl,ce,by omega,rfl,gZ⟩ ?_
  rintro k e h aI ⟨a,l',e7,e8,rfl,jL,jf,han,rfl,am⟩
  simp only [aE] at aI
  rw [Pm] at am
  by_cases aL:a+20<=n
  ·rw [if_pos aL] at am
   have w1:IntKind.i64.wrap (((a+20:Nat):Int)+20)=((a+20+20:Nat):Int):=by rw [bJ (by omega) (by omega)];omega
   simp +contextual only [go_sem,aD,sevalprocAttr,aI,e7,e8,aL]
   refine iI (KZ DJ hc jL mi jf (by omega) aL hn _) ?_
   have hs:=vH cf l' a (a+20) (by omega)
   simp +contextual only [go_sem,sevalprocAttr,aI,e8,w1]
   exact oZ (m':=n - (a+20)) (by omega) (by simp only [aE,go_sem,sevalprocAttr,aI]) ⟨a+20,_,by simp only [go_sem,sevalprocAttr],by simp only [go_sem,sevalprocAttr],rfl,by rw [hs.1];exact jL,hs.2 ok jf,by omega,rfl,am⟩
  rw [if_neg aL] at am
  simp +contextual only [go_sem,aD,sevalprocAttr,aI,e7,e8,aL]
  refine iI (KZ DJ hc jL mi jf han (Nat.le_refl _) hn _) ?_
  rw [<- am]
  simp +contextual only [go_sem,aD,sevalprocAttr]
  refine iU [(0,.slice (some ⟨db,0,none⟩) n cap),(1,.int .i64 (n:Int)),(2,.func (.func g) #[] ⟨caps⟩)] (fun k e h=>∃ s l',e 6=.int .i64 ((s:Nat):Int)/\h=⟨T,M,[(db,fl enc l'++junk)],[]⟩/\l'.length=n/\(∀ e∈l',ok e)/\0<s/\s<=2*n+20/\k=n - s/\S=P3 cf s l' n) (n - 20) (by simp only [aE,go_sem,sevalprocAttr,aI]) ⟨20,l1,by simp only [go_sem,sevalprocAttr,aI],rfl,by rw [iQ.1];exact hl,iQ.2 ok ce,by omega,by omega,rfl,hS⟩ ?_
  rintro k e h aI ⟨s,l2,e6,rfl,fD,pu,tB,hsn,rfl,am⟩
  simp only [aE] at aI
  rw [P3] at am
  by_cases aL:s<n
  rotate_left
  ·rw [if_neg (fun h=>aL h.2)] at am
   simp +contextual only [go_sem,aD,sevalprocAttr,aI,e6,aL]
   exact aQ aG.rfl' rfl rfl ⟨rfl,rfl,by rw [am],rfl⟩
  rw [if_pos ⟨tB,aL⟩] at am
  have w2:IntKind.i64.wrap (2*(s:Int))=((2*s:Nat):Int):=by rw [bJ (by omega) (by omega)];omega
  have w2':IntKind.i64.wrap ((s:Int)*2)=((2*s:Nat):Int):=by rw [bJ (by omega) (by omega)];omega
  obtain ⟨l3,fP⟩:∃ l3,l3=OX cf s l2 0 n:=⟨_,rfl⟩
  rw [<- fP] at am
  have F2:pJ l2 l3:=by rw [fP];exact Gu cf s l2 0 n (by omega)
  simp +contextual only [go_sem,aD,sevalprocAttr,aI,e6,aL,w2]
  refine iU [(0,.slice (some ⟨db,0,none⟩) n cap),(1,.int .i64 (n:Int)),(2,.func (.func g) #[] ⟨caps⟩),(6,.int .i64 (s:Int))] (fun k e h=>∃ a l',e 7=.int .i64 ((a:Nat):Int)/\e 8=.int .i64 ((a+2*s:Nat):Int)/\h=⟨T,M,[(db,fl enc l'++junk)],[]⟩/\l'.length=n/\(∀ e∈l',ok e)/\a<=n/\k=n - a/\l3=OX cf s l' a n) n (by simp only [aE,go_sem,sevalprocAttr,aI,e6]) ⟨0,l2,by simp only [go_sem,sevalprocAttr],by simp only [go_sem,sevalprocAttr,Nat.zero_add],rfl,fD,pu,by omega,rfl,fP⟩ ?_
  rintro k e h aI ⟨a,l',e7,e8,rfl,jL,jf,han,rfl,wM⟩
  simp only [aE] at aI
  rw [OX] at wM
  have w3:IntKind.i64.wrap ((a:Int)+(s:Int))=((a+s:Nat):Int):=by rw [bJ (by omega) (by omega)];omega
  by_cases cX:a+2*s<=n
  ·rw [if_pos ⟨tB,cX⟩] at wM
   have w4:IntKind.i64.wrap (((a+2*s:Nat):Int)+((2*s:Nat):Int))=((a+2*s+2*s:Nat):Int):=by rw [bJ (by omega) (by omega)];omega
   simp +contextual only [go_sem,aD,sevalprocAttr,aI,e7,e8,cX,w3]
   refine iI (K6 DJ hc _ db n cap a (a+s) (a+2*s) l' junk (Nat.le_refl _) jL mi jf (by omega) (by omega) cX hn _) ?_
   have hs:=uJ _ cf l' a (a+s) (a+2*s) (Nat.le_refl _) (by omega) (by omega) (by omega)
   simp +contextual only [go_sem,sevalprocAttr,aI,e8,w2,w4]
   exact oZ (m':=n - (a+2*s)) (by omega) (by simp only [aE,go_sem,sevalprocAttr,aI]) ⟨a+2*s,_,by simp only [go_sem,sevalprocAttr],by simp only [go_sem,sevalprocAttr],rfl,by rw [hs.1];exact jL,hs.2 ok jf,by omega,rfl,wM⟩
  rw [if_neg (fun h=>cX h.2)] at wM
  simp +contextual only [go_sem,aD,sevalprocAttr,aI,e7,e8,cX,w3]
  by_cases hmn:a+s<n
  ·rw [if_pos ⟨tB,hmn⟩] at wM
   simp +contextual only [go_sem,sevalprocAttr,hmn]
   refine iI (K6 DJ hc _ db n cap a (a+s) n l' junk (Nat.le_refl _) jL mi jf (by omega) hmn (Nat.le_refl _) hn _) ?_
   rw [<- wM]
   simp +contextual only [go_sem,sevalprocAttr,aI,w2']
   exact oZ (m':=n - 2*s) (by omega) (by simp only [aE,go_sem,sevalprocAttr,aI]) ⟨2*s,l3,by simp only [go_sem,sevalprocAttr],rfl,by rw [F2.1];exact fD,F2.2 ok pu,by omega,by omega,rfl,am⟩
  ·rw [if_neg (fun h=>hmn h.2)] at wM
   simp +contextual only [go_sem,sevalprocAttr,hmn]
   exact oZ (m':=n - 2*s) (by omega) (by simp only [aE,go_sem,sevalprocAttr,aI]) ⟨2*s,l',by simp only [go_sem,sevalprocAttr,w2'],rfl,jL,jf,by omega,by omega,rfl,by rw [<- wM];exact am⟩
theorem yR {fi fs fr fm ft fo:FuncId}(hs:SF fi fs fr fm ft fo){g:FuncId}{caps:List Value}{cf:α ->α ->Int}{ok:α ->Prop}(hc:CmpOk M enc g caps cf ok){db n cap:Nat}{l:List α}{junk:List Value}(hl:l.length=n)(mi:n<=cap)(ce:∀ e∈l,ok e)(hn:n<=4294967296)(T:Tm):
 bU Tryz.prog fo [.slice (some ⟨db,0,none⟩) n cap,.func (.func g) #[] ⟨caps⟩] T M [(db,fl enc l++junk)] [] (fun r M' L' R'=>r=.tuple #[]/\M'=M/\L'=[(db,fl enc (fk cf l)++junk)]/\R'=[]) aM:=by
 have DJ:=hs
 cases hs
 all_goals
  refine az V4 rfl rfl ?_
  intro bj _
  simp +contextual only [go_sem,sevalprocAttr]
  refine iI (RF DJ hc hl mi ce hn _) ?_
  simp +contextual only [go_sem,sevalprocAttr]
  exact aQ aG.rfl' rfl rfl ⟨rfl,rfl,rfl,rfl⟩
section
variable {α β:Type} [Inhabited α] [Inhabited β] {f:α ->β} (hd:f default=default) {cf:α ->α ->Int} {cg:β ->β ->Int} (hc:∀ x y,cg (f x) (f y)=cf x y)
include hd
theorem B2 (l:List α)(i:Nat):(l.map f).getD i default=f (l.getD i default):=by
 simp only [List.getD_eq_getElem?_getD,List.getElem?_map]
 cases l[i]?<;>simp [hd]
theorem Em (l:List α)(i j:Nat):sw (l.map f) i j=(sw l i j).map f:=by
 simp only [sw,B2 hd,List.map_set]
theorem xZ (a b:Nat):∀ (n i:Nat) (l:List α),Hn a b n i (l.map f)=(Hn a b n i l).map f
 | 0,_,_=>rfl
 | n+1,i,l=>by rw [Hn,Hn,Em hd,xZ a b n]
theorem Yv (l:List α)(m i j:Nat):CC (l.map f) m i j=(CC l m i j).map f:=by
 fun_induction CC l m i j with
 | case1 l i j h h2 ih=>rw [CC,if_pos h,if_pos h2,xZ hd,ih]
 | case2 l i j h h2 ih=>rw [CC,if_pos h,if_neg h2,xZ hd,ih]
 | case3 l i j h=>rw [CC,if_neg h,xZ hd]
theorem Ho (l:List α)(m st en:Nat):oD (l.map f) m st en=(oD l m st en).map f:=by
 unfold oD;split
 ·exact Yv hd _ _ _ _
 ·rfl
theorem E5 (l:List α)(k e:Nat):w9 (l.map f) k e=(w9 l k e).map f:=by
 fun_induction w9 l k e with
 | case1 l k h ih=>rw [w9,if_pos h,Em hd,ih]
 | case2 l k h=>rw [w9,if_neg h]
theorem yz (i:Nat):∀ (k:Nat) (l:List α),vj i k (l.map f)=(vj i k l).map f
 | 0,_=>rfl
 | k+1,l=>by
  rw [vj,vj]
  split
  ·rw [Em hd,yz i k]
  ·rfl
include hc
theorem xX (l:List α)(i j:Nat):pw cg (l.map f) i j=pw cf l i j:=by simp only [pw,B2 hd,hc]
theorem Ce (a:Nat):∀ (j:Nat) (l:List α),lB cg a j (l.map f)=(lB cf a j l).map f
 | 0,_=>rfl
 | j+1,l=>by
  rw [lB,lB,xX hd hc]
  split
  ·rw [Em hd,Ce a j]
  ·rfl
theorem zH (a:Nat):∀ (n i:Nat) (l:List α),xo cg a n i (l.map f)=(xo cf a n i l).map f
 | 0,_,_=>rfl
 | n+1,i,l=>by rw [xo,xo,Ce hd hc,zH a n]
theorem CM (l:List α)(a m b:Nat):dT cg (l.map f) a m b=dT cf l a m b:=by
 unfold dT;simp only [xX hd hc]
theorem Hq:∀ (d:Nat) (l:List α) (a m b:Nat),b - a<=d ->nC cg (l.map f) a m b=(nC cf l a m b).map f:=by
 intro d
 induction d with
 | zero=>
  intro l a m b h
  conv=>lhs;rw [nC]
  conv=>rhs;rw [nC]
  rw [CM hd hc,Ho hd]
  simp only [xX hd hc]
  split
  ·exact E5 hd _ _ _
  split
  ·exact yz hd _ _ _
  rw [if_neg (by omega),if_neg (by omega),if_neg (by omega),if_neg (by omega)]
 | succ d ih=>
  intro l a m b h
  conv=>lhs;rw [nC]
  conv=>rhs;rw [nC]
  rw [CM hd hc,Ho hd]
  simp only [xX hd hc]
  split
  ·exact E5 hd _ _ _
  split
  ·exact yz hd _ _ _
  have h2:(if a<dT cf l a m b/\dT cf l a m b<(a+b) / 2 then nC cg ((oD l m (dT cf l a m b) ((a+b) / 2+m - dT cf l a m b)).map f) a (dT cf l a m b) ((a+b) / 2) else (oD l m (dT cf l a m b) ((a+b) / 2+m - dT cf l a m b)).map f)=
   (if a<dT cf l a m b/\dT cf l a m b<(a+b) / 2 then nC cf (oD l m (dT cf l a m b) ((a+b) / 2+m - dT cf l a m b)) a (dT cf l a m b) ((a+b) / 2) else oD l m (dT cf l a m b) ((a+b) / 2+m - dT cf l a m b)).map f:=by
   split
   ·exact ih _ _ _ _ (by omega)
   ·rfl
  rw [h2]
  split
  ·exact ih _ _ _ _ (by omega)
  ·rfl
theorem YB (l:List α)(a n:Nat):Pm cg (l.map f) a n=(Pm cf l a n).map f:=by
 fun_induction Pm cf l a n with
 | case1 l a h ih=>rw [Pm,if_pos h,qh,zH hd hc];exact ih
 | case2 l a h=>rw [Pm,if_neg h,qh,zH hd hc];rfl
theorem Ya (s:Nat)(l:List α)(a n:Nat):OX cg s (l.map f) a n=(OX cf s l a n).map f:=by
 fun_induction OX cf s l a n with
 | case1 l a h ih=>rw [OX,if_pos h,Hq hd hc _ _ _ _ _ (Nat.le_refl _)];exact ih
 | case2 l a h h2=>rw [OX,if_neg h,if_pos h2,Hq hd hc _ _ _ _ _ (Nat.le_refl _)]
 | case3 l a h h2=>rw [OX,if_neg h,if_neg h2]
theorem Yb (s:Nat)(l:List α)(n:Nat):P3 cg s (l.map f) n=(P3 cf s l n).map f:=by
 fun_induction P3 cf s l n with
 | case1 s l h ih=>rw [P3,if_pos h,Ya hd hc];exact ih
 | case2 s l h=>rw [P3,if_neg h]
theorem vV (l:List α):fk cg (l.map f)=(fk cf l).map f:=by
 unfold fk
 rw [List.length_map,YB hd hc,Yb hd hc]
end
def Sj (l:List V):List Value:=l.flatMap V.cs
theorem Lb:∀ (l:List V),(Sj l).length=l.length*3
 | []=>rfl
 | e::l=>by
  have:=Lb l
  simp only [Sj,List.flatMap_cons,List.length_append,List.length_cons,V.cs,List.length_nil] at this ⊢
  omega
theorem Lc:∀ {l:List V} {i:Nat} (k n:Int) (t:Bs) (h:i<l.length),(((Sj l).set (i*3) (.int .i64 k)).set (i*3+1) (.int .i64 n)).set (i*3+2) (.string (bs t))=Sj (l.set i ⟨k,n,t⟩)
 | e::l,0,_,_,_,_=>rfl
 | e::l,i+1,k,n,t,h=>by
  have:=Lc (l:=l) (i:=i) k n t (by simpa using h)
  have h1:(i+1)*3=i*3+3:=by omega
  have h2:(i+1)*3+1=(i*3+1)+3:=by omega
  have h3:(i+1)*3+2=(i*3+2)+3:=by omega
  rw [h3,h2,h1]
  simpa [Sj,V.cs] using this
theorem FJ:∀ (n:Nat),((List.range n).flatMap fun _=>[.int .i64 0,.int .i64 0,.string (bs [])])=Sj (List.replicate n ⟨0,0,[]⟩)
 | 0=>rfl
 | n+1=>by
  rw [List.range_succ,List.flatMap_append,FJ n,List.replicate_succ']
  simp [Sj,V.cs,st]
theorem Qi:∀ (l:List V),RL RV l (Sj l)
 | []=>rfl
 | e::l=>⟨e.cs,Sj l,rfl,rfl,Qi l⟩
def ss {α:Type}{l m:List α}{i:Nat}{x:α}(h:l.take i=m.take i)(hi:i<l.length)(hx:m[i]?=some x):(l.set i x).take (i+1)=m.take (i+1):=by
 rw [List.take_add_one,List.take_add_one,List.take_set_of_le (Nat.le_refl _),h]
 simp [hi,hx]
variable {M:aR}
def KU {r:List V}{rv:Value}(hr:RS M RV 3 r rv)(bu:r.length<=4294967296)(T:Tm):bU Tryz.prog 172 [rv] T M [] [] (fun v M' _ _=>RS M' RV 3 (r.map bQ) v) aM:=by
 obtain ⟨fp,a,c,rfl,cX,_,hg⟩:=ax (by decide) (fun _ _=>eK) hr
 refine az aiE rfl rfl ?_
 intro bj _
 simp +contextual only [go_sem,aD,sevalprocAttr,bu]
 intro b8 pp
 rw [FJ]
 refine aO r.length 11 [(3,.slice (some ⟨b8,0,none⟩) r.length r.length),(9,.slice a r.length c),(10,.int .i64 (r.length:Int))] (fun i e h=>∃ N' l',aG T N'/\h=⟨N',M,[(b8,Sj l')],[]⟩/\l'.length=r.length/\l'.take i=(r.map bQ).take i) 0 (by omega) (by simp only [aE,go_sem,sevalprocAttr]) (by simp only [go_sem,sevalprocAttr]) ⟨T,_,aG.rfl',rfl,by simp,by simp⟩ ?_
 rintro i e h hi aI ht ⟨T1,l',cY,rfl,jL,uu⟩
 simp only [aE] at aI
 by_cases aL:i<r.length
 ·obtain ⟨b',o',cs',rfl,bP,eh⟩:=hg i r[i] (gq aL)
  unfold RV V.cs at eh;subst eh
  obtain ⟨y0,y1,y2,_⟩:=bP
  simp +contextual only [go_sem,aD,sevalprocAttr,aI,ht,aL,y0,y1,y2]
  intro b5 T5 jz eg ko nq
  refine aP (l7 r[i] _) ?_
  have uo:i*3+3<=(Sj l').length:=by rw [Lb];omega
  simp +contextual only [go_sem,sevalprocAttr,ht,aL,eg,uo]
  refine aS (al (aC ⟨r.length - (i+1),by omega,rfl,i+1,by omega,rfl,?_,?_,T5,l'.set i (bQ r[i]),cY.trans ko,?_,by simpa using jL,?_⟩))
  ·simp only [aE,aI,go_sem,sevalprocAttr]
  ·simp only [go_sem,sevalprocAttr,aA i (by omega)]
  ·rw [Lc _ _ _ (by omega)]
  ·exact ss uu (by omega) (by simp [aL])
 ·have:i=r.length:=by omega
  subst this
  simp +contextual only [go_sem,aD,sevalprocAttr,aI,ht,aL]
  rw [List.take_of_length_le (by omega),List.take_of_length_le (by simp)] at uu
  subst uu
  refine aU fun he hk aZ=>ak cY ?_
  exact dE (fun _ _=>eK) hk (Qi _) jL (by omega)
instance:Inhabited V:=⟨⟨0,0,[]⟩⟩
instance:Inhabited Z:=⟨⟨[],0⟩⟩
def fG (z:Z):Z:=⟨z.row.map bQ,z.w⟩
def PP (x y:Z):Int:=cC x.row y.row
def pf (x:Z):List Z:=if x.w=0 then [] else [x]
def fV (x:Z):List Z ->List Z
 | []=>pf x
 | y::l=>if cC y.row x.row=0 then fV ⟨x.row,IntKind.i64.wrap (x.w+y.w)⟩ l else pf x++fV y l
def o4:List Z ->List Z
 | []=>[]
 | x::l=>fV x l
def dZ (l:List Z):List Z:=o4 (fk PP (l.map fG))
def ij (e:Z×Value):PV:=(e.2,.int .i64 e.1.w)
def Ze (x:Z):List Z ->Bool
 | y::_=>decide (cC y.row x.row=0)
 | []=>false
def Gt {x:Z}{l:List Z}(h:∀ y r,l=y::r ->cC y.row x.row≠0):fV x l=pf x++o4 l:=by
 cases l with
 | nil=>simp [fV,o4]
 | cons y r=>rw [fV,if_neg (h y r rfl),o4]
theorem FK:∀ (n:Nat),((List.range n).flatMap fun _=>[Value.slice none 0 0,.int .i64 0])=fl ij (List.replicate n (⟨[],0⟩,.slice none 0 0))
 | 0=>rfl
 | n+1=>by
  rw [List.range_succ,List.flatMap_append,FK n,List.replicate_succ']
  simp [fl,ij]
theorem gh {M:aR}{z:Z}{cs:List Value}(h:RZ M z cs):∀ u∈cs,u.oneCell'=true:=by
 obtain ⟨s,h1,rfl⟩:=h
 have:=(dy h1).1
 intro u hu
 simp only [mn] at hu
 rcases hu with rfl | rfl<;>first | exact this | rfl
def aba {α:Type}{enc:α ->PV}{l:List α}{i:Nat}(x:α)(h:i<l.length):((fl enc l).set (i*2) (enc x).1).set (i*2+1) (enc x).2=fl enc (l.set i x):=by
 have:=ub (enc:=enc) [] x h
 simpa using this
def Le {α:Type}{enc:α ->PV}{l:List α}{i:Nat}(h:i<l.length):(fl enc l)[i*2]?=some (enc l[i]).1:=by
 have:=ej (enc:=enc) [] h
 simpa using this
def Lf {α:Type}{enc:α ->PV}{l:List α}{i:Nat}(h:i<l.length):(fl enc l)[i*2+1]?=some (enc l[i]).2:=by
 have:=ek (enc:=enc) [] h
 simpa using this
def dH {M:aR}{r:List V}{v:Value}(h:RS M RV 3 r v):∃ a c,v=.slice a r.length c:=by
 obtain ⟨_,a,c,h,_⟩:=ax (by decide) (fun _ _=>eK) h;exact ⟨a,c,h⟩
variable {M:aR}
theorem NJ {a b:List V}{av bv:Value}{m n:Int}(ha:RS M RV 3 a av)(hb:RS M RV 3 b bv)(T:Tm):bU Tryz.prog 209 [.agg ⟨[av,.int .i64 m]⟩,.agg ⟨[bv,.int .i64 n]⟩] T M [] [] (fun r _ _ _=>r=.int .i64 (cC a b)) aM:=by
 have h1:=(dy ha).1
 have h2:=(dy hb).1
 refine az aef rfl rfl ?_
 intro bj _
 simp +contextual only [go_sem,sevalprocAttr]
 intro b1 T1 fO cY gu b2 T2 dO fz dA ef
 refine aP (pV ha hb _) ?_
 simp +contextual only [go_sem,sevalprocAttr]
 exact ak (cY.trans dA) rfl
theorem ajG:CmpOk M ij 209 [] (fun x y=>PP x.1 y.1) (fun e=>RS M RV 3 e.1.row e.2) where
 bod:=aef.bd
 one:=fun x hx=>⟨(dy hx).1,rfl⟩
 call:=fun x y hx hy T=>NJ hx hy T
def NY {fi fs fr fm ft fo:FuncId}(hs:SF fi fs fr fm ft fo){α:Type}[Inhabited α]{enc:α ->PV}{g:FuncId}{caps:List Value}{cf:α ->α ->Int}{ok:α ->Prop}(hc:CmpOk M enc g caps cf ok){db n:Nat}{l:List α}(hl:l.length=n)(ce:∀ e∈l,ok e)(hn:n<=4294967296)(T:Tm):
 bU Tryz.prog fo [.slice (some ⟨db,0,none⟩) n n,.func (.func g) #[] ⟨caps⟩] T M [(db,fl enc l)] [] (fun r M' L' R'=>r=.tuple #[]/\M'=M/\L'=[(db,fl enc (fk cf l))]/\R'=[]) aM:=by
 have:=yR hs (junk:=[]) (db:=db) hc hl (Nat.le_refl _) ce hn T
 simpa only [List.append_nil] using this
def yK {l:List Z}{lv:Value}(hl:RS M (RZ M) 2 l lv)(bu:l.length<=4294967296)(bN:∀ z∈l,z.row.length<=4294967296)(T:Tm):bU Tryz.prog 149 [lv] T M [] [] (fun v M' _ _=>RS M' (RZ M') 2 (dZ l) v) aM:=by
 obtain ⟨fp,a,c,rfl,cX,_,hg⟩:=ax (by decide) (fun _ _=>bi) hl
 obtain ⟨S,hS⟩:∃ S,S=dZ l:=⟨_,rfl⟩
 rw [<- hS]
 unfold dZ at hS
 refine az ad6 rfl rfl ?_
 intro bj _
 simp +contextual only [go_sem,aD,sevalprocAttr,bu]
 intro b3 gK
 rw [FK]
 refine aO l.length 14 [(3,.slice (some ⟨b3,0,none⟩) l.length l.length),(12,.slice a l.length c),(13,.int .i64 (l.length:Int))] (fun i e h=>∃ N' M' zs,aG T N'/\bm M M'/\M' b3=none/\h=⟨N',M',[(b3,fl ij zs)],[]⟩/\zs.length=l.length/\(zs.map Prod.fst).take i=(l.map fG).take i/\∀ e∈zs,RS M' RV 3 e.1.row e.2) 0 (by omega) (by simp only [aE,go_sem,sevalprocAttr]) (by simp only [go_sem,sevalprocAttr]) ⟨T,M,_,aG.rfl',bm.rfl',gK,rfl,by simp,by simp,by intro e he;rw [List.eq_of_mem_replicate he];exact bz⟩ ?_
 rintro i e h hi aI ht ⟨T1,M1,zs,cY,aW,Je,rfl,pD,uu,ce⟩
 simp only [aE] at aI
 by_cases aL:i<l.length
 ·obtain ⟨b',o',cs',rfl,bP,s,cH,rfl⟩:=hg i l[i] (gq aL)
  obtain ⟨y0,y1,_⟩:=bP.ext aW
  have iQ:=(dy cH).1
  simp +contextual only [go_sem,aD,sevalprocAttr,aI,ht,aL,y0,y1,iQ]
  intro b5 T5 jz eg ko nq
  refine aT ?_
  simp +contextual only [go_sem,sevalprocAttr,aI,aB jz]
  refine aF (KU (jW aW cH) (bN _ (gm aL)) _) ?_
  rintro v M2 bh aZ hv
  simp only [aJ] at aZ
  have uo:i*2+2<=(fl ij zs).length:=by rw [ee];omega
  obtain ⟨va,vc,rfl⟩:=dH hv
  simp +contextual only [go_sem,sevalprocAttr,ht,aL,eg,uo]
  refine ⟨dL bh ⟨aZ.1,aZ.2.1,trivial⟩,?_⟩
  refine aS (al (aC ⟨l.length - (i+1),by omega,rfl,i+1,by omega,rfl,?_,?_,T5,M2,zs.set i (fG l[i],.slice va (l[i].row.map bQ).length vc),cY.trans ko,aW.trans bh,aZ.2.1,?_,by simpa using pD,?_,?_⟩))
  ·simp only [aE,aI,go_sem,sevalprocAttr]
  ·simp only [go_sem,sevalprocAttr,aA i (by omega)]
  ·have:=aba (enc:=ij) (l:=zs) (i:=i) (fG l[i],.slice va (l[i].row.map bQ).length vc) (by omega)
   rw [<- this];rfl
  ·rw [List.map_set]
   exact ss uu (by simp;omega) (by simp [aL])
  ·intro e he
   rcases List.mem_or_eq_of_mem_set he with he | rfl
   ·exact jW bh (ce e he)
   ·exact hv
 have:i=l.length:=by omega
 subst this
 rw [List.take_of_length_le (by simp [pD]),List.take_of_length_le (by simp)] at uu
 simp +contextual only [go_sem,aD,sevalprocAttr,aI,ht,aL]
 refine iI (NY .z ajG pD ce (by omega) _) ?_
 obtain ⟨zt,LH⟩:∃ zt,zt=fk (fun x y=>PP x.1 y.1) zs:=⟨_,rfl⟩
 have lA:=gy (fun x y:Z×Value=>PP x.1 y.1) zs
 rw [<- LH] at lA
 have hm:zt.map Prod.fst=fk PP (l.map fG):=by rw [LH,<- uu];exact (vV (f:=Prod.fst) rfl (fun _ _=>rfl) zs).symm
 rw [<- hm] at hS
 have ztl:zt.length=l.length:=lA.1.trans pD
 have ztok:=lA.2 _ ce
 rw [<- LH]
 simp +contextual only [go_sem,aD,sevalprocAttr]
 refine iU [(3,.slice (some ⟨b3,0,none⟩) l.length l.length)] (fun k e h=>∃ i N' R' fv acc,e 7=.int .i64 ((i:Nat):Int)/\e 6=fv/\aG T N'/\h=⟨N',M1,[(b3,fl ij zt)],R'⟩/\kY 37 2 (RZ M1) [] R' fv acc/\acc.length<=i/\i<=l.length/\k=l.length - i/\S=acc++o4 ((zt.map Prod.fst).drop i)) l.length (by simp only [aE,aI,go_sem,sevalprocAttr]) ⟨0,T1,[],_,[],by simp only [go_sem,sevalprocAttr],by simp only [go_sem,sevalprocAttr],cY,rfl,cV,by simp,by omega,rfl,hS⟩ ?_
 rintro k e h aI ⟨i,N2,R2,fv,acc,e7,e6,I9,rfl,bq,js,Jl,rfl,am⟩
 simp only [aE] at aI
 by_cases aL:i<l.length
 rotate_left
 ·rw [List.drop_eq_nil_of_le (by simp;omega),o4,List.append_nil] at am
  simp +contextual only [go_sem,aD,sevalprocAttr,aI,e7,e6,aL]
  subst e6
  refine ct bq (by omega) (by decide) ⟨Je,trivial⟩ fun M2 bh aZ cH=>ak I9 ?_
  rw [am]
  exact aH bm.rfl' (eU bh) cH
 have hiz:i<zt.length:=by omega
 have c0:=Le (enc:=ij) hiz
 have c1:=Lf (enc:=ij) hiz
 obtain ⟨⟨x,xv⟩,hx⟩:∃ p,p=zt[i]:=⟨_,rfl⟩
 have VV:RS M1 RV 3 x.row xv:=by have:=ztok _ (gm hiz);rw [<- hx] at this;exact this
 rw [<- hx] at c0 c1
 simp only [ij] at c0 c1
 have hmd:(zt.map Prod.fst).drop i=x::(zt.map Prod.fst).drop (i+1):=by
  rw [dq (by simpa using hiz)];simp [<- hx]
 rw [hmd,o4] at am
 obtain ⟨xa,xc,rfl⟩:=dH VV
 simp +contextual only [go_sem,aD,sevalprocAttr,aI,e7,aL,aB Je,c0,c1]
 intro b8 T8 pp eC nE sP
 refine iU [(3,.slice (some ⟨b3,0,none⟩) l.length l.length),(6,fv),(8,.pointer (some ⟨b8,0,none⟩))] (fun k e h=>∃ q y yv,e 7=.int .i64 ((q:Nat):Int)/\h=⟨T8,M1,[(b8,[yv,.int .i64 y.w]),(b3,fl ij zt)],R2⟩/\RS M1 RV 3 y.row yv/\i<q/\q<=l.length/\k=l.length - q/\S=acc++fV y ((zt.map Prod.fst).drop q)) (l.length - (i+1)) (by simp only [aE,aI,e6,go_sem,sevalprocAttr]) ⟨i+1,x,_,by simp only [go_sem,sevalprocAttr,aA i (by omega)],rfl,VV,by omega,by omega,rfl,am⟩ ?_
 clear am hx hmd c0 c1 aI e7 e6
 rintro k e h aI ⟨q,y,yv,e7,rfl,hyr,hiq,hql,rfl,am⟩
 simp only [aE] at aI
 obtain ⟨ya,yc,rfl⟩:=dH hyr
 simp +contextual only [go_sem,sevalprocAttr]
 refine l8 (fun e ds h=>ds=[]/\aE e [(3,.slice (some ⟨b3,0,none⟩) l.length l.length),(6,fv),(8,.pointer (some ⟨b8,0,none⟩)),(7,.int .i64 ((q:Nat):Int))]/\e 55=.bool (Ze y ((zt.map Prod.fst).drop q))/\h=⟨T8,M1,[(b8,[.slice ya y.row.length yc,.int .i64 y.w]),(b3,fl ij zt)],R2⟩) (fun S' fh=> ?_) ?_
 ·refine aT ?_
  by_cases hq:q<l.length
  ·have hqz:q<zt.length:=by omega
   have c0:=Le (enc:=ij) hqz
   have hz:=ztok _ (gm hqz)
   have B9:Ze y ((zt.map Prod.fst).drop q)=decide (cC zt[q].1.row y.row=0):=by
    rw [dq (by simpa using hqz)];simp [Ze]
   simp only [ij] at c0
   simp +contextual only [go_sem,sevalprocAttr,aI,e7,hq,aB Je,aB pp,eC,c0]
   refine aP (pV hz hyr _) ?_
   simp +contextual only [go_sem,sevalprocAttr]
   exact fh _ _ _ ⟨rfl,by simp only [aE,go_sem,sevalprocAttr,aI,e7],by simp only [go_sem,sevalprocAttr,B9],rfl⟩
  ·have B9:Ze y ((zt.map Prod.fst).drop q)=false:=by
    rw [List.drop_eq_nil_of_le (by simp;omega)];rfl
   simp +contextual only [go_sem,sevalprocAttr,aI,e7,hq]
   exact fh _ _ _ ⟨rfl,by simp only [aE,go_sem,sevalprocAttr,aI,e7],by simp only [go_sem,sevalprocAttr,B9],rfl⟩
 clear aI e7
 rintro e ds h ⟨rfl,aI,e55,rfl⟩
 simp only [aE] at aI
 cases B9:Ze y ((zt.map Prod.fst).drop q) with
 | true=>
  obtain ⟨z,r,H5⟩:∃ z r,(zt.map Prod.fst).drop q=z::r:=by
   cases hd:(zt.map Prod.fst).drop q with
   | nil=>rw [hd] at B9;cases B9
   | cons z r=>exact ⟨z,r,rfl⟩
  have hqz:q<zt.length:=by
   have:=congrArg List.length H5
   simp only [List.length_drop,List.length_map,List.length_cons] at this
   omega
  have hdq:(zt.map Prod.fst).drop q=zt[q].1::(zt.map Prod.fst).drop (q+1):=by
   rw [dq (by simpa using hqz)];simp
  rw [hdq] at B9 am
  simp only [Ze,decide_eq_true_eq] at B9
  rw [fV,if_pos B9] at am
  have hql:q<l.length:=by omega
  have c1:=Lf (enc:=ij) hqz
  simp only [ij] at c1
  rw [hdq] at e55
  simp only [Ze,B9,decide_true] at e55
  simp +contextual only [go_sem,aD,sevalprocAttr,e55]
  refine aT ?_
  simp +contextual only [go_sem,sevalprocAttr,aI,hql,aB Je,aB pp,eC,c1]
  exact oZ (m':=l.length - (q+1)) (by omega) (by simp only [aE,go_sem,sevalprocAttr,aI]) ⟨q+1,⟨y.row,IntKind.i64.wrap (y.w+zt[q].1.w)⟩,_,by simp only [go_sem,sevalprocAttr,aA q (by omega)],rfl,hyr,by omega,by omega,rfl,am⟩
 | false=>
  have hmg:fV y ((zt.map Prod.fst).drop q)=pf y++o4 ((zt.map Prod.fst).drop q):=Gt (by
   intro z r hz
   rw [hz] at B9
   simpa [Ze] using B9)
  rw [hmg] at am
  rw [B9] at e55
  simp +contextual only [go_sem,aD,sevalprocAttr,aI,e55,aB pp]
  by_cases hw:y.w=0
  ·rw [pf,if_pos hw,List.nil_append] at am
   rw [if_pos hw]
   exact aS (al (aC ⟨l.length - q,by omega,rfl,by simp only [aE,go_sem,sevalprocAttr,aI],q,T8,R2,fv,acc,by simp only [go_sem,sevalprocAttr,aI],by simp only [go_sem,sevalprocAttr,aI],I9.trans nE,rfl,bq,by omega,hql,rfl,am⟩))
  ·rw [pf,if_neg hw,<- List.append_assoc] at am
   rw [if_neg hw]
   intro b9 qY gY
   refine cB (Tryz.underlying32) ix iw (x:=y) (cs:=[.slice ya y.row.length yc,.int .i64 y.w]) bq ⟨_,hyr,rfl⟩ (fun _ _=>bi) (gh ⟨_,hyr,rfl⟩) qY (by omega) (by decide) ?_
   intro fv' R' bw
   simp +contextual only [go_sem,sevalprocAttr]
   exact aS (al (al (aC ⟨l.length - q,by omega,rfl,by simp only [aE,go_sem,sevalprocAttr,aI],q,T8,R',fv',acc++[y],by simp only [go_sem,sevalprocAttr,aI],by simp only [go_sem,sevalprocAttr],I9.trans nE,rfl,bw,by rw [List.length_append];simp only [ln];omega,hql,rfl,am⟩)))
theorem WI {M:aR}(n:Nat)(hn:n<=1073741824)(T:Tm):
 PN Tryz.prog 232 [.slice none 0 0,.int .i64 (n:Nat)] T M [] [] 1 (fun v _ _ R'=>∃ a c,v=.slice a 0 c/\R'=[(v,3,1,[])]) aM:=by
 refine l6 aje rfl rfl ?_
 intro bj _
 have h0:¬ ((n:Int)<0):=by omega
 by_cases hz:n=0
 ·subst hz
  simp +contextual only [go_sem,aD,sevalprocAttr, -Int.reduceAdd, -Int.reduceSub, -Int.reduceMul]
  exact eF (aQ aG.rfl' rfl rfl ⟨none,0,rfl,rfl⟩)
 ·have hp:0<n:=by omega
  have EC:(0:Int)<(n:Int):=by omega
  have hw:IntKind.i64.wrap (n:Int)=(n:Int):=bJ (by omega) (by omega)
  have Jw:IntKind.i64.wrap (0 - 0)=0:=by decide
  have EF:IntKind.i64.wrap ((n:Int) - IntKind.i64.wrap (0 - 0))=(n:Int):=by rw [Jw,Int.sub_zero];exact hw
  have xg:kG none 0 0 1=none:=rfl
  simp +contextual only [go_sem,aD,sevalprocAttr, -Int.reduceAdd, -Int.reduceSub, -Int.reduceMul,h0]
  rw [EF,if_pos EC,xg]
  refine yt (ik:=.i64) kB kA Tryz.underlying3 hp (by omega) ?_
  intro a c zs pD cX
  simp +contextual only [go_sem,sevalprocAttr, -Int.reduceAdd, -Int.reduceSub, -Int.reduceMul]
  have Zo:kG a c 0 1=a:=by
   unfold kG
   cases a<;>simp [Addr.add]
  rw [Zo]
  exact oG (by decide) (aQ aG.rfl' rfl rfl ⟨a,c,rfl,rfl⟩)
def Ny {M:aR}{l:List Int}{lv:Value}(hl:RS M RI 1 l lv)(bu:l.length<=16777216)(T:Tm):
 bU Tryz.prog 145 [lv] T M [] [] (fun v M' _ _=>RS M' RI 1 l v) aM:=by
 obtain ⟨fp,a,c,rfl,cX,wH,gl⟩:=ax (by decide) (fun _ _=>cE) hl
 refine az aim rfl rfl ?_
 intro bj _
 by_cases h0:l=[]
 ·subst h0
  cases a with
  | none=>
   cases wH rfl
   simp +contextual only [go_sem,aD,sevalprocAttr, -Int.reduceAdd, -Int.reduceSub, -Int.reduceMul]
   exact ak aG.rfl' bz
  | some p=>
   simp +contextual only [go_sem,aD,sevalprocAttr, -Int.reduceAdd, -Int.reduceSub, -Int.reduceMul]
   intro b hb
   refine pO kB kA (.slice p 0 c [] _ Tryz.underlying53 rfl (by simp)) (by omega) ?_
   simp +contextual only [go_sem,sevalprocAttr, -Int.reduceAdd, -Int.reduceSub, -Int.reduceMul]
   exact aU fun he dO aZ=>ak aG.rfl' (dE (fun _ _=>cE) dO (l:=[]) rfl rfl (by omega))
 ·obtain ⟨p,hp⟩:∃ p,a=some p:=by
   cases l with
   | nil=>exact (h0 rfl).elim
   | cons x l=>obtain ⟨b,o,cs,h,_⟩:=gl 0 x rfl;exact ⟨_,h⟩
  subst hp
  obtain ⟨ys,H4,xn,xl⟩:=gE (P:=Tryz.prog) Tryz.underlying53 (fun _ _=>cE) (fun _ _ h=>ja h) hl
  have dK:0<l.length:=List.length_pos_iff.2 h0
  simp +contextual only [go_sem,aD,sevalprocAttr, -Int.reduceAdd, -Int.reduceSub, -Int.reduceMul]
  intro b hb
  refine ld (n:=0) (xs:=[]) kB kA (xl _ _ _) rfl (by omega) (by simp only [List.length_nil];omega) ?_
  intro ra rm rc jl
  have jm:rm=l.length:=by simp only [List.length_nil] at jl;omega
  subst jm
  simp +contextual only [go_sem,sevalprocAttr, -Int.reduceAdd, -Int.reduceSub, -Int.reduceMul]
  refine al (cP (fun M2 bh aZ iR=>ak aG.rfl' ⟨fp,_,iR,xn⟩) (by decide))
def sH {M:aR}{ls:List (List Int)}{sv:Value}(hs:RS M (lZ M) 1 ls sv)(bu:ls.length<=64)(hl:∀ l∈ls,l.length<=16777216)(T:Tm):
 bU Tryz.prog 204 [sv] T M [] [] (fun v M' _ _=>RS M' RI 1 ls.flatten v) aM:=by
 obtain ⟨fp,a,c,rfl,cX,_,hg⟩:=ax (by decide) (fun _ _=>cQ) hs
 obtain ⟨B,hB⟩:∃ B:Nat,B=16777216:=⟨_,rfl⟩
 rw [<- hB] at hl
 have Gd:∀ i,(ls.take i).flatten.length<=i*B:=by
  intro i
  induction i with
  | zero=>simp
  | succ i ih=>
   rw [Nat.succ_mul]
   by_cases hi:i<ls.length
   ·rw [<- List.take_append_getElem hi,List.flatten_append,List.length_append]
    have:=hl ls[i] (gm hi)
    simp only [List.flatten_cons,List.flatten_nil,List.append_nil]
    omega
   ·rw [List.take_of_length_le (by omega)]
    rw [List.take_of_length_le (by omega)] at ih
    omega
 have mp:∀ i,i<=ls.length ->(ls.take i).flatten.length<=1073741824:=by
  intro i hi
  refine Nat.le_trans (Gd i) ?_
  rw [hB]
  exact Nat.le_trans (Nat.mul_le_mul_right _ (show i<=64 by omega)) (by decide)
 refine az V3 rfl rfl ?_
 intro bj _
 simp +contextual only [go_sem,aD,sevalprocAttr, -Int.reduceAdd, -Int.reduceSub, -Int.reduceMul]
 refine aO ls.length 11 [(0,.slice a ls.length c),(9,.slice a ls.length c),(10,.int .i64 (ls.length:Int))] (fun i e h=>h=⟨T,M,[],[]⟩/\e 3=.int .i64 ((ls.take i).flatten.length:Int)) 0 (by omega) (by simp only [aE,go_sem,sevalprocAttr, -Int.reduceAdd, -Int.reduceSub, -Int.reduceMul]) (by simp only [go_sem,sevalprocAttr, -Int.reduceAdd, -Int.reduceSub, -Int.reduceMul]) ⟨rfl,by simp only [go_sem,sevalprocAttr, -Int.reduceAdd, -Int.reduceSub, -Int.reduceMul];simp⟩ ?_
 rintro i e h hi aI ht ⟨rfl,e3⟩
 simp only [aE] at aI
 have VU:=mp i hi
 by_cases aL:i<ls.length
 ·obtain ⟨b',o',cs',rfl,bP,v,rfl,ns⟩:=hg i ls[i] (gq aL)
  obtain ⟨_,va,vc,rfl,_⟩:=ax (by decide) (fun _ _=>cE) ns
  have x0:=xC bP
  rw [Nat.mul_one] at x0
  have eP:(ls.take (i+1)).flatten.length=(ls.take i).flatten.length+ls[i].length:=by
   rw [<- List.take_append_getElem aL,List.flatten_append,List.length_append];simp
  have Gb:=mp (i+1) aL
  have hw:IntKind.i64.wrap (((ls.take i).flatten.length:Int)+(ls[i].length:Int))=((ls.take (i+1)).flatten.length:Int):=by
   have h1:((ls.take i).flatten.length:Int)+(ls[i].length:Int)=((ls.take (i+1)).flatten.length:Int):=by omega
   rw [h1,bJ (by omega) (by omega)]
  have ZF:¬ (((ls.take (i+1)).flatten.length:Int)<0):=by omega
  simp +contextual only [go_sem,aD,sevalprocAttr, -Int.reduceAdd, -Int.reduceSub, -Int.reduceMul,aI,ht,aL,x0,e3,hw,ZF]
  refine aS (aC ⟨ls.length - (i+1),by omega,rfl,i+1,by omega,rfl,?_,?_,rfl,?_⟩)
  ·simp only [aE,aI,go_sem,sevalprocAttr, -Int.reduceAdd, -Int.reduceSub, -Int.reduceMul]
  ·simp only [go_sem,sevalprocAttr, -Int.reduceAdd, -Int.reduceSub, -Int.reduceMul,aA i (by omega)]
  ·simp only [go_sem,sevalprocAttr, -Int.reduceAdd, -Int.reduceSub, -Int.reduceMul]
 ·have:i=ls.length:=by omega
  subst this
  rw [List.take_length] at e3 VU
  simp +contextual only [go_sem,aD,sevalprocAttr, -Int.reduceAdd, -Int.reduceSub, -Int.reduceMul,aI,ht,aL,e3]
  refine oq (WI ls.flatten.length VU T) ?_ (fun _ _ _ _ h=>h.elim)
  rintro v M2 row bh aZ ⟨ga,gc,rfl,bN⟩
  simp only [List.cons.injEq,and_true] at bN
  subst bN
  simp +contextual only [go_sem,aD,sevalprocAttr, -Int.reduceAdd, -Int.reduceSub, -Int.reduceMul,aI]
  refine aO ls.length 27 [(0,.slice a ls.length c),(25,.slice a ls.length c),(26,.int .i64 (ls.length:Int))] (fun i e h=>∃ R fv,h=⟨T,M2,[],R⟩/\e 6=fv/\kY 3 1 RI [] R fv (ls.take i).flatten) 0 (by omega) (by simp only [aE,aI,go_sem,sevalprocAttr, -Int.reduceAdd, -Int.reduceSub, -Int.reduceMul]) (by simp only [go_sem,sevalprocAttr, -Int.reduceAdd, -Int.reduceSub, -Int.reduceMul]) ⟨[(.slice ga 0 gc,3,1,[])],.slice ga 0 gc,rfl,by simp only [go_sem,sevalprocAttr, -Int.reduceAdd, -Int.reduceSub, -Int.reduceMul],by rw [List.take_zero];exact .inr ⟨ga,gc,[],rfl,rfl,rfl⟩⟩ ?_
  clear aI ht e3 aL hi e
  rintro i e h hi aI ht ⟨R1,fv,rfl,e6,bq⟩
  simp only [aE] at aI
  have S1:=mp i hi
  by_cases aL:i<ls.length
  ·obtain ⟨b',o',cs',rfl,bP,v,rfl,ns⟩:=hg i ls[i] (gq aL)
   obtain ⟨_,va,vc,rfl,_⟩:=ax (by decide) (fun _ _=>cE) ns
   have x0:=xC (bP.ext bh)
   rw [Nat.mul_one] at x0
   have eP:(ls.take (i+1)).flatten=(ls.take i).flatten++ls[i]:=by
    rw [<- List.take_append_getElem aL,List.flatten_append];simp
   have Gb:=mp (i+1) aL
   obtain ⟨ys,H4,xn,xl⟩:=gE (P:=Tryz.prog) Tryz.underlying53 (fun _ _=>cE) (fun _ _ h=>ja h) (aH bh (fun _ _ h=>h) ns)
   simp +contextual only [go_sem,aD,sevalprocAttr, -Int.reduceAdd, -Int.reduceSub, -Int.reduceMul,aI,ht,aL,x0,e6]
   refine pN kB kA bq xn (fun _=>xl _ _ _) (fun _ _=>cE) (by rw [eP,List.length_append] at Gb;omega) (by decide) ?_
   intro fv' R' bw
   rw [<- eP] at bw
   simp +contextual only [go_sem,sevalprocAttr, -Int.reduceAdd, -Int.reduceSub, -Int.reduceMul,ht]
   refine aS (aC ⟨ls.length - (i+1),by omega,rfl,i+1,by omega,rfl,?_,?_,R',fv',rfl,?_,bw⟩)
   ·simp only [aE,aI,go_sem,sevalprocAttr, -Int.reduceAdd, -Int.reduceSub, -Int.reduceMul]
   ·simp only [go_sem,sevalprocAttr, -Int.reduceAdd, -Int.reduceSub, -Int.reduceMul,aA i (by omega)]
   ·simp only [go_sem,sevalprocAttr, -Int.reduceAdd, -Int.reduceSub, -Int.reduceMul]
  ·have:i=ls.length:=by omega
   subst this
   rw [List.take_length] at bq S1
   simp +contextual only [go_sem,aD,sevalprocAttr, -Int.reduceAdd, -Int.reduceSub, -Int.reduceMul,aI,ht,aL,e6]
   exact ct bq (by omega) (by decide) aZ fun M3 bG bC cH=>ak aG.rfl' cH
theorem xG {v:V}{cs:List Value}(h:RV v cs):∀ u∈cs,u.oneCell'=true:=by
 unfold RV V.cs at h;subst h
 intro u hu
 simp only [mn] at hu
 rcases hu with rfl | rfl | rfl<;>rfl
theorem Q7 {M:aR}(n:Nat)(hn:n<=1073741824)(T:Tm):
 PN Tryz.prog 211 [.slice none 0 0,.int .i64 (n:Nat)] T M [] [] 1 (fun v _ _ R'=>∃ a c,v=.slice a 0 c/\R'=[(v,37,2,[])]) aM:=by
 refine l6 ai3 rfl rfl ?_
 intro bj _
 have h0:¬ ((n:Int)<0):=by omega
 by_cases hz:n=0
 ·subst hz
  simp +contextual only [go_sem,aD,sevalprocAttr, -Int.reduceAdd, -Int.reduceSub, -Int.reduceMul]
  exact eF (aQ aG.rfl' rfl rfl ⟨none,0,rfl,rfl⟩)
 ·have hp:0<n:=by omega
  have EC:(0:Int)<(n:Int):=by omega
  have hw:IntKind.i64.wrap (n:Int)=(n:Int):=bJ (by omega) (by omega)
  have Jw:IntKind.i64.wrap (0 - 0)=0:=by decide
  have EF:IntKind.i64.wrap ((n:Int) - IntKind.i64.wrap (0 - 0))=(n:Int):=by rw [Jw,Int.sub_zero];exact hw
  have xg:kG none 0 0 2=none:=rfl
  simp +contextual only [go_sem,aD,sevalprocAttr, -Int.reduceAdd, -Int.reduceSub, -Int.reduceMul,h0]
  rw [EF,if_pos EC,xg]
  refine yt (ik:=.i64) ix iw Tryz.underlying3 hp (by omega) ?_
  intro a c zs pD cX
  simp +contextual only [go_sem,sevalprocAttr, -Int.reduceAdd, -Int.reduceSub, -Int.reduceMul]
  have Zo:kG a c 0 2=a:=by
   unfold kG
   cases a<;>simp [Addr.add]
  rw [Zo]
  exact oG (by decide) (aQ aG.rfl' rfl rfl ⟨a,c,rfl,rfl⟩)
def yH {M:aR}{ls:List (List Z)}{sv:Value}(hs:RS M (fun l cs=>∃ v,cs=[v]/\RS M (RZ M) 2 l v) 1 ls sv)(bu:ls.length<=64)(hl:∀ l∈ls,l.length<=16777216)(T:Tm):
 bU Tryz.prog 151 [sv] T M [] [] (fun v M' _ _=>RS M' (RZ M') 2 ls.flatten v) aM:=by
 obtain ⟨fp,a,c,rfl,cX,_,hg⟩:=ax (by decide) (by rintro _ _ ⟨_,rfl,_⟩;rfl) hs
 obtain ⟨B,hB⟩:∃ B:Nat,B=16777216:=⟨_,rfl⟩
 rw [<- hB] at hl
 have Gd:∀ i,(ls.take i).flatten.length<=i*B:=by
  intro i
  induction i with
  | zero=>simp
  | succ i ih=>
   rw [Nat.succ_mul]
   by_cases hi:i<ls.length
   ·rw [<- List.take_append_getElem hi,List.flatten_append,List.length_append]
    have:=hl ls[i] (gm hi)
    simp only [List.flatten_cons,List.flatten_nil,List.append_nil]
    omega
   ·rw [List.take_of_length_le (by omega)]
    rw [List.take_of_length_le (by omega)] at ih
    omega
 have mp:∀ i,i<=ls.length ->(ls.take i).flatten.length<=1073741824:=by
  intro i hi
  refine Nat.le_trans (Gd i) ?_
  rw [hB]
  exact Nat.le_trans (Nat.mul_le_mul_right _ (show i<=64 by omega)) (by decide)
 refine az ad7 rfl rfl ?_
 intro bj _
 simp +contextual only [go_sem,aD,sevalprocAttr, -Int.reduceAdd, -Int.reduceSub, -Int.reduceMul]
 refine aO ls.length 11 [(0,.slice a ls.length c),(9,.slice a ls.length c),(10,.int .i64 (ls.length:Int))] (fun i e h=>h=⟨T,M,[],[]⟩/\e 3=.int .i64 ((ls.take i).flatten.length:Int)) 0 (by omega) (by simp only [aE,go_sem,sevalprocAttr, -Int.reduceAdd, -Int.reduceSub, -Int.reduceMul]) (by simp only [go_sem,sevalprocAttr, -Int.reduceAdd, -Int.reduceSub, -Int.reduceMul]) ⟨rfl,by simp only [go_sem,sevalprocAttr, -Int.reduceAdd, -Int.reduceSub, -Int.reduceMul];simp⟩ ?_
 rintro i e h hi aI ht ⟨rfl,e3⟩
 simp only [aE] at aI
 have VU:=mp i hi
 by_cases aL:i<ls.length
 ·obtain ⟨b',o',cs',rfl,bP,v,rfl,ns⟩:=hg i ls[i] (gq aL)
  obtain ⟨_,va,vc,rfl,_⟩:=ax (by decide) (fun _ _=>bi) ns
  have x0:=xC bP
  rw [Nat.mul_one] at x0
  have eP:(ls.take (i+1)).flatten.length=(ls.take i).flatten.length+ls[i].length:=by
   rw [<- List.take_append_getElem aL,List.flatten_append,List.length_append];simp
  have Gb:=mp (i+1) aL
  have hw:IntKind.i64.wrap (((ls.take i).flatten.length:Int)+(ls[i].length:Int))=((ls.take (i+1)).flatten.length:Int):=by
   have h1:((ls.take i).flatten.length:Int)+(ls[i].length:Int)=((ls.take (i+1)).flatten.length:Int):=by omega
   rw [h1,bJ (by omega) (by omega)]
  have ZF:¬ (((ls.take (i+1)).flatten.length:Int)<0):=by omega
  simp +contextual only [go_sem,aD,sevalprocAttr, -Int.reduceAdd, -Int.reduceSub, -Int.reduceMul,aI,ht,aL,x0,e3,hw,ZF]
  refine aS (aC ⟨ls.length - (i+1),by omega,rfl,i+1,by omega,rfl,?_,?_,rfl,?_⟩)
  ·simp only [aE,aI,go_sem,sevalprocAttr, -Int.reduceAdd, -Int.reduceSub, -Int.reduceMul]
  ·simp only [go_sem,sevalprocAttr, -Int.reduceAdd, -Int.reduceSub, -Int.reduceMul,aA i (by omega)]
  ·simp only [go_sem,sevalprocAttr, -Int.reduceAdd, -Int.reduceSub, -Int.reduceMul]
 ·have:i=ls.length:=by omega
  subst this
  rw [List.take_length] at e3 VU
  simp +contextual only [go_sem,aD,sevalprocAttr, -Int.reduceAdd, -Int.reduceSub, -Int.reduceMul,aI,ht,aL,e3]
  refine oq (Q7 ls.flatten.length VU T) ?_ (fun _ _ _ _ h=>h.elim)
  rintro v M2 row bh aZ ⟨ga,gc,rfl,bN⟩
  simp only [List.cons.injEq,and_true] at bN
  subst bN
  simp +contextual only [go_sem,aD,sevalprocAttr, -Int.reduceAdd, -Int.reduceSub, -Int.reduceMul,aI]
  refine aO ls.length 27 [(0,.slice a ls.length c),(25,.slice a ls.length c),(26,.int .i64 (ls.length:Int))] (fun i e h=>∃ R fv,h=⟨T,M2,[],R⟩/\e 6=fv/\kY 37 2 (RZ M2) [] R fv (ls.take i).flatten) 0 (by omega) (by simp only [aE,aI,go_sem,sevalprocAttr, -Int.reduceAdd, -Int.reduceSub, -Int.reduceMul]) (by simp only [go_sem,sevalprocAttr, -Int.reduceAdd, -Int.reduceSub, -Int.reduceMul]) ⟨[(.slice ga 0 gc,37,2,[])],.slice ga 0 gc,rfl,by simp only [go_sem,sevalprocAttr, -Int.reduceAdd, -Int.reduceSub, -Int.reduceMul],by rw [List.take_zero];exact .inr ⟨ga,gc,[],rfl,rfl,rfl⟩⟩ ?_
  clear aI ht e3 aL hi e
  rintro i e h hi aI ht ⟨R1,fv,rfl,e6,bq⟩
  simp only [aE] at aI
  have S1:=mp i hi
  by_cases aL:i<ls.length
  ·obtain ⟨b',o',cs',rfl,bP,v,rfl,ns⟩:=hg i ls[i] (gq aL)
   obtain ⟨_,va,vc,rfl,_⟩:=ax (by decide) (fun _ _=>bi) ns
   have x0:=xC (bP.ext bh)
   rw [Nat.mul_one] at x0
   have eP:(ls.take (i+1)).flatten=(ls.take i).flatten++ls[i]:=by
    rw [<- List.take_append_getElem aL,List.flatten_append];simp
   have Gb:=mp (i+1) aL
   obtain ⟨ys,H4,xn,xl⟩:=gE (P:=Tryz.prog) Tryz.underlying32 (fun _ _=>bi) (fun _ _ h=>gh h) (aH bh (eU bh) ns)
   simp +contextual only [go_sem,aD,sevalprocAttr, -Int.reduceAdd, -Int.reduceSub, -Int.reduceMul,aI,ht,aL,x0,e6]
   refine pN ix iw bq xn (fun _=>xl _ _ _) (fun _ _=>bi) (by rw [eP,List.length_append] at Gb;omega) (by decide) ?_
   intro fv' R' bw
   rw [<- eP] at bw
   simp +contextual only [go_sem,sevalprocAttr, -Int.reduceAdd, -Int.reduceSub, -Int.reduceMul,ht]
   refine aS (aC ⟨ls.length - (i+1),by omega,rfl,i+1,by omega,rfl,?_,?_,R',fv',rfl,?_,bw⟩)
   ·simp only [aE,aI,go_sem,sevalprocAttr, -Int.reduceAdd, -Int.reduceSub, -Int.reduceMul]
   ·simp only [go_sem,sevalprocAttr, -Int.reduceAdd, -Int.reduceSub, -Int.reduceMul,aA i (by omega)]
   ·simp only [go_sem,sevalprocAttr, -Int.reduceAdd, -Int.reduceSub, -Int.reduceMul]
  ·have:i=ls.length:=by omega
   subst this
   rw [List.take_length] at bq S1
   simp +contextual only [go_sem,aD,sevalprocAttr, -Int.reduceAdd, -Int.reduceSub, -Int.reduceMul,aI,ht,aL,e6]
   exact ct bq (by omega) (by decide) aZ fun M3 bG bC cH=>ak aG.rfl' (aH bm.rfl' (eU bG) cH)
def DH (z:List Z):Int:=if z.any (fun x=> !gF x.w)=true then 3 else if 400<z.length then 5 else 0
def Xe (z:List Z):Except Int (List Z):=if DH z=0 then .ok z else .error (DH z)
def oC (l:List Z):Except Int (List Z):=Xe (dZ l)
def G5 (res:Except Int (List Z))(v:Value)(M:aR):Prop:=match res with
 | .ok z=>∃ s,v=.tuple ⟨[s,.int .i64 0]⟩/\RS M (RZ M) 2 z s
 | .error e=>e≠0/\v=.tuple ⟨[.slice none 0 0,.int .i64 e]⟩
variable {M:aR}
theorem WG {z:Z}{cs:List Value}(hz:RZ M z cs)(T:Tm):bU Tryz.prog 207 [.agg ⟨cs⟩] T M [] [] (fun r _ _ _=>r=.bool (!gF z.w)) aM:=by
 obtain ⟨s,hs,rfl⟩:=hz
 have h1:=(dy hs).1
 refine az ai1 rfl rfl ?_
 intro _ _
 simp +contextual only [go_sem,sevalprocAttr]
 intro b1 T1 fO cY gu
 refine aP (vq z.w _) ?_
 simp +contextual only [go_sem,sevalprocAttr]
 exact ak cY rfl
def Fj {z:List Z}{zv:Value}(hz:RS M (RZ M) 2 z zv)(T:Tm):bU Tryz.prog 243 [zv,.func (.func 207) #[] #[]] T M [] [] (fun r _ _ _=>∃ n,r=.int .i64 n/\(0<=n ↔ z.any (fun x=> !gF x.w)=true)) aM:=by
 obtain ⟨fp,a,c,rfl,cX,_,hg⟩:=ax (by decide) (fun _ _=>bi) hz
 refine az aeh rfl rfl ?_
 intro bj _
 simp +contextual only [go_sem,aD,sevalprocAttr]
 refine aO z.length 8 [(0,.slice a z.length c),(1,.func (.func 207) #[] #[]),(7,.int .i64 (z.length:Int))] (fun i e h=>h=⟨T,M,[],[]⟩/\z.any (fun x=> !gF x.w)=(z.drop i).any (fun x=> !gF x.w)) 0 (by omega) (by simp only [aE,go_sem,sevalprocAttr]) (by simp only [go_sem,sevalprocAttr]) ⟨rfl,rfl⟩ ?_
 rintro i e h hi aI ht ⟨rfl,am⟩
 simp only [aE] at aI
 by_cases aL:i<z.length
 ·obtain ⟨b',o',cs',rfl,bP,s,bN,rfl⟩:=hg i z[i] (gq aL)
  obtain ⟨y0,y1,_⟩:=bP
  rw [dq aL,List.any_cons] at am
  simp +contextual only [go_sem,aD,sevalprocAttr,aI,ht,aL,y0,y1]
  refine aP (WG (z:=z[i]) ⟨s,bN,rfl⟩ _) ?_
  cases hw:gF z[i].w with
  | true=>
   rw [hw,Bool.not_true,Bool.false_or] at am
   simp +contextual only [go_sem,aD,sevalprocAttr,ht]
   refine bT aL ?_ ?_ ⟨rfl,am⟩
   ·simp only [aE,aI,go_sem,sevalprocAttr]
   ·simp only [go_sem,sevalprocAttr,aA i (by omega)]
  | false=>
   rw [hw,Bool.not_false,Bool.true_or] at am
   simp +contextual only [go_sem,aD,sevalprocAttr]
   exact ak aG.rfl' ⟨_,rfl,by rw [am];simp⟩
 ·have:i=z.length:=by omega
  subst this
  rw [List.drop_length] at am
  simp +contextual only [go_sem,aD,sevalprocAttr,aI,ht,aL]
  exact ak aG.rfl' ⟨_,rfl,by rw [am];simp⟩
theorem aaN {z:List Z}{zv:Value}(hz:RS M (RZ M) 2 z zv)(T:Tm):bU Tryz.prog 148 [zv] T M [] [] (fun r _ _ _=>r=.tuple ⟨[if DH z=0 then zv else .slice none 0 0,.int .i64 (DH z)]⟩) aM:=by
 obtain ⟨fp,a,c,rfl,cX,_,hg⟩:=ax (by decide) (fun _ _=>bi) hz
 obtain ⟨E,hE⟩:∃ E,E=DH z:=⟨_,rfl⟩
 rw [<- hE]
 unfold DH at hE
 refine az aio rfl rfl ?_
 intro bj _
 simp +contextual only [go_sem,sevalprocAttr]
 have hC:bU Tryz.prog 206 [.slice a z.length c,.func (.func 207) #[] #[]] T M [] [] (fun r _ _ _=>r=.bool (z.any (fun x=> !gF x.w))) aM:=by
  refine az ai0 rfl rfl ?_
  intro bj _
  simp +contextual only [go_sem,sevalprocAttr]
  refine aF (Fj hz T) ?_
  rintro _ M1 aW _ ⟨n,rfl,hn⟩
  simp +contextual only [go_sem,sevalprocAttr]
  refine ak aG.rfl' ?_
  congr 1
  rw [Bool.eq_iff_iff,<- hn];simp
 refine aP hC ?_
 cases ha:z.any (fun x=> !gF x.w) with
 | true=>
  rw [ha,if_pos rfl] at hE
  subst hE
  simp +contextual only [go_sem,aD,sevalprocAttr]
  exact ak aG.rfl' rfl
 | false=>
  rw [ha,if_neg Bool.false_ne_true] at hE
  by_cases h4:400<z.length
  ·have Xj:(400:Int)<(z.length:Int):=by omega
   rw [if_pos h4] at hE
   subst hE
   simp +contextual only [go_sem,aD,sevalprocAttr,Xj]
   exact ak aG.rfl' rfl
  ·have Xj:¬ (400:Int)<(z.length:Int):=by omega
   rw [if_neg h4] at hE
   subst hE
   simp +contextual only [go_sem,aD,sevalprocAttr,Xj]
   exact ak aG.rfl' rfl
theorem vm {l:List Z}{lv:Value}(hl:RS M (RZ M) 2 l lv)(bu:l.length<=4294967296)(bN:∀ z∈l,z.row.length<=4294967296)(T:Tm):bU Tryz.prog 98 [lv] T M [] [] (fun v M' _ _=>G5 (oC l) v M') aM:=by
 refine az F98 rfl rfl ?_
 intro bj _
 simp +contextual only [go_sem,sevalprocAttr]
 refine aF (yK hl bu bN T) ?_
 rintro v M1 aW _ hv
 simp +contextual only [go_sem,sevalprocAttr]
 refine aP (aaN hv _) ?_
 simp +contextual only [go_sem,sevalprocAttr]
 refine ak aG.rfl' ?_
 unfold oC Xe
 by_cases h:DH (dZ l)=0
 ·rw [if_pos h,if_pos h,h];exact ⟨_,rfl,hv⟩
 ·rw [if_neg h,if_neg h];exact ⟨h,rfl⟩
def lx (fw:Int ->Int):List Z ->List Z
 | []=>[]
 | x::l=>(if fw x.w=0 then [] else [⟨x.row.map bQ,fw x.w⟩])++lx fw l
def BR (fw:Int ->Int)(z:List Z):Except Int (List Z):=if dQ z=0 then .ok (lx fw z) else .error (dQ z)
def acP (res:Except Int (List Z))(v:Value)(M:aR)(R:RR):Prop:=match res with
 | .ok z=>∃ a c xs,v=.tuple ⟨[.slice a z.length c,.int .i64 0]⟩/\RL (RZ M) z xs/\R=[(.slice a z.length c,37,2,xs)]
 | .error e=>e≠0/\v=.tuple ⟨[.slice none 0 0,.int .i64 e]⟩/\R=[(.slice none 0 0,37,2,[])]
theorem BP (fw:Int ->Int):∀ (z:List Z),(lx fw z).length<=z.length
 | []=>Nat.le_refl _
 | x::l=>by
  have:=BP fw l
  rw [lx,List.length_append]
  split<;>simp only [List.length_nil,List.length_cons]<;>omega
theorem BQ {fw:Int ->Int}{n:Nat}:∀ {z:List Z},(∀ x∈z,x.row.length<=n) ->∀ x∈lx fw z,x.row.length<=n
 | [],_,x,hx=>by cases hx
 | y::l,h,x,hx=>by
  rw [lx] at hx
  rcases xY hx with hx | hx
  ·split at hx
   ·cases hx
   ·simp only [mn] at hx
    subst hx
    have:=h y (by simp)
    simpa using this
  ·exact BQ (fun x hx=>h x (tC hx)) x hx
variable {M:aR}
def w8 {z:List Z}(h:dQ z=0):∀ x∈z,jT x.row=0:=by
 have key:∀ (z:List Z) p,Y3 p z=0 ->∀ x∈z,jT x.row=0:=by
  intro z
  induction z with
  | nil=>intro p _ x hx;cases hx
  | cons y l ih=>
   intro p h0 x hx
   rw [Y3,kg] at h0
   split at h0
   ·rename_i cm;exact absurd h0 cm
   rename_i hz
   simp only [ne_eq,Decidable.not_not] at hz
   rcases lQ hx with rfl | hx
   ·unfold HQ at hz
    rw [kg] at hz
    split at hz
    ·rename_i cm;exact absurd hz cm
    ·rename_i hr;simpa using hr
   ·exact ih _ h0 x hx
 unfold dQ at h
 split at h
 ·cases h
 ·exact key z none h
def kT {z:List Z}(h:dQ z=0):z.length<=400/\∀ x∈z,x.row.length<=8:=by
 refine ⟨?_,fun x hx=> ?_⟩
 ·unfold dQ at h;split at h
  ·cases h
  ·omega
 ·have hr:=w8 h x hx
  unfold jT at hr;split at hr
  ·cases hr
  ·omega
theorem WU {g:FuncId}{fw:Int ->Int}(HT:du Tryz.prog g=true)(hf:∀ (w:Int) (M:aR) (T:Tm),bU Tryz.prog g [.int .i64 w] T M [] [] (fun r _ _ _=>r=.int .i64 (fw w)) aM){z:List Z}{zv:Value}(hz:RS M (RZ M) 2 z zv)(T:Tm):
 PN Tryz.prog 108 [zv,.func (.func g) #[] #[]] T M [] [] 1 (fun v M' _ R'=>acP (BR fw z) v M' R') aM:=by
 obtain ⟨fp,a,c,rfl,cX,_,hg⟩:=ax (by decide) (fun _ _=>bi) hz
 obtain ⟨S,hS⟩:∃ S,S=BR fw z:=⟨_,rfl⟩
 rw [<- hS]
 unfold BR at hS
 refine l6 ah0 rfl rfl ?_
 intro bj _
 simp +contextual only [go_sem,sevalprocAttr]
 intro b12 Xz
 refine cW aal.bd (fun M' he hL _=>BI (zs:=[z]) (dE (by rintro _ _ ⟨_,_,rfl⟩;rfl) hL.1 ⟨_,[],rfl,⟨_,cz he hz,rfl⟩,rfl⟩ rfl (by simp)) _) ?_
 simp only [mF]
 by_cases hw:dQ z=0
 rotate_left
 ·rw [if_neg hw] at hS
  rw [od hw]
  simp +contextual only [go_sem,aD,sevalprocAttr,hw]
  refine al (eF (e:=37) (sz:=2) (aQ aG.rfl' rfl rfl ?_))
  rw [hS];exact ⟨hw,rfl,rfl⟩
 rw [if_pos hw] at hS
 obtain ⟨hz4,hz8⟩:=kT hw
 rw [hw,o6]
 simp +contextual only [go_sem,aD,sevalprocAttr]
 refine bR z.length 19 [(1,.func (.func g) #[] #[]),(17,.slice a z.length c),(18,.int .i64 (z.length:Int))] (fun i e h=>∃ N' M' R' fv acc,aG T N'/\bm M M'/\h=⟨N',M',[],R'⟩/\e 7=fv/\kY 37 2 (RZ M') [] R' fv acc/\acc.length<=i/\S=.ok (acc++lx fw (z.drop i))) 0 (by omega) (by simp only [aE,go_sem,sevalprocAttr]) (by simp only [go_sem,sevalprocAttr]) (al (aC ⟨T,M,[],_,[],aG.rfl',bm.rfl',rfl,by simp only [go_sem,sevalprocAttr],cV,by simp,hS⟩)) ?_
 rintro i e h hi aI ht ⟨T1,M1,R1,fv,acc,cY,aW,rfl,e7,bq,js,am⟩
 simp only [aE] at aI
 by_cases aL:i<z.length
 ·obtain ⟨b',o',cs',rfl,bP,s,cH,rfl⟩:=hg i z[i] (gq aL)
  obtain ⟨y0,y1,_⟩:=bP.ext aW
  obtain ⟨sa,sc,rfl⟩:=dH cH
  rw [dq aL,lx] at am
  simp +contextual only [go_sem,aD,sevalprocAttr,aI,ht,aL,y0,y1]
  intro b9 T9 qY uR pY
  have hT:=cY.trans uR
  refine aP (hf z[i].w _ _) ?_
  by_cases h0:fw z[i].w=0
  ·rw [if_pos h0,List.nil_append] at am
   simp +contextual only [go_sem,aD,sevalprocAttr,ht,h0]
   refine aS (al (aC ⟨z.length - (i+1),by omega,rfl,i+1,by omega,rfl,?_,?_,T9,M1,R1,fv,acc,hT,aW,rfl,?_,bq,by omega,am⟩))
   ·simp only [aE,aI,go_sem,sevalprocAttr]
   ·simp only [go_sem,sevalprocAttr,aA i (by omega)]
   ·simp only [go_sem,sevalprocAttr,e7]
  ·rw [if_neg h0,<- List.append_assoc] at am
   simp +contextual only [go_sem,aD,sevalprocAttr,h0,aB qY]
   refine aF (KU (jW aW cH) (by have:=hz8 _ (gm aL);omega) _) ?_
   rintro v M2 bh aZ hv
   simp only [aJ] at aZ
   obtain ⟨va,vc,rfl⟩:=dH hv
   simp +contextual only [go_sem,sevalprocAttr,e7]
   intro b3 gK cZ
   refine cB (Tryz.underlying32) ix iw (x:=⟨z[i].row.map bQ,fw z[i].w⟩) (fY (eU bh) bq) ⟨_,hv,rfl⟩ (fun _ _=>bi) (gh (z:=⟨z[i].row.map bQ,fw z[i].w⟩) ⟨_,hv,rfl⟩) gK (by omega) (by decide) ?_
   intro fv' R' bw
   simp +contextual only [go_sem,sevalprocAttr,ht]
   refine aS (al (al (aC ⟨z.length - (i+1),by omega,rfl,i+1,by omega,rfl,?_,?_,T9,M2,R',fv',acc++[⟨z[i].row.map bQ,fw z[i].w⟩],hT,aW.trans bh,rfl,?_,bw,by rw [List.length_append];simp only [ln];omega,am⟩)))
   ·simp only [aE,aI,go_sem,sevalprocAttr]
   ·simp only [go_sem,sevalprocAttr,aA i (by omega)]
   ·simp only [go_sem,sevalprocAttr]
 ·have:i=z.length:=by omega
  subst this
  rw [List.drop_length,lx,List.append_nil] at am
  simp +contextual only [go_sem,aD,sevalprocAttr,aI,ht,aL,e7]
  rw [am]
  rcases bq with ⟨rfl,rfl,rfl⟩ | ⟨ra,rc,xs,rfl,zy,rfl⟩
  ·exact eF (aQ cY rfl rfl ⟨none,0,[],rfl,rfl,rfl⟩)
  ·exact aQ cY rfl rfl ⟨ra,rc,xs,rfl,zy,rfl⟩
def Eb (w:Int):Int:=if 0>w then 0 else w
theorem W0 (w:Int)(M:aR)(T:Tm):bU Tryz.prog 263 [.int .i64 w] T M [] [] (fun r _ _ _=>r=.int .i64 (Eb w)) aM:=by
 refine az ael rfl rfl ?_
 intro _ _
 simp +contextual only [go_sem,sevalprocAttr]
 exact ak aG.rfl' rfl
theorem TQ {res:Except Int (List Z)}{v:Value}{M:aR}{R:RR}(h:acP res v M R):∃ s e,v=.tuple ⟨[s,.int .i64 e]⟩/\s.oneCell'=true:=by
 cases res with
 | ok z=>obtain ⟨a,c,xs,rfl,_⟩:=h;exact ⟨_,_,rfl,rfl⟩
 | error e=>obtain ⟨_,rfl,_⟩:=h;exact ⟨_,_,rfl,rfl⟩
def Fo {z:List Z}{zv:Value}(hz:RS M (RZ M) 2 z zv)(T:Tm):PN Tryz.prog 239 [zv] T M [] [] 1 (fun v M' _ R'=>acP (BR Eb z) v M' R') aM:=by
 refine l6 ajg rfl rfl ?_
 intro bj _
 simp +contextual only [go_sem,sevalprocAttr]
 refine oq (WU ael.bd W0 hz T) ?_ (fun _ _ _ _ h=>h.elim)
 rintro v M1 row aW _ hv
 obtain ⟨s,e,rfl,_⟩:=TQ hv
 simp +contextual only [go_sem,sevalprocAttr]
 exact aQ aG.rfl' rfl rfl hv
def YI {M:aR}{b:Nat}{x y:List Z}{xv yv:Value}(hx:RS M (RZ M) 2 x xv)(hy:RS M (RZ M) 2 y yv)(hb:M b=some [xv,yv]):
 RS M (fun l cs=>∃ v,cs=[v]/\RS M (RZ M) 2 l v) 1 [x,y] (.slice (some ⟨b,0,none⟩) 2 2):=
 dE (by rintro _ _ ⟨_,rfl,_⟩;rfl) hb ⟨[xv],[yv],rfl,⟨_,rfl,hx⟩,[yv],[],rfl,⟨_,rfl,hy⟩,rfl⟩ rfl (by simp)
def U3 {M:aR}{b:Nat}{x y:List Z}{xv yv:Value}(hx:RS M (RZ M) 2 x xv)(hy:RS M (RZ M) 2 y yv)(hb:M b=some [xv,yv]):
 RS M (fun l cs=>∃ v,RS M (RZ M) 2 l v/\cs=[v]) 1 [x,y] (.slice (some ⟨b,0,none⟩) 2 2):=
 dE (by rintro _ _ ⟨_,_,rfl⟩;rfl) hb ⟨[xv],[yv],rfl,⟨_,hx,rfl⟩,[yv],[],rfl,⟨_,hy,rfl⟩,rfl⟩ rfl (by simp)
def addM (a b:List Z):Except Int (List Z):=if kg (dQ a) (dQ b)=0 then oC (a++b) else .error (kg (dQ a) (dQ b))
def Dt {a b:List Z}{av bv:Value}(ha:RS M (RZ M) 2 a av)(hb:RS M (RZ M) 2 b bv)(T:Tm):bU Tryz.prog 99 [av,bv] T M [] [] (fun v M' _ _=>G5 (addM a b) v M') aM:=by
 have Zj:=ha
 have hb0:=hb
 obtain ⟨fp,aa,ac,rfl,_⟩:=ax (by decide) (fun _ _=>bi) ha
 obtain ⟨Ou,ba,bc,rfl,_⟩:=ax (by decide) (fun _ _=>bi) hb
 obtain ⟨S,hS⟩:∃ S,S=addM a b:=⟨_,rfl⟩
 rw [<- hS]
 unfold addM at hS
 refine az F99 rfl rfl ?_
 intro bj _
 simp +contextual only [go_sem,sevalprocAttr]
 intro b9 qY
 refine cW aal.bd (fun M' he hL _=>BI (U3 (cz he Zj) (cz he hb0) hL.1) _) ?_
 have hf:mF dQ [a,b]=kg (dQ a) (dQ b):=by
  have h0:∀ x,kg x 0=x:=by intro x;unfold kg;split<;>omega
  simp only [mF,h0]
 rw [hf]
 by_cases hw:kg (dQ a) (dQ b)=0
 rotate_left
 ·rw [if_neg hw] at hS
  simp +contextual only [go_sem,aD,sevalprocAttr,hw]
  refine al (ak aG.rfl' ?_)
  rw [hS];exact ⟨hw,rfl⟩
 rw [if_pos hw] at hS
 have hwa:dQ a=0:=by unfold kg at hw;split at hw<;>omega
 have hwb:dQ b=0:=by unfold kg at hw;split at hw<;>omega
 obtain ⟨Ez,ha8⟩:=kT hwa
 obtain ⟨eH,pp⟩:=kT hwb
 rw [hw]
 simp +contextual only [go_sem,aD,sevalprocAttr]
 intro b16 Oq Ln
 refine dh ad7.bd fun M1 aW ab2 bD=> ?_
 refine aF (yH (YI (cz aW Zj) (cz aW hb0) ab2) (by simp) (by intro l hl;simp only [mn] at hl;rcases hl with rfl | rfl<;>omega) _) ?_
 rintro v M2 bh _ hv
 have Jk:[a,b].flatten=a++b:=by simp
 rw [Jk] at hv
 simp +contextual only [go_sem,sevalprocAttr]
 refine aF (vm hv (by rw [List.length_append];omega) (by intro z hz;rcases xY hz with h | h;have:=ha8 z h;omega;have:=pp z h;omega) _) ?_
 rintro r M3 bG _ hr
 rw [<- hS] at hr
 obtain ⟨s,e,rfl⟩:∃ s e,r=.tuple ⟨[s,.int .i64 e]⟩:=by
  cases S with
  | ok z=>obtain ⟨s,h,_⟩:=hr;exact ⟨s,0,h⟩
  | error e=>obtain ⟨_,h⟩:=hr;exact ⟨_,e,h⟩
 simp +contextual only [go_sem,sevalprocAttr]
 exact al (ak aG.rfl' hr)
def Ts {k:Int}{t:List Int}{e:Int}(h:vK k t=.error e):e≠0:=by
 unfold vK at h
 repeat' split at h
 all_goals first | (cases h;done) | (injection h with h;omega)
mutual
theorem MA (cols:List Int):∀ (x:Ex) (bI n:Nat) (e:Int) (m:Nat),py cols bI n x=(.error e,m) ->e≠0
 | .mk k v c kids,bI,n,e,m,h=>by
  rw [py] at h
  split at h
  ·injection h with h _;injection h with h;omega
  split at h
  ·injection h with h _;injection h with h;omega
  split at h
  ·injection h with h _;injection h with h;omega
  split at h
  ·rename_i e' m' hl
   injection h with h _;injection h with h
   subst h
   exact MC cols kids _ _ _ _ hl
  ·rename_i t m' hl
   injection h with h _
   split at h
   ·split at h
    ·cases h
    ·rename_i hw;injection h with h;rw [<- h];exact hw
   split at h
   ·split at h
    ·cases h
    ·injection h with h;omega
   split at h
   ·cases h
   ·exact Ts h
theorem MC (cols:List Int):∀ (l:List Ex) (bI n:Nat) (e:Int) (m:Nat),nD cols bI n l=(.error e,m) ->e≠0
 | [],_,_,_,_,h=>by rw [nD] at h;cases h
 | x::l,bI,n,e,m,h=>by
  rw [nD] at h
  split at h
  ·rename_i e' m' hx
   injection h with h _;injection h with h
   subst h
   exact MA cols x _ _ _ _ hx
  ·split at h
   ·rename_i e' m' hx
    injection h with h _;injection h with h
    subst h
    exact MC cols l _ _ _ _ hx
   ·cases h
end
def U5 {cols:List Int}{x:Ex}{e:Int}(h:lm cols x=.error e):e≠0:=by
 unfold lm at h
 split at h
 ·injection h with h;omega
 split at h
 ·exact MA cols x 1 0 e _ (Prod.ext h rfl)
 ·injection h with h;omega
def AH {v:V}(h:eR v=0):(bQ v).t.length<=1099511627776:=by
 unfold eR at h
 unfold bQ
 repeat' split
 all_goals first | exact Nat.zero_le _ | (dsimp only;subst_vars;simp_all;omega)
mutual
theorem CQ (cols:List Int):∀ (x:Ex) (bI n:Nat) (t:Int) (m:Nat),py cols bI n x=(.ok t,m) ->nw x
 | .mk k v c kids,bI,n,t,m,h=>by
  rw [py] at h
  split at h
  ·cases h
  split at h
  ·cases h
  rename_i nU
  split at h
  ·cases h
  rename_i rV
  simp only [ne_eq,Decidable.not_not] at rV
  have hkr:1<=k/\k<=18:=by
   unfold gA at nU
   repeat' split at nU
   all_goals omega
  split at h
  ·cases h
  ·rename_i t' m' hl
   refine ⟨hkr,?_,?_,rV,CR cols kids _ _ _ _ hl⟩
   ·intro h1
    rw [if_pos h1] at h
    injection h with h _
    split at h
    ·rename_i hw;exact AH hw
    ·cases h
   intro h2
   subst h2
   rw [if_neg (by omega),if_pos rfl] at h
   injection h with h _
   split at h
   ·rename_i hc;exact hc.1
   ·cases h
theorem CR (cols:List Int):∀ (l:List Ex) (bI n:Nat) (t:List Int) (m:Nat),nD cols bI n l=(.ok t,m) ->Gz l
 | [],_,_,_,_,h=>trivial
 | x::l,bI,n,t,m,h=>by
  rw [nD] at h
  split at h
  ·cases h
  ·rename_i t' m' h1
   split at h
   ·cases h
   ·rename_i ts m2 h2
    exact ⟨CQ cols x _ _ _ _ h1,CR cols l _ _ _ _ h2⟩
end
def U6 {cols:List Int}{x:Ex}{t:Int}(h:lm cols x=.ok t):nw x:=by
 unfold lm at h
 split at h
 ·cases h
 split at h
 ·exact CQ cols x 1 0 t _ (Prod.ext h rfl)
 ·cases h
def Zd (n:Nat)(z:List Z):Prop:=∀ x∈z,x.row.length<=n/\jN x.row
def dw (xs:List Ex)(row:List V):List V:=xs.map fun x=>OZ x row
def nX {cols:List Int}{z:List Z}(h:iE cols z=0):cols.length<=8/\dQ z=0:=by
 unfold iE at h
 split at h
 ·cases h
 ·refine ⟨by omega,?_⟩
  unfold kg at h;split at h
  ·rename_i h2;exact absurd h h2
  ·rename_i h2;simpa using h2
def z7 {a b:Int}(h:kg a b=0):a=0/\b=0:=by
 unfold kg at h;split at h
 ·rename_i h2;exact absurd h h2
 ·rename_i h2;exact ⟨by simpa using h2,h⟩
theorem B1 {α:Type}{f:α ->Int}:∀ {l:List α},mF f l=0 ->∀ x∈l,f x=0
 | y::l,h,x,hx=>by
  obtain ⟨h1,h2⟩:=z7 h
  rcases lQ hx with rfl | hx
  ·exact h1
  ·exact B1 h2 x hx
def zF {cols:List Int}{z:List Z}(h:iE cols z=0):∀ r∈z,jN r.row:=by
 intro r hr v hv
 have h1:=w8 (nX h).2 r hr
 unfold jT at h1
 split at h1
 ·cases h1
 ·exact AH (B1 h1 v hv)
variable {M:aR}
def kJ {α:Type}{F:Fi}{f:FuncId}{args:List Value}{dd:Option Nat}{s:List Vc.Item}{e:dx}{ds:List Deferred}{N:Tm}{L:LL}{el:TypeId}{sz:Nat}{r:α ->List Value ->Prop}{R0 R:RR}{fv:Value}{acc:List α}(hb:du Tryz.prog f=true)
 (h:kY el sz r R0 R fv acc) (xS:acc.length*sz<=4398046511104) (dK:0<sz) (bj:aJ M L) (k:∀ M',bm M M' ->aJ M' L ->RS M' r sz acc fv ->dp Tryz.prog F f args dd s e ds ⟨N,M',L,R0⟩ ⟨⟩):dp Tryz.prog F f args dd s e ds ⟨N,M,L,R⟩ ⟨⟩:=
 cD (k:=fun h'=>∃ M',bm M M'/\aJ M' L/\RS M' r sz acc fv/\h'=⟨N,M',L,R0⟩) (ct h xS dK bj fun M' he hn cH=>aC ⟨M',he,hn,cH,rfl⟩) (by rintro h' ⟨M',he,hn,cH,rfl⟩;exact k M' he hn cH) hb
def mw {res:Except Int (List Z)}{v:Value}{M:aR}(h:G5 res v M):∃ s e,v=.tuple ⟨[s,.int .i64 e]⟩:=by
 cases res with
 | ok z=>obtain ⟨s,h,_⟩:=h;exact ⟨s,0,h⟩
 | error e=>obtain ⟨_,h⟩:=h;exact ⟨_,e,h⟩
def lV {xs:List Ex}{row:List V}{xv rv:Value}(hx:RS M (hY M) 6 xs xv)(hr:RS M RV 3 row rv)(ce:∀ x∈xs,nw x)(bN:jN row)(T:Tm):bU Tryz.prog 257 [xv,rv] T M [] [] (fun v M' _ _=>RS M' RV 3 (dw xs row) v) aM:=by
 obtain ⟨fp,a,c,rfl,cX,_,hg⟩:=ax (by decide) (fun _ _=>dS) hx
 refine az ajl rfl rfl ?_
 intro bj _
 simp +contextual only [go_sem,aD,sevalprocAttr]
 refine aO xs.length 9 [(0,.slice a xs.length c),(1,rv),(8,.int .i64 (xs.length:Int))] (fun i e h=>∃ R' fv,h=⟨T,M,[],R'⟩/\e 5=fv/\kY 27 3 RV [] R' fv (dw (xs.take i) row)) 0 (by omega) (by simp only [aE,go_sem,sevalprocAttr]) (by simp only [go_sem,sevalprocAttr]) ⟨[],_,rfl,by simp only [go_sem,sevalprocAttr],cV⟩ ?_
 rintro i e h hi aI ht ⟨R1,fv,rfl,e5,bq⟩
 simp only [aE] at aI
 by_cases aL:i<xs.length
 ·obtain ⟨b',o',cs',rfl,bP,VV⟩:=hg i xs[i] (gq aL)
  have hm:=gm aL
  simp +contextual only [go_sem,aD,sevalprocAttr,aI,ht,aL]
  refine aP (WJ _ xs[i] (Nat.le_refl _) _ _ _ _ _ _ _ bP VV hr (ce _ hm) bN) ?_
  simp +contextual only [go_sem,sevalprocAttr,e5,V.cs]
  intro b7 mU
  refine cB (Tryz.underlying29) Ao zY (x:=OZ xs[i] row) bq rfl (fun _ _=>eK) (xG rfl) mU (by simp [dw];omega) (by decide) ?_
  intro fv' R' bw
  have fQ:dw (xs.take i) row++[OZ xs[i] row]=dw (xs.take (i+1)) row:=by
   unfold dw;rw [<- List.take_append_getElem aL,List.map_append];rfl
  rw [fQ] at bw
  simp +contextual only [go_sem,sevalprocAttr,ht]
  refine aS (al (aC ⟨xs.length - (i+1),by omega,rfl,i+1,by omega,rfl,?_,?_,R',fv',rfl,?_,bw⟩))
  ·simp only [aE,aI,go_sem,sevalprocAttr]
  ·simp only [go_sem,sevalprocAttr,aA i (by omega)]
  ·simp only [go_sem,sevalprocAttr]
 ·have:i=xs.length:=by omega
  subst this
  rw [List.take_length] at bq
  simp +contextual only [go_sem,aD,sevalprocAttr,aI,ht,aL,e5]
  exact ct bq (by simp [dw];omega) (by decide) bj fun M2 bh aZ cH=>ak aG.rfl' cH
section
variable {σ:Type} (step:σ ->Nat ->Nat ->List V ->σ) (x:Ex)
end
structure CbOk {σ:Type} (g:FuncId) (caps:List Value) (I:σ ->aR ->LL ->RR ->Prop) (na nb:Nat) (ok:List V ->Prop) (sz:σ ->Nat) (step:σ ->Nat ->Nat ->List V ->σ):Prop where
 len:∀ s i k row,sz (step s i k row)<=sz s+1
 bod:du Tryz.prog g=true
 ext:∀ s M M' L R,I s M L R ->bm M M' ->aJ M' L ->I s M' L R
 call:∀ s M L R i k row rv T,I s M L R ->i<na ->k<nb ->sz s<=i*nb+k ->ok row ->RS M RV 3 row rv ->
  bU Tryz.prog g ([.int .i64 ((i:Nat):Int),.int .i64 ((k:Nat):Int),rv]++caps) T M L R (fun r M' L' R'=>r=.tuple #[]/\I (step s i k row) M' L' R') aM
variable {M:aR}
theorem su {cols:List Int}:∀ {xs:List Ex} {ts:List Int},iG cols xs=.ok ts ->∀ x∈xs,∃ t,lm cols x=.ok t
 | [],ts,_,x,hx=>by cases hx
 | y::l,ts,h,x,hx=>by
  cases ht:lm cols y with
  | error e=>rw [tn ht] at h;cases h
  | ok t=>
   rw [vX ht] at h
   cases hl:iG cols l with
   | error e=>rw [hl] at h;cases h
   | ok ts'=>
    rcases lQ hx with rfl | hx
    ·exact ⟨t,ht⟩
    ·exact su hl x hx
theorem CS {cols:List Int}:∀ {xs:List Ex} {e:Int},iG cols xs=.error e ->e≠0
 | [],e,h=>by cases h
 | y::l,e,h=>by
  cases ht:lm cols y with
  | error e'=>rw [tn ht] at h;injection h with h;rw [<- h];exact U5 ht
  | ok t=>
   rw [vX ht] at h
   cases hl:iG cols l with
   | error e'=>rw [hl] at h;injection h with h;rw [<- h];exact CS hl
   | ok ts'=>rw [hl] at h;cases h
def wZ {cols:List Int}{xs:List Ex}{ts:List Int}(h:eX cols xs=.ok ts):∀ x∈xs,nw x:=by
 unfold eX at h
 split at h
 ·cases h
 intro x hm
 obtain ⟨t,ht⟩:=su h x hm
 exact U6 ht
def Kn {cols:List Int}{xs:List Ex}{ts:List Int}(h:eX cols xs=.ok ts):xs.length<=8:=by
 unfold eX at h
 split at h
 ·cases h
 ·omega
def lh (xs:List Ex)(z:List Z):List Z:=z.map fun r=>⟨dw xs r.row,r.w⟩
def xb {α:Type}(r:Except Int α):Int:=match r with
 | .ok _=>0
 | .error e=>e
def X9 (cols:List Int)(xs:List Ex)(z:List Z):Except Int (List Z):=if xb (eX cols xs)=0 then if iE cols z=0 then oC (lh xs z) else .error (iE cols z) else .error (xb (eX cols xs))
variable {M:aR}
def KE {M M':aR}(he:bm M M'){l:List Int}{v:Value}(h:RS M RI 1 l v):RS M' RI 1 l v:=aH he (fun _ _ h=>h) h
def tH {M M':aR}(he:bm M M'){l:List Ex}{v:Value}(h:RS M (hY M) 6 l v):RS M' (hY M') 6 l v:=aH he (cN he) h
def Hv {res:Except Int (List Int)}{v:Value}{M:aR}(h:UY res v M):∃ s,v=.tuple ⟨[s,.int .i64 (xb res)]⟩:=by
 cases res with
 | ok l=>obtain ⟨s,h,_⟩:=h;exact ⟨s,h⟩
 | error e=>exact ⟨_,h.2⟩
theorem La {α:Type}{r:Except Int α}(hn:∀ e,r=.error e ->e≠0)(h:xb r=0):∃ a,r=.ok a:=by
 cases r with
 | ok a=>exact ⟨a,rfl⟩
 | error e=>exact absurd h (hn e rfl)
def CT {cols:List Int}{xs:List Ex}{e:Int}(h:eX cols xs=.error e):e≠0:=by
 unfold eX at h
 split at h
 ·injection h with h;omega
 ·exact CS h
def aaP {cols:List Int}{cv xv zv:Value}{xs:List Ex}{z:List Z}(hc:RS M RI 1 cols cv)(hx:RS M (hY M) 6 xs xv)(hz:RS M (RZ M) 2 z zv)(T:Tm):bU Tryz.prog 233 [cv,xv,zv] T M [] [] (fun v M' _ _=>G5 (X9 cols xs z) v M') aM:=by
 have uU:=hz
 obtain ⟨fp,a,c,rfl,cX,_,hg⟩:=ax (by decide) (fun _ _=>bi) hz
 obtain ⟨S,hS⟩:∃ S,S=X9 cols xs z:=⟨_,rfl⟩
 rw [<- hS]
 unfold X9 at hS
 refine az ajf rfl rfl ?_
 intro bj _
 simp +contextual only [go_sem,sevalprocAttr]
 refine aF (pT hc hx _) ?_
 rintro v0 M0 AQ ab5 rX
 obtain ⟨s0,rfl⟩:=Hv rX
 by_cases ht:xb (eX cols xs)=0
 rotate_left
 ·rw [if_neg ht] at hS
  simp +contextual only [go_sem,aD,sevalprocAttr,ht]
  refine ak aG.rfl' ?_
  rw [hS];exact ⟨ht,rfl⟩
 rw [if_pos ht] at hS
 obtain ⟨ts,XX⟩:=La (fun _=>CT) ht
 have ce:=wZ XX
 have hx8:=Kn XX
 simp +contextual only [go_sem,aD,sevalprocAttr,ht]
 refine aP (yI (KE AQ hc) (cz AQ uU) _) ?_
 by_cases hw:iE cols z=0
 rotate_left
 ·rw [if_neg hw] at hS
  simp +contextual only [go_sem,aD,sevalprocAttr,hw]
  refine ak aG.rfl' ?_
  rw [hS];exact ⟨hw,rfl⟩
 rw [if_pos hw] at hS
 have VP:=zF hw
 obtain ⟨hz4,hz8⟩:=kT (nX hw).2
 simp +contextual only [go_sem,aD,sevalprocAttr,hw]
 refine bR z.length 31 [(1,xv),(29,.slice a z.length c),(30,.int .i64 (z.length:Int))] (fun i e h=>∃ N' M' R' fv,aG T N'/\bm M M'/\h=⟨N',M',[],R'⟩/\e 11=fv/\kY 37 2 (RZ M') [] R' fv (lh xs (z.take i))) 0 (by omega) (by simp only [aE,go_sem,sevalprocAttr]) (by simp only [go_sem,sevalprocAttr]) (aC ⟨T,M0,[],_,aG.rfl',AQ,rfl,by simp only [go_sem,sevalprocAttr],cV⟩) ?_
 rintro i e h hi aI lO ⟨T1,M1,R1,fv,cY,aW,rfl,e11,bq⟩
 simp only [aE] at aI
 by_cases aL:i<z.length
 ·obtain ⟨b',o',cs',rfl,bP,s,cH,rfl⟩:=hg i z[i] (gq aL)
  obtain ⟨y0,y1,_⟩:=bP.ext aW
  obtain ⟨sa,sc,rfl⟩:=dH cH
  simp +contextual only [go_sem,aD,sevalprocAttr,aI,lO,aL,y0,y1]
  intro b13 T13 Jc DK Sr
  have hT:=cY.trans DK
  refine aT ?_
  simp +contextual only [go_sem,sevalprocAttr,aI,e11,aB Jc]
  refine aF (lV (tH aW hx) (jW aW cH) ce (VP _ (gm aL)) _) ?_
  rintro v M2 bh aZ hv
  simp only [aJ] at aZ
  obtain ⟨va,vc,rfl⟩:=dH hv
  simp +contextual only [go_sem,sevalprocAttr]
  refine ⟨dL bh aZ,?_⟩
  intro b3 gK cZ
  refine ⟨dJ bh aZ ⟨cZ,trivial⟩,?_⟩
  refine cB (Tryz.underlying32) ix iw (x:=⟨dw xs z[i].row,z[i].w⟩) (fY (eU bh) bq) ⟨_,hv,rfl⟩ (fun _ _=>bi) (gh (z:=⟨dw xs z[i].row,z[i].w⟩) ⟨_,hv,rfl⟩) gK (by simp [lh];omega) (by decide) ?_
  intro fv' R' bw
  have fQ:lh xs (z.take i)++[⟨dw xs z[i].row,z[i].w⟩]=lh xs (z.take (i+1)):=by
   unfold lh;rw [<- List.take_append_getElem aL,List.map_append];rfl
  rw [fQ] at bw
  simp +contextual only [go_sem,sevalprocAttr,lO]
  refine ⟨dJ bh aZ ⟨cZ,trivial⟩,aS (al (al (aC ⟨z.length - (i+1),by omega,rfl,i+1,by omega,rfl,?_,?_,T13,M2,R',fv',hT,aW.trans bh,rfl,?_,bw⟩)))⟩
  ·simp only [aE,aI,go_sem,sevalprocAttr]
  ·simp only [go_sem,sevalprocAttr,aA i (by omega)]
  ·simp only [go_sem,sevalprocAttr]
 ·have:i=z.length:=by omega
  subst this
  rw [List.take_length] at bq
  simp +contextual only [go_sem,aD,sevalprocAttr,aI,lO,aL,e11]
  have hml:(lh xs z).length<=400:=by simp [lh];omega
  refine kJ F98.bd bq (by omega) (by decide) trivial fun M2 bh aZ cH=> ?_
  refine aF (vm (aH bm.rfl' (eU bh) cH) (by omega) (fun r hr=>by obtain ⟨r0,_,rfl⟩:=List.mem_map.1 hr;simp [dw];omega) _) ?_
  rintro v M3 bG _ hv
  rw [<- hS] at hv
  obtain ⟨s,e,rfl⟩:=mw hv
  simp +contextual only [go_sem,sevalprocAttr]
  exact ak cY hv
def RD (M:aR)(z:List Z)(cs:List Value):Prop:=∃ v,cs=[v]/\RS M (RZ M) 2 z v
theorem gW {M:aR}{z:List Z}{cs}(h:RD M z cs):cs.length=1:=by obtain ⟨_,rfl,_⟩:=h;rfl
def dD {M M':aR}(he:bm M M')(z:List Z)(cs)(h:RD M z cs):RD M' z cs:=by
 obtain ⟨v,rfl,h⟩:=h;exact ⟨v,rfl,cz he h⟩
def wB:List (List Int) ->List (List Z) ->Int
 | t::ts,z::zs=>kg (iE t z) (wB ts zs)
 | _,_=>0
def jj (aY:List (List Int))(data:List (List Z)):Int:=if data.length=aY.length then wB aY data else 8
variable {M:aR}
def Dw {aY:List (List Int)}{data:List (List Z)}{tv dv:Value}(ht:RS M (lZ M) 1 aY tv)(hd:RS M (RD M) 1 data dv)(T:Tm):
 bU Tryz.prog 146 [tv,dv] T M [] [] (fun r _ _ _=>r=.int .i64 (jj aY data)) aM:=by
 obtain ⟨fp,ta,tc,rfl,cX,_,hg⟩:=ax (by decide) (fun _ _=>cQ) ht
 obtain ⟨Ou,da,dc,rfl,pq,_,xh⟩:=ax (by decide) (fun _ _=>gW) hd
 obtain ⟨S,hS⟩:∃ S,S=jj aY data:=⟨_,rfl⟩
 rw [<- hS]
 unfold jj at hS
 refine az ain rfl rfl ?_
 intro bj _
 by_cases hl:data.length=aY.length
 rotate_left
 ·have jL:¬ (data.length:Int)=(aY.length:Int):=by omega
  rw [if_neg hl] at hS
  simp +contextual only [go_sem,aD,sevalprocAttr,jL]
  exact ak aG.rfl' (by rw [hS])
 have jL:(data.length:Int)=(aY.length:Int):=by omega
 rw [if_pos hl] at hS
 simp +contextual only [go_sem,aD,sevalprocAttr,jL]
 refine aO data.length 15 [(0,.slice ta aY.length tc),(13,.slice da data.length dc),(14,.int .i64 (aY.length:Int))] (fun i e h=>h=⟨T,M,[],[]⟩/\S=wB (aY.drop i) (data.drop i)) 0 (by omega) (by simp only [aE,go_sem,sevalprocAttr]) (by simp only [go_sem,sevalprocAttr]) ⟨rfl,hS⟩ ?_
 rintro i e h hi aI lO ⟨rfl,am⟩
 simp only [aE] at aI
 by_cases aL:i<data.length
 ·have FX:i<aY.length:=by omega
  obtain ⟨b',o',cs',rfl,bP,tv,rfl,nG⟩:=hg i aY[i] (gq FX)
  obtain ⟨b2,o2,cs2,rfl,oU,zv,rfl,A5⟩:=xh i data[i] (gq aL)
  have y0:=bP.1
  have x0:=oU.1
  rw [Nat.mul_one] at y0 x0
  rw [dq aL,dq FX,wB] at am
  simp +contextual only [go_sem,aD,sevalprocAttr,aI,lO,aL,FX,y0,x0]
  refine aP (yI nG A5 _) ?_
  by_cases hw:iE aY[i] data[i]=0
  ·rw [hw,o6] at am
   simp +contextual only [go_sem,aD,sevalprocAttr,lO,hw]
   refine aS (aC ⟨data.length - (i+1),by omega,rfl,i+1,by omega,rfl,?_,?_,rfl,am⟩)
   ·simp only [aE,aI,go_sem,sevalprocAttr]
   ·simp only [go_sem,sevalprocAttr,aA i (by omega)]
  ·rw [od hw] at am
   simp +contextual only [go_sem,aD,sevalprocAttr,hw]
   exact ak aG.rfl' (by rw [am])
 ·have:i=data.length:=by omega
  subst this
  rw [List.drop_length] at am
  have h0:S=0:=by rw [am];cases aY.drop data.length<;>rfl
  have lN:¬ data.length<aY.length:=by omega
  simp +contextual only [go_sem,aD,sevalprocAttr,aI,lO,lN]
  exact ak aG.rfl' (by rw [h0])
variable {M:aR}
theorem WX {fi fs fr fm ft fo:FuncId}(hs:SF fi fs fr fm ft fo){fv:Value}{da:Option Addr}{dc:Nat}(T:Tm):bU Tryz.prog fi [.slice da 0 dc,.int .i64 ((0:Nat):Int),.int .i64 ((0:Nat):Int),fv] T M [] [] (fun r _ _ _=>r=.tuple #[]) aM:=by
 have DJ:=hs
 cases hs
 all_goals
  refine az aen rfl rfl ?_
  intro bj _
  simp +contextual only [go_sem,aD,sevalprocAttr]
  refine iU [(2,.int .i64 ((0:Nat):Int))] (fun m e h=>e 8=.int .i64 1/\h=⟨T,M,[],[]⟩) 0 (by simp only [aE,go_sem,sevalprocAttr]) ⟨by simp only [go_sem,sevalprocAttr];rfl,rfl⟩ ?_
  rintro m e h aI ⟨e8,rfl⟩
  simp only [aE] at aI
  have B3:¬ ((1:Int)<((0:Nat):Int)):=by decide
  simp +contextual only [go_sem,aD,sevalprocAttr,aI,e8]
  exact ak aG.rfl' rfl
theorem RE {fi fs fr fm ft fo:FuncId}(hs:SF fi fs fr fm ft fo){fv:Value}{da:Option Addr}{dc:Nat}(T:Tm):bU Tryz.prog ft [.slice da 0 dc,.int .i64 ((0:Nat):Int),fv] T M [] [] (fun r _ _ _=>r=.tuple #[]) aM:=by
 have DJ:=hs
 cases hs
 all_goals
  refine az aei rfl rfl ?_
  intro bj _
  simp +contextual only [go_sem,aD,sevalprocAttr]
  refine iU [(0,.slice da 0 dc),(1,.int .i64 ((0:Nat):Int)),(2,fv),(6,.int .i64 20)] (fun m e h=>e 7=.int .i64 ((0:Nat):Int)/\e 8=.int .i64 20/\h=⟨T,M,[],[]⟩) 0 (by simp only [aE,go_sem,sevalprocAttr]) ⟨by simp only [go_sem,sevalprocAttr],by simp only [go_sem,sevalprocAttr],rfl⟩ ?_
  rintro m e h aI ⟨e7,e8,rfl⟩
  simp only [aE] at aI
  have B3:¬ ((20:Int)<=((0:Nat):Int)):=by decide
  simp +contextual only [go_sem,aD,sevalprocAttr,aI,e7,e8]
  refine aP (WX DJ _) ?_
  simp +contextual only [go_sem,aD,sevalprocAttr]
  refine iU [(1,.int .i64 ((0:Nat):Int)),(6,.int .i64 20)] (fun m e h=>h=⟨T,M,[],[]⟩) 0 (by simp only [aE,go_sem,sevalprocAttr,aI]) rfl ?_
  rintro m e h aI rfl
  simp only [aE] at aI
  have h02:¬ ((20:Int)<((0:Nat):Int)):=by decide
  simp +contextual only [go_sem,aD,sevalprocAttr,aI]
  exact ak aG.rfl' rfl
theorem FB {fi fs fr fm ft fo:FuncId}(hs:SF fi fs fr fm ft fo){fv:Value}{da:Option Addr}{dc:Nat}(T:Tm):bU Tryz.prog fo [.slice da 0 dc,fv] T M [] [] (fun r _ _ _=>r=.tuple #[]) aM:=by
 have DJ:=hs
 cases hs
 all_goals
  refine az V4 rfl rfl ?_
  intro bj _
  simp +contextual only [go_sem,sevalprocAttr]
  refine aP (RE DJ _) ?_
  simp +contextual only [go_sem,sevalprocAttr]
  exact ak aG.rfl' rfl
def wx (aV:List Ex)(x y:Z):Int:=cC (dw aV x.row) (dw aV y.row)
def eA:Int ->List Z ->List Z
 | _,[]=>[]
 | left,r::l=>if 0<left then ⟨r.row,if left<r.w then left else r.w⟩::eA (IntKind.i64.wrap (left - (if left<r.w then left else r.w))) l else eA left l
def ada (aV:List Ex)(k:Int)(z:List Z):List Z:=eA k (fk (wx aV) (lx Eb z))
def YH (cols:List Int)(aV:List Ex)(k:Int)(z:List Z):Except Int (List Z):=
 if xb (eX cols aV)=0 then if k<0\/50<k then .error 3 else if iE cols z=0 then oC (ada aV k z) else .error (iE cols z) else .error (xb (eX cols aV))
theorem Dd {M:aR}:∀ {l:List Z} {xs:List Value},RL (RZ M) l xs ->∃ zs:List (Z×Value),zs.map Prod.fst=l/\xs=fl ij zs/\∀ e∈zs,RS M RV 3 e.1.row e.2
 | [],xs,h=>⟨[],rfl,h,by simp⟩
 | z::l,xs,h=>by
  obtain ⟨cs,rest,rfl,⟨v,hv,rfl⟩,hr⟩:=h
  obtain ⟨zs,h1,rfl,h3⟩:=Dd hr
  refine ⟨(z,v)::zs,by rw [List.map_cons,h1],rfl,?_⟩
  intro e he
  rcases lQ he with rfl | he
  ·exact hv
  ·exact h3 e he
theorem KF {M:aR}:∀ {zs:List (Z×Value)},(∀ e∈zs,RS M RV 3 e.1.row e.2) ->RL (RZ M) (zs.map Prod.fst) (fl ij zs)
 | [],_=>rfl
 | e::l,h=>⟨[e.2,.int .i64 e.1.w],fl ij l,rfl,⟨e.2,h e (by simp),rfl⟩,KF fun x hx=>h x (tC hx)⟩
variable {M:aR}
theorem Oa {aV:List Ex}{kv:Value}{b5:Nat}{x y:Z}{xv yv:Value}(jz:M b5=some [kv])(hk:RS M (hY M) 6 aV kv)(hx:RS M RV 3 x.row xv)(hy:RS M RV 3 y.row yv)(ce:∀ x∈aV,nw x)(eh:jN x.row)(hry:jN y.row)(T:Tm):bU Tryz.prog 266 [.agg ⟨[xv,.int .i64 x.w]⟩,.agg ⟨[yv,.int .i64 y.w]⟩,.pointer (some ⟨b5,0,none⟩)] T M [] [] (fun r _ _ _=>r=.int .i64 (wx aV x y)) aM:=by
 obtain ⟨_,ka,kc,rfl,_⟩:=ax (by decide) (fun _ _=>dS) hk
 obtain ⟨xa,xc,rfl⟩:=dH hx
 obtain ⟨ya,yc,rfl⟩:=dH hy
 refine az aem rfl rfl ?_
 intro bj _
 simp +contextual only [go_sem,sevalprocAttr]
 intro b3 T3 gK fU gB b4 T4 eH em fE iJ
 refine aT ?_
 simp +contextual only [go_sem,sevalprocAttr,bg jz,aB gK,aB eH,em]
 refine aF (lV hk hx ce eh _) ?_
 rintro v1 M1 aW bD j3
 obtain ⟨va,vc,rfl⟩:=dH j3
 have app:=aW _ _ jz
 simp +contextual only [go_sem,sevalprocAttr]
 refine ⟨dL aW bD,?_⟩
 refine aF (lV (tH aW hk) (jW aW hy) ce hry _) ?_
 rintro v2 M2 bh aZ nu
 obtain ⟨ua,uc,rfl⟩:=dH nu
 simp +contextual only [go_sem,sevalprocAttr]
 refine ⟨dL (aW.trans bh) aZ,?_⟩
 refine aP (pV (jW bh j3) nu _) ?_
 simp +contextual only [go_sem,sevalprocAttr]
 refine ⟨dL (aW.trans bh) aZ,al (al (ak (fU.trans fE) rfl))⟩
theorem ajF {aV:List Ex}{kv:Value}{b5:Nat}(jz:M b5=some [kv])(hk:RS M (hY M) 6 aV kv)(ce:∀ x∈aV,nw x):CmpOk M ij 266 [.pointer (some ⟨b5,0,none⟩)] (fun x y=>wx aV x.1 y.1) (fun e=>RS M RV 3 e.1.row e.2/\jN e.1.row) where
 bod:=aem.bd
 one:=fun x hx=>⟨(dy hx.1).1,rfl⟩
 call:=fun x y hx hy T=>Oa jz hk hx.1 hy.1 ce hx.2 hy.2 T
def GY {F:Fi}{s:List Vc.Item}{e:dx}{ds:List Deferred}{dd:Option Nat}{N:Tm}{gf:FuncId}{caps:List Value}{l:List Z}{v:Value}{a:Option Addr}{c:Nat}{xs:List Value}{ok:Z×Value ->Prop}{cf:Z ->Z ->Int}(hb:du Tryz.prog 208=true)
 (hc:CmpOk M ij gf caps (fun x y=>cf x.1 y.1) ok) (ce:∀ x:Z×Value,x.1∈l ->RS M RV 3 x.1.row x.2 ->ok x) (hv:v=.slice a l.length c) (fq:RL (RZ M) l xs) (hn:l.length<=400) (nF:∀ g n k,v=.slice (some ⟨g,0,none⟩) n k ->N g=none)
 (k:∀ L' R',(∀ kk:Sh ->Prop,(∀ M'',bm M M'' ->RS M'' (RZ M'') 2 (fk cf l) v ->cq ⟨N,M'',[],[]⟩ kk) ->cq ⟨N,M,L',R'⟩ kk) ->cA Tryz.prog F s (cI e dd (.tuple #[])) ds ⟨N,M,L',R'⟩ ⟨⟩):
 dp Tryz.prog F 208 [v,.func (.func gf) #[] ⟨caps⟩] dd s e ds ⟨N,M,[],[(v,37,2,xs)]⟩ ⟨⟩:=by
 have iY:=eJ (fun _ _=>bi) fq
 rcases l with _ | ⟨z0,l⟩
 ·subst hv
  refine aP (FB .z _) (k [] _ fun kk hk=>cP (fun M' he _ iR=>hk M' he ?_) (by decide))
  have tB:fk cf ([]:List Z)=[]:=List.eq_nil_of_length_eq_zero (by rw [(gy cf ([]:List Z)).1];rfl)
  rw [tB]
  exact ⟨by simp,xs,iR,fq⟩
 ·obtain ⟨zs,rH,rfl,hze⟩:=Dd fq
  have pD:zs.length=(z0::l).length:=by rw [<- rH,List.length_map]
  refine cD (k:=fun h'=>∃ g cap junk,v=.slice (some ⟨g,0,none⟩) zs.length cap/\M g=none/\zs.length<=cap/\(fl ij zs++junk).length=cap*2/\h'=⟨N,M,[(g,fl ij zs++junk)],[]⟩) (yf (by decide) (by rw [ee,pD];simp) nF fun g n cap junk hv' hg uj hn cX cK=>aC ⟨g,cap,junk,?_,hg,?_,cK,rfl⟩) ?_ hb
  ·rw [ee] at hn
   have:n=zs.length:=by omega
   rw [<- this];exact hv'
  ·rw [ee] at hn;omega
  rintro h' ⟨g,cap,junk,rfl,hg,cX,cK,rfl⟩
  obtain ⟨zt,LH⟩:∃ zt,zt=fk (fun x y:Z×Value=>cf x.1 y.1) zs:=⟨_,rfl⟩
  have lA:=gy (fun x y:Z×Value=>cf x.1 y.1) zs
  rw [<- LH] at lA
  have hm:zt.map Prod.fst=fk cf (z0::l):=by rw [LH,<- rH];exact (vV (f:=Prod.fst) rfl (fun _ _=>rfl) zs).symm
  have S7:=lA.2 _ hze
  have Lv:=yR .z hc (db:=g) (cap:=cap) (junk:=junk) rfl cX (fun x hx=>ce x (by rw [<- rH];exact List.mem_map.2 ⟨x,hx,rfl⟩) (hze x hx)) (by omega) N
  rw [<- LH] at Lv
  refine iI Lv (k _ _ fun kk hk=>aU fun he h1 h2=>hk _ he ?_)
  rw [<- hm]
  have hRL:=KF fun e hm=>jW he (S7 e hm)
  refine ⟨by rw [List.length_map,lA.1];omega,fl ij zt,.inr ⟨g,0,zs.length,cap,rfl,cX,by rw [ee,lA.1],?_⟩,hRL⟩
  exact jJ h1 _ 0 (fun i v hv=>by
   rw [Nat.zero_add,List.getElem?_append_left (by exact (List.getElem?_eq_some_iff.1 hv).1)];exact hv)
theorem FG {fw:Int ->Int}:∀ {z:List Z},(∀ x∈z,jN x.row) ->∀ x∈lx fw z,jN x.row
 | [],_,x,hx=>by cases hx
 | y::l,h,x,hx=>by
  rw [lx] at hx
  rcases xY hx with hx | hx
  ·split at hx
   ·cases hx
   ·simp only [mn] at hx
    subst hx
    intro v hv
    obtain ⟨v0,rX,rfl⟩:=List.mem_map.1 hv
    have hb:bQ (bQ v0)=bQ v0:=by unfold bQ;by_cases h1:v0.k=1<;>by_cases h4:v0.k=4<;>simp [h1,h4]
    rw [hb];exact h y (by simp) v0 rX
  ·exact FG (fun x hx=>h x (tC hx)) x hx
theorem rp:∀ {l:List Z} {k:Int},(eA k l).length<=l.length
 | [],k=>Nat.le_refl _
 | r::l,k=>by
  rw [eA]
  split
  ·simp only [List.length_cons]
   have:=rp (l:=l) (k:=IntKind.i64.wrap (k - if k<r.w then k else r.w));omega
  ·have:=rp (l:=l) (k:=k)
   simp only [List.length_cons];omega
theorem rq {n:Nat}:∀ {l:List Z} {k:Int},(∀ r∈l,r.row.length<=n) ->∀ r∈eA k l,r.row.length<=n
 | [],k,_,r,hr=>by cases hr
 | x::l,k,h,r,hr=>by
  have hl:∀ r∈l,r.row.length<=n:=fun r hr=>h r (tC hr)
  rw [eA] at hr
  split at hr
  ·rcases lQ hr with rfl | hr
   ·exact h x (by simp)
   ·exact rq hl r hr
  ·exact rq hl r hr
def aaU {cols:List Int}{cv kv zv:Value}{aV:List Ex}{k:Int}{z:List Z}(hc:RS M RI 1 cols cv)(hk:RS M (hY M) 6 aV kv)(hz:RS M (RZ M) 2 z zv)(T:Tm):
 bU Tryz.prog 242 [cv,kv,.int .i64 k,zv] T M [] [] (fun v M' _ _=>G5 (YH cols aV k z) v M') aM:=by
 have nU:=hk
 obtain ⟨_,ka,kc,rfl,_⟩:=ax (by decide) (fun _ _=>dS) hk
 obtain ⟨S,hS⟩:∃ S,S=YH cols aV k z:=⟨_,rfl⟩
 rw [<- hS]
 unfold YH at hS
 refine az ajh rfl rfl ?_
 intro bj _
 simp +contextual only [go_sem,sevalprocAttr]
 intro b5 T5 jz ko nq
 refine aF (pT hc nU _) ?_
 rintro v0 M0 AQ ab5 rX
 obtain ⟨s0,rfl⟩:=Hv rX
 by_cases ht:xb (eX cols aV)=0
 rotate_left
 ·rw [if_neg ht] at hS
  simp +contextual only [go_sem,aD,sevalprocAttr,ht]
  refine al (ak ko ?_)
  rw [hS];exact ⟨ht,rfl⟩
 rw [if_pos ht] at hS
 obtain ⟨ts,XX⟩:=La (fun _=>CT) ht
 have aln:=wZ XX
 by_cases hkr:k<0\/50<k
 ·rw [if_pos hkr] at hS
  simp +contextual only [go_sem,aD,sevalprocAttr,ht,hkr]
  refine al (ak ko ?_)
  rw [hS];exact ⟨by decide,rfl⟩
 rw [if_neg hkr] at hS
 simp +contextual only [go_sem,aD,sevalprocAttr,ht,hkr]
 refine aP (yI (KE AQ hc) (cz AQ hz) _) ?_
 by_cases hi:iE cols z=0
 rotate_left
 ·rw [if_neg hi] at hS
  simp +contextual only [go_sem,aD,sevalprocAttr,hi]
  refine al (ak ko ?_)
  rw [hS];exact ⟨hi,rfl⟩
 rw [if_pos hi] at hS
 obtain ⟨hz4,hz8⟩:=kT (nX hi).2
 have hee:BR Eb z=.ok (lx Eb z):=by unfold BR;rw [if_pos (nX hi).2]
 simp +contextual only [go_sem,aD,sevalprocAttr,hi]
 refine Aj (Fo (cz AQ hz) _) ?_ (fun _ _ _ _ h=>h.elim)
 rintro v M1 row aW bD nF hv
 rw [hee] at hv
 obtain ⟨pa,pc,xs,rfl,fq,bN⟩:=hv
 simp only [List.cons.injEq,and_true] at bN
 subst bN
 simp +contextual only [go_sem,sevalprocAttr]
 refine o9 [] V4.bd fun M2 bh akp _=> ?_
 have eb:=(AQ.trans aW).trans bh
 have SE:=BP Eb z
 refine GY V4.bd (ajF akp (tH eb nU) aln) (fun x hx hr=>⟨hr,FG (zF hi) _ hx⟩) rfl (dl (eU bh) fq) (by omega) nF fun L' R' cK=> ?_
 obtain ⟨Q,hQ⟩:∃ Q,Q=ada aV k z:=⟨_,rfl⟩
 have hQ2:=hQ
 unfold ada at hQ
 have lA:=gy (wx aV) (lx Eb z)
 obtain ⟨l,hl⟩:∃ l,l=fk (wx aV) (lx Eb z):=⟨_,rfl⟩
 rw [<- hl] at hQ cK lA
 have hll:l.length=(lx Eb z).length:=lA.1
 rw [<- hll] at cK
 rw [<- hll]
 simp +contextual only [go_sem,aD,sevalprocAttr]
 refine bR l.length 51 [(49,.slice pa l.length pc),(50,.int .i64 (l.length:Int))] (fun i e h=>∃ N' M' R' fv acc left,aG T N'/\bm M M'/\RS M' (RZ M') 2 l (.slice pa l.length pc)/\h=⟨N',M',[],R'⟩/\e 15=fv/\e 16=.int .i64 left/\kY 37 2 (RZ M') [] R' fv acc/\acc.length<=i/\Q=acc++eA left (l.drop i)) 0 (by omega) (by simp only [aE,go_sem,sevalprocAttr]) (by simp only [go_sem,sevalprocAttr]) (cK _ fun M3 bG cH=>aC ⟨T5,M3,[],_,[],k,ko,eb.trans bG,cH,rfl,by simp only [go_sem,sevalprocAttr],by simp only [go_sem,sevalprocAttr],cV,by simp,hQ⟩) ?_
 rintro i e h hi aI ht ⟨T1,M3,R1,fv,acc,left,cY,bG,Jm,rfl,e15,e16,bq,js,am⟩
 simp only [aE] at aI
 obtain ⟨aky,g5,c5,abR,ak7,_,hgg⟩:=ax (by decide) (fun _ _=>bi) Jm
 cases abR
 by_cases aL:i<l.length
 ·obtain ⟨b',o',cs',rfl,bP,s,cH,rfl⟩:=hgg i l[i] (gq aL)
  obtain ⟨y0,y1,_⟩:=bP
  obtain ⟨sa,sc,rfl⟩:=dH cH
  rw [dq aL,eA] at am
  simp +contextual only [go_sem,aD,sevalprocAttr,aI,ht,aL,y0,y1]
  intro b18 T18 afh abl ae7
  have hT:=cY.trans abl
  by_cases un:0<left
  ·rw [if_pos un] at am
   obtain ⟨w,hw⟩:∃ w,w=if left<l[i].w then left else l[i].w:=⟨_,rfl⟩
   rw [<- hw] at am
   simp +contextual only [go_sem,aD,sevalprocAttr,e16,e15,un,aB afh,<- hw]
   intro b3 gK cZ
   have hz:RZ M3 ⟨l[i].row,w⟩ [.slice sa l[i].row.length sc,.int .i64 w]:=⟨_,cH,rfl⟩
   refine cB (Tryz.underlying32) ix iw (x:=⟨l[i].row,w⟩) bq hz (fun _ _=>bi) (gh hz) gK (by omega) (by decide) ?_
   intro fv' R' bw
   simp +contextual only [go_sem,sevalprocAttr,ht]
   refine aS (al (al (aC ⟨l.length - (i+1),by omega,rfl,i+1,by omega,rfl,?_,?_,T18,M3,R',fv',acc++[⟨l[i].row,w⟩],IntKind.i64.wrap (left - w),hT,bG,Jm,rfl,?_,?_,bw,?_,?_⟩)))
   ·simp only [aE,aI,go_sem,sevalprocAttr]
   ·simp only [go_sem,sevalprocAttr,aA i (by omega)]
   ·simp only [go_sem,sevalprocAttr]
   ·simp only [go_sem,sevalprocAttr]
   ·rw [List.length_append];simp only [ln];omega
   ·rw [am,List.append_assoc];rfl
  ·rw [if_neg un] at am
   simp +contextual only [go_sem,aD,sevalprocAttr,ht,e16,un]
   refine aS (al (aC ⟨l.length - (i+1),by omega,rfl,i+1,by omega,rfl,?_,?_,T18,M3,R1,fv,acc,left,hT,bG,Jm,rfl,?_,?_,bq,by omega,am⟩))
   ·simp only [aE,aI,go_sem,sevalprocAttr]
   ·simp only [go_sem,sevalprocAttr,aA i (by omega)]
   ·simp only [go_sem,sevalprocAttr,e15]
   ·simp only [go_sem,sevalprocAttr,e16]
 ·have:i=l.length:=by omega
  subst this
  rw [List.drop_length,eA,List.append_nil] at am
  simp +contextual only [go_sem,aD,sevalprocAttr,aI,ht,aL,e15]
  have sU:∀ r∈l,r.row.length<=8:=lA.2 _ (BQ hz8)
  rw [<- hQ2,am] at hS
  refine kJ F98.bd bq (by omega) (by decide) trivial fun M4 dz de cH=> ?_
  refine aF (vm (aH bm.rfl' (eU dz) cH) (by omega) (fun r hr=>by rw [<- am,hQ] at hr;have:=rq sU r hr;omega) _) ?_
  rintro v M5 dN _ hv
  rw [<- hS] at hv
  obtain ⟨s,e,rfl⟩:=mw hv
  simp +contextual only [go_sem,sevalprocAttr]
  exact ak cY hv
def se (p:Pl)(c:List (List Int))(z:List (List Z)):Except Int (List Z):=
 if p.k=3 then X9 (c.getD 0 []) p.xs (z.getD 0 []) else YH (c.getD 0 []) p.xs p.n (z.getD 0 [])
def Yx (k:Int):Bool:=decide (k=3) || decide (k=13)
variable {M:aR}
def tK {c:List (List Int)}{ca:Option Addr}{cc i:Nat}(h:RS M (lZ M) 1 c (.slice ca c.length cc))(hi:i<c.length):∃ b o v,ca=some ⟨b,o,none⟩/\aN M ⟨b,o+i,none⟩=some v/\RS M RI 1 (c.getD i []) v:=by
 obtain ⟨_,a,c',he,_,_,hg⟩:=ax (by decide) (fun _ _=>cQ) h
 cases he
 obtain ⟨b,o,cs,hb,bP,v,rfl,hv⟩:=hg i c[i] (gq hi)
 refine ⟨b,o,v,hb,?_,?_⟩
 ·have:=bP.1;rw [Nat.mul_one] at this;exact this
 ·rw [List.getD_eq_getElem?_getD,gq hi];exact hv
def oJ {c:List (List Z)}{ca:Option Addr}{cc i:Nat}(h:RS M (RD M) 1 c (.slice ca c.length cc))(hi:i<c.length):∃ b o v,ca=some ⟨b,o,none⟩/\aN M ⟨b,o+i,none⟩=some v/\RS M (RZ M) 2 (c.getD i []) v:=by
 obtain ⟨_,a,c',he,_,_,hg⟩:=ax (by decide) (fun _ _=>gW) h
 cases he
 obtain ⟨b,o,cs,hb,bP,v,rfl,hv⟩:=hg i c[i] (gq hi)
 refine ⟨b,o,v,hb,?_,?_⟩
 ·have:=bP.1;rw [Nat.mul_one] at this;exact this
 ·rw [List.getD_eq_getElem?_getD,gq hi];exact hv
def Ra {p:Pl}{bp op:Nat}{pc:List Value}{c:List (List Int)}{z:List (List Z)}{cv zv:Value}(bP:At M bp op pc)(hp:gP M p pc)(hc:RS M (lZ M) 1 c cv)(hz:RS M (RD M) 1 z zv)(h1:1<=c.length/\1<=z.length)(h2:4<=p.k/\p.k<=9 ->2<=c.length/\2<=z.length)(mm:Yx p.k=true)
 (T:Tm):
 bU Tryz.prog 205 [.pointer (some ⟨bp,op,none⟩),cv,zv] T M [] [] (fun v M' _ _=>G5 (se p c z) v M') aM:=by
 obtain ⟨s1,a1,n1,a2,n2,a3,n3,rfl,ox,_,fq,FO,_⟩:=dj hp
 obtain ⟨y0,y1,y2,y3,y4,y5,y6,y7,y8,y9,y10,_⟩:=bP
 have hx:hY M p.x [.int .i64 p.x.k,.int .i64 p.x.v.k,.int .i64 p.x.v.n,st p.x.v.t,.int .i64 p.x.c,s1]:=by
  obtain ⟨xc,xv,av,s,he,h,_⟩:=jV.1 hp
  obtain ⟨s2,rfl,_⟩:=dG h
  cases he;exact h
 obtain ⟨_,ca,cc,rfl,_⟩:=ax (by decide) (fun _ _=>cQ) hc
 obtain ⟨_,za,zc,rfl,_⟩:=ax (by decide) (fun _ _=>gW) hz
 obtain ⟨cb,co,v0,rfl,m0,EA⟩:=tK hc (i:=0) (by omega)
 obtain ⟨zb,zo,w0,rfl,k0,uU⟩:=oJ hz (i:=0) (by omega)
 have g0:(0:Int)<(c.length:Int):=by omega
 have g0':(0:Int)<(z.length:Int):=by omega
 rw [Nat.add_zero] at m0 k0
 obtain ⟨S,hS⟩:∃ S,S=se p c z:=⟨_,rfl⟩
 rw [<- hS]
 unfold se at hS
 refine az P7 rfl rfl ?_
 intro bj _
 by_cases FV:p.k=3
 ·rw [if_pos FV] at hS
  simp +contextual only [go_sem,aD,sevalprocAttr,y0,FV]
  refine aT ?_
  simp +contextual only [go_sem,sevalprocAttr,y8,m0,k0,g0,g0']
  refine aF (aaP EA fq uU _) ?_
  rintro v M1 aW bD hv
  rw [<- hS] at hv
  obtain ⟨s,e,rfl⟩:=mw hv
  simp +contextual only [go_sem,sevalprocAttr]
  exact ak aG.rfl' hv
 rw [if_neg FV] at hS
 have akU:p.k=13:=by simpa [Yx,FV] using mm
 simp +contextual only [go_sem,aD,sevalprocAttr,y0,akU]
 refine aT ?_
 simp +contextual only [go_sem,sevalprocAttr,y1,y8,m0,k0,g0,g0']
 refine aF (aaU EA fq uU _) ?_
 rintro v M1 aW bD hv
 rw [<- hS] at hv
 obtain ⟨s,e,rfl⟩:=mw hv
 simp +contextual only [go_sem,sevalprocAttr]
 exact ak aG.rfl' hv
set_option maxHeartbeats 1000000
def gj (aY:List (List Int))(p:Pl):List Int:=match fH aY p with
 | .ok c=>c
 | .error _=>[]
mutual
def wD (aY:List (List Int))(data:List (List Z)):Pl ->Except Int (List Z)
 | .mk k n x xs ags kids=>if k=1 then oC (data.getD n.toNat []) else match j0 aY data kids with
  | .error e=> .error e
  | .ok zs=>se (.mk k n x xs ags []) (kids.map (gj aY)) zs
def j0 (aY:List (List Int))(data:List (List Z)):List Pl ->Except Int (List (List Z))
 | []=> .ok []
 | p::l=>match wD aY data p with
  | .error e=> .error e
  | .ok z=>match j0 aY data l with
   | .error e=> .error e
   | .ok zs=> .ok (z::zs)
end
mutual
def wX:Pl ->Bool
 | .mk k _ _ _ _ kids=>(decide (k=1) || Yx k) && Eh kids
def Eh:List Pl ->Bool
 | []=>true
 | p::l=>wX p && Eh l
end
theorem Ar:∀ {l:List Pl},Eh l=true ->∀ p∈l,wX p=true
 | q::l,h,p,hp=>by
  rw [Eh,Bool.and_eq_true] at h
  rcases lQ hp with rfl | hp
  ·exact h.1
  ·exact Ar h.2 p hp
def BS (aY:List (List Int))(p:Pl)(data:List (List Z)):Except Int (List Z):=match fH aY p with
 | .error e=> .error e
 | .ok _=>if jj aY data=0 then wD aY data p else .error (jj aY data)
mutual
theorem wy (aY:List (List Int)):∀ (p:Pl) (d d' m m':Nat) (c:List Int) (q:Nat),d'<=d ->m'<=m ->eV aY d m p=(.ok c,q) ->∃ q',q'+m<=q+m'/\eV aY d' m' p=(.ok c,q')
 | .mk k n x xs ags kids,d,d',m,m',c,q,hd,hm,h=>by
  rw [eV] at h ⊢
  split at h
  ·cases h
  split at h
  ·cases h
  split at h
  ·cases h
  rename_i h1 h2 h3
  rw [if_neg (by omega),if_neg h2,if_neg h3]
  split at h
  ·cases h
  ·rename_i cs m1 hl
   obtain ⟨q',hq,jL⟩:=yD aY kids _ (d'+1) _ (m'+1) _ _ (by omega) (by omega) hl
   rw [jL]
   simp only [Prod.mk.injEq] at h
   obtain ⟨h,rfl⟩:=h
   exact ⟨q',by omega,by dsimp only;rw [h]⟩
theorem yD (aY:List (List Int)):∀ (l:List Pl) (d d' m m':Nat) (c:List (List Int)) (q:Nat),d'<=d ->m'<=m ->gT aY d m l=(.ok c,q) ->∃ q',q'+m<=q+m'/\gT aY d' m' l=(.ok c,q')
 | [],d,d',m,m',c,q,hd,hm,h=>by
  rw [gT] at h ⊢
  cases h
  exact ⟨m',by omega,rfl⟩
 | p::l,d,d',m,m',c,q,hd,hm,h=>by
  rw [gT] at h ⊢
  split at h
  ·cases h
  ·rename_i c1 m1 hp
   obtain ⟨q1,hq1,EC⟩:=wy aY p _ d' _ m' _ _ hd hm hp
   rw [EC]
   dsimp only
   split at h
   ·cases h
   ·rename_i cs m2 hl
    obtain ⟨q2,hq2,jL⟩:=yD aY l _ d' _ q1 _ _ hd (by omega) hl
    rw [jL]
    cases h
    exact ⟨q2,by omega,rfl⟩
end
def zh (k n:Int)(a:List Int)(xs:List Ex)(ags:List Ag):Except Int (List Int):=
 if k=12 then (if 8<xs.length+ags.length then .error 5 else match eX a xs with
  | .error e=> .error e
  | .ok ks=>match jp a ags with | .ok g=> .ok (ks++g) | .error e=> .error e)
 else match eX a xs with
  | .error e=> .error e
  | .ok _=>if n<0\/50<n then .error 3 else .ok a
theorem AF {cols:List Int}:∀ {xs:List Ex} {l:List Int},iG cols xs=.ok l ->l.length=xs.length
 | [],l,h=>by rw [iG] at h;cases h;rfl
 | x::xs,l,h=>by
  rw [iG] at h
  split at h
  ·cases h
  ·split at h
   ·rename_i ts h2
    cases h
    rw [List.length_cons,List.length_cons,AF h2]
   ·cases h
def tp {cols:List Int}{xs:List Ex}{l:List Int}(h:eX cols xs=.ok l):l.length=xs.length/\xs.length<=8:=by
 unfold eX at h
 split at h
 ·cases h
 ·exact ⟨AF h,by omega⟩
theorem vf {cols:List Int}:∀ {xs:List Ag} {l:List Int},jp cols xs=.ok l ->l.length=xs.length
 | [],l,h=>by rw [jp] at h;cases h;rfl
 | x::xs,l,h=>by
  rw [jp] at h
  split at h
  ·cases h
  ·split at h
   ·rename_i ts h2
    cases h
    rw [List.length_cons,List.length_cons,vf h2]
   ·cases h
def adT {M:aR}{b o:Nat}{v0 v1 v2 v3 v4 v5 v6 v7 v8 v9 v10:Value}(h:At M b o [v0,v1,v2,v3,v4,v5,v6,v7,v8,v9,v10]):aN M ⟨b,o,none⟩=some v0/\aN M ⟨b,o+1,none⟩=some v1/\aN M ⟨b,o+8,none⟩=some v8/\aN M ⟨b,o+9,none⟩=some v9/\aN M ⟨b,o+10,none⟩=some v10:=by
 obtain ⟨h0,h1,h2,h3,h4,h5,h6,h7,h8,h9,I4,_⟩:=h
 exact ⟨h0,h1,h8,h9,I4⟩
def IG {M:aR}{cols:List Int}{cv:Value}{p:Pl}{b o:Nat}{cs:List Value}(bP:At M b o cs)(hp:gP M p cs)(lz:RS M RI 1 cols cv)(hk:p.k=12\/p.k=13)(T:Tm):
 bU Tryz.prog 203 [.pointer (some ⟨b,o,none⟩),cv] T M [] [] (fun r M' _ _=>Hu (zh p.k p.n cols p.xs p.ags) r M') aM:=by
 obtain ⟨s1,a1,n1,a2,n2,a3,n3,rfl,iQ,hkx,fq,DM,mV⟩:=dj hp
 obtain ⟨x0,x1,x8,x9,x10⟩:=adT bP
 have hlx:=(ax (by decide) (fun _ _=>dS) fq).1
 have hla:=(ax (by decide) (fun _ _=>mM) DM).1
 obtain ⟨_,ca,cc,rfl,_⟩:=ax (by decide) (fun _ _=>cE) lz
 refine az aiZ rfl rfl ?_
 intro bj _
 simp +contextual only [go_sem,sevalprocAttr]
 refine aT ?_
 have hw:IntKind.i64.wrap ((p.xs.length:Int)+(p.ags.length:Int))=((p.xs.length+p.ags.length:Nat):Int):=by
  rw [bJ (by omega) (by omega)];omega
 rcases hk with hk | hk
 ·unfold zh
  rw [if_pos hk]
  by_cases h8:8<p.xs.length+p.ags.length
  ·have uf:(8:Int)<((p.xs.length+p.ags.length:Nat):Int):=by omega
   rw [if_pos h8]
   simp +contextual only [go_sem,aD,sevalprocAttr,x0,x8,x9,hk,hw,uf]
   exact ak aG.rfl' ⟨by decide,_,rfl⟩
  ·have uf:¬ (8:Int)<((p.xs.length+p.ags.length:Nat):Int):=by omega
   rw [if_neg h8]
   simp +contextual only [go_sem,aD,sevalprocAttr,x0,x8,x9,hk,hw,uf]
   refine aF (pT lz fq T) ?_
   rintro r M2 bh aZ hr
   cases nH:eX cols p.xs with
   | error er=>
    rw [nH] at hr
    obtain ⟨cm,rfl⟩:=hr
    simp +contextual only [go_sem,aD,sevalprocAttr,cm]
    exact ak aG.rfl' ⟨cm,_,rfl⟩
   | ok ks=>
    rw [nH] at hr
    obtain ⟨kv,rfl,P1⟩:=hr
    have y0:=ay bh x0
    have y9:=ay bh x9
    obtain ⟨rV,_⟩:=tp nH
    obtain ⟨_,ka,kc,rfl,_⟩:=ax (by decide) (fun _ _=>cE) P1
    simp +contextual only [go_sem,aD,sevalprocAttr,y0,y9,hk]
    refine aF (Fc (aH bh (fun _ _ h=>h) lz) (aH bh (qI bh) DM) (by omega) T) ?_
    rintro r M3 bG bC hr
    have afO:=aH bG (fun _ _ h=>h) P1
    cases abo:jp cols p.ags with
    | error er=>
     rw [abo] at hr
     obtain ⟨cm,rfl⟩:=hr
     simp +contextual only [go_sem,sevalprocAttr]
     intro b1 fO
     refine dh V3.bd fun M4 dz eH de=> ?_
     have Jm:RS M4 (lZ M4) 1 [ks,[]] (.slice (some ⟨b1,0,none⟩) 2 2):=dE (fun _ _=>cQ) eH (l:=[ks,[]]) ⟨_,_,rfl,⟨_,rfl,aH dz (fun _ _ h=>h) afO⟩,_,_,rfl,⟨_,rfl,bz⟩,rfl⟩ rfl (by omega)
     refine aF (sH Jm (by simp) (by intro l hl;simp only [mn] at hl;rcases hl with rfl | rfl<;>(try simp only [List.length_nil])<;>omega) T) ?_
     rintro v M5 dN bS hv
     simp +contextual only [go_sem,sevalprocAttr]
     exact ak aG.rfl' ⟨cm,_,rfl⟩
    | ok g=>
     rw [abo] at hr
     obtain ⟨gv,rfl,hgv⟩:=hr
     have VQ:=vf abo
     obtain ⟨_,ga,gc,rfl,_⟩:=ax (by decide) (fun _ _=>cE) hgv
     simp +contextual only [go_sem,sevalprocAttr]
     intro b1 fO
     refine dh V3.bd fun M4 dz eH de=> ?_
     have Jm:RS M4 (lZ M4) 1 [ks,g] (.slice (some ⟨b1,0,none⟩) 2 2):=dE (fun _ _=>cQ) eH (l:=[ks,g]) ⟨_,_,rfl,⟨_,rfl,aH dz (fun _ _ h=>h) afO⟩,_,_,rfl,⟨_,rfl,aH dz (fun _ _ h=>h) hgv⟩,rfl⟩ rfl (by omega)
     refine aF (sH Jm (by simp) (by intro l hl;simp only [mn] at hl;rcases hl with rfl | rfl<;>(try simp only [List.length_nil])<;>omega) T) ?_
     rintro v M5 dN bS hv
     simp +contextual only [go_sem,sevalprocAttr]
     refine ak aG.rfl' ⟨_,rfl,?_⟩
     simpa using hv
 ·unfold zh
  rw [if_neg (by omega)]
  simp +contextual only [go_sem,aD,sevalprocAttr,x0,x8,hk]
  refine aF (pT lz fq T) ?_
  rintro r M2 bh aZ hr
  cases nH:eX cols p.xs with
  | error er=>
   rw [nH] at hr
   obtain ⟨cm,rfl⟩:=hr
   simp +contextual only [go_sem,aD,sevalprocAttr,cm]
   exact ak aG.rfl' ⟨cm,_,rfl⟩
  | ok ks=>
   rw [nH] at hr
   obtain ⟨kv,rfl,P1⟩:=hr
   have y0:=ay bh x0
   have y1:=ay bh x1
   simp +contextual only [go_sem,aD,sevalprocAttr,y0,y1,hk]
   split
   ·exact ak aG.rfl' ⟨by decide,_,rfl⟩
   ·exact ak aG.rfl' ⟨_,rfl,aH bh (fun _ _ h=>h) lz⟩
mutual
theorem BA (aY:List (List Int))(bI n:Nat):∀ p,n<=60 ->(eV aY bI n p).2<=61/\(∀ t,(eV aY bI n p).1=.ok t ->(eV aY bI n p).2<=60)
 | .mk k c x xs ags kids,hn=>by
  rw [eV]
  split
  ·exact ⟨by simp only;omega,fun t h=>by simp at h⟩
  ·split
   ·exact ⟨by simp only;omega,fun t h=>by simp at h⟩
   ·split
    ·exact ⟨by simp only;omega,fun t h=>by simp at h⟩
    ·have:=Fa aY (bI+1) (n+1) kids (by omega)
     split
     ·rename_i e m hm
      rw [hm] at this
      exact ⟨this.1,fun t h=>by simp at h⟩
     ·rename_i t m hm
      rw [hm] at this
      have h2:=this.2 t rfl
      simp only at h2
      exact ⟨by simp only;omega,fun _ _=>h2⟩
theorem Fa (aY:List (List Int))(bI n:Nat):∀ l,n<=60 ->(gT aY bI n l).2<=61/\(∀ t,(gT aY bI n l).1=.ok t ->(gT aY bI n l).2<=60)
 | [],hn=>by rw [gT];exact ⟨by simp only;omega,fun _ _=>hn⟩
 | x::l,hn=>by
  rw [gT]
  have hx:=BA aY bI n x hn
  split
  ·rename_i e m hm
   rw [hm] at hx
   exact ⟨hx.1,fun t h=>by simp at h⟩
  ·rename_i t m hm
   rw [hm] at hx
   have hl:=Fa aY bI m l (hx.2 t rfl)
   split
   ·rename_i e m' DR
    rw [DR] at hl
    exact ⟨hl.1,fun t h=>by simp at h⟩
   ·rename_i ts m' DR
    rw [DR] at hl
    exact ⟨hl.1,fun _ _=>hl.2 ts rfl⟩
end
def Ac (acc:List (List Int)):Except Int (List (List Int))×Nat ->Except Int (List (List Int))×Nat
 | (.ok l,m)=>(.ok (acc++l),m)
 | (.error e,m)=>(.error e,m)
theorem O4 (r):Ac [] r=r:=by obtain ⟨r,m⟩:=r;cases r<;>rfl
def Q2 {aY:List (List Int)}{bI n m:Nat}{x:Pl}{l:List Pl}{t:List Int}{acc:List (List Int)}(h:eV aY bI n x=(.ok t,m)):Ac acc (gT aY bI n (x::l))=Ac (acc++[t]) (gT aY bI m l):=by
 rw [gT,h]
 simp only
 rcases hl:gT aY bI m l with ⟨r,m'⟩
 cases r<;>simp [Ac]
theorem Nx {aY:List (List Int)}{bI n m:Nat}{x:Pl}{l:List Pl}{e:Int}{acc:List (List Int)}(h:eV aY bI n x=(.error e,m)):Ac acc (gT aY bI n (x::l))=(.error e,m):=by
 rw [gT,h];rfl
def Gx {aY:List (List Int)}{k n:Int}{x:Ex}{xs:List Ex}{ags:List Ag}{c:List (List Int)}(hk:k=12\/k=13):lj aY k n x xs ags c=zh k n (c.getD 0 []) xs ags:=by
 unfold lj zh
 generalize hA:eX (c.getD 0 []) xs=A
 generalize hB:jp (c.getD 0 []) ags=B
 rcases hk with rfl | rfl<;>cases A<;>cases B<;>simp_all
theorem CG:∀ {a b l:List Int},lC a b=.ok l ->l.length<=a.length
 | [],b,l,h=>by simp [lC] at h;subst h;exact Nat.le_refl _
 | t::a,[],l,h=>by simp [lC] at h;subst h;simp
 | t::a,u::b,l,h=>by
  rw [lC] at h
  split at h
  ·cases h
  ·split at h
   ·rename_i m hm
    cases h
    have:=CG hm
    simp only [List.length_cons];omega
   ·cases h
def zg {c:List (List Int)}(h:∀ t∈c,t.length<=8)(i:Nat):(c.getD i []).length<=8:=by
 rw [List.getD_eq_getElem?_getD]
 by_cases hi:i<c.length
 ·rw [gq hi];exact h _ (gm hi)
 ·rw [List.getElem?_eq_none (by omega)];simp
def OY {aY:List (List Int)}{k n:Int}{x:Ex}{xs:List Ex}{ags:List Ag}{c:List (List Int)}{l:List Int}(ht:∀ t∈aY,t.length<=8)(hc:∀ t∈c,t.length<=8)(h:lj aY k n x xs ags c=.ok l):l.length<=8:=by
 have h0:=zg hc 0
 have h1:=zg hc 1
 unfold lj at h
 simp only at h
 split at h
 ·split at h
  ·injection h with h;rw [<- h];exact zg ht _
  ·cases h
 split at h
 ·split at h
  ·injection h with h;rw [<- h];exact h0
  ·cases h
 split at h
 ·have:=tp h;omega
 split at h
 ·unfold oE at h
  split at h
  ·cases h
  ·have:=CG h;omega
 split at h
 ·injection h with h;rw [<- h];exact h0
 split at h
 ·split at h
  ·cases h
  ·split at h
   ·cases h
   ·rename_i ks hks
    split at h
    ·rename_i g hg
     injection h with h
     have e1:=tp hks
     have e2:=vf hg
     rw [<- h,List.length_append]
     omega
    ·cases h
 split at h
 ·split at h
  ·cases h
  ·split at h
   ·cases h
   ·injection h with h;rw [<- h];exact h0
 split at h
 ·cases h
 ·split at h
  ·cases h
  ·injection h with h
   rw [<- h]
   split<;>omega
mutual
theorem sG {aY:List (List Int)}(ht:∀ t∈aY,t.length<=8)(bI n:Nat):∀ p {l},(eV aY bI n p).1=.ok l ->l.length<=8
 | .mk k c x xs ags kids,l,h=>by
  rw [eV] at h
  split at h
  ·cases h
  ·split at h
   ·cases h
   ·split at h
    ·cases h
    ·split at h
     ·cases h
     ·rename_i c m hm
      have h2:=By ht (bI+1) (n+1) kids (l:=c) (by rw [hm])
      exact OY ht h2 h
theorem By {aY:List (List Int)}(ht:∀ t∈aY,t.length<=8)(bI n:Nat):∀ ps {l},(gT aY bI n ps).1=.ok l ->∀ t∈l,t.length<=8
 | [],l,h=>by rw [gT] at h;cases h;intro t ht;cases ht
 | p::ps,l,h=>by
  rw [gT] at h
  split at h
  ·cases h
  ·rename_i t m hm
   split at h
   ·cases h
   ·rename_i ts m' DR
    injection h with h
    intro u hu
    rw [<- h,List.mem_cons] at hu
    rcases hu with rfl | hu
    ·exact sG ht bI n p (by rw [hm])
    ·exact By ht bI m ps (by rw [DR]) u hu
end
def BB (l cols:List Int)(x:Ex):Except Int (List Int):=match rO cols x with | .ok _=> .ok l | .error e=> .error e
theorem JM {aY:List (List Int)}{n:Int}{x:Ex}{xs:List Ex}{ags:List Ag}{c:List (List Int)}:lj aY 2 n x xs ags c=BB (c.getD 0 []) (c.getD 0 []) x:=by
 unfold lj BB
 rw [if_neg (by decide),if_pos rfl]
 cases rO (c.getD 0 []) x<;>rfl
theorem JN {aY:List (List Int)}{k n:Int}{x:Ex}{xs:List Ex}{ags:List Ag}{c:List (List Int)}(hk:4<=k/\k<=7):lj aY k n x xs ags c=
 if 8<(c.getD 0 []++c.getD 1 []).length then .error 5 else BB (if k=5\/k=6 then c.getD 0 [] else c.getD 0 []++c.getD 1 []) (c.getD 0 []++c.getD 1 []) x:=by
 unfold lj BB
 simp only
 rw [if_neg (by omega),if_neg (by omega),if_neg (by omega),if_neg (by omega),if_neg (by omega),if_neg (by omega),if_neg (by omega)]
 split
 ·rfl
 ·cases rO (c.getD 0 []++c.getD 1 []) x<;>rfl
theorem ry {l cols:List Int}{x:Ex}{sv:Value}{M:aR}(hs:RS M RI 1 l sv)(he:∀ e,rO cols x=.error e ->e≠0):Hu (BB l cols x) (.tuple ⟨[sv,.int .i64 (KR cols x)]⟩) M:=by
 unfold BB KR
 cases h:rO cols x with
 | ok u=>exact ⟨sv,rfl,hs⟩
 | error e=>exact ⟨he e h,sv,rfl⟩
def Y4 {M:aR}{b o:Nat}{v0 v1 v2 v3 v4 v5 v6 v7 v8 v9 v10:Value}(h:At M b o [v0,v1,v2,v3,v4,v5,v6,v7,v8,v9,v10]):aN M ⟨b,o+2,none⟩=some v2/\aN M ⟨b,o+3,none⟩=some v3/\aN M ⟨b,o+4,none⟩=some v4/\aN M ⟨b,o+5,none⟩=some v5/\aN M ⟨b,o+6,none⟩=some v6/\aN M ⟨b,o+7,none⟩=some v7:=by
 obtain ⟨h0,h1,h2,h3,h4,h5,h6,h7,h8,h9,I4,_⟩:=h
 exact ⟨h2,h3,h4,h5,h6,h7⟩
def JD {k:Int}(h:0<=iF k)(h1:k≠1):iF k=1\/iF k=2:=by
 unfold iF at h ⊢
 grind
theorem lW {res:Except Int (List Int)}{v:Value}{M:aR}(h:Hu res v M):∃ sv er,v=.tuple ⟨[sv,.int .i64 er]⟩:=by
 cases res with
 | ok l=>obtain ⟨sv,rfl,_⟩:=h;exact ⟨_,_,rfl⟩
 | error e=>obtain ⟨_,sv,rfl⟩:=h;exact ⟨_,_,rfl⟩
def ClX (p:Pl):Prop:=∀ (M:aR) (T:Tm) (b o hb bI n:Nat) (cs:List Value) (aY:List (List Int)) (tv:Value),At M b o cs ->gP M p cs ->RS M (lZ M) 1 aY tv ->(∀ t∈aY,t.length<=8) ->n<=60 ->bI<=16 ->
 bU Tryz.prog 144 [.pointer (some ⟨hb,0,none⟩),.pointer (some ⟨b,o,none⟩),.int .i64 (bI:Int)] T M [(hb,[tv,.int .i64 (n:Int)])] [] (fun r M' L' R'=>Hu (eV aY bI n p).1 r M'/\L'=[(hb,[tv,.int .i64 ((eV aY bI n p).2:Int)])]/\R'=[]) aM
theorem clX:∀ (sz:Nat) (p:Pl),SizeOf.sizeOf p<=sz ->ClX p:=by
 intro sz
 induction sz with
 | zero=>intro p hp;cases p;simp at hp
 | succ sz ih=>
  intro p ed M T b o hb bI n cs aY tv bP hp nG DS hn Zs
  obtain ⟨s1,a1,n1,a2,n2,a3,n3,rfl,iQ,hkx,fq,DM,mV⟩:=dj hp
  obtain ⟨m0,m1,m8,m9,m10⟩:=adT bP
  obtain ⟨fp,a',c',iR,cX,wH,hg⟩:=ax (by decide) (fun _ _=>jx) mV
  injection iR with h1 h2 h3
  subst h1 h3
  cases p with | mk k pn x xs ags kids=>
  simp only [Pl.k,Pl.n,Pl.x,Pl.xs,Pl.ags,Pl.kids] at m0 m1 m8 m9 m10 fq DM mV cX hg fp hkx
  obtain ⟨S,hS⟩:∃ S,S=eV aY bI n (.mk k pn x xs ags kids):=⟨_,rfl⟩
  rw [<- hS]
  rw [eV] at hS
  have hwn:=aA n (by omega)
  have ZO:=aA bI (by omega)
  refine az ail rfl rfl ?_
  intro bj _
  simp only [aJ,and_true] at bj
  simp +contextual only [go_sem,aD,sevalprocAttr,bj,hwn,m0]
  by_cases wK:60<n+1\/15<bI
  ·rw [if_pos wK] at hS
   rw [if_pos (by omega)]
   exact aQ aG.rfl' rfl rfl ⟨by rw [hS];exact ⟨by decide,_,rfl⟩,by rw [hS],rfl⟩
  rw [if_neg wK] at hS
  rw [if_neg (by omega)]
  refine aF (Rq k T) ?_
  rintro r M1 aW bD rfl
  simp only [aJ,and_true] at bD
  replace m0:=ay aW m0
  replace m1:=ay aW m1
  replace m8:=ay aW m8
  replace m9:=ay aW m9
  replace m10:=ay aW m10
  by_cases nU:iF k<0
  ·rw [if_pos nU] at hS
   simp +contextual only [go_sem,aD,sevalprocAttr,nU]
   exact aQ aG.rfl' rfl rfl ⟨by rw [hS];exact ⟨by decide,_,rfl⟩,by rw [hS],rfl⟩
  rw [if_neg nU] at hS
  by_cases rV:(kids.length:Int)=iF k
  ·rw [if_neg (fun h=>h rV)] at hS
   have FV:kids.length<=2:=by
    have:iF k<=2:=by unfold iF;repeat' split<;>omega
    omega
   simp +contextual only [go_sem,aD,sevalprocAttr,nU,rV,m10]
   refine bR kids.length 51 [(0,.pointer (some ⟨hb,0,none⟩)),(1,.pointer (some ⟨b,o,none⟩)),(2,.int .i64 (bI:Int)),(50,.int .i64 (kids.length:Int))]
    (fun i e h=>∃ (M':aR) (n':Nat) (R:RR) (fv:Value) (acc:List (List Int)),bm M1 M'/\M' hb=none/\n'<=60/\h=⟨T,M',[(hb,[tv,.int .i64 (n':Int)])],R⟩/\e 9=fv/\acc.length=i/\(i<kids.length ->kY 53 1 (lZ M') [] R fv acc)/\(i=kids.length ->R=[]/\RS M' (lZ M') 1 acc fv)/\Ac acc (gT aY (bI+1) n' (kids.drop i))=gT aY (bI+1) (n+1) kids/\∀ t∈acc,t.length<=8)
    0 (by omega) (by simp only [aE,rV,go_sem,sevalprocAttr]) (by simp only [go_sem,sevalprocAttr]) (aC ⟨M1,n+1,[],.slice none 0 0,[],bm.rfl',bD,by omega,rfl,by simp only [go_sem,sevalprocAttr],rfl,fun _=>cV,fun _=>⟨rfl,bz⟩,O4 _,by intro t ht;cases ht⟩) ?_
   rintro i e h hi aI ht ⟨M2,n',R2,fv,acc,bh,n2,VT,rfl,e9,js,bq,nF,am,Xu⟩
   simp only [aE] at aI
   have x10:=ay bh m10
   by_cases aL:i<kids.length
   ·obtain ⟨b',o',cs',rfl,vz,eh⟩:=hg i kids[i] (gq aL)
    have eb:=aW.trans bh
    have bK:kids.drop i=kids[i]::kids.drop (i+1):=dq aL
    rw [bK] at am
    have Jt:SizeOf.sizeOf kids[i]<=sz:=by
     have h1:=List.sizeOf_lt_of_mem (gm aL)
     simp only [Pl.mk.sizeOf_spec] at ed
     omega
    have pq:=BA aY (bI+1) n' kids[i] VT
    have wH:=bq aL
    simp +contextual only [go_sem,aD,sevalprocAttr,aI,ht,aL,x10,ZO]
    refine dF [] (ih kids[i] Jt M2 T b' _ hb (bI+1) n' cs' aY tv (vz.ext eb) (bA eb _ _ eh) (aH eb (cO eb) nG) DS VT (by omega)) ?_ (fun _ _ _ _ _ _ h=>h.elim)
    rintro r M3 L' bG zq bC ⟨hr,rfl, -⟩
    simp only [List.nil_append,aJ,and_true] at bC
    rcases nH:eV aY (bI+1) n' kids[i] with ⟨r1,m⟩
    rw [nH] at hr pq
    cases r1 with
    | error er=>
     obtain ⟨cm,t,rfl⟩:=hr
     rw [Nx nH] at am
     rw [<- am] at hS
     simp +contextual only [go_sem,aD,sevalprocAttr,cm]
     refine bY (aQ aG.rfl' rfl rfl ⟨?_,?_,rfl⟩)
     ·rw [hS];exact ⟨cm,_,rfl⟩
     ·rw [hS]
    | ok t=>
     simp only [Hu] at hr
     obtain ⟨kv,rfl,P1⟩:=hr
     obtain ⟨_,ka,kc,rfl,_⟩:=ax (by decide) (fun _ _=>cE) P1
     rw [Q2 nH] at am
     have Zk:∀ u∈acc++[t],u.length<=8:=by
      intro u hu
      rw [List.mem_append,List.mem_singleton] at hu
      rcases hu with hu | rfl
      ·exact Xu u hu
      ·exact sG DS (bI+1) n' kids[i] (by rw [nH])
     simp +contextual only [go_sem,aD,sevalprocAttr,e9]
     intro b7 mU jD
     have hT:=bh.trans bG
     refine cB (Tryz.underlying130) An zX (fY (cO bG) wH) ⟨_,rfl,P1⟩ (fun _ _=>cQ) (pI (M:=M3) ⟨_,rfl,P1⟩) mU (by omega) (by decide) ?_
     intro fv' R' bw
     simp +contextual only [go_sem,sevalprocAttr,ht]
     refine aS (al ?_)
     by_cases DP:i+1=kids.length
     ·refine ct bw (by rw [List.length_append];simp only [ln];omega) (by decide) ⟨bC,trivial⟩ fun M4 dz de cH=>aC ⟨kids.length - (i+1),by omega,rfl,i+1,by omega,rfl,?_,?_,M4,m,[],fv',acc++[t],hT.trans dz,de.1,pq.2 t rfl,rfl,?_,?_,fun h=>absurd h (by omega),fun _=>⟨rfl,aH bm.rfl' (cO dz) cH⟩,am,Zk⟩
      ·simp only [aE,aI,go_sem,sevalprocAttr]
      ·simp only [go_sem,sevalprocAttr,aA i (by omega)]
      ·simp only [go_sem,sevalprocAttr]
      ·rw [List.length_append,js];rfl
     ·refine aC ⟨kids.length - (i+1),by omega,rfl,i+1,by omega,rfl,?_,?_,M3,m,R',fv',acc++[t],hT,bC,pq.2 t rfl,rfl,?_,?_,fun _=>bw,fun h=>absurd h DP,am,Zk⟩
      ·simp only [aE,aI,go_sem,sevalprocAttr]
      ·simp only [go_sem,sevalprocAttr,aA i (by omega)]
      ·simp only [go_sem,sevalprocAttr]
      ·rw [List.length_append,js];rfl
   ·have:i=kids.length:=by omega
    subst this
    obtain ⟨rfl,Zw⟩:=nF rfl
    rw [List.drop_length,gT] at am
    simp only [Ac,List.append_nil] at am
    rw [<- am] at hS
    simp only at hS
    have eb:=aW.trans bh
    replace m0:=ay bh m0
    replace m1:=ay bh m1
    by_cases k1:k=1
    ·subst k1
     unfold lj at hS
     rw [if_pos rfl] at hS
     obtain ⟨_,ta,tc,rfl,htc,_,htg⟩:=ax (by decide) (fun _ _=>cQ) nG
     simp +contextual only [go_sem,aD,sevalprocAttr,aI,ht,aL,m0]
     refine aT ?_
     by_cases HY:pn<0
     ·rw [if_neg (by omega)] at hS
      simp +contextual only [go_sem,aD,sevalprocAttr,aI,m1,HY]
      refine bY (aQ aG.rfl' rfl rfl ⟨?_,by rw [hS],rfl⟩)
      rw [hS];exact ⟨by decide,_,rfl⟩
     ·by_cases hhi:(aY.length:Int)<=pn
      ·rw [if_neg (by omega)] at hS
       simp +contextual only [go_sem,aD,sevalprocAttr,aI,m1,n2,HY,hhi]
       refine bY (aQ aG.rfl' rfl rfl ⟨?_,by rw [hS],rfl⟩)
       rw [hS];exact ⟨by decide,_,rfl⟩
      ·rw [if_pos (by omega)] at hS
       obtain ⟨j,rfl⟩:=Int.eq_ofNat_of_zero_le (show 0<=pn by omega)
       have AS:j<aY.length:=by omega
       obtain ⟨b',o',cs',rfl,vz,v,rfl,ns⟩:=htg j aY[j] (gq AS)
       have z0:=xC (vz.ext eb)
       rw [Nat.mul_one] at z0
       simp +contextual only [go_sem,aD,sevalprocAttr,aI,m1,n2,HY,hhi]
       refine aT ?_
       simp +contextual only [go_sem,sevalprocAttr,aI,m1,n2,AS,z0]
       refine aQ aG.rfl' rfl rfl ⟨?_,by rw [hS],rfl⟩
       have XI:aY.getD (j:Int).toNat []=aY[j]:=by simp [List.getD,AS]
       rw [hS,XI]
       exact ⟨_,rfl,aH eb (fun _ _ h=>h) ns⟩
    have Lz:1<=kids.length:=by
     have:=JD (by omega:0<=iF k) k1
     omega
    obtain ⟨_,fa,fc,rfl,hfc,_,hfg⟩:=ax (by decide) (fun _ _=>cQ) Zw
    obtain ⟨b0,o0,cs0,rfl,uk,v0,rfl,rX⟩:=hfg 0 acc[0] (gq (by omega))
    obtain ⟨_,c0a,c0c,rfl,_⟩:=ax (by decide) (fun _ _=>cE) rX
    have z0:=xC uk
    rw [Nat.zero_mul,Nat.add_zero] at z0
    have Lj:0<acc.length:=by omega
    have zi:(0:Int)<(acc.length:Int):=by omega
    have HT:acc.getD 0 []=acc[0]:=by simp [List.getD,Lj]
    by_cases k10:k=10\/k=11
    ·have j2:lj aY k pn x xs ags acc=.ok (acc.getD 0 []):=by unfold lj;rcases k10 with rfl | rfl<;>simp
     rw [j2] at hS
     rcases k10 with rfl | rfl
     ·simp +contextual only [go_sem,aD,sevalprocAttr,aI,ht,aL,m0,e9,zi,z0]
      refine aQ aG.rfl' rfl rfl ⟨?_,by rw [hS],rfl⟩
      rw [hS,HT]
      exact ⟨_,rfl,rX⟩
     ·simp +contextual only [go_sem,aD,sevalprocAttr,aI,ht,aL,m0,e9,zi,z0]
      refine aQ aG.rfl' rfl rfl ⟨?_,by rw [hS],rfl⟩
      rw [hS,HT]
      exact ⟨_,rfl,rX⟩
    ·by_cases k12:k=12\/k=13
     ·rw [Gx k12,HT] at hS
      have tA:=bA eb _ _ hp
      have akf:=bP.ext eb
      have ul:=IG (cols:=acc[0]) akf tA rX k12 T
      simp only [Pl.k,Pl.n,Pl.xs,Pl.ags] at ul
      rcases k12 with rfl | rfl
      ·simp +contextual only [go_sem,aD,sevalprocAttr,aI,ht,aL,m0,e9,zi,z0]
       refine aF ul ?_
       rintro r M3 bG bC hr
       obtain ⟨sv,er,rfl⟩:=lW hr
       simp +contextual only [go_sem,sevalprocAttr]
       exact aQ aG.rfl' rfl rfl ⟨by rw [hS];exact hr,by rw [hS],rfl⟩
      ·simp +contextual only [go_sem,aD,sevalprocAttr,aI,ht,aL,m0,e9,zi,z0]
       refine aF ul ?_
       rintro r M3 bG bC hr
       obtain ⟨sv,er,rfl⟩:=lW hr
       simp +contextual only [go_sem,sevalprocAttr]
       exact aQ aG.rfl' rfl rfl ⟨by rw [hS];exact hr,by rw [hS],rfl⟩
     ·by_cases k3:k=3
      ·have j2:lj aY k pn x xs ags acc=eX (acc.getD 0 []) xs:=by unfold lj;subst k3;simp
       rw [j2,HT] at hS
       subst k3
       replace m8:=ay bh m8
       simp +contextual only [go_sem,aD,sevalprocAttr,aI,ht,aL,m0]
       refine aT ?_
       simp +contextual only [go_sem,sevalprocAttr,aI,m8,e9,zi,z0]
       refine aF (pT rX (aH eb (cN eb) fq) T) ?_
       rintro r M3 bG bC hr
       replace hr:=Km hr
       obtain ⟨sv,er,rfl⟩:=lW hr
       simp +contextual only [go_sem,sevalprocAttr]
       exact aQ aG.rfl' rfl rfl ⟨by rw [hS];exact hr,by rw [hS],rfl⟩
      ·by_cases k2:k=2
       ·subst k2
        rw [JM,HT] at hS
        obtain ⟨x2,x3,x4,x5,x6,x7⟩:=Y4 (bP.ext eb)
        have H3:hY M2 x [.int .i64 x.k,.int .i64 x.v.k,.int .i64 x.v.n,st x.v.t,.int .i64 x.c,s1]:=iZ.2 ⟨s1,rfl,aH eb (cN eb) hkx⟩
        simp +contextual only [go_sem,aD,sevalprocAttr,aI,ht,aL,m0]
        refine aT ?_
        simp +contextual only [go_sem,sevalprocAttr,aI,e9,zi,z0,x2,x3,x4,x5,x6,x7]
        refine aF (xK rX H3 T) ?_
        rintro r M3 bG bC ⟨rfl,hre⟩
        simp +contextual only [go_sem,sevalprocAttr]
        simp only [aJ,and_true] at bC
        exact ⟨dL bG ⟨bC,trivial⟩,aQ aG.rfl' rfl rfl ⟨by rw [hS];exact ry (aH bG (fun _ _ h=>h) rX) hre,by rw [hS],rfl⟩⟩
       have akW:4<=k/\k<=9:=by
        unfold iF at nU
        grind
       have aqb:iF k=2:=by unfold iF;rw [if_neg k1,if_pos akW]
       have abp:1<acc.length:=by omega
       have Sv:(1:Int)<(acc.length:Int):=by omega
       have lM:acc.getD 1 []=acc[1]:=by simp [List.getD,abp]
       obtain ⟨b1,o1,cs1,hbo,zj,v1,rfl,j3⟩:=hfg 1 acc[1] (gq abp)
       cases hbo
       obtain ⟨_,c1a,c1c,rfl,_⟩:=ax (by decide) (fun _ _=>cE) j3
       have z1:=xC zj
       rw [Nat.one_mul] at z1
       by_cases k8:k=8\/k=9
       ·have j2:lj aY k pn x xs ags acc=oE (acc.getD 0 []) (acc.getD 1 []):=by unfold lj;rcases k8 with rfl | rfl<;>simp
        rw [j2,HT,lM] at hS
        have un:acc[0].length<=1048576:=Nat.le_trans (Xu _ (gm Lj)) (by decide)
        rcases k8 with rfl | rfl
        ·simp +contextual only [go_sem,aD,sevalprocAttr,aI,ht,aL,m0]
         refine aT ?_
         simp +contextual only [go_sem,sevalprocAttr,e9,zi,Sv,z0,z1]
         refine aF (wA rX j3 (by omega) T) ?_
         rintro r M3 bG bC hr
         replace hr:=Km hr
         obtain ⟨sv,er,rfl⟩:=lW hr
         simp +contextual only [go_sem,sevalprocAttr]
         exact aQ aG.rfl' rfl rfl ⟨by rw [hS];exact hr,by rw [hS],rfl⟩
        ·simp +contextual only [go_sem,aD,sevalprocAttr,aI,ht,aL,m0]
         refine aT ?_
         simp +contextual only [go_sem,sevalprocAttr,e9,zi,Sv,z0,z1]
         refine aF (wA rX j3 (by omega) T) ?_
         rintro r M3 bG bC hr
         replace hr:=Km hr
         obtain ⟨sv,er,rfl⟩:=lW hr
         simp +contextual only [go_sem,sevalprocAttr]
         exact aQ aG.rfl' rfl rfl ⟨by rw [hS];exact hr,by rw [hS],rfl⟩
       ·have akV:4<=k/\k<=7:=by omega
        rw [JN akV,HT,lM] at hS
        obtain ⟨x2,x3,x4,x5,x6,x7⟩:=Y4 (bP.ext eb)
        have H3:hY M2 x [.int .i64 x.k,.int .i64 x.v.k,.int .i64 x.v.n,st x.v.t,.int .i64 x.c,s1]:=iZ.2 ⟨s1,rfl,aH eb (cN eb) hkx⟩
        have k8a:¬ k=8:=fun h=>k8 (.inl h)
        have k9a:¬ k=9:=fun h=>k8 (.inr h)
        have k10a:¬ k=10:=fun h=>k10 (.inl h)
        have k11a:¬ k=11:=fun h=>k10 (.inr h)
        have k12a:¬ k=12:=fun h=>k12 (.inl h)
        have k13a:¬ k=13:=fun h=>k12 (.inr h)
        simp +contextual only [go_sem,aD,sevalprocAttr,aI,ht,aL,m0,k1,k2,k3,k8a,k9a,k10a,k11a,k12a,k13a]
        refine aT ?_
        simp +contextual only [go_sem,sevalprocAttr,e9,zi,Sv,z0,z1]
        intro b1 fO vy
        refine ⟨dJ bm.rfl' ⟨n2,trivial⟩ ⟨vy,trivial⟩,?_⟩
        refine dh V3.bd fun M4 dz eH de=> ?_
        simp only [aJ,and_true] at de
        have Jm:RS M4 (lZ M4) 1 [acc[0],acc[1]] (.slice (some ⟨b1,0,none⟩) 2 2):=dE (fun _ _=>cQ) eH (l:=[acc[0],acc[1]]) ⟨_,_,rfl,⟨_,rfl,aH dz (fun _ _ h=>h) rX⟩,_,_,rfl,⟨_,rfl,aH dz (fun _ _ h=>h) j3⟩,rfl⟩ rfl (by omega)
        have un:=Xu _ (gm Lj)
        have gZ:=Xu _ (gm abp)
        refine aF (sH Jm (by simp) (by intro l hl;simp only [mn] at hl;rcases hl with rfl | rfl<;>omega) T) ?_
        rintro v M5 dN bS hv
        simp only [aJ,and_true] at bS
        rw [List.flatten_cons,List.flatten_cons,List.flatten_nil,List.append_nil] at hv
        obtain ⟨_,va,vc,rfl,_⟩:=ax (by decide) (fun _ _=>cE) hv
        have xR:=dz.trans dN
        replace m0:=ay xR m0
        simp +contextual only [go_sem,aD,sevalprocAttr]
        refine ⟨dL xR ⟨bS,trivial⟩,?_⟩
        by_cases h8:8<(acc[0]++acc[1]).length
        ·have uf:(8:Int)<((acc[0]++acc[1]).length:Int):=by omega
         rw [if_pos h8] at hS
         simp +contextual only [go_sem,sevalprocAttr,uf]
         exact aQ aG.rfl' rfl rfl ⟨by rw [hS];exact ⟨by decide,_,rfl⟩,by rw [hS],rfl⟩
        have uf:¬ (8:Int)<((acc[0]++acc[1]).length:Int):=by omega
        rw [if_neg h8] at hS
        replace H3:=cN xR _ _ H3
        replace x2:=ay xR x2
        replace x3:=ay xR x3
        replace x4:=ay xR x4
        replace x5:=ay xR x5
        replace x6:=ay xR x6
        replace x7:=ay xR x7
        replace z0:=ay xR z0
        by_cases h56:k=5\/k=6
        ·rw [if_pos h56] at hS
         rcases h56 with rfl | rfl
         ·simp +contextual only [go_sem,aD,sevalprocAttr,aI,uf,m0]
          refine aT ?_
          simp +contextual only [go_sem,sevalprocAttr,aI,e9,zi,z0,x2,x3,x4,x5,x6,x7]
          refine aF (xK hv H3 T) ?_
          rintro r M6 eO bW ⟨rfl,hre⟩
          simp only [aJ,and_true] at bW
          simp +contextual only [go_sem,sevalprocAttr]
          exact ⟨dL eO ⟨bW,trivial⟩,aQ aG.rfl' rfl rfl ⟨by rw [hS];exact ry (aH (xR.trans eO) (fun _ _ h=>h) rX) hre,by rw [hS],rfl⟩⟩
         ·simp +contextual only [go_sem,aD,sevalprocAttr,aI,uf,m0]
          refine aT ?_
          simp +contextual only [go_sem,sevalprocAttr,aI,e9,zi,z0,x2,x3,x4,x5,x6,x7]
          refine aF (xK hv H3 T) ?_
          rintro r M6 eO bW ⟨rfl,hre⟩
          simp only [aJ,and_true] at bW
          simp +contextual only [go_sem,sevalprocAttr]
          exact ⟨dL eO ⟨bW,trivial⟩,aQ aG.rfl' rfl rfl ⟨by rw [hS];exact ry (aH (xR.trans eO) (fun _ _ h=>h) rX) hre,by rw [hS],rfl⟩⟩
        ·rw [if_neg h56] at hS
         have k5a:¬ k=5:=fun h=>h56 (.inl h)
         have k6a:¬ k=6:=fun h=>h56 (.inr h)
         simp +contextual only [go_sem,aD,sevalprocAttr,aI,uf,m0,k5a,k6a]
         simp +contextual only [go_sem,sevalprocAttr,aI,x2,x3,x4,x5,x6,x7]
         refine aF (xK hv H3 T) ?_
         rintro r M6 eO bW ⟨rfl,hre⟩
         simp only [aJ,and_true] at bW
         simp +contextual only [go_sem,sevalprocAttr]
         exact aQ aG.rfl' rfl rfl ⟨by rw [hS];exact ry (aH eO (fun _ _ h=>h) hv) hre,by rw [hS],rfl⟩
  ·rw [if_pos rV] at hS
   simp +contextual only [go_sem,aD,sevalprocAttr,nU,rV,m10]
   exact aQ aG.rfl' rfl rfl ⟨by rw [hS];exact ⟨by decide,_,rfl⟩,by rw [hS],rfl⟩
theorem Hr:∀ {aY:List (List Int)},xB aY=0 ->∀ t∈aY,t.length<=8
 | [],_,t,ht=>by cases ht
 | u::l,h,t,ht=>by
  rw [xB] at h
  split at h
  ·cases h
  ·split at h
   ·rcases lQ ht with rfl | ht
    ·omega
    ·exact Hr h t ht
   ·cases h
theorem tO {M:aR}{aY:List (List Int)}{tv:Value}{p:Pl}{cs:List Value}(nG:RS M (lZ M) 1 aY tv)(hp:gP M p cs)(T:Tm):
 bU Tryz.prog 94 [tv,.agg ⟨cs⟩] T M [] [] (fun r M' _ _=>Hu (fH aY p) r M') aM:=by
 obtain ⟨fp,a,c,rfl,cX,_,hg⟩:=ax (by decide) (fun _ _=>cQ) nG
 have cK:=jx hp
 have dB:=yk hp
 obtain ⟨s1,a1,n1,a2,n2,a3,n3,gC,iQ,_⟩:=dj hp
 unfold O3 at gC
 unfold fH
 refine az F94 rfl rfl ?_
 intro bj _
 by_cases h8:8<aY.length
 ·have uf:(8:Int)<(aY.length:Int):=by omega
  rw [if_pos h8]
  subst gC
  simp +contextual only [go_sem,aD,sevalprocAttr,uf]
  intro b3 T3 gK fU gB
  exact ak fU ⟨by decide,_,rfl⟩
 have uf:¬ (8:Int)<(aY.length:Int):=by omega
 rw [if_neg h8]
 rw [gC]
 simp +contextual only [go_sem,aD,sevalprocAttr,uf]
 intro b3 T3 gK fU gB
 refine bR aY.length 17 [(0,.slice a aY.length c),(3,.pointer (some ⟨b3,0,none⟩)),(15,.slice a aY.length c),(16,.int .i64 (aY.length:Int))] (fun i e h=>∃ M',bm M M'/\M' b3=some cs/\h=⟨T3,M',[],[]⟩/\xB (aY.drop i)=xB aY) 0 (by omega) (by simp only [aE,go_sem,sevalprocAttr]) (by simp only [go_sem,sevalprocAttr]) (aU fun he h3 _=>aC ⟨_,he,by rw [gC];exact h3,rfl,rfl⟩) ?_
 rintro i e h hi aI ht ⟨M1,aW,h3,rfl,am⟩
 simp only [aE] at aI
 by_cases aL:i<aY.length
 ·obtain ⟨b',o',cs',rfl,bP,v,rfl,ns⟩:=hg i aY[i] (gq aL)
  obtain ⟨_,va,vc,rfl,_,_,hvg⟩:=ax (by decide) (fun _ _=>cE) ns
  have x0:=xC (bP.ext aW)
  rw [Nat.mul_one] at x0
  have bK:aY.drop i=aY[i]::aY.drop (i+1):=dq aL
  rw [bK,xB] at am
  by_cases sU:8<aY[i].length
  ·have ab1:(8:Int)<(aY[i].length:Int):=by omega
   rw [if_pos sU] at am
   rw [<- am,if_pos (by decide)]
   simp +contextual only [go_sem,aD,sevalprocAttr,aI,ht,aL,x0,ab1]
   exact ak fU ⟨by decide,_,rfl⟩
  have ab1:¬ (8:Int)<(aY[i].length:Int):=by omega
  rw [if_neg sU] at am
  simp +contextual only [go_sem,aD,sevalprocAttr,aI,ht,aL,x0,ab1]
  refine aO aY[i].length 26 [(0,.slice (some ⟨b',o',none⟩) aY.length c),(3,.pointer (some ⟨b3,0,none⟩)),(15,.slice (some ⟨b',o',none⟩) aY.length c),(16,.int .i64 (aY.length:Int)),(17,.int .i64 (i:Int)),(24,.slice va aY[i].length vc),(25,.int .i64 (aY[i].length:Int))] (fun j e h=>h=⟨T3,M1,[],[]⟩/\(aY[i].drop j).all (fun t=>decide (1<=t/\t<=4))=aY[i].all (fun t=>decide (1<=t/\t<=4))) 0 (by omega) (by simp only [aE,aI,ht,go_sem,sevalprocAttr]) (by simp only [go_sem,sevalprocAttr]) ⟨rfl,rfl⟩ ?_
  clear aI ht e
  rintro j e h hj aI ht ⟨rfl,xf⟩
  simp only [aE] at aI
  by_cases xV:j<aY[i].length
  ·obtain ⟨b2,o2,cs2,dO,oU,eh⟩:=hvg j aY[i][j] (gq xV)
   unfold RI at eh;subst eh dO
   have y0:=xC (oU.ext aW)
   rw [Nat.mul_one] at y0
   have Ji:aY[i].drop j=aY[i][j]::aY[i].drop (j+1):=dq xV
   rw [Ji,List.all_cons] at xf
   by_cases hb:1<=aY[i][j]/\aY[i][j]<=4
   ·rw [decide_eq_true hb,Bool.true_and] at xf
    have fO:¬ aY[i][j]<1:=by omega
    have dO:¬ 4<aY[i][j]:=by omega
    simp +contextual only [go_sem,aD,sevalprocAttr,aI,ht,xV,y0,fO,dO]
    refine bT xV ?_ ?_ ⟨rfl,xf⟩
    ·simp only [aE,aI,go_sem,sevalprocAttr]
    ·simp only [go_sem,sevalprocAttr,aA j (by omega)]
   ·rw [decide_eq_false hb,Bool.false_and] at xf
    rw [<- xf,if_neg (by decide)] at am
    rw [<- am,if_pos (by decide)]
    by_cases fO:aY[i][j]<1
    ·simp +contextual only [go_sem,aD,sevalprocAttr,aI,ht,xV,y0,fO]
     exact ak fU ⟨by decide,_,rfl⟩
    ·have dO:4<aY[i][j]:=by omega
     simp +contextual only [go_sem,aD,sevalprocAttr,aI,ht,xV,y0,fO,dO]
     exact ak fU ⟨by decide,_,rfl⟩
  ·have:j=aY[i].length:=by omega
   subst this
   rw [List.drop_length] at xf
   rw [<- xf,List.all_nil,if_pos rfl] at am
   simp +contextual only [go_sem,aD,sevalprocAttr,aI,ht,xV]
   refine bT aL ?_ ?_ ⟨M1,aW,h3,rfl,am⟩
   ·simp only [aE,aI,go_sem,sevalprocAttr]
   ·simp only [go_sem,sevalprocAttr,aA i (by omega)]
 ·have:i=aY.length:=by omega
  subst this
  rw [List.drop_length,xB] at am
  rw [<- am,if_neg (by simp)]
  have DS:=Hr am.symm
  simp +contextual only [go_sem,aD,sevalprocAttr,aI,ht,aL]
  intro b9 T9 qY uR pY
  refine dF [] (clX _ p (Nat.le_refl _) M1 T9 b3 0 b9 1 0 _ aY _ (C8 h3) (bA aW _ _ hp) (aH aW (cO aW) nG) DS (by omega) (by omega)) ?_ (fun _ _ _ _ _ _ h=>h.elim)
  rintro r M3 L' bG zq bC ⟨hr,rfl, -⟩
  have hTT:=fU.trans uR
  cases nH:(eV aY 1 0 p).1 with
  | ok t=>
   rw [nH] at hr
   obtain ⟨kv,rfl,P1⟩:=hr
   have DS:=sG DS 1 0 p nH
   simp +contextual only [go_sem,aD,sevalprocAttr]
   refine aF (Ny P1 (by omega) _) ?_
   rintro r M4 dz de hr
   simp +contextual only [go_sem,sevalprocAttr]
   exact ak hTT ⟨_,rfl,hr⟩
  | error er=>
   rw [nH] at hr
   obtain ⟨cm,t,rfl⟩:=hr
   simp +contextual only [go_sem,aD,sevalprocAttr,cm]
   exact ak hTT ⟨cm,_,rfl⟩
end Go.Proofs.YtcpjbohndglclaaGreatDoor

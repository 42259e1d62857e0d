import Derived.Test.YtmccpbcbofhmlaaGreatDoorJ
import Derived.Test.YtmccpbcbofhmlaaGreatDoorF
import Derived.Test.YtmccpbcbofhmlaaGreatDoorI
set_option linter.all false
namespace Go.Proofs.YtmccpbcbofhmlaaGreatDoor
open Go Vc
set_option maxRecDepth 10000
section
variable {σ:Type} {step:σ ->Nat ->Nat ->List V ->σ} {x:Ex} {P:σ ->Prop}
theorem yU {l:Z}:∀ {b:List Z} {i k:Nat} {s:σ},P s ->(∀ s i k r,r∈b ->P s ->P (step s i k (l.row++r.row))) ->P (lE step x i l k b s)
 | [],i,k,s,h,_=>h
 | r::b,i,k,s,h,hs=>by
  rw [lE]
  refine yU (b:=b) ?_ fun s i k r hr h=>hs s i k r (p5 hr) h
  split
  ·exact hs _ _ _ _ (by simp) h
  ·exact h
theorem rA {b:List Z}:∀ {a:List Z} {i:Nat} {s:σ},P s ->(∀ s i k l r,l∈a ->r∈b ->P s ->P (step s i k (l.row++r.row))) ->P (jB step x b i a s)
 | [],i,s,h,_=>h
 | l::a,i,s,h,hs=>by
  rw [jB]
  exact rA (yU h fun s i k r hr h=>hs s i k l r (by simp) hr h) fun s i k l r hl hr h=>hs s i k l r (p5 hl) hr h
theorem yV {l:Z}{len:σ ->Nat}(hs:∀ s i k row,len (step s i k row)<=len s+1):∀ {b:List Z} {i k:Nat} {s:σ},len (lE step x i l k b s)<=len s+b.length
 | [],i,k,s=>by simp [lE]
 | r::b,i,k,s=>by
  rw [lE]
  refine Nat.le_trans (yV hs (b:=b)) ?_
  simp only [List.length_cons]
  split
  ·have:=hs s i k (l.row++r.row);omega
  ·omega
theorem xJ {b:List Z}{len:σ ->Nat}(hs:∀ s i k row,len (step s i k row)<=len s+1):∀ {a:List Z} {i:Nat} {s:σ},len (jB step x b i a s)<=len s+a.length*b.length
 | [],i,s=>by simp [jB]
 | l::a,i,s=>by
  rw [jB]
  have h1:=xJ hs (b:=b) (a:=a) (i:=i+1) (s:=lE step x i l 0 b s)
  have h2:=yV hs (x:=x) (l:=l) (b:=b) (i:=i) (k:=0) (s:=s)
  rw [List.length_cons,Nat.succ_mul]
  omega
end
theorem ue {x:Ex}{a b:List Z}:(sR x a b).length<=a.length*b.length:=by
 have:=xJ (step:=lN a b) (x:=x) (len:=List.length) (fun s i k row=>by simp [lN]) (b:=b) (a:=a) (i:=0) (s:=[])
 simpa [sR] using this
theorem xX {x:Ex}{a b:List Z}{n m:Nat}(ha:jX n a)(hb:jX m b):jX (n+m) (sR x a b):=by
 unfold sR
 refine rA (P:=jX (n+m)) (by intro x hx;cases hx) ?_
 intro s i k l r hl hr h z hz
 rcases qM hz with hz | hz
 ·exact h z hz
 ·simp only [mn] at hz
  subst hz
  refine ⟨?_,Bc (ha _ hl).2 (hb _ hr).2⟩
  rw [List.length_append]
  have:=(ha _ hl).1
  have:=(hb _ hr).1
  omega
theorem xW {x:Ex}{a b:List Z}:(Cy x a b).length=a.length:=by
 unfold Cy
 refine rA (P:=fun s:List Bool=>s.length=a.length) (by simp) ?_
 intro s i k l r _ _ h
 unfold sT
 split
 ·rw [List.length_set,h]
 ·exact h
def KG (cl cr:List Int)(x:Ex)(a b:List Z):Except Int (List Z):=if rO cl cr x a b=0 then vM (sR x a b) else .error (rO cl cr x a b)
def uV (want:Bool)(cl cr:List Int)(x:Ex)(a b:List Z):Except Int (List Z):=if rO cl cr x a b=0 then vM (gX want a (Cy x a b)) else .error (rO cl cr x a b)
theorem vY {cl cr:List Int}{x:Ex}{a b:List Z}(h:rO cl cr x a b=0):mA x/\a.length<=400/\b.length<=400/\jX 8 a/\jX 8 b/\cl.length+cr.length<=8:=by
 unfold rO at h
 split at h
 ·cases h
 rename_i h8
 obtain ⟨h1,h⟩:=lO h
 obtain ⟨h2,h3⟩:=lO h
 obtain ⟨rV,ha8⟩:=eE (iD h2).2
 obtain ⟨dI,mG⟩:=eE (iD h3).2
 exact ⟨EG h1,rV,dI,fun r hr=>⟨ha8 r hr,kb h2 r hr⟩,fun r hr=>⟨mG r hr,kb h3 r hr⟩,by omega⟩
theorem iT {n m:Nat}{z:List Z}(h:jX n z)(Dq:n<=m):jX m z:=fun r hr=>⟨Nat.le_trans (h r hr).1 Dq,(h r hr).2⟩
variable {M:aS}
theorem UJ {cl cr:List Int}{clv crv av bv:Value}{x:Ex}{xc:List Value}{a b:List Z}(hl:RS M RI 1 cl clv)(hr:RS M RI 1 cr crv)(hx:gU M x xc)(ha:RS M (RZ M) 2 a av)(hb:RS M (RZ M) 2 b bv)(T:Tm):
 cw Tryz.prog 160 [clv,crv,.agg ⟨xc⟩,av,bv] T M [] [] (fun v M' _ _=>oS (KG cl cr x a b) v M') aO:=by
 have zr:=hx
 obtain ⟨x5,rfl,ox,_⟩:=dt hx
 obtain ⟨S,hS⟩:∃ S,S=KG cl cr x a b:=⟨_,rfl⟩
 rw [<- hS]
 unfold KG at hS
 refine aC ajA rfl rfl ?_
 intro bi _
 simp +contextual only [go_sem,sevalprocAttr]
 intro b7 T7 iN mX tj
 refine aP (qe hl hr zr ha hb _) ?_
 by_cases hw:rO cl cr x a b=0
 rotate_left
 ·rw [if_neg hw] at hS
  simp +contextual only [go_sem,aE,sevalprocAttr,hw]
  refine ak (am mX ?_)
  rw [hS];exact ⟨hw,rfl⟩
 rw [if_pos hw] at hS
 obtain ⟨Xa,rV,dI,vu,CL,_⟩:=vY hw
 simp +contextual only [go_sem,aE,sevalprocAttr,hw]
 refine df [] adr.bd fun M1 aV h7 bG=> ?_
 have XL:a.length*b.length<=400*400:=Nat.mul_le_mul rV dI
 refine eK (Aj (kJ h7 _ 0 (fun i v h=>by rw [Nat.zero_add];exact h)) (cu aV _ _ zr) (bX aV ha) (bX aV hb) Xa (iT vu (by omega)) (iT CL (by omega)) (by omega) _) ?_ (fun _ _ _ _ h=>h.elim)
 rintro v M2 row bg _ ⟨va,vc,xs,rfl,bP,eJ⟩
 simp only [List.cons.injEq,and_true] at bP
 subst bP
 simp +contextual only [go_sem,sevalprocAttr]
 have I5:=ue (x:=x) (a:=a) (b:=b)
 have hjf:=xX (x:=x) vu CL
 refine Bw Py.bd fun M3 bM gi=> ?_
 refine aD (lR ⟨by omega,xs,gi,cH (fz bM) eJ⟩ (by omega) (fun z hz=>by have:=(hjf z hz).1;omega) _) ?_
 rintro r M4 dh _ hr
 rw [<- hS] at hr
 obtain ⟨s,e,rfl⟩:=dE hr
 simp +contextual only [go_sem,sevalprocAttr]
 exact am mX hr
theorem Uv {cl cr:List Int}{clv crv av bv:Value}{x:Ex}{xc:List Value}{a b:List Z}(hl:RS M RI 1 cl clv)(hr:RS M RI 1 cr crv)(hx:gU M x xc)(ha:RS M (RZ M) 2 a av)(hb:RS M (RZ M) 2 b bv)(T:Tm):
 cw Tryz.prog 161 [clv,crv,.agg ⟨xc⟩,av,bv] T M [] [] (fun v M' _ _=>oS (uV true cl cr x a b) v M') aO:=by
 have zr:=hx
 obtain ⟨x5,rfl,ox,_⟩:=dt hx
 obtain ⟨S,hS⟩:∃ S,S=uV true cl cr x a b:=⟨_,rfl⟩
 rw [<- hS]
 unfold uV at hS
 refine aC aic rfl rfl ?_
 intro bi _
 simp +contextual only [go_sem,sevalprocAttr]
 intro b7 T7 iN mX tj
 refine aP (qe hl hr zr ha hb _) ?_
 by_cases hw:rO cl cr x a b=0
 rotate_left
 ·rw [if_neg hw] at hS
  simp +contextual only [go_sem,aE,sevalprocAttr,hw]
  refine ak (am mX ?_)
  rw [hS];exact ⟨hw,rfl⟩
 rw [if_pos hw] at hS
 obtain ⟨Xa,rV,dI,vu,CL,_⟩:=vY hw
 simp +contextual only [go_sem,aE,sevalprocAttr,hw]
 refine df [] Y7.bd fun M1 aV h7 bG=> ?_
 refine aD (Iv (kJ h7 _ 0 (fun i v h=>by rw [Nat.zero_add];exact h)) (cu aV _ _ zr) (bX aV ha) (bX aV hb) Xa (iT vu (by omega)) (iT CL (by omega)) (by omega) _) ?_
 rintro v M2 bg _ hv
 simp +contextual only [go_sem,sevalprocAttr]
 refine aD (ux (want:=true) (bX (aV.trans bg) ha) hv xW _) ?_
 rintro v3 M3 bM _ IN
 simp +contextual only [go_sem,sevalprocAttr]
 have cO:=kI (want:=true) (a:=a) (s:=Cy x a b)
 refine aD (lR IN (by omega) (fun z hz=>by have:=(vu z (kC hz)).1;omega) _) ?_
 rintro r M4 dh _ hr
 rw [<- hS] at hr
 obtain ⟨s,e,rfl⟩:=dE hr
 simp +contextual only [go_sem,sevalprocAttr]
 exact am mX hr
theorem Wk {cl cr:List Int}{clv crv av bv:Value}{x:Ex}{xc:List Value}{a b:List Z}(hl:RS M RI 1 cl clv)(hr:RS M RI 1 cr crv)(hx:gU M x xc)(ha:RS M (RZ M) 2 a av)(hb:RS M (RZ M) 2 b bv)(T:Tm):
 cw Tryz.prog 162 [clv,crv,.agg ⟨xc⟩,av,bv] T M [] [] (fun v M' _ _=>oS (uV false cl cr x a b) v M') aO:=by
 have zr:=hx
 obtain ⟨x5,rfl,ox,_⟩:=dt hx
 obtain ⟨S,hS⟩:∃ S,S=uV false cl cr x a b:=⟨_,rfl⟩
 rw [<- hS]
 unfold uV at hS
 refine aC ah8 rfl rfl ?_
 intro bi _
 simp +contextual only [go_sem,sevalprocAttr]
 intro b7 T7 iN mX tj
 refine aP (qe hl hr zr ha hb _) ?_
 by_cases hw:rO cl cr x a b=0
 rotate_left
 ·rw [if_neg hw] at hS
  simp +contextual only [go_sem,aE,sevalprocAttr,hw]
  refine ak (am mX ?_)
  rw [hS];exact ⟨hw,rfl⟩
 rw [if_pos hw] at hS
 obtain ⟨Xa,rV,dI,vu,CL,_⟩:=vY hw
 simp +contextual only [go_sem,aE,sevalprocAttr,hw]
 refine df [] Y7.bd fun M1 aV h7 bG=> ?_
 refine aD (Iv (kJ h7 _ 0 (fun i v h=>by rw [Nat.zero_add];exact h)) (cu aV _ _ zr) (bX aV ha) (bX aV hb) Xa (iT vu (by omega)) (iT CL (by omega)) (by omega) _) ?_
 rintro v M2 bg _ hv
 simp +contextual only [go_sem,sevalprocAttr]
 refine aD (ux (want:=false) (bX (aV.trans bg) ha) hv xW _) ?_
 rintro v3 M3 bM _ IN
 simp +contextual only [go_sem,sevalprocAttr]
 have cO:=kI (want:=false) (a:=a) (s:=Cy x a b)
 refine aD (lR IN (by omega) (fun z hz=>by have:=(vu z (kC hz)).1;omega) _) ?_
 rintro r M4 dh _ hr
 rw [<- hS] at hr
 obtain ⟨s,e,rfl⟩:=dE hr
 simp +contextual only [go_sem,sevalprocAttr]
 exact am mX hr
def Io {α:Type}(el:TypeId)(sz:Nat)(r:α ->List Value ->Prop)(R0 R:RR)(fv:Value)(acc:List α):Prop:=
 (acc=[]/\R=R0/\(fv=.slice none 0 0\/∃ b,fv=.slice (some ⟨b,0,none⟩) 0 0))\/∃ a c xs,fv=.slice a acc.length c/\RL r acc xs/\R=(fv,el,sz,xs)::R0
section
variable {α:Type} {el:TypeId} {sz:Nat} {r:α ->List Value ->Prop} {R0 R:RR} {fv:Value} {acc:List α}
theorem KC {M:aS}{b:Nat}:RS M r sz [] (.slice (some ⟨b,0,none⟩) 0 0):=⟨by simp,[],.inr ⟨b,0,0,0,rfl,Nat.le_refl _,by simp,trivial⟩,rfl⟩
theorem E6 {P:Program}{F:Fi}{s:List Vc.Item}{e:dj}{ds:List Deferred}{dd:Option Nat}{T:Tm}{M:aS}{L:LL}{t:TypeId}{z:List Value}{b:Nat}{x:α}{cs:List Value}(hu:P.underlying t=some (.slice el))(bP:eC P t=some (el,sz,z))(cq:kX P t=true)
 (h:Io el sz r R0 R fv acc) (hx:r x cs) (bw:∀ x cs,r x cs ->cs.length=sz) (dL:∀ u∈cs,u.oneCell'=true) (hb:M b=none) (hl:acc.length*sz+sz<=4398046511104) (dG:0<sz)
 (k:∀ fv' R',Io el sz r R0 R' fv' (acc++[x]) ->cj P F s (cB e dd fv') ds ⟨T,M,(b,cs)::L,R'⟩ ⟨⟩):pA P F t t fv (.slice (some ⟨b,0,none⟩) 1 1) dd s e ds ⟨T,M,(b,cs)::L,R⟩ ⟨⟩:=by
 have cO:=bw x cs hx
 rcases h with ⟨rfl,rfl,rfl | ⟨b2,rfl⟩⟩ | ⟨a,c,xs,rfl,h3,rfl⟩
 ·refine cy hu bP cq dg hx bw dL hb hl dG ?_
  rintro fv' R' (⟨h,_⟩ | h)
  ·simp at h
  ·exact k _ _ (.inr h)
 ·refine jO (n:=0) (xs:=[]) bP cq (.slice _ 1 _ _ _ hu (bL [] hb trivial (by rw [cO,Nat.one_mul])) dL) (by rw [Nat.zero_mul];rfl) (by omega) (by simp only [List.length_nil] at hl ⊢;omega) ?_
  intro ra rm rc iL
  have hm1:rm=1:=by
   simp only [List.length_nil,Nat.zero_add] at iL
   rw [cO] at iL
   exact Nat.eq_of_mul_eq_mul_right dG (by omega)
  subst hm1
  exact k _ _ (.inr ⟨ra,rc,_,rfl,⟨cs,[],by simp,hx,rfl⟩,rfl⟩)
 ·refine cy hu bP cq (.inr ⟨a,c,xs,rfl,h3,rfl⟩) hx bw dL hb hl dG ?_
  rintro fv' R' (⟨h,_⟩ | h)
  ·simp at h
  ·exact k _ _ (.inr h)
theorem Jh {N:Tm}{M:aS}{L:LL}{k:Sh ->Prop}(h:Io el sz r R0 R fv acc)(hb:acc.length*sz<=4398046511104)(dG:0<sz)(bi:aJ M L)(hk:∀ M',bh M M' ->aJ M' L ->RS M' r sz acc fv ->bK ⟨N,M',L,R0⟩ k):bK ⟨N,M,L,R⟩ k:=by
 rcases h with ⟨rfl,rfl,rfl | ⟨b,rfl⟩⟩ | ⟨a,c,xs,rfl,h3,rfl⟩
 ·exact hk M bh.rfl' bi bu
 ·exact hk M bh.rfl' bi KC
 ·exact bT (fun M' hM oX gi=>hk M' hM oX ⟨hb,xs,gi,h3⟩) dG
end
def EQ {α:Type}(el:TypeId)(sz:Nat)(r:aS ->α ->List Value ->Prop)(R0:RR)(n i:Nat)(M:aS)(R:RR)(fv:Value)(acc:List α):Prop:=
 (i<n/\Io el sz (r M) R0 R fv acc)\/(i=n/\R=R0/\RS M (r M) sz acc fv)
section
variable {α:Type} {el:TypeId} {sz:Nat} {r:aS ->α ->List Value ->Prop} {R0 R:RR} {n i:Nat} {M:aS} {fv:Value} {acc:List α}
theorem Ba (h:EQ el sz r R0 n i M R fv acc)(hi:i<n):Io el sz (r M) R0 R fv acc:=by
 rcases h with ⟨_,h⟩ | ⟨h,_⟩
 ·exact h
 ·omega
theorem A0 (h:EQ el sz r R0 n n M R fv acc):R=R0/\RS M (r M) sz acc fv:=by
 rcases h with ⟨h,_⟩ | ⟨_,h⟩
 ·omega
 ·exact h
theorem l8 {N:Tm}{L:LL}{k:Sh ->Prop}(hi:i<=n)(h:Io el sz (r M) R0 R fv acc)(hb:acc.length*sz<=4398046511104)(dG:0<sz)(bi:aJ M L)(hr:∀ M M' x cs,bh M M' ->r M x cs ->r M' x cs)
 (hk:∀ M' R',bh M M' ->aJ M' L ->EQ el sz r R0 n i M' R' fv acc ->bK ⟨N,M',L,R'⟩ k):bK ⟨N,M,L,R⟩ k:=by
 by_cases h1:i<n
 ·exact hk M R bh.rfl' bi (.inl ⟨h1,h⟩)
 ·exact Jh h hb dG bi fun M' hM oX cC=>hk M' R0 hM oX (.inr ⟨by omega,rfl,aL bh.rfl' (fun x cs h=>hr _ _ x cs hM h) cC⟩)
end
variable {M:aS}
def YH (row:List V)(v:Value)(R':RR):Prop:=(row=[]/\(v=.slice none 0 0\/∃ b,v=.slice (some ⟨b,0,none⟩) 0 0))\/∃ a c xs,v=.slice a row.length c/\RL RV row xs/\R'=[(v,29,3,xs)]
theorem w9 {row:List V}{v:Value}{R':RR}(h:YH row v R'):∃ a c,v=.slice a row.length c:=by
 rcases h with ⟨rfl,rfl | ⟨b,rfl⟩⟩ | ⟨a,c,xs,rfl,_⟩<;>exact ⟨_,_,rfl⟩
theorem yS {N:Tm}{L:LL}{k:Sh ->Prop}{row:List V}{v:Value}{rw':Value×TypeId×Nat×List Value}{R0:RR}(h:YH row v [rw'])(hk:∀ R',Io 29 3 RV R0 R' v row ->bK ⟨N,M,L,R'⟩ k):bK ⟨N,M,L,rw'::R0⟩ k:=by
 rcases h with ⟨rfl,h⟩ | ⟨a,c,xs,rfl,eJ,hR⟩
 ·exact jt (hk R0 (.inl ⟨rfl,rfl,h⟩))
 ·simp only [List.cons.injEq,and_true] at hR
  subst hR
  exact hk _ (.inr ⟨a,c,xs,rfl,eJ,rfl⟩)
theorem AG {l:List V}{lv:Value}(hl:RS M RV 3 l lv)(bw:l.length<=16777216)(T:Tm):
 HV Tryz.prog 258 [lv] T M [] [] 1 (fun v _ _ R'=>YH l v R') aO:=by
 obtain ⟨fS,a,c,rfl,dJ,wr,fU⟩:=aF (by decide) (fun _ _=>fO) hl
 refine iP ahu rfl rfl ?_
 intro bi _
 by_cases h0:l=[]
 ·subst h0
  cases a with
  | none=>
   cases wr rfl
   simp +contextual only [go_sem,aE,sevalprocAttr]
   exact dC (e:=29) (sz:=3) (aM aH.rfl' rfl rfl (.inl ⟨rfl,.inl rfl⟩))
  | some p=>
   simp +contextual only [go_sem,aE,sevalprocAttr]
   intro b hb
   refine pt mI mB (.slice p 0 c [] _ Tryz.underlying157 rfl (by simp)) (by omega) ?_
   simp +contextual only [go_sem,sevalprocAttr]
   exact aT fun he ey aZ=>dC (e:=29) (sz:=3) (aM aH.rfl' rfl rfl (.inl ⟨rfl,.inr ⟨b,rfl⟩⟩))
 ·obtain ⟨p,hp⟩:∃ p,a=some p:=by
   cases l with
   | nil=>exact (h0 rfl).elim
   | cons x l=>obtain ⟨b,o,cs,h,_⟩:=fU 0 x rfl;exact ⟨_,h⟩
  subst hp
  obtain ⟨ys,Mn,zu,vn⟩:=kx (P:=Tryz.prog) Tryz.underlying157 (fun _ _=>fO) (fun _ _ h=>tC h) hl
  have dG:0<l.length:=List.length_pos_iff.2 h0
  simp +contextual only [go_sem,aE,sevalprocAttr]
  intro b hb
  refine jO (n:=0) (xs:=[]) mI mB (vn _ _ _) rfl (by omega) (by simp only [List.length_nil];omega) ?_
  intro ra rm rc iL
  have iH:rm=l.length:=by simp only [List.length_nil] at iL;omega
  subst iH
  simp +contextual only [go_sem,sevalprocAttr]
  exact ak (aM aH.rfl' rfl rfl (.inr ⟨_,_,_,rfl,zu,rfl⟩))
def Tu (n:Nat)(l:List Z):List Z:=l.map fun r=>⟨r.row++List.replicate n fT,r.w⟩
def xo (x:Ex)(n:Nat)(a b:List Z):List Z:=sR x a b++Tu n (gX false a (Cy x a b))
def Kx (cl cr:List Int)(x:Ex)(a b:List Z):Except Int (List Z):=if rO cl cr x a b=0 then vM (xo x cr.length a b) else .error (rO cl cr x a b)
variable {M:aS}
theorem S3 {x:Ex}{bx ox n:Nat}{xc:List Value}{a b:List Z}{av bv:Value}(Yp:At M bx ox xc)(hx:gU M x xc)(ha:RS M (RZ M) 2 a av)(hb:RS M (RZ M) 2 b bv)(zL:mA x)(Ud:jX 8 a)(NY:jX 8 b)(hn:n<=8)(rV:a.length<=400)(dI:b.length<=400)(T:Tm):
 cw Tryz.prog 211 [.pointer (some ⟨bx,ox,none⟩),.int .i64 (n:Int),av,bv] T M [] [] (fun r M' _ _=>RS M' (RZ M') 2 (xo x n a b) r) aO:=by
 obtain ⟨C,hC⟩:∃ C,C=gX false a (Cy x a b):=⟨_,rfl⟩
 obtain ⟨S,hS⟩:∃ S,S=xo x n a b:=⟨_,rfl⟩
 rw [<- hS]
 unfold xo at hS
 rw [<- hC] at hS
 refine aC aez rfl rfl ?_
 intro bi _
 have XL:a.length*b.length<=400*400:=Nat.mul_le_mul rV dI
 simp +contextual only [go_sem,sevalprocAttr]
 refine eK (Aj Yp hx ha hb zL (iT Ud (by omega)) (iT NY (by omega)) (by omega) _) ?_ (fun _ _ _ _ h=>h.elim)
 rintro v M1 row aV _ ⟨va,vc,xs,rfl,bP,eJ⟩
 simp only [List.cons.injEq,and_true] at bP
 subst bP
 simp +contextual only [go_sem,sevalprocAttr]
 refine aD (Iv (Yp.ext aV) (cu aV _ _ hx) (bX aV ha) (bX aV hb) zL (iT Ud (by omega)) (iT NY (by omega)) (by omega) _) ?_
 rintro v2 M2 bg _ oN
 simp +contextual only [go_sem,sevalprocAttr]
 refine aD (ux (want:=false) (bX (aV.trans bg) ha) oN xW _) ?_
 rintro v3 M3 bM _ IN
 rw [<- hC] at IN
 have hCl:C.length<=a.length:=by rw [hC];exact kI
 have hCf:jX 8 C:=by rw [hC];intro r hr;exact Ud r (kC hr)
 have I5:=ue (x:=x) (a:=a) (b:=b)
 obtain ⟨J,hJ⟩:∃ J,J=sR x a b:=⟨_,rfl⟩
 rw [<- hJ] at hS eJ I5 ⊢
 obtain ⟨fS,ca,cc,rfl,dJ,_,hg⟩:=aF (by decide) (fun _ _=>cm) IN
 simp +contextual only [go_sem,aE,sevalprocAttr]
 refine br C.length 24 [(1,.int .i64 (n:Int)),(22,.slice ca C.length cc),(23,.int .i64 (C.length:Int))] (fun i e h=>∃ N' M' fv acc a c xs,aH T N'/\bh M3 M'/\fv=.slice a acc.length c/\RL (RZ M') acc xs/\h=⟨N',M',[],[(fv,159,2,xs)]⟩/\e 9=fv/\acc.length<=160000+i/\S=acc++Tu n (C.drop i)) 0 (by omega) (by simp only [aG,go_sem,sevalprocAttr]) (by simp only [go_sem,sevalprocAttr]) (az ⟨T,M3,_,J,va,vc,xs,aH.rfl',bh.rfl',rfl,cH (fz (bg.trans bM)) eJ,rfl,by simp only [go_sem,sevalprocAttr],by omega,hS⟩) ?_
 clear eJ
 rintro i e h hi aI ht ⟨T1,M4,fv,acc,ra,rc,xs,cV,dh,QC,eJ,rfl,e9,iz,ax⟩
 simp only [aG] at aI
 by_cases aN:i<C.length
 ·obtain ⟨b',o',cs',rfl,cG,ls,cC,rfl⟩:=hg i C[i] (gq aN)
  obtain ⟨y0,y1,_⟩:=cG.ext dh
  obtain ⟨la,lc,rfl⟩:=cT cC
  have hCi:=hCf _ (gm aN)
  rw [dq aN] at ax
  simp +contextual only [go_sem,aE,sevalprocAttr,aI,ht,aN,y0,y1]
  intro b11 T11 tU yt JS
  have hT:=cV.trans yt
  refine eK (AG (gQ dh cC) (by omega) _) ?_ (fun _ _ _ _ h=>h.elim)
  rintro v5 M5 row dF bE hv5
  obtain ⟨wa,wc,rfl⟩:=w9 hv5
  simp only [aJ] at bE
  simp +contextual only [go_sem,aE,sevalprocAttr,aI]
  have amt:C[i].row.length<=8:=hCi.1
  refine br n 32 [(1,.int .i64 (n:Int)),(22,.slice (some ⟨b',o',none⟩) C.length cc),(23,.int .i64 (C.length:Int)),(24,.int .i64 (i:Int)),(9,fv),(11,.pointer (some ⟨b11,0,none⟩)),(31,.int .i64 (n:Int))]
   (fun j e h=>∃ M' R' w,bh M5 M'/\aJ M' [(b11,[.slice la C[i].row.length lc,.int .i64 C[i].w])]/\EQ 29 3 (fun _=>RV) [(fv,159,2,xs)] n j M' R' w (C[i].row++List.replicate j fT)/\h=⟨T11,M',[(b11,[.slice la C[i].row.length lc,.int .i64 C[i].w])],R'⟩/\e 12=w) 0 (by omega) (by simp only [aG,go_sem,sevalprocAttr,aI,ht,e9]) (by simp only [go_sem,sevalprocAttr]) ?_ ?_
  ·refine yS hv5 fun R5 ac6=>l8 (r:=fun _=>RV) (Nat.zero_le n) ac6 (by omega) (by decide) bE (fun _ _ _ _ _ h=>h) fun M6 R6 eg bN hf6=>az ⟨M6,R6,.slice wa C[i].row.length wc,eg,bN,?_,rfl,by simp only [go_sem,sevalprocAttr]⟩
   rw [List.replicate_zero,List.append_nil]
   exact hf6
  clear e9 aI ht hv5 bE
  rintro j e h hj aI ht ⟨M6,R6,w,eg,bN,hf6,rfl,e12⟩
  simp only [aG] at aI
  simp only [aJ,and_true] at bN
  by_cases qJ:j<n
  ·have bC:=Ba hf6 qJ
   simp +contextual only [go_sem,aE,sevalprocAttr,aI,ht,qJ,e12]
   refine aP (fL _) ?_
   simp +contextual only [go_sem,sevalprocAttr]
   intro b3 gj cL
   refine E6 (Tryz.underlying157) mI mB (x:=fT) bC rfl (fun _ _=>fO) (tC (v:=fT) rfl) gj (by rw [List.length_append,List.length_replicate];omega) (by decide) ?_
   intro fv' R' bI
   rw [List.append_assoc,<- List.replicate_succ'] at bI
   simp +contextual only [go_sem,sevalprocAttr,ht]
   refine aR (ak (l8 (i:=j+1) (r:=fun _=>RV) (by omega) bI (by rw [List.length_append,List.length_replicate];omega) (by decide) ⟨bN,trivial⟩ (fun _ _ _ _ _ h=>h) fun M7 R7 kT iO hf7=>az ⟨n - (j+1),by omega,rfl,j+1,by omega,rfl,?_,?_,M7,R7,fv',eg.trans kT,iO,hf7,rfl,?_⟩))
   ·simp only [aG,aI,go_sem,sevalprocAttr]
   ·simp only [go_sem,sevalprocAttr,aB j (by omega)]
   ·simp only [go_sem,sevalprocAttr]
  ·have:j=n:=by omega
   subst this
   obtain ⟨rfl,MB⟩:=A0 hf6
   obtain ⟨wa,wc,rfl⟩:=cT MB
   simp +contextual only [go_sem,aE,sevalprocAttr,aI,ht,qJ,e12,aA bN]
   intro b3 gj cL
   have hz:RZ M6 ⟨C[i].row++List.replicate j fT,C[i].w⟩ [.slice wa (C[i].row++List.replicate j fT).length wc,.int .i64 C[i].w]:=⟨_,MB,rfl⟩
   refine cy (Tryz.underlying80) mm ml (R0:=[]) (x:=⟨C[i].row++List.replicate j fT,C[i].w⟩) (.inr ⟨ra,rc,xs,QC,cH (fz (dF.trans eg)) eJ,rfl⟩) hz (fun _ _=>cm) (i8 hz) gj (by omega) (by decide) ?_
   rintro fv' R' (⟨h,_⟩ | ⟨na,nc,xs',ahx,TE,rfl⟩)
   ·simp at h
   simp +contextual only [go_sem,sevalprocAttr,aI]
   refine aR (ak (ak (az ⟨C.length - (i+1),by omega,rfl,i+1,by omega,rfl,?_,?_,T11,M6,fv',_,na,nc,xs',hT,(dh.trans dF).trans eg,ahx,TE,rfl,?_,?_,?_⟩)))
   ·simp only [aG,aI,go_sem,sevalprocAttr]
   ·simp only [go_sem,sevalprocAttr,aB i (by omega)]
   ·simp only [go_sem,sevalprocAttr]
   ·rw [List.length_append];simp only [ln];omega
   ·rw [ax,List.append_assoc];rfl
 ·have:i=C.length:=by omega
  subst this
  have:Tu n []=[]:=rfl
  rw [List.drop_length,this,List.append_nil] at ax
  simp +contextual only [go_sem,aE,sevalprocAttr,aI,ht,aN,e9]
  subst QC
  subst ax
  exact bT (fun M6 eg bN gi=>am cV ⟨by omega,xs,gi,cH (fz eg) eJ⟩) (by decide)
theorem QY {n:Nat}{l:List Z}:(Tu n l).length=l.length:=by simp [Tu]
theorem UD {cl cr:List Int}{clv crv av bv:Value}{x:Ex}{xc:List Value}{a b:List Z}(hl:RS M RI 1 cl clv)(hr:RS M RI 1 cr crv)(hx:gU M x xc)(ha:RS M (RZ M) 2 a av)(hb:RS M (RZ M) 2 b bv)(T:Tm):
 cw Tryz.prog 163 [clv,crv,.agg ⟨xc⟩,av,bv] T M [] [] (fun v M' _ _=>oS (Kx cl cr x a b) v M') aO:=by
 have zr:=hx
 have tB:=hr
 obtain ⟨x5,rfl,ox,_⟩:=dt hx
 obtain ⟨r6,ra,rc,rfl,_⟩:=aF (by decide) (fun _ _=>bV) hr
 obtain ⟨S,hS⟩:∃ S,S=Kx cl cr x a b:=⟨_,rfl⟩
 rw [<- hS]
 unfold Kx at hS
 refine aC agp rfl rfl ?_
 intro bi _
 simp +contextual only [go_sem,sevalprocAttr]
 intro b7 T7 iN mX tj
 refine aP (qe hl tB zr ha hb _) ?_
 by_cases hw:rO cl cr x a b=0
 rotate_left
 ·rw [if_neg hw] at hS
  simp +contextual only [go_sem,aE,sevalprocAttr,hw]
  refine ak (am mX ?_)
  rw [hS];exact ⟨hw,rfl⟩
 rw [if_pos hw] at hS
 obtain ⟨Xa,rV,dI,vu,CL,hc8⟩:=vY hw
 simp +contextual only [go_sem,aE,sevalprocAttr,hw]
 refine df [] aez.bd fun M1 aV h7 bG=> ?_
 refine aD (S3 (kJ h7 _ 0 (fun i v h=>by rw [Nat.zero_add];exact h)) (cu aV _ _ zr) (bX aV ha) (bX aV hb) Xa vu CL (by omega) rV dI _) ?_
 rintro v M2 bg _ hv
 simp +contextual only [go_sem,sevalprocAttr]
 have XL:a.length*b.length<=400*400:=Nat.mul_le_mul rV dI
 have I5:=ue (x:=x) (a:=a) (b:=b)
 have hjf:=xX (x:=x) vu CL
 have cO:=kI (want:=false) (a:=a) (s:=Cy x a b)
 refine aD (lR hv (by rw [xo,List.length_append,QY];omega) (fun z hz=> ?_) _) ?_
 ·rcases qM hz with hz | hz
  ·have:=(hjf z hz).1;omega
  ·obtain ⟨r,hr,rfl⟩:=List.mem_map.1 hz
   have:=(vu r (kC hr)).1
   simp only [List.length_append,List.length_replicate];omega
 rintro r M4 dh _ hr
 rw [<- hS] at hr
 obtain ⟨s,e,rfl⟩:=dE hr
 simp +contextual only [go_sem,sevalprocAttr]
 exact am mX hr
def B5 (t:Int×Int)(n w:Int):Int×Int:=(IntKind.i64.wrap (t.1+IntKind.i64.wrap (w*IntKind.i64.wrap (n.tdiv 100000000))),IntKind.i64.wrap (t.2+IntKind.i64.wrap (w*n.tmod 100000000)))
def pQ (t:Int×Int):Int:=IntKind.i64.wrap (t.1+IntKind.i64.wrap (t.2.tdiv 100000000))
def aga (t:Int×Int):Int:=t.2.tmod 100000000
def WR (t:Int×Int):V:=if pQ t>200000000\/pQ t< -200000000 then fT else yH (IntKind.i64.wrap (IntKind.i64.wrap (pQ t*100000000)+aga t))
variable {M:aS}
theorem aeW (a:Int):qW .quo .i64 a 100000000=some (.int .i64 (IntKind.i64.wrap (a.tdiv 100000000))):=by simp [qW]
theorem ad9 (a:Int):qW .rem .i64 a 100000000=some (.int .i64 (a.tmod 100000000)):=by simp [qW]
theorem NV {b:Nat}(t:Int×Int)(n w:Int)(T:Tm):cw Tryz.prog 299 [.pointer (some ⟨b,0,none⟩),.int .i64 n,.int .i64 w] T M [(b,[.int .i64 t.1,.int .i64 t.2])] [] (fun r M' L' R'=>r=.tuple #[]/\M'=M/\L'=[(b,[.int .i64 (B5 t n w).1,.int .i64 (B5 t n w).2])]/\R'=[]) aO:=by
 refine aC ag1 rfl rfl ?_
 intro bi _
 simp only [aJ,and_true] at bi
 simp +contextual only [go_sem,sevalprocAttr,aA bi,aeW,ad9]
 exact aM aH.rfl' rfl rfl ⟨rfl,rfl,rfl,rfl⟩
theorem NP {b:Nat}(t:Int×Int)(hb:M b=some [.int .i64 t.1,.int .i64 t.2])(T:Tm):cw Tryz.prog 300 [.pointer (some ⟨b,0,none⟩)] T M [] [] (fun r _ _ _=>r=.agg ⟨(WR t).cs⟩) aO:=by
 obtain ⟨S,hS⟩:∃ S,S=WR t:=⟨_,rfl⟩
 rw [<- hS]
 unfold WR at hS
 refine aC ad5 rfl rfl ?_
 intro bi _
 simp +contextual only [go_sem,sevalprocAttr]
 intro b2 T2 ey dV fG
 refine aU ?_
 simp +contextual only [go_sem,aE,sevalprocAttr,aX hb,aeW,ad9]
 by_cases hh:pQ t>200000000\/pQ t< -200000000
 ·rw [if_pos hh] at hS
  subst hS
  have X0:200000000<pQ t\/pQ t< -200000000:=hh
  unfold pQ at X0
  rw [if_pos X0]
  refine aP (fL _) ?_
  simp +contextual only [go_sem,sevalprocAttr,aA ey]
  exact ak (am dV rfl)
 ·rw [if_neg hh] at hS
  subst hS
  have X0:¬ (200000000<pQ t\/pQ t< -200000000):=hh
  unfold pQ at X0
  rw [if_neg X0]
  refine aP (qu _ _) ?_
  simp +contextual only [go_sem,sevalprocAttr,aA ey,V.cs]
  exact ak (am dV rfl)
structure AgZ where
 n:Int
 t:Int×Int
 low:V
 high:V
 known:Bool
def zV:V:=⟨0,0,[]⟩
def vb (a:Ag)(s:AgZ)(r:Z):AgZ:=
 if a.k=1 then {s with n:=IntKind.i64.wrap (s.n+r.w)}
 else if (vN a.x r.row).k=1 then s
 else ⟨IntKind.i64.wrap (s.n+r.w),B5 s.t (vN a.x r.row).n r.w,if s.known=false\/oT (vN a.x r.row) s.low<0 then vN a.x r.row else s.low,if s.known=false\/oT (vN a.x r.row) s.high>0 then vN a.x r.row else s.high,true⟩
def Ny (a:Ag)(rows:List Z):AgZ:=rows.foldl (vb a) ⟨0,(0,0),zV,zV,false⟩
def Ck (a:Ag)(rows:List Z):V:=
 if a.k<=2 then yH (Ny a rows).n else if (Ny a rows).known=false then fT else if a.k=3 then WR (Ny a rows).t else if a.k=4 then (Ny a rows).low else (Ny a rows).high
theorem WH {F:Fi}{s:List Vc.Item}{e:dj}{ds:List Deferred}{dd:Option Nat}{N:Tm}(L1:LL){L2:LL}{R:RR}{f:FuncId}{args:List Value}{x:Value}{b:Nat}{cs cs':List Value}
 (hc:cw Tryz.prog f args N M [(b,cs)] [] (fun r M' L' R'=>r=x/\M'=M/\L'=[(b,cs')]/\R'=[]) aO) (hn:cj Tryz.prog F s (cB e dd x) ds ⟨N,M,L1++(b,cs')::L2,R⟩ ⟨⟩):dk Tryz.prog F f args dd s e ds ⟨N,M,L1++(b,cs)::L2,R⟩ ⟨⟩:=by
 have h:=fH (F:=F) (s:=s) (e:=e) (ds:=ds) (dd:=dd) L1 [(b,cs)] L2 [] [] R hc (by rintro v M' L' R' _ _ _ _ ⟨rfl,rfl,rfl,rfl⟩;rw [List.append_assoc];exact hn) (fun _ _ _ _ _ _ _ _ h=>h.elim)
 rw [List.append_assoc] at h
 exact h
def Th (b8 b7 b6 b4:Nat)(s:AgZ):LL:=[(b8,s.high.cs),(b7,s.low.cs),(b6,[.int .i64 s.t.1,.int .i64 s.t.2]),(b4,zV.cs)]
theorem WY {ba oa:Nat}{a:Ag}{ac:List Value}{rows:List Z}{rv:Value}(haa:At M ba oa ac)(ha:F5 M a ac)(hr:RS M (RZ M) 2 rows rv)(cq:a.k≠1 ->mA a.x)(bP:∀ r∈rows,jU r.row)(T:Tm):
 cw Tryz.prog 263 [.pointer (some ⟨ba,oa,none⟩),rv] T M [] [] (fun r _ _ _=>r=.agg ⟨(Ck a rows).cs⟩) aO:=by
 obtain ⟨fS,ra,rc,rfl,dJ,_,hg⟩:=aF (by decide) (fun _ _=>cm) hr
 obtain ⟨xc,hx,rfl⟩:=ha
 obtain ⟨k0,ac5⟩:=haa
 obtain ⟨S,hS⟩:∃ S,S=Ck a rows:=⟨_,rfl⟩
 rw [<- hS]
 unfold Ck at hS
 obtain ⟨Q,hQ⟩:∃ Q,Q=Ny a rows:=⟨_,rfl⟩
 rw [<- hQ] at hS
 refine aC ahh rfl rfl ?_
 intro bi _
 simp +contextual only [go_sem,aE,sevalprocAttr]
 intro b4 T4 dI fj gH b6 T6 oZ fq sK BX b7 T7 iN iV mX tj b8 T8 mG eA qI vH
 have agh:=((fj.trans sK).trans mX).trans qI
 refine br rows.length 15 [(0,.pointer (some ⟨ba,oa,none⟩)),(4,.pointer (some ⟨b4,0,none⟩)),(6,.pointer (some ⟨b6,0,none⟩)),(7,.pointer (some ⟨b7,0,none⟩)),(8,.pointer (some ⟨b8,0,none⟩)),(13,.slice ra rows.length rc),(14,.int .i64 (rows.length:Int))] (fun i e h=>∃ N' s,aH T N'/\h=⟨N',M,Th b8 b7 b6 b4 s,[]⟩/\e 5=.int .i64 s.n/\e 9=.bool s.known/\Q=(rows.drop i).foldl (vb a) s) 0 (by omega) (by simp only [aG,go_sem,sevalprocAttr]) (by simp only [go_sem,sevalprocAttr]) (az ⟨T8,⟨0,(0,0),zV,zV,false⟩,agh,rfl,by simp only [go_sem,sevalprocAttr],by simp only [go_sem,sevalprocAttr],hQ⟩) ?_
 rintro i e h hi aI ht ⟨T1,s,cV,rfl,e5,e9,ax⟩
 simp only [aG] at aI
 by_cases aN:i<rows.length
 ·obtain ⟨b',o',cs',rfl,cG,ls,cC,rfl⟩:=hg i rows[i] (gq aN)
  obtain ⟨y0,y1,_⟩:=cG
  obtain ⟨la,lc,rfl⟩:=cT cC
  rw [dq aN,List.foldl_cons] at ax
  unfold Th
  simp +contextual only [go_sem,aE,sevalprocAttr,aI,ht,aN,y0,y1]
  intro b11 T11 tU nr yt JS
  have hT:=cV.trans yt
  by_cases kY:a.k=1
  ·have gF:vb a s rows[i]={s with n:=IntKind.i64.wrap (s.n+rows[i].w)}:=by unfold vb;rw [if_pos kY]
   rw [gF] at ax
   simp +contextual only [go_sem,aE,sevalprocAttr,k0,kY,aA tU,e5,ht]
   refine aR (ak (az ⟨rows.length - (i+1),by omega,rfl,i+1,by omega,rfl,?_,?_,T11,{s with n:=IntKind.i64.wrap (s.n+rows[i].w)},hT,rfl,?_,?_,ax⟩))
   ·simp only [aG,aI,go_sem,sevalprocAttr]
   ·simp only [go_sem,sevalprocAttr,aB i (by omega)]
   ·simp only [go_sem,sevalprocAttr]
   ·simp only [go_sem,sevalprocAttr,e9]
  ·obtain ⟨X,hX⟩:∃ X,X=vN a.x rows[i].row:=⟨_,rfl⟩
   simp +contextual only [go_sem,aE,sevalprocAttr,k0,kY]
   refine lS (fun e' ds h=>∃ b12 T12,M b12=none/\ce b12 ((b11,[.slice la rows[i].row.length lc,.int .i64 rows[i].w])::Th b8 b7 b6 b4 s)/\aH T11 T12/\ds=[]/\aG e' [(0,.pointer (some ⟨ba,oa,none⟩)),(4,.pointer (some ⟨b4,0,none⟩)),(6,.pointer (some ⟨b6,0,none⟩)),(7,.pointer (some ⟨b7,0,none⟩)),(8,.pointer (some ⟨b8,0,none⟩)),(13,.slice (some ⟨b',o',none⟩) rows.length rc),(14,.int .i64 (rows.length:Int)),(15,.int .i64 (i:Int)),(5,.int .i64 s.n),(9,.bool s.known),(11,.pointer (some ⟨b11,0,none⟩)),(12,.pointer (some ⟨b12,0,none⟩))]/\h=⟨T12,M,(b12,X.cs)::(b11,[.slice la rows[i].row.length lc,.int .i64 rows[i].w])::Th b8 b7 b6 b4 s,[]⟩) (fun S' dU=> ?_) ?_
   ·refine aU ?_
    simp +contextual only [go_sem,sevalprocAttr,aI,aA tU]
    refine ⟨?_,?_⟩
    ·refine aP (sr _ a.x (Nat.le_refl _) _ _ _ _ _ _ _ ac5 hx cC (cq kY) (bP _ (gm aN))) ?_
     rw [<- hX]
     simp +contextual only [go_sem,sevalprocAttr]
     refine ⟨fZ.refl _,?_⟩
     intro b12 T12 lr iY zy Ox
     have fX:ce b12 ((b11,[.slice la rows[i].row.length lc,.int .i64 rows[i].w])::Th b8 b7 b6 b4 s):=⟨iY.1,iY.2.1,iY.2.2.1,iY.2.2.2.1,iY.2.2.2.2,trivial⟩
     refine ⟨dX bh.rfl' ⟨tU,mG,iN,oZ,dI,trivial⟩ fX,?_⟩
     simp +contextual only [go_sem,sevalprocAttr,V.cs]
     exact dU _ _ _ ⟨b12,T12,lr,fX,zy,rfl,by simp only [aG,go_sem,sevalprocAttr,aI,ht,e5,e9],rfl⟩
    ·intro b12 T12 lr iY zy Ox
     have fX:ce b12 ((b11,[.slice la rows[i].row.length lc,.int .i64 rows[i].w])::Th b8 b7 b6 b4 s):=⟨iY.1,iY.2.1,iY.2.2.1,iY.2.2.2.1,iY.2.2.2.2,trivial⟩
     have jT:∀ (cs:List Value),fZ ⟨T11,M,(b11,[.slice la rows[i].row.length lc,.int .i64 rows[i].w])::Th b8 b7 b6 b4 s,[]⟩ ⟨T12,M,(b12,cs)::(b11,[.slice la rows[i].row.length lc,.int .i64 rows[i].w])::Th b8 b7 b6 b4 s,[]⟩:=fun cs=>dX bh.rfl' ⟨tU,mG,iN,oZ,dI,trivial⟩ fX
     refine ⟨jT _,?_⟩
     refine aP (sr _ a.x (Nat.le_refl _) _ _ _ _ _ _ _ ac5 hx cC (cq kY) (bP _ (gm aN))) ?_
     rw [<- hX]
     simp +contextual only [go_sem,sevalprocAttr,V.cs]
     exact dU _ _ _ ⟨b12,T12,lr,fX,zy,rfl,by simp only [aG,go_sem,sevalprocAttr,aI,ht,e5,e9],rfl⟩
   ·rintro e' ds h ⟨b12,T12,lr,iY,zy,rfl,kZ,rfl⟩
    clear aI ht e5 e9
    simp only [aG] at kZ
    have hT:=hT.trans zy
    have fX:=iY
    simp only [Th,ce,and_true] at fX
    unfold Th
    by_cases vC:X.k=1
    ·have gF:vb a s rows[i]=s:=by unfold vb;rw [if_neg kY,<- hX,if_pos vC]
     rw [gF] at ax
     simp +contextual only [go_sem,aE,sevalprocAttr,kZ,V.cs,vC,aA lr]
     refine aR (ak (ak (az ⟨rows.length - (i+1),by omega,rfl,i+1,by omega,rfl,?_,?_,T12,s,hT,rfl,?_,?_,ax⟩)))
     ·simp only [aG,kZ,go_sem,sevalprocAttr]
     ·simp only [go_sem,sevalprocAttr,aB i (by omega)]
     ·simp only [go_sem,sevalprocAttr,kZ]
     ·simp only [go_sem,sevalprocAttr,kZ]
    ·simp +contextual only [go_sem,aE,sevalprocAttr,kZ,V.cs,vC,aA lr,aA tU,fX]
     obtain ⟨lo,zw⟩:∃ lo,lo=if s.known=false\/oT X s.low<0 then X else s.low:=⟨_,rfl⟩
     obtain ⟨qL,EB⟩:∃ qL,qL=if s.known=false\/oT X s.high>0 then X else s.high:=⟨_,rfl⟩
     have gF:vb a s rows[i]=⟨IntKind.i64.wrap (s.n+rows[i].w),B5 s.t X.n rows[i].w,lo,qL,true⟩:=by unfold vb;rw [if_neg kY,<- hX,if_neg vC,zw,EB]
     rw [gF] at ax
     refine WH [(b12,_),(b11,_),(b8,_),(b7,_)] (NV s.t X.n rows[i].w _) ?_
     cases xO:s.known with
     | false=>
      rw [xO,if_pos (.inl rfl)] at zw EB
      simp +contextual only [go_sem,aE,sevalprocAttr,kZ,xO,aA lr,fX,nr,eA]
      refine aR (ak (ak (az ⟨rows.length - (i+1),by omega,rfl,i+1,by omega,rfl,?_,?_,T12,⟨IntKind.i64.wrap (s.n+rows[i].w),B5 s.t X.n rows[i].w,lo,qL,true⟩,hT,by rw [zw,EB],?_,?_,ax⟩)))
      ·simp only [aG,kZ,go_sem,sevalprocAttr]
      ·simp only [go_sem,sevalprocAttr,aB i (by omega)]
      ·simp only [go_sem,sevalprocAttr]
      ·simp only [go_sem,sevalprocAttr]
     | true=>
      simp +contextual only [go_sem,sevalprocAttr,kZ,xO,aA lr,aA iN,fX,nr,eA]
      refine aP (jq X s.low _) ?_
      by_cases pC:oT X s.low<0
      ·rw [if_pos (.inr pC)] at zw
       simp +contextual only [go_sem,aE,sevalprocAttr,kZ,xO,pC,aA lr,aA mG,fX,nr,eA]
       refine aP (jq X s.high _) ?_
       by_cases Uk:oT X s.high>0
       ·rw [if_pos (.inr Uk)] at EB
        have GO:0<oT X s.high:=Uk
        simp +contextual only [go_sem,aE,sevalprocAttr,kZ,GO,aA lr,fX,nr]
        refine aR (ak (ak (az ⟨rows.length - (i+1),by omega,rfl,i+1,by omega,rfl,?_,?_,T12,⟨IntKind.i64.wrap (s.n+rows[i].w),B5 s.t X.n rows[i].w,lo,qL,true⟩,hT,by rw [zw,EB],?_,?_,ax⟩)))
        ·simp only [aG,kZ,go_sem,sevalprocAttr]
        ·simp only [go_sem,sevalprocAttr,aB i (by omega)]
        ·simp only [go_sem,sevalprocAttr]
        ·simp only [go_sem,sevalprocAttr]
       ·rw [xO,if_neg (by simp [Uk])] at EB
        have GO:¬ 0<oT X s.high:=Uk
        simp +contextual only [go_sem,aE,sevalprocAttr,kZ,GO]
        refine aR (ak (ak (az ⟨rows.length - (i+1),by omega,rfl,i+1,by omega,rfl,?_,?_,T12,⟨IntKind.i64.wrap (s.n+rows[i].w),B5 s.t X.n rows[i].w,lo,qL,true⟩,hT,by rw [zw,EB],?_,?_,ax⟩)))
        ·simp only [aG,kZ,go_sem,sevalprocAttr]
        ·simp only [go_sem,sevalprocAttr,aB i (by omega)]
        ·simp only [go_sem,sevalprocAttr]
        ·simp only [go_sem,sevalprocAttr]
      ·rw [xO,if_neg (by simp [pC])] at zw
       simp +contextual only [go_sem,aE,sevalprocAttr,kZ,xO,pC,aA lr,aA mG,fX,nr]
       refine aP (jq X s.high _) ?_
       by_cases Uk:oT X s.high>0
       ·rw [if_pos (.inr Uk)] at EB
        have GO:0<oT X s.high:=Uk
        simp +contextual only [go_sem,aE,sevalprocAttr,kZ,GO,aA lr,fX,nr]
        refine aR (ak (ak (az ⟨rows.length - (i+1),by omega,rfl,i+1,by omega,rfl,?_,?_,T12,⟨IntKind.i64.wrap (s.n+rows[i].w),B5 s.t X.n rows[i].w,lo,qL,true⟩,hT,by rw [zw,EB],?_,?_,ax⟩)))
        ·simp only [aG,kZ,go_sem,sevalprocAttr]
        ·simp only [go_sem,sevalprocAttr,aB i (by omega)]
        ·simp only [go_sem,sevalprocAttr]
        ·simp only [go_sem,sevalprocAttr]
       ·rw [xO,if_neg (by simp [Uk])] at EB
        have GO:¬ 0<oT X s.high:=Uk
        simp +contextual only [go_sem,aE,sevalprocAttr,kZ,GO]
        refine aR (ak (ak (az ⟨rows.length - (i+1),by omega,rfl,i+1,by omega,rfl,?_,?_,T12,⟨IntKind.i64.wrap (s.n+rows[i].w),B5 s.t X.n rows[i].w,lo,qL,true⟩,hT,by rw [zw,EB],?_,?_,ax⟩)))
        ·simp only [aG,kZ,go_sem,sevalprocAttr]
        ·simp only [go_sem,sevalprocAttr,aB i (by omega)]
        ·simp only [go_sem,sevalprocAttr]
        ·simp only [go_sem,sevalprocAttr]
 ·have:i=rows.length:=by omega
  subst this
  rw [List.drop_length,List.foldl_nil] at ax
  subst ax
  unfold Th
  by_cases h2:a.k<=2
  ·rw [if_pos h2] at hS
   subst hS
   simp +contextual only [go_sem,aE,sevalprocAttr,aI,ht,aN,k0,h2,e5]
   refine aP (qu _ _) ?_
   simp +contextual only [go_sem,sevalprocAttr,aI,aA dI,fq,iV,eA,V.cs]
   exact ak (ak (ak (ak (am cV rfl))))
  ·rw [if_neg h2] at hS
   cases xO:Q.known with
   | false=>
    rw [xO,if_pos rfl] at hS
    subst hS
    simp +contextual only [go_sem,aE,sevalprocAttr,aI,ht,aN,k0,h2,e9,xO]
    refine aP (fL _) ?_
    simp +contextual only [go_sem,sevalprocAttr,aI,aA dI,fq,iV,eA,V.cs]
    exact ak (ak (ak (ak (am cV rfl))))
   | true=>
    rw [xO,if_neg (by decide)] at hS
    by_cases h3:a.k=3
    ·rw [if_pos h3] at hS
     subst hS
     simp +contextual only [go_sem,aE,sevalprocAttr,aI,ht,aN,k0,h3,e9,xO]
     refine dA ad5.bd (fun M' he hL _=>NP Q.t hL.2.2.1 _) ?_
     simp +contextual only [go_sem,sevalprocAttr,aI,aA dI,fq,iV,eA,V.cs]
     exact ak (ak (ak (ak (am cV rfl))))
    ·rw [if_neg h3] at hS
     by_cases h4:a.k=4
     ·rw [if_pos h4] at hS
      subst hS
      simp +contextual only [go_sem,aE,sevalprocAttr,aI,ht,aN,k0,h4,e9,xO,aA dI,aA iN,fq,iV,eA,V.cs]
      exact ak (ak (ak (ak (am cV rfl))))
     ·rw [if_neg h4] at hS
      subst hS
      simp +contextual only [go_sem,aE,sevalprocAttr,aI,ht,aN,k0,h2,h3,h4,e9,xO,aA dI,aA mG,fq,iV,eA,V.cs]
      exact ak (ak (ak (ak (am cV rfl))))
structure G where
 key:List V
 rows:List Z
instance:Inhabited G:=⟨⟨[],[]⟩⟩
abbrev GE:=G×PV
def ke (e:GE):PV:=e.2
def Wc (x y:G):Int:=ip x.key y.key
def Ou (M:aS)(e:GE):Prop:=RS M RV 3 e.1.key e.2.1/\RS M (RZ M) 2 e.1.rows e.2.2
theorem nY {M M':aS}(he:bh M M'){e:GE}(h:Ou M e):Ou M' e:=⟨gQ he h.1,bX he h.2⟩
variable {M:aS}
theorem DW {x y:G}{a b:PV}(hx:RS M RV 3 x.key a.1)(hy:RS M RV 3 y.key b.1)(ha:a.2.oneCell'=true)(hb:b.2.oneCell'=true)(T:Tm):cw Tryz.prog 262 [.agg ⟨[a.1,a.2]⟩,.agg ⟨[b.1,b.2]⟩] T M [] [] (fun r _ _ _=>r=.int .i64 (Wc x y)) aO:=by
 obtain ⟨a1,a2⟩:=a
 obtain ⟨c1,c2⟩:=b
 simp only at hx hy ha hb
 have vC:=(cR hx).1
 have hy1:=(cR hy).1
 refine aC ae3 rfl rfl ?_
 intro bi _
 simp +contextual only [go_sem,sevalprocAttr]
 intro b2 T2 ey dV fG b3 T3 gj cL fB hZ
 refine aP (mS hx hy _) ?_
 simp +contextual only [go_sem,sevalprocAttr]
 exact ak (ak (am (dV.trans fB) rfl))
theorem ait:CmpOk M ke 262 [] (fun x y=>Wc x.1 y.1) (Ou M) where
 bod:=ae3.bd
 one:=fun x hx=>⟨(cR hx.1).1,(cR hx.2).1⟩
 call:=fun x y hx hy T=>DW hx.1 hy.1 (cR hx.2).1 (cR hy.2).1 T
theorem Vs {fi fs fr fm ft fo:FuncId}(hs:SF fi fs fr fm ft fo){fv:Value}{da:Option Addr}{dc:Nat}(T:Tm):cw Tryz.prog fi [.slice da 0 dc,.int .i64 ((0:Nat):Int),.int .i64 ((0:Nat):Int),fv] T M [] [] (fun r _ _ _=>r=.tuple #[]) aO:=by
 have B7:=hs
 cases hs
 all_goals
  first | refine aC acq rfl rfl ?_ | refine aC acE rfl rfl ?_
  intro bi _
  simp +contextual only [go_sem,aE,sevalprocAttr]
  refine gD [(2,.int .i64 ((0:Nat):Int))] (fun m e h=>e 8=.int .i64 1/\h=⟨T,M,[],[]⟩) 0 (by simp only [aG,go_sem,sevalprocAttr]) ⟨by simp only [go_sem,sevalprocAttr];rfl,rfl⟩ ?_
  rintro m e h aI ⟨e8,rfl⟩
  simp only [aG] at aI
  have yY:¬ ((1:Int)<((0:Nat):Int)):=by decide
  simp +contextual only [go_sem,aE,sevalprocAttr,aI,e8]
  exact am aH.rfl' rfl
theorem Pb {fi fs fr fm ft fo:FuncId}(hs:SF fi fs fr fm ft fo){fv:Value}{da:Option Addr}{dc:Nat}(T:Tm):cw Tryz.prog ft [.slice da 0 dc,.int .i64 ((0:Nat):Int),fv] T M [] [] (fun r _ _ _=>r=.tuple #[]) aO:=by
 have B7:=hs
 cases hs
 all_goals
  first | refine aC aeh rfl rfl ?_ | refine aC adE rfl rfl ?_
  intro bi _
  simp +contextual only [go_sem,aE,sevalprocAttr]
  refine gD [(0,.slice da 0 dc),(1,.int .i64 ((0:Nat):Int)),(2,fv),(6,.int .i64 20)] (fun m e h=>e 7=.int .i64 ((0:Nat):Int)/\e 8=.int .i64 20/\h=⟨T,M,[],[]⟩) 0 (by simp only [aG,go_sem,sevalprocAttr]) ⟨by simp only [go_sem,sevalprocAttr],by simp only [go_sem,sevalprocAttr],rfl⟩ ?_
  rintro m e h aI ⟨e7,e8,rfl⟩
  simp only [aG] at aI
  have yY:¬ ((20:Int)<=((0:Nat):Int)):=by decide
  simp +contextual only [go_sem,aE,sevalprocAttr,aI,e7,e8]
  refine aP (Vs B7 _) ?_
  simp +contextual only [go_sem,aE,sevalprocAttr]
  refine gD [(1,.int .i64 ((0:Nat):Int)),(6,.int .i64 20)] (fun m e h=>h=⟨T,M,[],[]⟩) 0 (by simp only [aG,go_sem,sevalprocAttr,aI]) rfl ?_
  rintro m e h aI rfl
  simp only [aG] at aI
  have h02:¬ ((20:Int)<((0:Nat):Int)):=by decide
  simp +contextual only [go_sem,aE,sevalprocAttr,aI]
  exact am aH.rfl' rfl
theorem Fn {fi fs fr fm ft fo:FuncId}(hs:SF fi fs fr fm ft fo){fv:Value}{da:Option Addr}{dc:Nat}(T:Tm):cw Tryz.prog fo [.slice da 0 dc,fv] T M [] [] (fun r _ _ _=>r=.tuple #[]) aO:=by
 have B7:=hs
 cases hs
 all_goals
  first | refine aC V5 rfl rfl ?_ | refine aC aeI rfl rfl ?_
  intro bi _
  simp +contextual only [go_sem,sevalprocAttr]
  refine aP (Pb B7 _) ?_
  simp +contextual only [go_sem,sevalprocAttr]
  exact am aH.rfl' rfl
set_option maxHeartbeats 1000000
def mj (keys:List Ex):List Z ->List G
 | []=>[]
 | r::z=>(if 0<r.w then [⟨fp keys r.row,[r]⟩] else [])++mj keys z
def qQ (acc:List G)(g:G):List G:=match acc.getLast? with
 | some last=>if ip last.key g.key=0 then acc.dropLast++[⟨last.key,last.rows++g.rows⟩] else acc++[g]
 | none=>[g]
def tm (keys:List Ex)(z:List Z):List G:=(iG Wc (mj keys z)).foldl qQ []
def lm (keys:List Ex)(z:List Z):List G:=if keys.length=0/\(tm keys z).length=0 then [⟨[],[]⟩] else tm keys z
def FL (aggs:List Ag)(g:G):Z:=⟨g.key++aggs.map fun a=>Ck a g.rows,1⟩
def lF (keys:List Ex)(aggs:List Ag)(z:List Z):List Z:=(lm keys z).map (FL aggs)
variable {M:aS}
def lP (M:aS)(N:Tm)(gs:List GE)(lv:Value)(L:LL):Prop:=
 (gs=[]/\lv=.slice none 0 0/\L=[])\/
 ∃ g cap junk,lv=.slice (some ⟨g,0,none⟩) gs.length cap/\L=[(g,fl ke gs++junk)]/\N g=some 353/\(fl ke gs++junk).length=cap*2/\gs.length<=cap/\M g=none
theorem wU {N N':Tm}{gs lv L}(hN:aH N N')(h:lP M N gs lv L):lP M N' gs lv L:=by
 rcases h with h | ⟨g,cap,junk,h1,h2,h3,h4⟩
 ·exact .inl h
 ·exact .inr ⟨g,cap,junk,h1,h2,hN _ _ h3,h4⟩
theorem AF {M':aS}{N:Tm}{gs lv L}(hn:aJ M' L)(h:lP M N gs lv L):lP M' N gs lv L:=by
 rcases h with h | ⟨g,cap,junk,h1,rfl,h3,h4,h5,h6⟩
 ·exact .inl h
 ·exact .inr ⟨g,cap,junk,h1,rfl,h3,h4,h5,hn.1⟩
theorem p9 {N:Tm}{gs lv L}{R:RR}(L1:LL)(h:lP M N gs lv L):Pq lv 353 2 (fl ke gs) ⟨N,M,L1++L,R⟩ L1:=by
 rcases h with ⟨rfl,rfl,rfl⟩ | ⟨g,cap,junk,rfl,rfl,hN,hc,dJ,_⟩
 ·exact .inl ⟨rfl,rfl,by simp⟩
 ·exact .inr ⟨g,gs.length,cap,junk,L1,[],rfl,hN,rfl,by simp,cZ _,hc,dJ⟩
theorem uM {N:Tm}{gs lv L}(h:lP M N gs lv L):∃ a c,lv=.slice a gs.length c:=by
 rcases h with ⟨rfl,rfl,rfl⟩ | ⟨g,cap,junk,rfl,_⟩<;>exact ⟨_,_,rfl⟩
theorem qt {N:Tm}{gs:List GE}{e:GE}{g m c:Nat}{junk:List Value}(hN:N g=some 353)(hM:M g=none)(hm:m*2=(fl ke gs).length+[e.2.1,e.2.2].length)(Ks:m<=c)(hl:(fl ke gs++[e.2.1,e.2.2]++junk).length=c*2):
 lP M N (gs++[e]) (.slice (some ⟨g,0,none⟩) m c) [(g,fl ke gs++[e.2.1,e.2.2]++junk)]:=by
 have Ad:fl ke (gs++[e])=fl ke gs++[e.2.1,e.2.2]:=by simp [fl,ke]
 have CK:m=(gs++[e]).length:=by rw [cZ] at hm;simp only [ln,List.length_append] at hm ⊢;omega
 subst CK
 exact .inr ⟨g,c,junk,rfl,by rw [Ad],hN,by rw [Ad];exact hl,Ks,hM⟩
def WM (M:aS)(e:GE)(cs:List Value):Prop:=cs=[e.2.1,e.2.2]/\Ou M e
theorem BT {M:aS}{e:GE}{cs:List Value}(h:WM M e cs):cs.length=2:=by rw [h.1];rfl
theorem Cw {M M':aS}(he:bh M M')(e:GE)(cs:List Value)(h:WM M e cs):WM M' e cs:=⟨h.1,nY he h.2⟩
theorem XG {M:aS}:∀ {l:List GE},(∀ e∈l,Ou M e) ->RL (WM M) l (fl ke l)
 | [],_=>rfl
 | e::l,h=>⟨[e.2.1,e.2.2],fl ke l,rfl,⟨rfl,h e (by simp)⟩,XG fun x hx=>h x (p5 hx)⟩
theorem JQ {N:Tm}{gs:List GE}{lv:Value}{L L2:LL}{R:RR}{k:Sh ->Prop}(h:lP M N gs lv L)(cq:∀ e∈gs,Ou M e)(hb:gs.length*2<=4398046511104)(hn:aJ M L2)
 (hk:∀ M',bh M M' ->aJ M' L2 ->RS M' (WM M') 2 gs lv ->bK ⟨N,M',L2,R⟩ k):bK ⟨N,M,L++L2,R⟩ k:=by
 rcases h with ⟨rfl,rfl,rfl⟩ | ⟨g,cap,junk,rfl,rfl,hN,hc,dJ,_⟩
 ·exact hk M bh.rfl' hn bu
 ·refine aT fun he h1 h2=>hk _ he h2 ?_
  have hRL:=XG fun e hm=>nY he (cq e hm)
  refine ⟨hb,fl ke gs,.inr ⟨g,0,gs.length,cap,rfl,dJ,cZ _,?_⟩,hRL⟩
  exact kJ h1 _ 0 (fun i v hv=>by
   rw [Nat.zero_add,List.getElem?_append_left (by exact (List.getElem?_eq_some_iff.1 hv).1)];exact hv)
theorem DN {F:Fi}{s:List Vc.Item}{e:dj}{ds:List Deferred}{dd:Option Nat}{N:Tm}{L:LL}{R:RR}{gs:List GE}{lv:Value}(h:lP M N gs lv L)(cq:∀ e∈gs,Ou M e)(hn:gs.length<=400)
 (k:∀ L' gs',gs'=iG (fun x y:GE=>Wc x.1 y.1) gs ->oL gs gs' ->lP M N gs' lv L' ->cj Tryz.prog F s (cB e dd (.tuple #[])) ds ⟨N,M,L',R⟩ ⟨⟩):dk Tryz.prog F 261 [lv,.func (.func 262) #[] #[]] dd s e ds ⟨N,M,L,R⟩ ⟨⟩:=by
 have hF:=jh (fun x y:GE=>Wc x.1 y.1) gs
 rcases h with ⟨rfl,rfl,rfl⟩ | ⟨g,cap,junk,rfl,rfl,hN,hc,dJ,hM⟩
 ·refine aP (Fn .g _) (k [] _ rfl hF (.inl ⟨List.eq_nil_of_length_eq_zero (by rw [hF.1];rfl),rfl,rfl⟩))
 ·refine hO (xD .g ait rfl dJ cq (by omega) _) (k _ _ rfl hF (.inr ⟨g,cap,junk,by rw [hF.1],rfl,hN,?_,by rw [hF.1];exact dJ,hM⟩))
  rw [List.length_append,cZ] at hc ⊢
  rw [hF.1];exact hc
def Ur (e:GE):Prop:=∃ r b,e.1.rows=[r]/\e.2.2=.slice (some ⟨b,0,none⟩) 1 1
def aeG (M:aS)(R:RR)(la:GE):Prop:=RS M RV 3 la.1.key la.2.1/\((R=[]/\RS M (RZ M) 2 la.1.rows la.2.2/\Ur la)\/∃ a c xs,la.2.2=.slice a la.1.rows.length c/\R=[(la.2.2,159,2,xs)]/\RL (RZ M) la.1.rows xs)
def Mk (M:aS)(N:Tm)(al:List GE)(av:Value)(L:LL)(R:RR):Prop:=
 (al=[]/\av=.slice none 0 0/\L=[]/\R=[])\/∃ ini la,al=ini++[la]/\lP M N al av L/\(∀ e∈ini,Ou M e)/\aeG M R la
theorem yP {N N':Tm}{al:List GE}{e0:GE}{lv lv':Value}{L3 Lg:LL}{R3:RR}{k:Sh ->Prop}{b1 b2:Nat}{c1 c2:List Value}(jM:Mk M N al lv L3 R3)(aeK:Ou M e0)(tF:Ur e0)(l6:lP M N' (al++[e0]) lv' Lg)(hb:∀ e∈al,e.1.rows.length<=400)
 (hk:∀ M',bh M M' ->Mk M' N' (al++[e0]) lv' Lg [] ->bK ⟨N',M',Lg,[]⟩ k):bK ⟨N',M,Lg++[(b1,c1),(b2,c2)],R3⟩ k:=by
 rcases l6 with ⟨h,_⟩ | ⟨g,cap,junk,h1,rfl,h3,h4,h5,h6⟩
 ·simp at h
 refine dm (List.perm_append_comm (l₁:=[_])) (ak (ak ?_))
 have fin:∀ M',bh M M' ->M' g=none ->(∀ e∈al,Ou M' e) ->bK ⟨N',M',[(g,fl ke (al++[e0])++junk)],[]⟩ k:=fun M' he hg cq=>
  hk M' he (.inr ⟨al,e0,rfl,.inr ⟨g,cap,junk,h1,rfl,h3,h4,h5,hg⟩,cq,(nY he aeK).1,.inl ⟨rfl,(nY he aeK).2,tF⟩⟩)
 rcases jM with ⟨rfl,_,_,rfl⟩ | ⟨ini,la,rfl,_,IW,zj,Gh⟩
 ·exact fin M bh.rfl' h6 (by simp)
 ·rcases Gh with ⟨rfl,eD,_⟩ | ⟨a,c,xs,hv,rfl,eJ⟩
  ·refine fin M bh.rfl' h6 fun e he=> ?_
   rcases qM he with h | h
   ·exact IW e h
   ·simp only [mn] at h;subst h;exact ⟨zj,eD⟩
  ·have Ue:=hb la (by simp)
   refine bT (fun M' he hn gi=>fin M' he hn.1 fun e hm=> ?_) (by decide)
   rcases qM hm with h | h
   ·exact nY he (IW e h)
   ·simp only [mn] at h;subst h
    refine ⟨gQ he zj,?_⟩
    rw [hv] at gi ⊢
    exact ⟨by omega,xs,gi,cH (fz he) eJ⟩
theorem Be (g:G):qQ [] g=[g]:=rfl
theorem oq (ini:List G)(la g:G):qQ (ini++[la]) g=if ip la.key g.key=0 then ini++[⟨la.key,la.rows++g.rows⟩] else ini++[la]++[g]:=by
 unfold qQ
 rw [List.getLast?_append]
 simp
theorem RM {F:Fi}{s:List Vc.Item}{e:dj}{ds:List Deferred}{dd:Option Nat}{T:Tm}{L:LL}{R:RR}{la:GE}{rows:List Z}{y:Value}{ys:List Value}(zj:(R=[]/\RS M (RZ M) 2 la.1.rows la.2.2/\Ur la)\/∃ a c xs,la.2.2=.slice a la.1.rows.length c/\R=[(la.2.2,159,2,xs)]/\RL (RZ M) la.1.rows xs)
 (vn:∀ N L R,Srcs Tryz.prog 80 2 ⟨N,M,L,R⟩ y ys) (zu:RL (RZ M) rows ys) (dG:0<rows.length) (hb:la.1.rows.length+rows.length<=1000)
 (k:∀ a c xs,RL (RZ M) (la.1.rows++rows) xs ->cj Tryz.prog F s (cB e dd (.slice a (la.1.rows++rows).length c)) ds ⟨T,M,L,[(.slice a (la.1.rows++rows).length c,159,2,xs)]⟩ ⟨⟩):pA Tryz.prog F 80 80 la.2.2 y dd s e ds ⟨T,M,L,R⟩ ⟨⟩:=by
 have Mn:=dO (fun _ _=>cm) zu
 have fin:∀ (a:Option Addr) (m c:Nat) (xs:List Value),RL (RZ M) la.1.rows xs ->m*2=xs.length+ys.length ->cj Tryz.prog F s (cB e dd (.slice a m c)) ds ⟨T,M,L,[(.slice a m c,159,2,xs++ys)]⟩ ⟨⟩:=by
  intro a m c xs eJ hm
  have jP:=dO (fun _ _=>cm) eJ
  have hme:m=(la.1.rows++rows).length:=by rw [List.length_append];omega
  subst hme
  exact k a c _ (cM eJ zu)
 rcases zj with ⟨rfl,hlr,rl,bl,alE,hvl⟩ | ⟨xa,xc,xs,hvl,rfl,eJ⟩
 ·obtain ⟨zs,uz,Dk,abZ⟩:=kx (P:=Tryz.prog) Tryz.underlying80 (fun _ _=>cm) (fun _ _ h=>i8 h) hlr
  rw [hvl] at abZ ⊢
  cases abZ T L [] with
  | slice _ _ _ _ _ _ hc _=>
   refine jO mm ml (vn _ _ _) hc (by omega) (by omega) fun a m c hm=>fin a m c zs Dk hm
 ·have jP:=dO (fun _ _=>cm) eJ
  exact fK mm ml (vn _ _ _) (by omega) fun a m c hm=>fin a m c xs eJ hm
theorem Vj {ini:List GE}{la:GE}{g:G}{v:Value}(junk:List Value):(fl ke (ini++[la])++junk).set (ini.length*2+1) v=fl ke (ini++[(g,(la.2.1,v))])++junk:=by
 have h1:fl ke (ini++[la])=fl ke ini++[la.2.1,la.2.2]:=by simp [fl,ke]
 have h2:fl ke (ini++[(g,(la.2.1,v))])=fl ke ini++[la.2.1,v]:=by simp [fl,ke]
 rw [h1,h2,List.append_assoc,List.set_append_right _ _ (by rw [cZ];omega),cZ,List.append_assoc]
 have:ini.length*2+1 - ini.length*2=1:=by omega
 rw [this];rfl
theorem Hw {N:Tm}{al av L R}(h:Mk M N al av L R):∃ a c,av=.slice a al.length c:=by
 rcases h with ⟨rfl,rfl,_⟩ | ⟨ini,la,rfl,h,_⟩
 ·exact ⟨_,_,rfl⟩
 ·exact uM h
theorem MV {N:Tm}{al:List GE}{lv:Value}{L3:LL}{R3:RR}{k:Sh ->Prop}(h:Mk M N al lv L3 R3)(hb:∀ e∈al,e.1.rows.length<=400)(hl:al.length<=400)
 (hk:∀ M',bh M M' ->RS M' (WM M') 2 al lv ->bK ⟨N,M',[],[]⟩ k):bK ⟨N,M,L3,R3⟩ k:=by
 rcases h with ⟨rfl,rfl,rfl,rfl⟩ | ⟨ini,la,rfl,l6,IW,zj,Gh⟩
 ·exact hk M bh.rfl' bu
 have fin:∀ M',bh M M' ->aJ M' L3 ->(∀ e∈ini++[la],Ou M' e) ->bK ⟨N,M',L3,[]⟩ k:=fun M' he hn cq=>by
  rw [<- List.append_nil L3]
  exact JQ (L2:=[]) (AF hn l6) cq (by omega) trivial fun M2 nF _ cC=>hk M2 (he.trans nF) cC
 rcases Gh with ⟨rfl,eD,_⟩ | ⟨a,c,xs,hv,rfl,eJ⟩
 ·rcases l6 with ⟨h,_⟩ | ⟨g,cap,junk,h1,rfl,h3,h4,h5,h6⟩
  ·simp at h
  refine fin M bh.rfl' ⟨h6,trivial⟩ fun e he=> ?_
  rcases qM he with h | h
  ·exact IW e h
  ·simp only [mn] at h;subst h;exact ⟨zj,eD⟩
 ·have Ue:=hb la (by simp)
  refine bT (fun M' he hn gi=>fin M' he hn fun e hm=> ?_) (by decide)
  rcases qM hm with h | h
  ·exact nY he (IW e h)
  ·simp only [mn] at h;subst h
   refine ⟨gQ he zj,?_⟩
   rw [hv] at gi ⊢
   exact ⟨by omega,xs,gi,cH (fz he) eJ⟩
def Am (keys:List Ex)(z:List Z)(g:G):Prop:=g.key.length<=keys.length/\∀ r∈g.rows,r∈z
theorem xm {keys:List Ex}:∀ {z z0:List Z},(∀ r∈z,r∈z0) ->∀ g∈mj keys z,Am keys z0 g
 | [],_,_,g,hg=>by cases hg
 | r::z,z0,h,g,hg=>by
  rw [mj] at hg
  rcases qM hg with hg | hg
  ·split at hg
   ·simp only [mn] at hg
    subst hg
    exact ⟨by simp [fp],fun r' hr'=>by simp only [mn] at hr';subst hr';exact h _ (by simp)⟩
   ·cases hg
  ·exact xm (fun r hr=>h r (p5 hr)) g hg
theorem xL {keys:List Ex}{z:List Z}:∀ {l acc:List G},(∀ g∈acc,Am keys z g) ->(∀ g∈l,Am keys z g) ->∀ g∈l.foldl qQ acc,Am keys z g
 | [],acc,h,_,g,hg=>h g hg
 | x::l,acc,h,hl,g,hg=>by
  rw [List.foldl_cons] at hg
  refine xL (acc:=qQ acc x) (fun y hy=> ?_) (fun y hy=>hl y (p5 hy)) g hg
  have hx:=hl x (by simp)
  rcases List.eq_nil_or_concat acc with rfl | ⟨ini,la,rfl⟩
  ·rw [Be] at hy
   simp only [mn] at hy;subst hy;exact hx
  ·rw [List.concat_eq_append] at hy h
   rw [oq] at hy
   split at hy
   ·rcases qM hy with hy | hy
    ·exact h y (vZ (.inl hy))
    ·simp only [mn] at hy;subst hy
     have zj:=h la (by simp)
     exact ⟨zj.1,fun r hr=>by rcases qM hr with hr | hr;exact zj.2 r hr;exact hx.2 r hr⟩
   ·rcases qM hy with hy | hy
    ·exact h y hy
    ·simp only [mn] at hy;subst hy;exact hx
theorem sX {keys:List Ex}{z:List Z}:∀ g∈lm keys z,Am keys z g:=by
 intro g hg
 unfold lm at hg
 split at hg
 ·simp only [mn] at hg;subst hg
  exact ⟨by simp,fun r hr=>by cases hr⟩
 ·refine xL (acc:=[]) (fun g hg=>by cases hg) ?_ g hg
  exact (jh Wc (mj keys z)).2 _ (xm fun r hr=>hr)
theorem ZT {M:aS}{r:Z}{b:Nat}{rv:Value}(hr:RS M RV 3 r.row rv)(hb:M b=some [rv,.int .i64 r.w]):RS M (RZ M) 2 [r] (.slice (some ⟨b,0,none⟩) 1 1):=
 cK (fun _ _=>cm) hb ⟨[rv,.int .i64 r.w],[],rfl,⟨rv,hr,rfl⟩,rfl⟩ rfl (by omega)
theorem IH {keys:List Ex}{aggs:List Ag}{z:List Z}{kv av zv:Value}(hk:RS M (gU M) 6 keys kv)(ha:RS M (F5 M) 7 aggs av)(hz:RS M (RZ M) 2 z zv)(VD:∀ x∈keys,mA x)(aka:∀ a∈aggs,a.k≠1 ->mA a.x)(TI:jX 8 z)(Zz:z.length<=400)(h8:keys.length+aggs.length<=8)(T:Tm):
 cw Tryz.prog 218 [kv,av,zv] T M [] [] (fun r M' _ _=>RS M' (RZ M') 2 (lF keys aggs z) r) aO:=by
 have kd:=hk
 obtain ⟨fS,za,zc,rfl,dJ,_,hg⟩:=aF (by decide) (fun _ _=>cm) hz
 obtain ⟨_,ka,kc,rfl,_⟩:=aF (by decide) (fun _ _=>dW) hk
 obtain ⟨amJ,aa,ac,rfl,aog,_,hga⟩:=aF (by decide) (fun _ _=>oB) ha
 refine aC ahe rfl rfl ?_
 intro bi _
 simp +contextual only [go_sem,aE,sevalprocAttr]
 refine br z.length 21 [(0,.slice ka keys.length kc),(1,.slice aa aggs.length ac),(19,.slice za z.length zc),(20,.int .i64 (z.length:Int))]
  (fun i e h=>∃ N' M' L' gs lv,aH T N'/\bh M M'/\h=⟨N',M',L',[]⟩/\e 7=lv/\lP M' N' gs lv L'/\(∀ e∈gs,Ou M' e)/\(∀ e∈gs,Ur e)/\gs.length<=i/\mj keys z=gs.map Prod.fst++mj keys (z.drop i)) 0 (by omega) (by simp only [aG,go_sem,sevalprocAttr]) (by simp only [go_sem,sevalprocAttr]) (az ⟨T,M,[],[],_,aH.rfl',bh.rfl',rfl,by simp only [go_sem,sevalprocAttr],.inl ⟨rfl,rfl,rfl⟩,by simp,by simp,by simp,by simp⟩) ?_
 rintro i e h hi aI ht ⟨T1,M1,L1,gs,lv,cV,aV,rfl,e7,l6,cq,KE,Jt,ax⟩
 simp only [aG] at aI
 by_cases aN:i<z.length
 ·obtain ⟨b',o',cs',rfl,cG,ls,cC,rfl⟩:=hg i z[i] (gq aN)
  obtain ⟨y0,y1,_⟩:=cG.ext aV
  obtain ⟨la,lc,rfl⟩:=cT cC
  have hfi:=TI _ (gm aN)
  rw [dq aN,mj] at ax
  simp +contextual only [go_sem,aE,sevalprocAttr,aI,ht,aN,y0,y1]
  intro b9 T9 lu eN oY l4
  have hT:=cV.trans oY
  by_cases hw:0<z[i].w
  rotate_left
  ·rw [if_neg hw,List.nil_append] at ax
   simp +contextual only [go_sem,sevalprocAttr,hw]
   refine aR (ak (az ⟨z.length - (i+1),by omega,rfl,i+1,by omega,rfl,?_,?_,T9,M1,L1,gs,lv,hT,aV,rfl,?_,wU oY l6,cq,KE,by omega,ax⟩))
   ·simp only [aG,aI,go_sem,sevalprocAttr]
   ·simp only [go_sem,sevalprocAttr,aB i (by omega)]
   ·simp only [go_sem,sevalprocAttr,e7]
  rw [if_pos hw,<- List.append_assoc] at ax
  simp +contextual only [go_sem,sevalprocAttr,hw]
  obtain ⟨g0,Oc⟩:∃ g0:G,g0=⟨fp keys z[i].row,[z[i]]⟩:=⟨_,rfl⟩
  rw [<- Oc] at ax
  have EY:∀ M',bh M1 M' ->aJ M' L1 ->lP M' T9 gs lv L1:=fun M' _ hn=>AF hn (wU oY l6)
  refine lS (fun e' ds h=>∃ N' M2 b34 b36 v lv' Lg c36,aH T9 N'/\bh M1 M2/\RS M2 RV 3 (fp keys z[i].row) v/\lP M2 N' (gs++[(g0,(v,.slice (some ⟨b34,0,none⟩) 1 1))]) lv' Lg/\aJ M2 [(b36,c36),(b34,[.slice la z[i].row.length lc,.int .i64 z[i].w]),(b9,[.slice la z[i].row.length lc,.int .i64 z[i].w])]/\ds=[]/\aG e' [(0,.slice ka keys.length kc),(1,.slice aa aggs.length ac),(19,.slice (some ⟨b',o',none⟩) z.length zc),(20,.int .i64 (z.length:Int)),(21,.int .i64 (i:Int)),(7,lv')]/\h=⟨N',M2,Lg++[(b36,c36),(b34,[.slice la z[i].row.length lc,.int .i64 z[i].w]),(b9,[.slice la z[i].row.length lc,.int .i64 z[i].w])],[]⟩) (fun S' dU=> ?_) ?_
  ·refine eL ⟨T9,M1,[(b9,[.slice la z[i].row.length lc,.int .i64 z[i].w])],[]⟩ (du [] bh.rfl' lu trivial) ?_
   simp +contextual only [go_sem,sevalprocAttr,aI,aA lu,e7]
   refine ⟨?_,?_⟩
   ·refine aD (mP (qj aV kd) (gQ aV cC) VD hfi.2 _) ?_
    rintro v M2 bg aZ hv
    have Ub:=aZ.1
    have XK:=aZ.2
    have hv':=hv
    obtain ⟨va,vc,rfl⟩:=cT hv
    simp +contextual only [go_sem,sevalprocAttr]
    refine ⟨du [] bg Ub trivial,?_⟩
    intro b34 Wp lC
    refine ⟨du [(b34,_)] bg Ub ⟨⟨lC.1.2,lC.1.1⟩,trivial⟩,?_⟩
    intro b36 HG tp
    refine ⟨du [(b36,_),(b34,_)] bg Ub ⟨⟨tp.2.1.2,tp.2.1.1⟩,⟨lC.1.2,lC.1.1⟩,trivial⟩,?_⟩
    refine th (x:=lv) yo xV (p9 [(b36,_),(b34,_),(b9,_)] (EY M2 bg XK)) (.slice _ 1 _ _ _ Tryz.underlying351 (bL [] HG trivial rfl) (by simp [Value.oneCell'])) (.slice _ 1 _ _ _ Tryz.underlying351 (bL [] HG trivial rfl) (by simp [Value.oneCell'])) (by simp) (by rw [cZ];simp only [ln];omega) ?_
    intro N' g m c junk Lb Wr UN um hm Ks bw
    simp only [ce,and_true] at um
    simp +contextual only [go_sem,sevalprocAttr]
    refine ⟨du [(g,_),(b36,_),(b34,_)] bg Ub ⟨⟨um.2.2.2,um.2.2.1⟩,⟨tp.2.1.2,tp.2.1.1⟩,⟨lC.1.2,lC.1.1⟩,trivial⟩,?_⟩
    exact dU _ _ _ ⟨N',M2,b34,b36,_,_,[(g,_)],_,Lb,bg,hv',qt Wr UN hm Ks bw,⟨HG,Wp,Ub,trivial⟩,rfl,by simp only [aG,go_sem,sevalprocAttr,aI,ht],rfl⟩
   ·intro b34 Wp lC
    refine ⟨du [(b34,_)] bh.rfl' lu ⟨⟨lC.1.2,lC.1.1⟩,trivial⟩,?_⟩
    refine aD (mP (qj aV kd) (gQ aV cC) VD hfi.2 _) ?_
    rintro v M2 bg aZ hv
    have h34:=aZ.1
    have Ub:=aZ.2.1
    have XK:=aZ.2.2
    have hv':=hv
    obtain ⟨va,vc,rfl⟩:=cT hv
    simp +contextual only [go_sem,sevalprocAttr]
    refine ⟨du [(b34,_)] bg Ub ⟨⟨lC.1.2,lC.1.1⟩,trivial⟩,?_⟩
    intro b36 HG tp
    refine ⟨du [(b36,_),(b34,_)] bg Ub ⟨⟨tp.2.1.2,tp.2.1.1⟩,⟨lC.1.2,lC.1.1⟩,trivial⟩,?_⟩
    refine th (x:=lv) yo xV (p9 [(b36,_),(b34,_),(b9,_)] (EY M2 bg XK)) (.slice _ 1 _ _ _ Tryz.underlying351 (bL [] HG trivial rfl) (by simp [Value.oneCell'])) (.slice _ 1 _ _ _ Tryz.underlying351 (bL [] HG trivial rfl) (by simp [Value.oneCell'])) (by simp) (by rw [cZ];simp only [ln];omega) ?_
    intro N' g m c junk Lb Wr UN um hm Ks bw
    simp only [ce,and_true] at um
    simp +contextual only [go_sem,sevalprocAttr]
    refine ⟨du [(g,_),(b36,_),(b34,_)] bg Ub ⟨⟨um.2.2.2,um.2.2.1⟩,⟨tp.2.1.2,tp.2.1.1⟩,⟨lC.1.2,lC.1.1⟩,trivial⟩,?_⟩
    exact dU _ _ _ ⟨N',M2,b34,b36,_,_,[(g,_)],_,Lb,bg,hv',qt Wr UN hm Ks bw,⟨HG,h34,Ub,trivial⟩,rfl,by simp only [aG,go_sem,sevalprocAttr,aI,ht],rfl⟩
  ·rintro e' ds h ⟨N',M2,b34,b36,v,lv',Lg,c36,Lb,bg,hv,abe,aZ,rfl,kZ,rfl⟩
   simp only [aG] at kZ
   have eh:=aV.trans bg
   simp +contextual only [go_sem,sevalprocAttr,kZ]
   rcases abe with ⟨h,_⟩ | ⟨g,cap,junk,ly,rfl,Od,hg4,hg5,hg6⟩
   ·simp at h
   refine aR (dm (List.perm_append_comm (l₁:=[_])) (ak (aT fun he Wp bj=>ak (az ⟨z.length - (i+1),by omega,rfl,i+1,by omega,rfl,?_,?_,N',_,[(g,_)],gs++[(g0,(v,.slice (some ⟨b34,0,none⟩) 1 1))],lv',hT.trans Lb,eh.trans he,rfl,?_,.inr ⟨g,cap,junk,ly,rfl,Od,hg4,hg5,bj.2.1⟩,?_,?_,?_,?_⟩))))
   ·simp only [aG,kZ,go_sem,sevalprocAttr]
   ·simp only [go_sem,sevalprocAttr,aB i (by omega)]
   ·simp only [go_sem,sevalprocAttr,kZ]
   ·intro e he'
    rcases qM he' with h | h
    ·exact nY (bg.trans he) (cq e h)
    ·simp only [mn] at h
     subst h
     rw [Oc]
     exact ⟨gQ he hv,ZT (gQ (eh.trans he) cC) Wp⟩
   ·intro e he'
    rcases qM he' with h | h
    ·exact KE e h
    ·simp only [mn] at h
     subst h
     exact ⟨z[i],b34,by rw [Oc],rfl⟩
   ·rw [List.length_append];simp only [ln];omega
   ·rw [List.map_append];exact ax
 ·have:i=z.length:=by omega
  subst this
  rw [List.drop_length,mj,List.append_nil] at ax
  simp +contextual only [go_sem,aE,sevalprocAttr,aI,ht,aN,e7]
  refine DN l6 cq (by omega) fun L2 gs2 aeS hF yI=> ?_
  have mu:=hF.2 _ cq
  have TH:=hF.2 _ KE
  have hm2:gs2.map Prod.fst=iG Wc (mj keys z):=by rw [aeS,ax];exact (uv (f:=Prod.fst) rfl (fun _ _=>rfl) gs).symm
  have eD:gs2.length<=400:=by rw [hF.1];omega
  obtain ⟨ga,gc,rfl⟩:=uM yI
  simp +contextual only [go_sem,aE,sevalprocAttr,e7]
  refine br gs2.length 43 [(0,.slice ka keys.length kc),(1,.slice aa aggs.length ac),(41,.slice ga gs2.length gc),(42,.int .i64 (gs2.length:Int))]
   (fun i e h=>∃ N' M' L' R' al av,aH T N'/\bh M1 M'/\RS M' (WM M') 2 gs2 (.slice ga gs2.length gc)/\h=⟨N',M',L',R'⟩/\e 10=av/\Mk M' N' al av L' R'/\(∀ e∈al,e.1.rows.length<=i)/\al.length<=i/\al.map Prod.fst=((gs2.take i).map Prod.fst).foldl qQ []) 0 (by omega) (by simp only [aG,go_sem,sevalprocAttr,aI]) (by simp only [go_sem,sevalprocAttr]) ?_ ?_
  ·rw [<- List.append_nil L2]
   exact JQ (L2:=[]) yI mu (by omega) trivial fun M' mW _ cC=>az ⟨T1,M',[],[],[],_,cV,mW,cC,rfl,by simp only [go_sem,sevalprocAttr],.inl ⟨rfl,rfl,rfl,rfl⟩,by simp,by simp,by simp⟩
  clear ax cq KE l6 Jt aI ht e7 cV
  rintro i e h hi aI ht ⟨T2,M2,L3,R3,al,lv,dV,bg,XN,rfl,e10,jM,Lh,XU,Mt⟩
  simp only [aG] at aI
  have eh:=aV.trans bg
  obtain ⟨ZQ,g5,c5,Qc,Y3,_,hgg⟩:=aF (by decide) (fun _ _=>BT) XN
  cases Qc
  by_cases aN:i<gs2.length
  ·obtain ⟨b',o',cs',rfl,cG,rfl,vz⟩:=hgg i gs2[i] (gq aN)
   obtain ⟨y0,y1,_⟩:=cG
   have TP:=TH _ (gm aN)
   have CK:((gs2.take (i+1)).map Prod.fst).foldl qQ []=qQ (al.map Prod.fst) gs2[i].1:=by
    rw [<- List.take_append_getElem aN,List.map_append,List.foldl_append,<- Mt];rfl
   obtain ⟨kva,kvc,zm⟩:=cT vz.1
   obtain ⟨r5,b5,Ge,Vq⟩:=TP
   rw [zm] at y0
   rw [Vq] at y1
   simp +contextual only [go_sem,aE,sevalprocAttr,aI,ht,aN,y0,y1]
   intro b12 T12 lr iY zy Ox
   have hT:=dV.trans zy
   have OP:Mk M2 T12 al lv L3 R3:=by
    rcases jM with h | ⟨ini,la,h1,h2,h3⟩
    ·exact .inl h
    ·exact .inr ⟨ini,la,h1,wU zy h2,h3⟩
   have acH:=OP
   rcases acH with ⟨rfl,rfl,rfl,rfl⟩ | ⟨ini,la,rfl,IC,IW,zj⟩
   ·have w0:IntKind.i64.wrap ((0:Int) - 1)= -1:=by decide
    have w1:¬ ((0:Int)<= -1):=by decide
    simp +contextual only [go_sem,sevalprocAttr,e10]
    refine aU ?_
    simp +contextual only [go_sem,aE,sevalprocAttr,e10,aA lr]
    intro b77 Pw adL
    refine th (x:=.slice none 0 0) yo xV (p9 [(b77,_),(b12,_)] (.inl ⟨rfl,rfl,rfl⟩)) (.slice _ 1 _ _ _ Tryz.underlying351 (bL [] Pw trivial rfl) (by simp [Value.oneCell'])) (.slice _ 1 _ _ _ Tryz.underlying351 (bL [] Pw trivial rfl) (by simp [Value.oneCell'])) (by simp) (by rw [cZ];simp only [ln];omega) ?_
    intro N' g' m c junk' Lb Wr UN um hm Ks bw
    have zz:=qt (e:=(gs2[i].1,(.slice kva gs2[i].1.key.length kvc,.slice (some ⟨b5,0,none⟩) 1 1))) Wr UN hm Ks bw
    simp +contextual only [go_sem,sevalprocAttr,ht]
    refine aR (yP (e0:=(gs2[i].1,(.slice kva gs2[i].1.key.length kvc,.slice (some ⟨b5,0,none⟩) 1 1))) (Lg:=[_]) OP ⟨by rw [<- zm];exact vz.1,by rw [<- Vq];exact vz.2⟩ ⟨r5,b5,Ge,rfl⟩ zz (fun e he=>by have:=Lh e he;omega) fun M' he Qp=>az ⟨gs2.length - (i+1),by omega,rfl,i+1,by omega,rfl,?_,?_,N',M',_,_,_,_,hT.trans Lb,bg.trans he,aL he (Cw he) XN,rfl,by simp only [go_sem,sevalprocAttr],Qp,?_,?_,?_⟩)
    ·simp only [aG,aI,go_sem,sevalprocAttr]
    ·simp only [go_sem,sevalprocAttr,aB i (by omega)]
    ·intro e he
     rcases qM he with h | h
     ·have:=Lh e h;omega
     ·simp only [mn] at h;subst h
      rw [Ge];simp
    ·rw [List.length_append];simp only [ln];omega
    ·rw [CK,List.map_append];rfl
   ·have oJ:((ini++[la]).length:Int) - 1=(ini.length:Int):=by simp
    have w0:IntKind.i64.wrap (((ini++[la]).length:Int) - 1)=((ini.length:Nat):Int):=by rw [oJ];exact bJ (by omega) (by simp at XU;omega)
    have w1:(0:Int)<=((ini.length:Nat):Int):=by omega
    have H3:=IC
    rcases H3 with ⟨h,_⟩ | ⟨g,cap,junk,rfl,rfl,YL,hc3,acF,Od⟩
    ·simp at h
    simp +contextual only [go_sem,sevalprocAttr,e10,w0]
    refine aU ?_
    have c0:=dT (enc:=ke) junk (l:=ini++[la]) (i:=ini.length) (by simp)
    have A2:ini.length<(ini++[la]).length:=by simp
    have ad4:ke ((ini++[la])[ini.length]'A2)=la.2:=by simp [ke]
    rw [ad4] at c0
    simp only [ce,and_true] at iY
    obtain ⟨lka,lkc,hlk⟩:=cT zj.1
    simp +contextual only [go_sem,sevalprocAttr,e10,w1,aA lr,aA Od,iY,c0,A2]
    refine aP (mS zj.1 (by rw [<- zm];exact vz.1) _) ?_
    by_cases rR:ip la.1.key gs2[i].1.key=0
    ·have c1:=dR (enc:=ke) junk (l:=ini++[la]) (i:=ini.length) A2
     rw [ad4] at c1
     obtain ⟨ys,Mn,zu,vn⟩:=kx (P:=Tryz.prog) Tryz.underlying80 (fun _ _=>cm) (fun _ _ h=>i8 h) vz.2
     rw [Vq] at vn
     simp +contextual only [go_sem,aE,sevalprocAttr,e10,rR]
     refine aU ?_
     simp +contextual only [go_sem,sevalprocAttr,e10,w1,aA lr,aA Od,iY,c1,A2,rR]
     have aop:=Lh la (by simp)
     have Za:gs2[i].1.rows.length=1:=by rw [Ge];rfl
     refine RM zj.2 vn zu (by omega) (by omega) fun na nc xs' TE=> ?_
     have adh:ini.length*2+2<=(fl ke (ini++[la])++junk).length:=by rw [List.length_append,cZ];simp;omega
     simp +contextual only [go_sem,sevalprocAttr,ht,e10,w1,iY,A2,rR,adh]
     have hlm:((ini++[la]).length=(ini++[((⟨la.1.key,la.1.rows++gs2[i].1.rows⟩:G),(la.2.1,Value.slice na (la.1.rows++gs2[i].1.rows).length nc))]).length):=by simp
     refine aR (ak (az ⟨gs2.length - (i+1),by omega,rfl,i+1,by omega,rfl,?_,?_,T12,M2,_,_,ini++[(⟨la.1.key,la.1.rows++gs2[i].1.rows⟩,(la.2.1,.slice na (la.1.rows++gs2[i].1.rows).length nc))],.slice (some ⟨g,0,none⟩) (ini++[la]).length cap,hT,bg,XN,rfl,?_,.inr ⟨ini,_,rfl,.inr ⟨g,cap,junk,?_,?_,YL,?_,?_,Od⟩,IW,⟨zj.1,.inr ⟨na,nc,xs',rfl,rfl,TE⟩⟩⟩,?_,?_,?_⟩))
     ·simp only [aG,aI,go_sem,sevalprocAttr]
     ·simp only [go_sem,sevalprocAttr,aB i (by omega)]
     ·simp only [go_sem,sevalprocAttr,e10]
     ·rw [hlm]
     ·rw [Vj]
     ·rw [List.length_append,cZ] at hc3 ⊢
      rw [<- hlm];exact hc3
     ·rw [<- hlm];exact acF
     ·intro e he
      rcases qM he with h | h
      ·have:=Lh e (vZ (.inl h));omega
      ·simp only [mn] at h;subst h
       simp only [List.length_append];omega
     ·rw [<- hlm];omega
     ·rw [CK,List.map_append,List.map_append]
      simp only [List.map_cons,List.map_nil]
      rw [oq,if_pos rR]
    ·simp +contextual only [go_sem,aE,sevalprocAttr,e10,aA lr,rR]
     intro b77 Pw adL
     refine th (x:=.slice (some ⟨g,0,none⟩) (ini++[la]).length cap) yo xV (p9 [(b77,_),(b12,_)] (.inr ⟨g,cap,junk,rfl,rfl,YL,hc3,acF,Od⟩)) (.slice _ 1 _ _ _ Tryz.underlying351 (bL [] Pw trivial rfl) (by simp [Value.oneCell'])) (.slice _ 1 _ _ _ Tryz.underlying351 (bL [] Pw trivial rfl) (by simp [Value.oneCell'])) (by simp) (by rw [cZ];simp only [ln];omega) ?_
     intro N' g' m c junk' Lb Wr UN um hm Ks bw
     have zz:=qt (e:=(gs2[i].1,(.slice kva gs2[i].1.key.length kvc,.slice (some ⟨b5,0,none⟩) 1 1))) Wr UN hm Ks bw
     simp +contextual only [go_sem,sevalprocAttr,ht]
     refine aR (yP (e0:=(gs2[i].1,(.slice kva gs2[i].1.key.length kvc,.slice (some ⟨b5,0,none⟩) 1 1))) (Lg:=[_]) OP ⟨by rw [<- zm];exact vz.1,by rw [<- Vq];exact vz.2⟩ ⟨r5,b5,Ge,rfl⟩ zz (fun e he=>by have:=Lh e he;omega) fun M' he Qp=>az ⟨gs2.length - (i+1),by omega,rfl,i+1,by omega,rfl,?_,?_,N',M',_,_,_,_,hT.trans Lb,bg.trans he,aL he (Cw he) XN,rfl,by simp only [go_sem,sevalprocAttr],Qp,?_,?_,?_⟩)
     ·simp only [aG,aI,go_sem,sevalprocAttr]
     ·simp only [go_sem,sevalprocAttr,aB i (by omega)]
     ·intro e he
      rcases qM he with h | h
      ·have:=Lh e h;omega
      ·simp only [mn] at h;subst h
       rw [Ge];simp
     ·rw [List.length_append];simp only [ln];omega
     ·rw [CK,List.map_append];rw [List.map_append];simp only [List.map_cons,List.map_nil];rw [oq,if_neg rR]
  ·have:i=gs2.length:=by omega
   subst this
   rw [List.take_length,hm2] at Mt
   obtain ⟨la,lc,oM⟩:=Hw jM
   rw [oM] at e10
   simp +contextual only [go_sem,sevalprocAttr,aI,ht,aN]
   rw [cd,if_neg (by decide)]
   simp +contextual only [go_sem,sevalprocAttr,aI,e10]
   have h3:=aV.trans bg
   refine dQ (fun e' ds h=>ds=[]/\aG e' [(0,.slice ka keys.length kc),(1,.slice aa aggs.length ac)]/\∃ N' M' L' R' gl a c,aH T N'/\bh M M'/\gl.map Prod.fst=lm keys z/\gl.length<=401/\e' 10=.slice a gl.length c/\h=⟨N',M',L',R'⟩/\∀ k:Sh ->Prop,(∀ M'',bh M' M'' ->RS M'' (WM M'') 2 gl (.slice a gl.length c) ->bK ⟨N',M'',[],[]⟩ k) ->bK ⟨N',M',L',R'⟩ k) (fun S' dU=> ?_) ?_
   ·have XT:tm keys z=al.map Prod.fst:=Mt.symm
    by_cases h0:keys.length=0/\al.length=0
    ·have hd:(decide ((keys.length:Int)=0) && decide ((al.length:Int)=0))=true:=by rw [Bool.and_eq_true,decide_eq_true_eq,decide_eq_true_eq];omega
     have vj:lm keys z=[⟨[],[]⟩]:=by unfold lm;rw [XT,List.length_map,if_pos h0]
     rw [hd,cd,if_pos rfl]
     rcases jM with ⟨rfl,_,rfl,rfl⟩ | ⟨ini,la,rfl,_⟩
     rotate_left
     ·simp at h0
     simp +contextual only [go_sem,sevalprocAttr]
     intro b89 anw
     refine dU _ _ _ ⟨rfl,by simp only [aG,go_sem,sevalprocAttr,aI],T2,M2,_,_,[(⟨[],[]⟩,(.slice none 0 0,.slice none 0 0))],some ⟨b89,0,none⟩,1,dV,h3,by rw [vj];rfl,by simp,by simp only [go_sem,sevalprocAttr],rfl,fun k hk=>aT fun he hb hn=>hk _ he (cK (fun _ _=>BT) hb (l:=[(⟨[],[]⟩,(.slice none 0 0,.slice none 0 0))]) ⟨[_,_],[],rfl,⟨rfl,bu,bu⟩,rfl⟩ rfl (by simp))⟩
    ·have hd:(decide ((keys.length:Int)=0) && decide ((al.length:Int)=0))=false:=by
      rw [Bool.eq_false_iff,Ne,Bool.and_eq_true,decide_eq_true_eq,decide_eq_true_eq];omega
     have vj:lm keys z=tm keys z:=by unfold lm;rw [XT,List.length_map,if_neg h0]
     rw [hd,cd,if_neg Bool.false_ne_true,kG]
     exact dU _ _ _ ⟨rfl,by simp only [aG,go_sem,sevalprocAttr,aI],T2,M2,L3,R3,al,la,lc,dV,h3,by rw [vj,XT],by omega,by simp only [go_sem,sevalprocAttr,e10],rfl,fun k hk=>MV jM (fun e he=>by have:=Lh e he;omega) (by omega) fun M' he cC=>hk M' he (by rw [<- oM];exact cC)⟩
   ·clear aI ht e10 jM Lh XU Mt oM XN dV aN hi ZQ Y3 hgg aeS yI hm2 eD mu TH hF
    rintro e' ds h ⟨rfl,aI,N4,M4,L4,R4,gl,ga',gc',fj,dh,Jt,hgn,e10,rfl,OR⟩
    simp only [aG] at aI
    obtain ⟨S,hS⟩:∃ S,S=lF keys aggs z:=⟨_,rfl⟩
    rw [<- hS]
    unfold lF at hS
    rw [<- Jt,List.map_map] at hS
    have KU:∀ e∈gl,Am keys z e.1:=fun e he=>sX _ (by rw [<- Jt];exact List.mem_map.2 ⟨e,he,rfl⟩)
    simp +contextual only [go_sem,aE,sevalprocAttr,e10]
    refine br gl.length 92 [(0,.slice ka keys.length kc),(1,.slice aa aggs.length ac),(90,.slice ga' gl.length gc'),(91,.int .i64 (gl.length:Int))]
     (fun i e h=>∃ N' M' R' fv acc,aH T N'/\bh M M'/\RS M' (WM M') 2 gl (.slice ga' gl.length gc')/\h=⟨N',M',[],R'⟩/\e 14=fv/\kV 159 2 (RZ M') [] R' fv acc/\acc.length<=i/\S=acc++(gl.drop i).map (FL aggs ∘ Prod.fst)) 0 (by omega) (by simp only [aG,go_sem,sevalprocAttr,aI]) (by simp only [go_sem,sevalprocAttr]) (OR _ fun M5 dF cC=>az ⟨N4,M5,[],_,[],fj,dh.trans dF,cC,rfl,by simp only [go_sem,sevalprocAttr],dg,by simp,hS⟩) ?_
    clear aI e10 OR fj
    rintro i e h hi aI ht ⟨T5,M5,R5,fv,acc,nw,dF,XN,rfl,e14,bC,iz,ax⟩
    simp only [aG] at aI
    obtain ⟨ZQ,g5,c5,Qc,Y3,_,hgg⟩:=aF (by decide) (fun _ _=>BT) XN
    cases Qc
    by_cases aN:i<gl.length
    ·obtain ⟨b',o',cs',rfl,cG,rfl,vz⟩:=hgg i gl[i] (gq aN)
     obtain ⟨y0,y1,_⟩:=cG
     have YQ:=KU _ (gm aN)
     obtain ⟨kva,kvc,zm⟩:=cT vz.1
     obtain ⟨_,rva,rvc,rj,_⟩:=aF (by decide) (fun _ _=>cm) vz.2
     rw [zm] at y0
     rw [rj] at y1
     rw [dq aN,List.map_cons] at ax
     simp +contextual only [go_sem,aE,sevalprocAttr,aI,ht,aN,y0,y1]
     intro b16 T16 CP S1 Ye
     have hT:=nw.trans S1
     have ahX:RS M5 RV 3 gl[i].1.key (.slice kva gl[i].1.key.length kvc):=by rw [<- zm];exact vz.1
     have aiJ:RS M5 (RZ M5) 2 gl[i].1.rows (.slice rva gl[i].1.rows.length rvc):=by rw [<- rj];exact vz.2
     refine eK (AG ahX (by have:=YQ.1;omega) _) ?_ (fun _ _ _ _ h=>h.elim)
     rintro v5 M6 row eg bN hv5
     obtain ⟨wa,wc,rfl⟩:=w9 hv5
     have oJ:=YQ.1
     simp +contextual only [go_sem,aE,sevalprocAttr,aI]
     refine br aggs.length 101 [(0,.slice ka keys.length kc),(1,.slice aa aggs.length ac),(90,.slice (some ⟨b',o',none⟩) gl.length gc'),(91,.int .i64 (gl.length:Int)),(92,.int .i64 (i:Int)),(14,fv),(16,.pointer (some ⟨b16,0,none⟩)),(100,.int .i64 (aggs.length:Int))]
      (fun j e h=>∃ M' R' w,bh M6 M'/\aJ M' [(b16,[.slice kva gl[i].1.key.length kvc,.slice rva gl[i].1.rows.length rvc])]/\EQ 29 3 (fun _=>RV) R5 aggs.length j M' R' w (gl[i].1.key++(aggs.take j).map fun a=>Ck a gl[i].1.rows)/\h=⟨T16,M',[(b16,[.slice kva gl[i].1.key.length kvc,.slice rva gl[i].1.rows.length rvc])],R'⟩/\e 17=w) 0 (by omega) (by simp only [aG,go_sem,sevalprocAttr,aI,ht,e14]) (by simp only [go_sem,sevalprocAttr]) ?_ ?_
     ·refine yS hv5 fun R6 FY=>l8 (n:=aggs.length) (r:=fun _=>RV) (Nat.zero_le _) FY (by omega) (by decide) bN (fun _ _ _ _ _ h=>h) fun M7 R7 kT iO hf7=>az ⟨M7,R7,.slice wa gl[i].1.key.length wc,kT,iO,?_,rfl,by simp only [go_sem,sevalprocAttr]⟩
      simpa using hf7
     clear e14 aI ht hv5 bN
     rintro j e h hj aI ht ⟨M7,R7,w,kT,iO,hf7,rfl,e17⟩
     simp only [aG] at aI
     simp only [aJ,and_true] at iO
     by_cases qJ:j<aggs.length
     ·have ad8:=Ba hf7 qJ
      obtain ⟨ba,oa,acs,rfl,agR,hra⟩:=hga j aggs[j] (gq qJ)
      have h7:=(dF.trans eg).trans kT
      have hm:=gm qJ
      simp +contextual only [go_sem,aE,sevalprocAttr,aI,ht,qJ]
      refine aU ?_
      simp +contextual only [go_sem,sevalprocAttr,aI,qJ,e17,aA iO]
      refine aP (WY (agR.ext h7) (lg h7 _ _ hra) (bX (eg.trans kT) aiJ) (aka _ hm) (fun r hr=>(TI r (YQ.2 r hr)).2) _) ?_
      simp +contextual only [go_sem,sevalprocAttr,V.cs]
      refine ⟨em bh.rfl' ⟨iO,trivial⟩,?_⟩
      intro b3 gj cL
      refine ⟨dX bh.rfl' ⟨iO,trivial⟩ ⟨cL,trivial⟩,?_⟩
      refine E6 (Tryz.underlying157) mI mB (x:=Ck aggs[j] gl[i].1.rows) ad8 rfl (fun _ _=>fO) (tC (v:=Ck aggs[j] gl[i].1.rows) rfl) gj (by rw [List.length_append,List.length_map,List.length_take];omega) (by decide) ?_
      intro fv' R' bI
      rw [List.append_assoc,<- List.map_singleton (f:=fun a=>Ck a gl[i].1.rows),<- List.map_append,List.take_append_getElem qJ] at bI
      simp +contextual only [go_sem,sevalprocAttr,ht]
      refine ⟨dX bh.rfl' ⟨iO,trivial⟩ ⟨cL,trivial⟩,aR (ak (l8 (n:=aggs.length) (i:=j+1) (r:=fun _=>RV) (by omega) bI (by rw [List.length_append,List.length_map,List.length_take];omega) (by decide) ⟨iO,trivial⟩ (fun _ _ _ _ _ h=>h) fun M8 R8 qm nu hf8=>az ⟨aggs.length - (j+1),by omega,rfl,j+1,by omega,rfl,?_,?_,M8,R8,fv',kT.trans qm,nu,hf8,rfl,?_⟩))⟩
      ·simp only [aG,aI,go_sem,sevalprocAttr]
      ·simp only [go_sem,sevalprocAttr,aB j (by omega)]
      ·simp only [go_sem,sevalprocAttr]
     ·have:j=aggs.length:=by omega
      subst this
      obtain ⟨rfl,OS⟩:=A0 hf7
      obtain ⟨ua,uc,rfl⟩:=cT OS
      simp +contextual only [go_sem,aE,sevalprocAttr,aI,ht,qJ,e17]
      intro b3 gj cL
      have bP:gl[i].1.key++(aggs.take aggs.length).map (fun a=>Ck a gl[i].1.rows)=(FL aggs gl[i].1).row:=by rw [List.take_length];rfl
      rw [bP] at OS
      rw [bP]
      have hz:RZ M7 (FL aggs gl[i].1) [.slice ua (FL aggs gl[i].1).row.length uc,.int .i64 1]:=⟨_,OS,rfl⟩
      refine cy (Tryz.underlying80) mm ml (x:=FL aggs gl[i].1) (gJ (fz (eg.trans kT)) bC) hz (fun _ _=>cm) (i8 hz) gj (by omega) (by decide) ?_
      intro fv' R' bI
      simp +contextual only [go_sem,sevalprocAttr,aI]
      refine aR (ak (ak (az ⟨gl.length - (i+1),by omega,rfl,i+1,by omega,rfl,?_,?_,T16,M7,R',fv',acc++[FL aggs gl[i].1],hT,(dF.trans eg).trans kT,aL (eg.trans kT) (Cw (eg.trans kT)) XN,rfl,?_,bI,?_,?_⟩)))
      ·simp only [aG,aI,go_sem,sevalprocAttr]
      ·simp only [go_sem,sevalprocAttr,aB i (by omega)]
      ·simp only [go_sem,sevalprocAttr]
      ·rw [List.length_append];simp only [ln];omega
      ·rw [ax,List.append_assoc];rfl
    ·have:i=gl.length:=by omega
     subst this
     rw [List.drop_length,List.map_nil,List.append_nil] at ax
     simp +contextual only [go_sem,aE,sevalprocAttr,aI,ht,aN,e14]
     rw [ax]
     exact ct bC (by omega) (by decide) trivial fun M2 bg aZ cC=>am nw (aL bh.rfl' (fz bg) cC)
theorem Ax {keys:List Ex}:∀ {z:List Z},(mj keys z).length<=z.length
 | []=>Nat.le_refl _
 | r::z=>by
  have:=Ax (keys:=keys) (z:=z)
  rw [mj,List.length_append]
  split<;>simp only [ln]<;>omega
theorem Ay:∀ {l acc:List G},(l.foldl qQ acc).length<=acc.length+l.length
 | [],acc=>by simp
 | x::l,acc=>by
  rw [List.foldl_cons]
  refine Nat.le_trans Ay ?_
  simp only [List.length_cons]
  rcases List.eq_nil_or_concat acc with rfl | ⟨ini,la,rfl⟩
  ·rw [Be];simp only [ln];omega
  ·rw [List.concat_eq_append,oq]
   split<;>simp only [List.length_append,ln]<;>omega
theorem C4 {keys:List Ex}{aggs:List Ag}{z:List Z}:(lF keys aggs z).length<=z.length+1:=by
 unfold lF lm
 rw [List.length_map]
 split
 ·simp
 ·unfold tm
  have h1:=Ay (l:=iG Wc (mj keys z)) (acc:=[])
  have h2:=(jh Wc (mj keys z)).1
  have h3:=Ax (keys:=keys) (z:=z)
  simp only [List.length_nil] at h1
  omega
theorem B1 {keys:List Ex}{aggs:List Ag}{z:List Z}:∀ r∈lF keys aggs z,r.row.length<=keys.length+aggs.length:=by
 intro r hr
 obtain ⟨g,hg,rfl⟩:=List.mem_map.1 hr
 have:=(sX g hg).1
 simp only [FL,List.length_append,List.length_map]
 omega
theorem Ul {cols:List Int}{a:Ag}{e:Int}(h:oK cols a=.error e):e≠0:=by
 unfold oK at h
 split at h
 ·injection h with h;omega
 split at h
 ·cases h
 split at h
 ·rename_i e' ht
  injection h with h
  rw [<- h];exact zd ht
 ·split at h
  ·injection h with h;omega
  ·cases h
theorem Ek {cols:List Int}:∀ {l:List Ag} {e:Int},fx cols l=.error e ->e≠0
 | [],e,h=>by cases h
 | a::l,e,h=>by
  cases ht:oK cols a with
  | error e'=>rw [uk ht] at h;injection h with h;rw [<- h];exact Ul ht
  | ok t=>
   rw [yy ht] at h
   cases hl:fx cols l with
   | error e'=>rw [hl] at h;injection h with h;rw [<- h];exact Ek hl
   | ok ts'=>rw [hl] at h;cases h
theorem yL {cols:List Int}:∀ {l:List Ag} {ts:List Int},fx cols l=.ok ts ->∀ a∈l,a.k≠1 ->mA a.x
 | [],_,_,a,ha,_=>by cases ha
 | b::l,ts,h,a,ha,hk=>by
  cases ht:oK cols b with
  | error e'=>rw [uk ht] at h;cases h
  | ok t=>
   rw [yy ht] at h
   cases hl:fx cols l with
   | error e'=>rw [hl] at h;cases h
   | ok ts'=>
    rcases rP ha with rfl | ha
    ·cases kN:jr cols a.x with
     | ok u=>exact yO kN
     | error e=>
      unfold oK at ht
      split at ht
      ·cases ht
      ·rw [kN] at ht;cases ht
    ·exact yL hl a ha hk
def BW (cols:List Int)(keys:List Ex)(aggs:List Ag)(z:List Z):Except Int (List Z):=
 if 8<keys.length+aggs.length then .error 5 else if oU (dZ cols keys)=0 then if oU (fx cols aggs)=0 then if eS cols z=0 then vM (lF keys aggs z) else .error (eS cols z) else .error (oU (fx cols aggs)) else .error (oU (dZ cols keys))
variable {M:aS}
theorem RW {cols:List Int}{cv kv av zv:Value}{keys:List Ex}{aggs:List Ag}{z:List Z}(hc:RS M RI 1 cols cv)(hk:RS M (gU M) 6 keys kv)(ha:RS M (F5 M) 7 aggs av)(hz:RS M (RZ M) 2 z zv)(T:Tm):
 cw Tryz.prog 168 [cv,kv,av,zv] T M [] [] (fun v M' _ _=>oS (BW cols keys aggs z) v M') aO:=by
 have kd:=hk
 have NO:=ha
 obtain ⟨_,ka,kc,rfl,_⟩:=aF (by decide) (fun _ _=>dW) hk
 obtain ⟨_,aa,ac,rfl,_⟩:=aF (by decide) (fun _ _=>oB) ha
 obtain ⟨S,hS⟩:∃ S,S=BW cols keys aggs z:=⟨_,rfl⟩
 rw [<- hS]
 unfold BW at hS
 refine aC ahy rfl rfl ?_
 intro bi _
 by_cases h8:8<keys.length+aggs.length
 ·have hw:IntKind.i64.wrap ((keys.length:Int)+(aggs.length:Int))=(keys.length:Int)+(aggs.length:Int):=bJ (by omega) (by omega)
  have oV:(8:Int)<(keys.length:Int)+(aggs.length:Int):=by omega
  rw [if_pos h8] at hS
  simp +contextual only [go_sem,aE,sevalprocAttr,hw,oV]
  refine am aH.rfl' ?_
  rw [hS];exact ⟨by decide,rfl⟩
 have hw:IntKind.i64.wrap ((keys.length:Int)+(aggs.length:Int))=(keys.length:Int)+(aggs.length:Int):=bJ (by omega) (by omega)
 have oV:¬ (8:Int)<(keys.length:Int)+(aggs.length:Int):=by omega
 rw [if_neg h8] at hS
 simp +contextual only [go_sem,aE,sevalprocAttr,hw,oV]
 refine aD (nl hc kd _) ?_
 rintro v0 M0 zp V6 wA
 obtain ⟨s0,rfl⟩:=sV wA
 by_cases ht:oU (dZ cols keys)=0
 rotate_left
 ·rw [if_neg ht] at hS
  simp +contextual only [go_sem,aE,sevalprocAttr,ht]
  refine am aH.rfl' ?_
  rw [hS];exact ⟨ht,rfl⟩
 rw [if_pos ht] at hS
 obtain ⟨ts,CW⟩:=wq (fun _=>us) ht
 simp +contextual only [go_sem,aE,sevalprocAttr,ht]
 refine aD (vm (mb zp hc) (aL zp (lg zp) NO) (by omega) _) ?_
 rintro v1 M1 aV bG kL
 obtain ⟨s1,rfl⟩:=sV kL
 by_cases J0:oU (fx cols aggs)=0
 rotate_left
 ·rw [if_neg J0] at hS
  simp +contextual only [go_sem,aE,sevalprocAttr,J0]
  refine am aH.rfl' ?_
  rw [hS];exact ⟨J0,rfl⟩
 rw [if_pos J0] at hS
 obtain ⟨ts1,ahW⟩:=wq (fun _=>Ek) J0
 have yY:=zp.trans aV
 simp +contextual only [go_sem,aE,sevalprocAttr,J0]
 refine aP (lA (mb yY hc) (bX yY hz) _) ?_
 by_cases hi:eS cols z=0
 rotate_left
 ·rw [if_neg hi] at hS
  simp +contextual only [go_sem,aE,sevalprocAttr,hi]
  refine am aH.rfl' ?_
  rw [hS];exact ⟨hi,rfl⟩
 rw [if_pos hi] at hS
 obtain ⟨Zz,Uc⟩:=eE (iD hi).2
 simp +contextual only [go_sem,aE,sevalprocAttr,hi]
 refine aD (IH (qj yY kd) (aL yY (lg yY) NO) (bX yY hz) (pw CW) (yL ahW) (fun r hr=>⟨Uc r hr,kb hi r hr⟩) Zz (by omega) _) ?_
 rintro v2 M2 bg _ oN
 simp +contextual only [go_sem,sevalprocAttr]
 have Jt:=C4 (keys:=keys) (aggs:=aggs) (z:=z)
 refine aD (lR oN (by omega) (fun r hr=>by have:=B1 r hr;omega) _) ?_
 rintro r M4 dh _ hr
 rw [<- hS] at hr
 obtain ⟨s,e,rfl⟩:=dE hr
 simp +contextual only [go_sem,sevalprocAttr]
 exact am aH.rfl' hr
def cfT (keys:List Ex)(x y:Z):Int:=ip (fp keys x.row) (fp keys y.row)
def vd:Int ->List Z ->List Z
 | _,[]=>[]
 | left,r::l=>if 0<left then ⟨r.row,if left<r.w then left else r.w⟩::vd (IntKind.i64.wrap (left - (if left<r.w then left else r.w))) l else vd left l
def ZO (keys:List Ex)(k:Int)(z:List Z):List Z:=vd k (iG (cfT keys) (iS vw z))
def V1 (cols:List Int)(keys:List Ex)(k:Int)(z:List Z):Except Int (List Z):=
 if oU (dZ cols keys)=0 then if k<0\/50<k then .error 3 else if eS cols z=0 then vM (ZO keys k z) else .error (eS cols z) else .error (oU (dZ cols keys))
theorem Kh {M:aS}:∀ {l:List Z} {xs:List Value},RL (RZ M) l xs ->∃ zs:List (Z×Value),zs.map Prod.fst=l/\xs=fl k9 zs/\∀ e∈zs,RS M RV 3 e.1.row e.2
 | [],xs,h=>⟨[],rfl,h,by simp⟩
 | z::l,xs,h=>by
  obtain ⟨cs,rest,rfl,⟨v,hv,rfl⟩,hr⟩:=h
  obtain ⟨zs,h1,rfl,h3⟩:=Kh hr
  refine ⟨(z,v)::zs,by rw [List.map_cons,h1],rfl,?_⟩
  intro e he
  rcases rP he with rfl | he
  ·exact hv
  ·exact h3 e he
theorem XS {M:aS}:∀ {zs:List (Z×Value)},(∀ e∈zs,RS M RV 3 e.1.row e.2) ->RL (RZ M) (zs.map Prod.fst) (fl k9 zs)
 | [],_=>rfl
 | e::l,h=>⟨[e.2,.int .i64 e.1.w],fl k9 l,rfl,⟨e.2,h e (by simp),rfl⟩,XS fun x hx=>h x (p5 hx)⟩
variable {M:aS}
theorem Nt {keys:List Ex}{kv:Value}{b5:Nat}{x y:Z}{xv yv:Value}(mp:M b5=some [kv])(hk:RS M (gU M) 6 keys kv)(hx:RS M RV 3 x.row xv)(hy:RS M RV 3 y.row yv)(cq:∀ x∈keys,mA x)(fy:jU x.row)(hry:jU y.row)(T:Tm):cw Tryz.prog 219 [.agg ⟨[xv,.int .i64 x.w]⟩,.agg ⟨[yv,.int .i64 y.w]⟩,.pointer (some ⟨b5,0,none⟩)] T M [] [] (fun r _ _ _=>r=.int .i64 (cfT keys x y)) aO:=by
 obtain ⟨_,ka,kc,rfl,_⟩:=aF (by decide) (fun _ _=>dW) hk
 obtain ⟨xa,xc,rfl⟩:=cT hx
 obtain ⟨ya,yc,rfl⟩:=cT hy
 refine aC adX rfl rfl ?_
 intro bi _
 simp +contextual only [go_sem,sevalprocAttr]
 intro b3 T3 gj fB hZ b4 T4 dI dY fj gH
 refine aU ?_
 simp +contextual only [go_sem,sevalprocAttr,aX mp,aA gj,aA dI,dY]
 refine aD (mP hk hx cq fy _) ?_
 rintro v1 M1 aV bG kL
 obtain ⟨va,vc,rfl⟩:=cT kL
 have alH:=aV _ _ mp
 simp +contextual only [go_sem,sevalprocAttr]
 refine ⟨em aV bG,?_⟩
 refine aD (mP (qj aV hk) (gQ aV hy) cq hry _) ?_
 rintro v2 M2 bg aZ oN
 obtain ⟨ua,uc,rfl⟩:=cT oN
 simp +contextual only [go_sem,sevalprocAttr]
 refine ⟨em (aV.trans bg) aZ,?_⟩
 refine aP (mS (gQ bg kL) oN _) ?_
 simp +contextual only [go_sem,sevalprocAttr]
 refine ⟨em (aV.trans bg) aZ,ak (ak (am (fB.trans fj) rfl))⟩
theorem ahU {keys:List Ex}{kv:Value}{b5:Nat}(mp:M b5=some [kv])(hk:RS M (gU M) 6 keys kv)(cq:∀ x∈keys,mA x):CmpOk M k9 219 [.pointer (some ⟨b5,0,none⟩)] (fun x y=>cfT keys x.1 y.1) (fun e=>RS M RV 3 e.1.row e.2/\jU e.1.row) where
 bod:=adX.bd
 one:=fun x hx=>⟨(cR hx.1).1,rfl⟩
 call:=fun x y hx hy T=>Nt mp hk hx.1 hy.1 cq hx.2 hy.2 T
theorem E5 {F:Fi}{s:List Vc.Item}{e:dj}{ds:List Deferred}{dd:Option Nat}{N:Tm}{gf:FuncId}{caps:List Value}{l:List Z}{v:Value}{a:Option Addr}{c:Nat}{xs:List Value}{ok:Z×Value ->Prop}{cf:Z ->Z ->Int}(hb:de Tryz.prog 200=true)
 (hc:CmpOk M k9 gf caps (fun x y=>cf x.1 y.1) ok) (cq:∀ x:Z×Value,x.1∈l ->RS M RV 3 x.1.row x.2 ->ok x) (hv:v=.slice a l.length c) (eJ:RL (RZ M) l xs) (hn:l.length<=400) (p4:∀ g n k,v=.slice (some ⟨g,0,none⟩) n k ->N g=none)
 (k:∀ L' R',(∀ kk:Sh ->Prop,(∀ M'',bh M M'' ->RS M'' (RZ M'') 2 (iG cf l) v ->bK ⟨N,M'',[],[]⟩ kk) ->bK ⟨N,M,L',R'⟩ kk) ->cj Tryz.prog F s (cB e dd (.tuple #[])) ds ⟨N,M,L',R'⟩ ⟨⟩):
 dk Tryz.prog F 200 [v,.func (.func gf) #[] ⟨caps⟩] dd s e ds ⟨N,M,[],[(v,159,2,xs)]⟩ ⟨⟩:=by
 have jP:=dO (fun _ _=>cm) eJ
 rcases l with _ | ⟨z0,l⟩
 ·subst hv
  refine aP (Fn .z _) (k [] _ fun kk hk=>bT (fun M' he _ gi=>hk M' he ?_) (by decide))
  have tF:iG cf ([]:List Z)=[]:=List.eq_nil_of_length_eq_zero (by rw [(jh cf ([]:List Z)).1];rfl)
  rw [tF]
  exact ⟨by simp,xs,gi,eJ⟩
 ·obtain ⟨zs,Dk,rfl,hze⟩:=Kh eJ
  have uz:zs.length=(z0::l).length:=by rw [<- Dk,List.length_map]
  refine cQ (k:=fun h'=>∃ g cap junk,v=.slice (some ⟨g,0,none⟩) zs.length cap/\M g=none/\zs.length<=cap/\(fl k9 zs++junk).length=cap*2/\h'=⟨N,M,[(g,fl k9 zs++junk)],[]⟩) (GQ (by decide) (by rw [cZ,uz];simp) p4 fun g n cap junk hv' hg um hn dJ cO=>az ⟨g,cap,junk,?_,hg,?_,cO,rfl⟩) ?_ hb
  ·rw [cZ] at hn
   have:n=zs.length:=by omega
   rw [<- this];exact hv'
  ·rw [cZ] at hn;omega
  rintro h' ⟨g,cap,junk,rfl,hg,dJ,cO,rfl⟩
  obtain ⟨zt,TV⟩:∃ zt,zt=iG (fun x y:Z×Value=>cf x.1 y.1) zs:=⟨_,rfl⟩
  have hF:=jh (fun x y:Z×Value=>cf x.1 y.1) zs
  rw [<- TV] at hF
  have hm:zt.map Prod.fst=iG cf (z0::l):=by rw [TV,<- Dk];exact (uv (f:=Prod.fst) rfl (fun _ _=>rfl) zs).symm
  have aj1:=hF.2 _ hze
  have Dl:=xD .z hc (db:=g) (cap:=cap) (junk:=junk) rfl dJ (fun x hx=>cq x (by rw [<- Dk];exact List.mem_map.2 ⟨x,hx,rfl⟩) (hze x hx)) (by omega) N
  rw [<- TV] at Dl
  refine hO Dl (k _ _ fun kk hk=>aT fun he h1 h2=>hk _ he ?_)
  rw [<- hm]
  have hRL:=XS fun e hm=>gQ he (aj1 e hm)
  refine ⟨by rw [List.length_map,hF.1];omega,fl k9 zt,.inr ⟨g,0,zs.length,cap,rfl,dJ,by rw [cZ,hF.1],?_⟩,hRL⟩
  exact kJ h1 _ 0 (fun i v hv=>by
   rw [Nat.zero_add,List.getElem?_append_left (by exact (List.getElem?_eq_some_iff.1 hv).1)];exact hv)
theorem EE {fw:Int ->Int}:∀ {z:List Z},(∀ x∈z,jU x.row) ->∀ x∈iS fw z,jU x.row
 | [],_,x,hx=>by cases hx
 | y::l,h,x,hx=>by
  rw [iS] at hx
  rcases qM hx with hx | hx
  ·split at hx
   ·cases hx
   ·simp only [mn] at hx
    subst hx
    intro v hv
    obtain ⟨v0,wA,rfl⟩:=List.mem_map.1 hv
    have hb:fY (fY v0)=fY v0:=by unfold fY;by_cases h1:v0.k=1<;>by_cases h4:v0.k=4<;>simp [h1,h4]
    rw [hb];exact h y (by simp) v0 wA
  ·exact EE (fun x hx=>h x (p5 hx)) x hx
theorem ub {n:Nat}:∀ {l:List Z} {k:Int},(∀ r∈l,r.row.length<=n) ->∀ r∈vd k l,r.row.length<=n
 | [],k,_,r,hr=>by cases hr
 | x::l,k,h,r,hr=>by
  have hl:∀ r∈l,r.row.length<=n:=fun r hr=>h r (p5 hr)
  rw [vd] at hr
  split at hr
  ·rcases rP hr with rfl | hr
   ·exact h x (by simp)
   ·exact ub hl r hr
  ·exact ub hl r hr
theorem ZR {cols:List Int}{cv kv zv:Value}{keys:List Ex}{k:Int}{z:List Z}(hc:RS M RI 1 cols cv)(hk:RS M (gU M) 6 keys kv)(hz:RS M (RZ M) 2 z zv)(T:Tm):
 cw Tryz.prog 169 [cv,kv,.int .i64 k,zv] T M [] [] (fun v M' _ _=>oS (V1 cols keys k z) v M') aO:=by
 have kd:=hk
 obtain ⟨_,ka,kc,rfl,_⟩:=aF (by decide) (fun _ _=>dW) hk
 obtain ⟨S,hS⟩:∃ S,S=V1 cols keys k z:=⟨_,rfl⟩
 rw [<- hS]
 unfold V1 at hS
 refine aC aiC rfl rfl ?_
 intro bi _
 simp +contextual only [go_sem,sevalprocAttr]
 intro b5 T5 mp nw o9
 refine aD (nl hc kd _) ?_
 rintro v0 M0 zp V6 wA
 obtain ⟨s0,rfl⟩:=sV wA
 by_cases ht:oU (dZ cols keys)=0
 rotate_left
 ·rw [if_neg ht] at hS
  simp +contextual only [go_sem,aE,sevalprocAttr,ht]
  refine ak (am nw ?_)
  rw [hS];exact ⟨ht,rfl⟩
 rw [if_pos ht] at hS
 obtain ⟨ts,CW⟩:=wq (fun _=>us) ht
 have VD:=pw CW
 by_cases ZJ:k<0\/50<k
 ·rw [if_pos ZJ] at hS
  simp +contextual only [go_sem,aE,sevalprocAttr,ht,ZJ]
  refine ak (am nw ?_)
  rw [hS];exact ⟨by decide,rfl⟩
 rw [if_neg ZJ] at hS
 simp +contextual only [go_sem,aE,sevalprocAttr,ht,ZJ]
 refine aP (lA (mb zp hc) (bX zp hz) _) ?_
 by_cases hi:eS cols z=0
 rotate_left
 ·rw [if_neg hi] at hS
  simp +contextual only [go_sem,aE,sevalprocAttr,hi]
  refine ak (am nw ?_)
  rw [hS];exact ⟨hi,rfl⟩
 rw [if_pos hi] at hS
 obtain ⟨Zz,Uc⟩:=eE (iD hi).2
 have hee:l7 vw z=.ok (iS vw z):=by unfold l7;rw [if_pos (iD hi).2]
 simp +contextual only [go_sem,aE,sevalprocAttr,hi]
 refine Ik (vo (bX zp hz) _) ?_ (fun _ _ _ _ h=>h.elim)
 rintro v M1 row aV bG p4 hv
 rw [hee] at hv
 obtain ⟨pa,pc,xs,rfl,eJ,bP⟩:=hv
 simp only [List.cons.injEq,and_true] at bP
 subst bP
 simp +contextual only [go_sem,sevalprocAttr]
 refine df [] V5.bd fun M2 bg agT _=> ?_
 have eh:=(zp.trans aV).trans bg
 have RT:=p8 vw z
 refine E5 V5.bd (ahU agT (qj eh kd) VD) (fun x hx hr=>⟨hr,EE (kb hi) _ hx⟩) rfl (cH (fz bg) eJ) (by omega) p4 fun L' R' cO=> ?_
 obtain ⟨Q,hQ⟩:∃ Q,Q=ZO keys k z:=⟨_,rfl⟩
 have hQ2:=hQ
 unfold ZO at hQ
 have hF:=jh (cfT keys) (iS vw z)
 obtain ⟨l,hl⟩:∃ l,l=iG (cfT keys) (iS vw z):=⟨_,rfl⟩
 rw [<- hl] at hQ cO hF
 have hll:l.length=(iS vw z).length:=hF.1
 rw [<- hll] at cO
 rw [<- hll]
 simp +contextual only [go_sem,aE,sevalprocAttr]
 refine br l.length 51 [(49,.slice pa l.length pc),(50,.int .i64 (l.length:Int))] (fun i e h=>∃ N' M' R' fv acc left,aH T N'/\bh M M'/\RS M' (RZ M') 2 l (.slice pa l.length pc)/\h=⟨N',M',[],R'⟩/\e 15=fv/\e 16=.int .i64 left/\kV 159 2 (RZ M') [] R' fv acc/\acc.length<=i/\Q=acc++vd left (l.drop i)) 0 (by omega) (by simp only [aG,go_sem,sevalprocAttr]) (by simp only [go_sem,sevalprocAttr]) (cO _ fun M3 bM cC=>az ⟨T5,M3,[],_,[],k,nw,eh.trans bM,cC,rfl,by simp only [go_sem,sevalprocAttr],by simp only [go_sem,sevalprocAttr],dg,by simp,hQ⟩) ?_
 rintro i e h hi aI ht ⟨T1,M3,R1,fv,acc,left,cV,bM,GK,rfl,e15,e16,bC,iz,ax⟩
 simp only [aG] at aI
 obtain ⟨ZQ,g5,c5,Qc,Y3,_,hgg⟩:=aF (by decide) (fun _ _=>cm) GK
 cases Qc
 by_cases aN:i<l.length
 ·obtain ⟨b',o',cs',rfl,cG,s,cC,rfl⟩:=hgg i l[i] (gq aN)
  obtain ⟨y0,y1,_⟩:=cG
  obtain ⟨sa,sc,rfl⟩:=cT cC
  rw [dq aN,vd] at ax
  simp +contextual only [go_sem,aE,sevalprocAttr,aI,ht,aN,y0,y1]
  intro b18 T18 Zm YO acU
  have hT:=cV.trans YO
  by_cases pC:0<left
  ·rw [if_pos pC] at ax
   obtain ⟨w,hw⟩:∃ w,w=if left<l[i].w then left else l[i].w:=⟨_,rfl⟩
   rw [<- hw] at ax
   simp +contextual only [go_sem,aE,sevalprocAttr,e16,e15,pC,aA Zm,<- hw]
   intro b3 gj cL
   have hz:RZ M3 ⟨l[i].row,w⟩ [.slice sa l[i].row.length sc,.int .i64 w]:=⟨_,cC,rfl⟩
   refine cy (Tryz.underlying80) mm ml (x:=⟨l[i].row,w⟩) bC hz (fun _ _=>cm) (i8 hz) gj (by omega) (by decide) ?_
   intro fv' R' bI
   simp +contextual only [go_sem,sevalprocAttr,ht]
   refine aR (ak (ak (az ⟨l.length - (i+1),by omega,rfl,i+1,by omega,rfl,?_,?_,T18,M3,R',fv',acc++[⟨l[i].row,w⟩],IntKind.i64.wrap (left - w),hT,bM,GK,rfl,?_,?_,bI,?_,?_⟩)))
   ·simp only [aG,aI,go_sem,sevalprocAttr]
   ·simp only [go_sem,sevalprocAttr,aB i (by omega)]
   ·simp only [go_sem,sevalprocAttr]
   ·simp only [go_sem,sevalprocAttr]
   ·rw [List.length_append];simp only [ln];omega
   ·rw [ax,List.append_assoc];rfl
  ·rw [if_neg pC] at ax
   simp +contextual only [go_sem,aE,sevalprocAttr,ht,e16,pC]
   refine aR (ak (az ⟨l.length - (i+1),by omega,rfl,i+1,by omega,rfl,?_,?_,T18,M3,R1,fv,acc,left,hT,bM,GK,rfl,?_,?_,bC,by omega,ax⟩))
   ·simp only [aG,aI,go_sem,sevalprocAttr]
   ·simp only [go_sem,sevalprocAttr,aB i (by omega)]
   ·simp only [go_sem,sevalprocAttr,e15]
   ·simp only [go_sem,sevalprocAttr,e16]
 ·have:i=l.length:=by omega
  subst this
  rw [List.drop_length,vd,List.append_nil] at ax
  simp +contextual only [go_sem,aE,sevalprocAttr,aI,ht,aN,e15]
  have rJ:∀ r∈l,r.row.length<=8:=hF.2 _ (uh Uc)
  rw [<- hQ2,ax] at hS
  refine nX Py.bd bC (by omega) (by decide) trivial fun M4 dh cE cC=> ?_
  refine aD (lR (aL bh.rfl' (fz dh) cC) (by omega) (fun r hr=>by rw [<- ax,hQ] at hr;have:=ub rJ r hr;omega) _) ?_
  rintro v M5 dF _ hv
  rw [<- hS] at hv
  obtain ⟨s,e,rfl⟩:=dE hv
  simp +contextual only [go_sem,sevalprocAttr]
  exact am cV hv
def RD (M:aS)(z:List Z)(cs:List Value):Prop:=∃ v,cs=[v]/\RS M (RZ M) 2 z v
theorem CM {M:aS}{z:List Z}{cs}(h:RD M z cs):cs.length=1:=by obtain ⟨_,rfl,_⟩:=h;rfl
theorem nZ {M M':aS}(he:bh M M')(z:List Z)(cs)(h:RD M z cs):RD M' z cs:=by
 obtain ⟨v,rfl,h⟩:=h;exact ⟨v,rfl,bX he h⟩
def Bn:List (List Int) ->List (List Z) ->Int
 | t::ts,z::zs=>j4 (eS t z) (Bn ts zs)
 | _,_=>0
def tA (bf:List (List Int))(data:List (List Z)):Int:=if data.length=bf.length then Bn bf data else 8
variable {M:aS}
theorem Vt {bf:List (List Int)}{data:List (List Z)}{tv dv:Value}(ht:RS M (xC M) 1 bf tv)(hd:RS M (RD M) 1 data dv)(T:Tm):
 cw Tryz.prog 56 [tv,dv] T M [] [] (fun r _ _ _=>r=.int .i64 (tA bf data)) aO:=by
 obtain ⟨fS,ta,tc,rfl,dJ,_,hg⟩:=aF (by decide) (fun _ _=>fI) ht
 obtain ⟨r6,da,dc,rfl,mz,_,tg⟩:=aF (by decide) (fun _ _=>CM) hd
 obtain ⟨S,hS⟩:∃ S,S=tA bf data:=⟨_,rfl⟩
 rw [<- hS]
 unfold tA at hS
 refine aC F56 rfl rfl ?_
 intro bi _
 by_cases hl:data.length=bf.length
 rotate_left
 ·have gG:¬ (data.length:Int)=(bf.length:Int):=by omega
  rw [if_neg hl] at hS
  simp +contextual only [go_sem,aE,sevalprocAttr,gG]
  exact am aH.rfl' (by rw [hS])
 have gG:(data.length:Int)=(bf.length:Int):=by omega
 rw [if_pos hl] at hS
 simp +contextual only [go_sem,aE,sevalprocAttr,gG]
 refine aY data.length 15 [(0,.slice ta bf.length tc),(13,.slice da data.length dc),(14,.int .i64 (bf.length:Int))] (fun i e h=>h=⟨T,M,[],[]⟩/\S=Bn (bf.drop i) (data.drop i)) 0 (by omega) (by simp only [aG,go_sem,sevalprocAttr]) (by simp only [go_sem,sevalprocAttr]) ⟨rfl,hS⟩ ?_
 rintro i e h hi aI Dd ⟨rfl,ax⟩
 simp only [aG] at aI
 by_cases aN:i<data.length
 ·have CV:i<bf.length:=by omega
  obtain ⟨b',o',cs',rfl,cG,tv,rfl,zl⟩:=hg i bf[i] (gq CV)
  obtain ⟨b2,o2,cs2,rfl,kf,zv,rfl,hzv⟩:=tg i data[i] (gq aN)
  have y0:=cG.1
  have x0:=kf.1
  rw [Nat.mul_one] at y0 x0
  rw [dq aN,dq CV,Bn] at ax
  simp +contextual only [go_sem,aE,sevalprocAttr,aI,Dd,aN,CV,y0,x0]
  refine aP (lA zl hzv _) ?_
  by_cases hw:eS bf[i] data[i]=0
  ·rw [hw,zA] at ax
   simp +contextual only [go_sem,aE,sevalprocAttr,Dd,hw]
   refine aR (az ⟨data.length - (i+1),by omega,rfl,i+1,by omega,rfl,?_,?_,rfl,ax⟩)
   ·simp only [aG,aI,go_sem,sevalprocAttr]
   ·simp only [go_sem,sevalprocAttr,aB i (by omega)]
  ·rw [mY hw] at ax
   simp +contextual only [go_sem,aE,sevalprocAttr,hw]
   exact am aH.rfl' (by rw [ax])
 ·have:i=data.length:=by omega
  subst this
  rw [List.drop_length] at ax
  have h0:S=0:=by rw [ax];cases bf.drop data.length<;>rfl
  have kD:¬ data.length<bf.length:=by omega
  simp +contextual only [go_sem,aE,sevalprocAttr,aI,Dd,kD]
  exact am aH.rfl' (by rw [h0])
def Es (p:Pl)(c:List (List Int))(z:List (List Z)):Except Int (List Z):=
 if p.k=2 then wz (c.getD 0 []) p.x (z.getD 0 []) else if p.k=3 then Ws (c.getD 0 []) p.xs (z.getD 0 [])
 else if p.k=4 then KG (c.getD 0 []) (c.getD 1 []) p.x (z.getD 0 []) (z.getD 1 []) else if p.k=5 then uV true (c.getD 0 []) (c.getD 1 []) p.x (z.getD 0 []) (z.getD 1 [])
 else if p.k=6 then uV false (c.getD 0 []) (c.getD 1 []) p.x (z.getD 0 []) (z.getD 1 []) else if p.k=7 then Kx (c.getD 0 []) (c.getD 1 []) p.x (z.getD 0 []) (z.getD 1 [])
 else if p.k=8 then addM (z.getD 0 []) (z.getD 1 []) else if p.k=9 then WP (z.getD 0 []) (z.getD 1 [])
 else if p.k=10 then l7 vw (z.getD 0 []) else if p.k=11 then l7 aaq (z.getD 0 [])
 else if p.k=12 then BW (c.getD 0 []) p.xs p.ags (z.getD 0 []) else V1 (c.getD 0 []) p.xs p.n (z.getD 0 [])
variable {M:aS}
theorem nT {c:List (List Int)}{ca:Option Addr}{cc i:Nat}(h:RS M (xC M) 1 c (.slice ca c.length cc))(hi:i<c.length):∃ b o v,ca=some ⟨b,o,none⟩/\aQ M ⟨b,o+i,none⟩=some v/\RS M RI 1 (c.getD i []) v:=by
 obtain ⟨_,a,c',he,_,_,hg⟩:=aF (by decide) (fun _ _=>fI) h
 cases he
 obtain ⟨b,o,cs,hb,cG,v,rfl,hv⟩:=hg i c[i] (gq hi)
 refine ⟨b,o,v,hb,?_,?_⟩
 ·have:=cG.1;rw [Nat.mul_one] at this;exact this
 ·rw [List.getD_eq_getElem?_getD,gq hi];exact hv
theorem pm {c:List (List Z)}{ca:Option Addr}{cc i:Nat}(h:RS M (RD M) 1 c (.slice ca c.length cc))(hi:i<c.length):∃ b o v,ca=some ⟨b,o,none⟩/\aQ M ⟨b,o+i,none⟩=some v/\RS M (RZ M) 2 (c.getD i []) v:=by
 obtain ⟨_,a,c',he,_,_,hg⟩:=aF (by decide) (fun _ _=>CM) h
 cases he
 obtain ⟨b,o,cs,hb,cG,v,rfl,hv⟩:=hg i c[i] (gq hi)
 refine ⟨b,o,v,hb,?_,?_⟩
 ·have:=cG.1;rw [Nat.mul_one] at this;exact this
 ·rw [List.getD_eq_getElem?_getD,gq hi];exact hv
theorem Aw {fw:Int ->Int}{z z':List Z}(h:l7 fw z=.ok z'):z'.length<=400:=by
 unfold l7 at h
 split at h
 ·rename_i hw
  cases h
  exact Nat.le_trans (p8 fw z) (eE hw).1
 ·cases h
theorem xN {N:Tm}{L:LL}{R0:RR}{k:Sh ->Prop}{res:Except Int (List Z)}{v:Value}{row:Value×TypeId×Nat×List Value}(hb:∀ z,res=.ok z ->z.length<=400)(h:Ls res v M [row])(hk:∀ M',oS res v M' ->bK ⟨N,M',L,R0⟩ k):bK ⟨N,M,L,row::R0⟩ k:=by
 cases res with
 | ok z=>
  obtain ⟨a,c,xs,rfl,eJ,bP⟩:=h
  simp only [List.cons.injEq,and_true] at bP
  subst bP
  have jP:=dO (fun _ _=>cm) eJ
  refine bT (fun M' he _ gi=>hk M' ⟨_,rfl,by have:=hb z rfl;omega,xs,gi,cH (fz he) eJ⟩) (by decide)
 | error e=>
  obtain ⟨cD,rfl,bP⟩:=h
  exact jt (hk M ⟨cD,rfl⟩)
theorem YA {p:Pl}{bp op:Nat}{pc:List Value}{c:List (List Int)}{z:List (List Z)}{cv zv:Value}(cG:At M bp op pc)(hp:jV M p pc)(hc:RS M (xC M) 1 c cv)(hz:RS M (RD M) 1 z zv)(h1:1<=c.length/\1<=z.length)(h2:4<=p.k/\p.k<=9 ->2<=c.length/\2<=z.length)
 (T:Tm):
 cw Tryz.prog 104 [.pointer (some ⟨bp,op,none⟩),cv,zv] T M [] [] (fun v M' _ _=>oS (Es p c z) v M') aO:=by
 obtain ⟨s1,a1,n1,a2,n2,a3,n3,rfl,ox,_,eJ,aed,_⟩:=fJ hp
 obtain ⟨y0,y1,y2,y3,y4,y5,y6,y7,y8,y9,y10,_⟩:=cG
 have hx:gU M p.x [.int .i64 p.x.k,.int .i64 p.x.v.k,.int .i64 p.x.v.n,st p.x.v.t,.int .i64 p.x.c,s1]:=by
  obtain ⟨xc,xv,av,s,he,h,_⟩:=lw.1 hp
  obtain ⟨s2,rfl,_⟩:=dt h
  cases he;exact h
 obtain ⟨_,ca,cc,rfl,_⟩:=aF (by decide) (fun _ _=>fI) hc
 obtain ⟨_,za,zc,rfl,_⟩:=aF (by decide) (fun _ _=>CM) hz
 obtain ⟨cb,co,v0,rfl,m0,Av⟩:=nT hc (i:=0) (by omega)
 obtain ⟨zb,zo,w0,rfl,k0,Dj⟩:=pm hz (i:=0) (by omega)
 have g0:(0:Int)<(c.length:Int):=by omega
 have g0':(0:Int)<(z.length:Int):=by omega
 rw [Nat.add_zero] at m0 k0
 obtain ⟨S,hS⟩:∃ S,S=Es p c z:=⟨_,rfl⟩
 rw [<- hS]
 unfold Es at hS
 refine aC Zi rfl rfl ?_
 intro bi _
 by_cases iJ:p.k=2
 ·rw [if_pos iJ] at hS
  simp +contextual only [go_sem,aE,sevalprocAttr,y0,iJ]
  refine aU ?_
  simp +contextual only [go_sem,sevalprocAttr,y2,y3,y4,y5,y6,y7,m0,k0,g0,g0']
  refine aD (Nh Av hx Dj _) ?_
  rintro v M1 aV bG hv
  rw [<- hS] at hv
  obtain ⟨s,e,rfl⟩:=dE hv
  simp +contextual only [go_sem,sevalprocAttr]
  exact am aH.rfl' hv
 rw [if_neg iJ] at hS
 by_cases Oi:p.k=3
 ·rw [if_pos Oi] at hS
  simp +contextual only [go_sem,aE,sevalprocAttr,y0,Oi]
  refine aU ?_
  simp +contextual only [go_sem,sevalprocAttr,y8,m0,k0,g0,g0']
  refine aD (aaN Av eJ Dj _) ?_
  rintro v M1 aV bG hv
  rw [<- hS] at hv
  obtain ⟨s,e,rfl⟩:=dE hv
  simp +contextual only [go_sem,sevalprocAttr]
  exact am aH.rfl' hv
 rw [if_neg Oi] at hS
 by_cases X9:p.k=4
 ·rw [if_pos X9] at hS
  obtain ⟨l1,l2⟩:=h2 (by omega)
  have g1:(1:Int)<(c.length:Int):=by omega
  have g1':(1:Int)<(z.length:Int):=by omega
  obtain ⟨_,_,v1,vt,m1,I3⟩:=nT hc (i:=1) (by omega)
  cases vt
  obtain ⟨_,_,w1,vt,k1,MA⟩:=pm hz (i:=1) (by omega)
  cases vt
  simp +contextual only [go_sem,aE,sevalprocAttr,y0,X9]
  refine aU ?_
  simp +contextual only [go_sem,sevalprocAttr,y2,y3,y4,y5,y6,y7,m0,k0,g0,g0',g1,g1',m1,k1]
  refine aD (UJ Av I3 hx Dj MA _) ?_
  rintro v M1 aV bG hv
  rw [<- hS] at hv
  obtain ⟨s,e,rfl⟩:=dE hv
  simp +contextual only [go_sem,sevalprocAttr]
  exact am aH.rfl' hv
 rw [if_neg X9] at hS
 by_cases hk5:p.k=5
 ·rw [if_pos hk5] at hS
  obtain ⟨l1,l2⟩:=h2 (by omega)
  have g1:(1:Int)<(c.length:Int):=by omega
  have g1':(1:Int)<(z.length:Int):=by omega
  obtain ⟨_,_,v1,vt,m1,I3⟩:=nT hc (i:=1) (by omega)
  cases vt
  obtain ⟨_,_,w1,vt,k1,MA⟩:=pm hz (i:=1) (by omega)
  cases vt
  simp +contextual only [go_sem,aE,sevalprocAttr,y0,hk5]
  refine aU ?_
  simp +contextual only [go_sem,sevalprocAttr,y2,y3,y4,y5,y6,y7,m0,k0,g0,g0',g1,g1',m1,k1]
  refine aD (Uv Av I3 hx Dj MA _) ?_
  rintro v M1 aV bG hv
  rw [<- hS] at hv
  obtain ⟨s,e,rfl⟩:=dE hv
  simp +contextual only [go_sem,sevalprocAttr]
  exact am aH.rfl' hv
 rw [if_neg hk5] at hS
 by_cases XA:p.k=6
 ·rw [if_pos XA] at hS
  obtain ⟨l1,l2⟩:=h2 (by omega)
  have g1:(1:Int)<(c.length:Int):=by omega
  have g1':(1:Int)<(z.length:Int):=by omega
  obtain ⟨_,_,v1,vt,m1,I3⟩:=nT hc (i:=1) (by omega)
  cases vt
  obtain ⟨_,_,w1,vt,k1,MA⟩:=pm hz (i:=1) (by omega)
  cases vt
  simp +contextual only [go_sem,aE,sevalprocAttr,y0,XA]
  refine aU ?_
  simp +contextual only [go_sem,sevalprocAttr,y2,y3,y4,y5,y6,y7,m0,k0,g0,g0',g1,g1',m1,k1]
  refine aD (Wk Av I3 hx Dj MA _) ?_
  rintro v M1 aV bG hv
  rw [<- hS] at hv
  obtain ⟨s,e,rfl⟩:=dE hv
  simp +contextual only [go_sem,sevalprocAttr]
  exact am aH.rfl' hv
 rw [if_neg XA] at hS
 by_cases hk7:p.k=7
 ·rw [if_pos hk7] at hS
  obtain ⟨l1,l2⟩:=h2 (by omega)
  have g1:(1:Int)<(c.length:Int):=by omega
  have g1':(1:Int)<(z.length:Int):=by omega
  obtain ⟨_,_,v1,vt,m1,I3⟩:=nT hc (i:=1) (by omega)
  cases vt
  obtain ⟨_,_,w1,vt,k1,MA⟩:=pm hz (i:=1) (by omega)
  cases vt
  simp +contextual only [go_sem,aE,sevalprocAttr,y0,hk7]
  refine aU ?_
  simp +contextual only [go_sem,sevalprocAttr,y2,y3,y4,y5,y6,y7,m0,k0,g0,g0',g1,g1',m1,k1]
  refine aD (UD Av I3 hx Dj MA _) ?_
  rintro v M1 aV bG hv
  rw [<- hS] at hv
  obtain ⟨s,e,rfl⟩:=dE hv
  simp +contextual only [go_sem,sevalprocAttr]
  exact am aH.rfl' hv
 rw [if_neg hk7] at hS
 by_cases hk8:p.k=8
 ·rw [if_pos hk8] at hS
  obtain ⟨l1,l2⟩:=h2 (by omega)
  have g1:(1:Int)<(c.length:Int):=by omega
  have g1':(1:Int)<(z.length:Int):=by omega
  obtain ⟨_,_,v1,vt,m1,I3⟩:=nT hc (i:=1) (by omega)
  cases vt
  obtain ⟨_,_,w1,vt,k1,MA⟩:=pm hz (i:=1) (by omega)
  cases vt
  simp +contextual only [go_sem,aE,sevalprocAttr,y0,hk8]
  refine aU ?_
  simp +contextual only [go_sem,sevalprocAttr,k0,g0',g1',k1]
  refine aD (ZB Dj MA _) ?_
  rintro v M1 aV bG hv
  rw [<- hS] at hv
  obtain ⟨s,e,rfl⟩:=dE hv
  simp +contextual only [go_sem,sevalprocAttr]
  exact am aH.rfl' hv
 rw [if_neg hk8] at hS
 by_cases hk9:p.k=9
 ·rw [if_pos hk9] at hS
  obtain ⟨l1,l2⟩:=h2 (by omega)
  have g1:(1:Int)<(c.length:Int):=by omega
  have g1':(1:Int)<(z.length:Int):=by omega
  obtain ⟨_,_,v1,vt,m1,I3⟩:=nT hc (i:=1) (by omega)
  cases vt
  obtain ⟨_,_,w1,vt,k1,MA⟩:=pm hz (i:=1) (by omega)
  cases vt
  simp +contextual only [go_sem,aE,sevalprocAttr,y0,hk9]
  refine aU ?_
  simp +contextual only [go_sem,sevalprocAttr,k0,g0',g1',k1]
  refine aD (ZP Dj MA _) ?_
  rintro v M1 aV bG hv
  rw [<- hS] at hv
  obtain ⟨s,e,rfl⟩:=dE hv
  simp +contextual only [go_sem,sevalprocAttr]
  exact am aH.rfl' hv
 rw [if_neg hk9] at hS
 by_cases Vo:p.k=10
 ·rw [if_pos Vo] at hS
  simp +contextual only [go_sem,aE,sevalprocAttr,y0,k0,g0',Vo]
  refine eK (vo Dj _) ?_ (fun _ _ _ _ h=>h.elim)
  rintro v M1 row aV bG hv
  rw [<- hS] at hv
  obtain ⟨s,e,rfl,_⟩:=o4 hv
  simp +contextual only [go_sem,sevalprocAttr]
  exact xN (fun z' Iu=>Aw (hS.symm.trans Iu)) hv fun M2 hr=>am aH.rfl' hr
 rw [if_neg Vo] at hS
 by_cases VE:p.k=11
 ·rw [if_pos VE] at hS
  simp +contextual only [go_sem,aE,sevalprocAttr,y0,k0,g0',VE]
  refine eK (F4 Dj _) ?_ (fun _ _ _ _ h=>h.elim)
  rintro v M1 row aV bG hv
  rw [<- hS] at hv
  obtain ⟨s,e,rfl,_⟩:=o4 hv
  simp +contextual only [go_sem,sevalprocAttr]
  exact xN (fun z' Iu=>Aw (hS.symm.trans Iu)) hv fun M2 hr=>am aH.rfl' hr
 rw [if_neg VE] at hS
 by_cases VT:p.k=12
 ·rw [if_pos VT] at hS
  simp +contextual only [go_sem,aE,sevalprocAttr,y0,VT]
  refine aU ?_
  simp +contextual only [go_sem,sevalprocAttr,y8,y9,m0,k0,g0,g0']
  refine aD (RW Av eJ aed Dj _) ?_
  rintro v M1 aV bG hv
  rw [<- hS] at hv
  obtain ⟨s,e,rfl⟩:=dE hv
  simp +contextual only [go_sem,sevalprocAttr]
  exact am aH.rfl' hv
 rw [if_neg VT] at hS
 simp +contextual only [go_sem,aE,sevalprocAttr,y0,iJ,Oi,X9,hk5,XA,hk7,hk8,hk9,Vo,VE,VT]
 refine aU ?_
 simp +contextual only [go_sem,sevalprocAttr,y1,y8,m0,k0,g0,g0']
 refine aD (ZR Av eJ Dj _) ?_
 rintro v M1 aV bG hv
 rw [<- hS] at hv
 obtain ⟨s,e,rfl⟩:=dE hv
 simp +contextual only [go_sem,sevalprocAttr]
 exact am aH.rfl' hv
set_option maxHeartbeats 1000000
def pS (bf:List (List Int))(p:Pl):List Int:=match gh bf p with
 | .ok c=>c
 | .error _=>[]
mutual
def vp (bf:List (List Int))(data:List (List Z)):Pl ->Except Int (List Z)
 | .mk k n x xs ags kids=>if k=1 then vM (data.getD n.toNat []) else match jC bf data kids with
  | .error e=> .error e
  | .ok zs=>Es (.mk k n x xs ags []) (kids.map (pS bf)) zs
def jC (bf:List (List Int))(data:List (List Z)):List Pl ->Except Int (List (List Z))
 | []=> .ok []
 | p::l=>match vp bf data p with
  | .error e=> .error e
  | .ok z=>match jC bf data l with
   | .error e=> .error e
   | .ok zs=> .ok (z::zs)
end
def JE (bf:List (List Int))(p:Pl)(data:List (List Z)):Except Int (List Z):=match gh bf p with
 | .error e=> .error e
 | .ok _=>if tA bf data=0 then vp bf data p else .error (tA bf data)
mutual
theorem u6 (bf:List (List Int)):∀ (p:Pl) (d d' m m':Nat) (c:List Int) (q:Nat),d'<=d ->m'<=m ->ek bf d m p=(.ok c,q) ->∃ q',q'+m<=q+m'/\ek bf d' m' p=(.ok c,q')
 | .mk k n x xs ags kids,d,d',m,m',c,q,hd,hm,h=>by
  rw [ek] at h ⊢
  split at h
  ·cases h
  split at h
  ·cases h
  split at h
  ·cases h
  rename_i h1 h2 h3
  rw [if_neg (by omega),if_neg h2,if_neg h3]
  split at h
  ·cases h
  ·rename_i cs m1 hl
   obtain ⟨q',hq,gG⟩:=w8 bf kids _ (d'+1) _ (m'+1) _ _ (by omega) (by omega) hl
   rw [gG]
   simp only [Prod.mk.injEq] at h
   obtain ⟨h,rfl⟩:=h
   exact ⟨q',by omega,by dsimp only;rw [h]⟩
theorem w8 (bf:List (List Int)):∀ (l:List Pl) (d d' m m':Nat) (c:List (List Int)) (q:Nat),d'<=d ->m'<=m ->fM bf d m l=(.ok c,q) ->∃ q',q'+m<=q+m'/\fM bf d' m' l=(.ok c,q')
 | [],d,d',m,m',c,q,hd,hm,h=>by
  rw [fM] at h ⊢
  cases h
  exact ⟨m',by omega,rfl⟩
 | p::l,d,d',m,m',c,q,hd,hm,h=>by
  rw [fM] at h ⊢
  split at h
  ·cases h
  ·rename_i c1 m1 hp
   obtain ⟨q1,hq1,Fw⟩:=u6 bf p _ d' _ m' _ _ hd hm hp
   rw [Fw]
   dsimp only
   split at h
   ·cases h
   ·rename_i cs m2 hl
    obtain ⟨q2,hq2,gG⟩:=w8 bf l _ d' _ q1 _ _ hd (by omega) hl
    rw [gG]
    cases h
    exact ⟨q2,by omega,rfl⟩
end
theorem Dy:∀ {bf:List (List Int)} {data:List (List Z)},data.length=bf.length ->Bn bf data=0 ->∀ z∈data,cW z=0
 | [],[],_,_,z,hz=>by cases hz
 | [],_::_,h,_,z,hz=>by simp at h
 | _::_,[],h,_,z,hz=>by cases hz
 | t::ts,y::zs,h,h0,z,hz=>by
  rw [Bn] at h0
  obtain ⟨h1,h2⟩:=lO h0
  rcases rP hz with rfl | hz
  ·exact (iD h1).2
  ·exact Dy (by simpa using h) h2 z hz
theorem O0 {bf:List (List Int)}{data:List (List Z)}(h:tA bf data=0):data.length=bf.length/\∀ z∈data,cW z=0:=by
 unfold tA at h
 split at h
 ·rename_i hl;exact ⟨hl,Dy hl h⟩
 ·cases h
def uW {α:Type}(el:TypeId)(sz:Nat)(r:α ->List Value ->Prop)(M:aS)(N:Tm)(l:List α)(lv:Value)(L:LL):Prop:=
 (l=[]/\lv=.slice none 0 0/\L=[])\/
 ∃ g cap cs junk,lv=.slice (some ⟨g,0,none⟩) l.length cap/\L=[(g,cs++junk)]/\N g=some el/\RL r l cs/\cs.length=l.length*sz/\(cs++junk).length=cap*sz/\l.length<=cap/\M g=none
section
variable {α:Type} {el:TypeId} {sz:Nat} {r:α ->List Value ->Prop} {M:aS} {N:Tm} {l:List α} {lv:Value} {L:LL}
theorem Ae {M':aS}{r':α ->List Value ->Prop}(hr:∀ x cs,r x cs ->r' x cs)(hn:aJ M' L)(h:uW el sz r M N l lv L):uW el sz r' M' N l lv L:=by
 rcases h with h | ⟨g,cap,cs,junk,h1,rfl,h3,h4,h5,h6,h7,_⟩
 ·exact .inl h
 ·exact .inr ⟨g,cap,cs,junk,h1,rfl,h3,cH hr h4,h5,h6,h7,hn.1⟩
theorem Fq (h:uW el sz r M N l lv L):∃ a c,lv=.slice a l.length c:=by
 rcases h with ⟨rfl,rfl,rfl⟩ | ⟨g,cap,cs,junk,rfl,_⟩<;>exact ⟨_,_,rfl⟩
theorem Mz {P:Program}{F:Fi}{s:List Vc.Item}{e:dj}{ds:List Deferred}{dd:Option Nat}{R:RR}{t:TypeId}{z:List Value}{b:Nat}{x:α}{cs:List Value}{L1:LL}(hu:P.underlying t=some (.slice el))(bP:eC P t=some (el,sz,z))(cq:kX P t=true)
 (h:uW el sz r M N l lv L) (hx:r x cs) (bw:cs.length=sz) (dL:∀ u∈cs,u.oneCell'=true) (hb:M b=none) (hl:l.length*sz+sz<=4398046511104) (dG:0<sz)
 (k:∀ N' lv' g cs',aH N N' ->ce g ((b,cs)::L1) ->uW el sz r M N' (l++[x]) lv' [(g,cs')] ->cj P F s (cB e dd lv') ds ⟨N',M,(g,cs')::(b,cs)::L1,R⟩ ⟨⟩):pA P F t t lv (.slice (some ⟨b,0,none⟩) 1 1) dd s e ds ⟨N,M,(b,cs)::L1++L,R⟩ ⟨⟩:=by
 have hs:∀ L2:LL,Srcs P t sz ⟨N,M,(b,cs)::L2,R⟩ (.slice (some ⟨b,0,none⟩) 1 1) cs:=fun L2=> .slice _ 1 _ _ _ hu (bL [] hb trivial (by rw [bw,Nat.one_mul])) dL
 have fin:∀ (xs:List Value),RL r l xs ->xs.length=l.length*sz ->Pq lv el sz xs ⟨N,M,(b,cs)::L1++L,R⟩ ((b,cs)::L1) ->pA P F t t lv (.slice (some ⟨b,0,none⟩) 1 1) dd s e ds ⟨N,M,(b,cs)::L1++L,R⟩ ⟨⟩:=by
  intro xs eJ jP I2
  refine th bP cq I2 (hs _) (hs _) (by omega) (by omega) ?_
  intro N' g m c junk Lb Wr UN um hm Ks dJ
  have CK:m=(l++[x]).length:=by
   rw [List.length_append];simp only [ln]
   rw [jP,bw] at hm
   exact Nat.eq_of_mul_eq_mul_right dG (by rw [Nat.add_mul];omega)
  subst CK
  exact k N' _ g _ Lb um (.inr ⟨g,c,xs++cs,junk,rfl,rfl,Wr,cM eJ ⟨cs,[],by simp,hx,rfl⟩,by rw [List.length_append,List.length_append,jP,bw,Nat.add_mul];simp,dJ,Ks,UN⟩)
 rcases h with ⟨rfl,rfl,rfl⟩ | ⟨g,cap,xs,junk,rfl,rfl,hN,eJ,jP,hc,dJ,_⟩
 ·exact fin [] rfl (by simp) (.inl ⟨rfl,rfl,by simp⟩)
 ·exact fin xs eJ jP (.inr ⟨g,_,cap,junk,(b,cs)::L1,[],rfl,hN,by simp,by simp,jP,hc,dJ⟩)
theorem FF {R:RR}{L2:LL}{k:Sh ->Prop}(h:uW el sz r M N l lv L)(hb:l.length*sz<=4398046511104)(hn:aJ M L2)
 (hk:∀ M',bh M M' ->aJ M' L2 ->RS M' r sz l lv ->bK ⟨N,M',L2,R⟩ k):bK ⟨N,M,L++L2,R⟩ k:=by
 rcases h with ⟨rfl,rfl,rfl⟩ | ⟨g,cap,cs,junk,rfl,rfl,hN,eJ,jP,hc,dJ,_⟩
 ·exact hk M bh.rfl' hn bu
 ·refine aT fun he h1 h2=>hk _ he h2 ⟨hb,cs,.inr ⟨g,0,l.length,cap,rfl,dJ,jP,?_⟩,eJ⟩
  exact kJ h1 _ 0 (fun i v hv=>by
   rw [Nat.zero_add,List.getElem?_append_left (by exact (List.getElem?_eq_some_iff.1 hv).1)];exact hv)
end
theorem BQ (bf:List (List Int)):∀ {l:List Pl} {d m:Nat} {cs:List (List Int)} {q:Nat},fM bf d m l=(.ok cs,q) ->cs.length=l.length/\∀ p∈l,∃ m' c q',ek bf d m' p=(.ok c,q')
 | [],d,m,cs,q,h=>by rw [fM] at h;cases h;exact ⟨rfl,fun p hp=>by cases hp⟩
 | x::l,d,m,cs,q,h=>by
  rw [fM] at h
  split at h
  ·cases h
  ·rename_i c1 m1 hp
   split at h
   ·cases h
   ·rename_i cs2 m2 hl
    simp only [Prod.mk.injEq] at h
    obtain ⟨h,_⟩:=h
    injection h with h
    obtain ⟨h1,h2⟩:=BQ bf hl
    refine ⟨by rw [<- h];simp [h1],fun p Fw=> ?_⟩
    rcases rP Fw with rfl | Fw
    ·exact ⟨_,_,_,hp⟩
    ·exact h2 p Fw
theorem Pp {bf:List (List Int)}{p:Pl}{d m:Nat}{c:List Int}{q:Nat}(h8:bf.length<=8)(htw:vG bf=0)(h:ek bf (d+1) m p=(.ok c,q)):gh bf p=.ok (pS bf p):=by
 obtain ⟨q',_,h'⟩:=u6 bf p (d+1) 1 m 0 c q (by omega) (by omega) h
 have:gh bf p=.ok c:=by unfold gh;rw [if_neg (by omega),if_neg (by simp [htw]),h']
 unfold pS;rw [this]
def Jg (zs:List (List Z))(r:Except Int (List (List Z))):Except Int (List (List Z)):=match r with
 | .ok l=> .ok (zs++l)
 | .error e=> .error e
theorem Dv {bf data}{p:Pl}{l:List Pl}{zs:List (List Z)}{z:List Z}(h:vp bf data p=.ok z):Jg zs (jC bf data (p::l))=Jg (zs++[z]) (jC bf data l):=by
 rw [jC,h]
 dsimp only
 cases jC bf data l with
 | ok l'=>simp [Jg]
 | error e=>rfl
theorem IE {bf data}{p:Pl}{l:List Pl}{zs:List (List Z)}{e:Int}(h:vp bf data p=.error e):Jg zs (jC bf data (p::l))=.error e:=by
 rw [jC,h];rfl
def PlB (bf:List (List Int))(data:List (List Z))(p:Pl):Prop:=∀ (M:aS) (T:Tm) (bp op:Nat) (pc:List Value) (tv dv:Value),At M bp op pc ->jV M p pc ->RS M (xC M) 1 bf tv ->RS M (RD M) 1 data dv ->(∃ d m c q,ek bf d m p=(.ok c,q)) ->
 cw Tryz.prog 57 [tv,.pointer (some ⟨bp,op,none⟩),dv] T M [] [] (fun v M' _ _=>oS (vp bf data p) v M') aO
theorem LQ {bf:List (List Int)}{data:List (List Z)}(h8:bf.length<=8)(htw:vG bf=0)(hdw:tA bf data=0):∀ (sz:Nat) (p:Pl),SizeOf.sizeOf p<=sz ->PlB bf data p:=by
 obtain ⟨hdl,hdz⟩:=O0 hdw
 intro sz
 induction sz with
 | zero=>intro p hp;cases p;simp at hp
 | succ sz ih=>
  rintro ⟨k,n,x,xs,ags,kids⟩ ej M T bp op pc tv dv cG hp zl hdv ⟨d,m,c,q,eI⟩
  rw [ek] at eI
  split at eI
  ·cases eI
  split at eI
  ·cases eI
  split at eI
  ·cases eI
  rename_i kd kY iJ
  split at eI
  ·cases eI
  rename_i cs m1 cO
  simp only [Prod.mk.injEq] at eI
  obtain ⟨qV,_⟩:=eI
  have Mb:=hp
  obtain ⟨s1,a1,n1,a2,n2,a3,n3,rfl,ox,_,eJ,aed,sI⟩:=fJ hp
  have PI:=cG
  obtain ⟨y0,y1,y2,y3,y4,y5,y6,y7,y8,y9,y10,_⟩:=cG
  simp only [Pl.k,Pl.n,Pl.kids] at y0 y1 y10 sI
  obtain ⟨_,da,dc,rfl,_⟩:=aF (by decide) (fun _ _=>CM) hdv
  obtain ⟨S,hS⟩:∃ S,S=vp bf data (.mk k n x xs ags kids):=⟨_,rfl⟩
  rw [<- hS]
  rw [vp] at hS
  refine aC F57 rfl rfl ?_
  intro bi _
  by_cases hk:k=1
  ·rw [if_pos hk] at hS
   unfold jK at qV
   simp only [if_pos hk] at qV
   split at qV
   rotate_left
   ·cases qV
   rename_i hn
   obtain ⟨db,do',v0,rfl,m0,Dj⟩:=pm hdv (i:=n.toNat) (by omega)
   have NJ:n<(data.length:Int):=by omega
   have yK:data.getD n.toNat []∈data:=by
    rw [List.getD_eq_getElem?_getD,gq (by omega)];exact gm (by omega)
   obtain ⟨Zz,Uc⟩:=eE (hdz _ yK)
   simp +contextual only [go_sem,aE,sevalprocAttr,y0,y1,hk,hn.1,NJ,m0]
   refine aD (lR Dj (by omega) (fun r hr=>by have:=Uc r hr;omega) _) ?_
   rintro v M1 aV bG hv
   rw [<- hS] at hv
   obtain ⟨s,e,rfl⟩:=dE hv
   simp +contextual only [go_sem,sevalprocAttr]
   exact am aH.rfl' hv
  ·rw [if_neg hk] at hS
   simp +contextual only [go_sem,aE,sevalprocAttr,y0,y10,hk]
   obtain ⟨ang,ajm⟩:=BQ bf cO
   obtain ⟨_,ka,kc,hke,alS,_,hkg⟩:=aF (by decide) (fun _ _=>lh) sI
   cases hke
   have TD:jC bf data kids=Jg [] (jC bf data (kids.drop 0)):=by rw [List.drop_zero];cases jC bf data kids<;>rfl
   have oJ:kids.length<=2:=by
    have hh:=iJ
    simp only [ne_eq,Decidable.not_not] at hh
    unfold gd at hh
    repeat' split at hh
    all_goals omega
   refine br kids.length 35 [(0,tv),(1,.pointer (some ⟨bp,op,none⟩)),(2,.slice da data.length dc),(34,.int .i64 (kids.length:Int))] (fun i e h=>∃ N' M' L' R' cv zv zs,aH T N'/\bh M M'/\h=⟨N',M',L',R'⟩/\e 8=cv/\e 9=zv/\kV 24 1 (xC M') [] R' cv ((kids.take i).map (pS bf))/\uW 80 1 (RD M') M' N' zs zv L'/\zs.length=i/\jC bf data kids=Jg zs (jC bf data (kids.drop i))) 0 (by omega) (by simp only [aG,go_sem,sevalprocAttr]) (by simp only [go_sem,sevalprocAttr]) (az ⟨T,M,[],[],_,_,[],aH.rfl',bh.rfl',rfl,by simp only [go_sem,sevalprocAttr],by simp only [go_sem,sevalprocAttr],dg,.inl ⟨rfl,rfl,rfl⟩,rfl,TD⟩) ?_
   rintro i e h hi aI Dd ⟨T1,M1,L1,R1,cv,zv,zs,cV,aV,rfl,e8,e9,bC,l6,uz,hev⟩
   simp only [aG] at aI
   rw [hev] at hS
   by_cases aN:i<kids.length
   ·obtain ⟨b',o',kcs,rfl,tY,UQ⟩:=hkg i kids[i] (gq aN)
    have yK:=gm aN
    obtain ⟨mk,ck,qk,Zy⟩:=ajm _ yK
    have hcK:=Pp h8 htw Zy
    have De:SizeOf.sizeOf kids[i]<=sz:=by
     have:=List.sizeOf_lt_of_mem yK
     simp at ej;omega
    have y10':=ay aV y10
    rw [dq aN] at hS hev
    simp +contextual only [go_sem,aE,sevalprocAttr,aI,Dd,aN,y10']
    refine aD (ih kids[i] De M1 _ b' _ kcs tv _ (tY.ext aV) (bY aV _ _ UQ) (aL aV (fV aV) zl) (aL aV (nZ aV) hdv) ⟨_,_,_,_,Zy⟩) ?_
    rintro v M2 bg aZ hv
    have eh:=aV.trans bg
    have y10'':=ay eh y10
    cases hz:vp bf data kids[i] with
    | error er=>
     rw [hz] at hv
     obtain ⟨cD,rfl⟩:=hv
     rw [IE hz] at hS
     simp +contextual only [go_sem,aE,sevalprocAttr,cD]
     refine cz (cX (am cV ?_))
     rw [hS];exact ⟨cD,rfl⟩
    | ok z=>
     rw [hz] at hv
     obtain ⟨zs',rfl,ael⟩:=hv
     rw [Dv hz] at hS hev
     obtain ⟨t1,p1,m1',p2,m2',p3,m3',rfl,ox2,_⟩:=fJ UQ
     obtain ⟨x0,x1,x2,x3,x4,x5,x6,x7,x8,x9,x10,_⟩:=tY.ext eh
     simp +contextual only [go_sem,aE,sevalprocAttr,aI,aN,y10'',x0,x1,x2,x3,x4,x5,x6,x7,x8,x9,x10]
     refine aD (vT (aL eh (fV eh) zl) (bY eh _ _ UQ) _) ?_
     rintro v3 M3 bM bj IN
     rw [hcK] at IN
     obtain ⟨sv,rfl,wj⟩:=IN
     have lW:=eh.trans bM
     have h23:=bg.trans bM
     obtain ⟨_,sva,svc,rfl,_⟩:=aF (by decide) (fun _ _=>bV) wj
     obtain ⟨_,za,zc,rfl,_⟩:=aF (by decide) (fun _ _=>cm) ael
     simp +contextual only [go_sem,sevalprocAttr,e8]
     intro b67 aim akI
     refine cy (Tryz.underlying58) F3 FP (x:=pS bf kids[i]) (gJ (fV h23) bC) ⟨_,rfl,wj⟩ (fun _ _=>fI) (by simp [Value.oneCell']) aim (by rw [List.length_map,List.length_take];omega) (by decide) ?_
     intro cv' R' bI
     simp +contextual only [go_sem,sevalprocAttr,e9]
     intro b71 air akr
     have IC:uW 80 1 (RD M3) M3 T1 zs zv L1:=Ae (nZ h23) bj l6
     have ajd:=bX bM ael
     refine Mz (L1:=[(b67,[.slice sva (pS bf kids[i]).length svc])]) (Tryz.underlying72) Yo Xo (x:=z) IC ⟨_,rfl,ajd⟩ rfl (by simp [Value.oneCell']) air (by omega) (by decide) ?_
     intro N4 lv' g cs' Di um H3
     simp +contextual only [go_sem,sevalprocAttr,Dd]
     have qT:(kids.take i).map (pS bf)++[pS bf kids[i]]=(kids.take (i+1)).map (pS bf):=by
      rw [<- List.take_append_getElem aN,List.map_append];rfl
     rw [qT] at bI
     refine aR (dm (List.perm_append_comm (l₁:=[_])) (ak (ak (az ⟨kids.length - (i+1),by omega,rfl,i+1,by omega,rfl,?_,?_,N4,M3,_,R',cv',lv',zs++[z],cV.trans Di,lW,rfl,?_,?_,bI,H3,?_,?_⟩))))
     ·simp only [aG,aI,go_sem,sevalprocAttr]
     ·simp only [go_sem,sevalprocAttr,aB i (by omega)]
     ·simp only [go_sem,sevalprocAttr]
     ·simp only [go_sem,sevalprocAttr]
     ·rw [List.length_append];simp [uz]
     ·exact hev
   ·have:i=kids.length:=by omega
    subst this
    rw [List.drop_length,jC] at hS
    rw [List.take_length] at bC
    simp only [Jg,List.append_nil] at hS
    obtain ⟨_,_,rfl⟩:=il bC
    obtain ⟨_,_,rfl⟩:=Fq l6
    simp +contextual only [go_sem,aE,sevalprocAttr,aI,Dd,aN,e8,e9]
    have bG:aJ M1 L1:=by
     rcases l6 with ⟨_,_,rfl⟩ | ⟨g,cap,cs0,junk,_,rfl,_,_,_,_,_,hg⟩
     ·trivial
     ·exact ⟨hg,trivial⟩
    refine nX Zi.bd bC (by rw [List.length_map];omega) (by decide) bG fun M2 bg aZ cC=> ?_
    have yI:=Ae (nZ bg) aZ l6
    refine cQ (k:=fun h'=>∃ M3,bh M2 M3/\RS M3 (RD M3) 1 zs (.slice _ zs.length _)/\h'=⟨T1,M3,[],[]⟩) (by
     rw [<- List.append_nil L1]
     exact FF (L2:=[]) yI (by omega) trivial fun M3 bM _ hrz=>az ⟨M3,bM,aL bh.rfl' (nZ bM) hrz,rfl⟩) ?_ Zi.bd
    rintro h' ⟨M3,bM,hrz,rfl⟩
    have h23:=bg.trans bM
    have lW:=aV.trans h23
    have hkk:1<=kids.length/\(4<=k/\k<=9 ->2<=kids.length):=by
     have hh:=iJ
     simp only [ne_eq,Decidable.not_not] at hh
     unfold gd at hh kY
     repeat' split at hh
     all_goals (repeat' split at kY)<;>(constructor<;>omega)
    have XL:(kids.map (pS bf)).length=kids.length:=List.length_map ..
    refine aD (YA (p:=.mk k n x xs ags kids) (PI.ext lW) (bY lW _ _ Mb) (aL bM (fV bM) (aL bh.rfl' (fV bg) cC)) hrz (by omega) (fun h=>by have:=hkk.2 h;omega) _) ?_
    rintro v M4 dh cE hv
    have hSS:S=Es (.mk k n x xs ags kids) (kids.map (pS bf)) zs:=hS
    rw [<- hSS] at hv
    obtain ⟨s,e,rfl⟩:=dE hv
    simp +contextual only [go_sem,sevalprocAttr]
    exact am cV hv
variable {M:aS}
theorem SX {res:Except Int (List Int)}{v:Value}{M:aS}(h:E8 res v M):∃ s,v=.tuple ⟨[s,.int .i64 (oU res)]⟩:=by
 cases res with
 | ok l=>obtain ⟨s,h,_⟩:=h;exact ⟨s,h⟩
 | error e=>obtain ⟨_,s,h⟩:=h;exact ⟨s,h⟩
theorem JP {bf:List (List Int)}{data:List (List Z)}{p:Pl}{pc:List Value}{tv dv:Value}(zl:RS M (xC M) 1 bf tv)(hp:jV M p pc)(hdv:RS M (RD M) 1 data dv)(cD:∀ e,gh bf p=.error e ->e≠0)(T:Tm):
 cw Tryz.prog 23 [tv,.agg ⟨pc⟩,dv] T M [] [] (fun v M' _ _=>oS (JE bf p data) v M') aO:=by
 have Mb:=hp
 obtain ⟨s1,a1,n1,a2,n2,a3,n3,rfl,ox,_⟩:=fJ hp
 obtain ⟨S,hS⟩:∃ S,S=JE bf p data:=⟨_,rfl⟩
 rw [<- hS]
 unfold JE at hS
 unfold XZ at Mb
 refine aC F23 rfl rfl ?_
 intro bi _
 unfold XZ
 simp +contextual only [go_sem,sevalprocAttr]
 intro b4 T4 dI fj gH
 refine aD (vT zl Mb _) ?_
 rintro v0 M0 zp V6 wA
 obtain ⟨s0,rfl⟩:=SX wA
 cases hc:gh bf p with
 | error er=>
  rw [hc] at hS
  have he:oU (gh bf p)=er:=by rw [hc];rfl
  have her:=cD _ hc
  simp +contextual only [go_sem,aE,sevalprocAttr,oU,her]
  refine ak (am fj ?_)
  rw [hS];exact ⟨her,rfl⟩
 | ok c=>
  rw [hc] at hS
  simp +contextual only [go_sem,aE,sevalprocAttr,oU]
  refine aP (Vt (aL zp (fV zp) zl) (aL zp (nZ zp) hdv) _) ?_
  by_cases hd:tA bf data=0
  rotate_left
  ·simp only [if_neg hd] at hS
   simp +contextual only [go_sem,aE,sevalprocAttr,hd]
   refine ak (am fj ?_)
   rw [hS];exact ⟨hd,rfl⟩
  simp only [if_pos hd] at hS
  have h8:bf.length<=8:=by
   have:=hc;unfold gh at this
   split at this
   ·cases this
   ·omega
  have htw:vG bf=0:=by
   have:=hc;unfold gh at this
   split at this
   ·cases this
   split at this
   ·cases this
   ·rename_i h;simpa using h
  have hcp:∃ d m c q,ek bf d m p=(.ok c,q):=by
   have:=hc;unfold gh at this
   rw [if_neg (by omega),if_neg (by simp [htw])] at this
   exact ⟨1,0,c,(ek bf 1 0 p).2,Prod.ext this rfl⟩
  simp +contextual only [go_sem,aE,sevalprocAttr,hd]
  refine df [] F57.bd fun M1 aV aib _=> ?_
  have yY:=zp.trans aV
  refine aD (LQ h8 htw hd _ p (Nat.le_refl _) M1 _ b4 0 _ _ _ (kJ aib _ 0 (fun i v h=>by rw [Nat.zero_add];exact h)) (bY yY _ _ Mb) (aL yY (fV yY) zl) (aL yY (nZ yY) hdv) hcp) ?_
  rintro v M2 bg _ hv
  rw [<- hS] at hv
  obtain ⟨s,e,rfl⟩:=dE hv
  simp +contextual only [go_sem,sevalprocAttr]
  exact am fj hv
variable {M:aS}
theorem Fl {l:List Z}{av bv:Value}(ha:RS M (RZ M) 2 l av)(hb:RS M (RZ M) 2 l bv)(T:Tm):cw Tryz.prog 24 [av,bv] T M [] [] (fun r _ _ _=>r=.bool true) aO:=by
 obtain ⟨fS,aa,ac,rfl,dJ,_,hg⟩:=aF (by decide) (fun _ _=>cm) ha
 obtain ⟨_,ba,bc,rfl,mz,_,tg⟩:=aF (by decide) (fun _ _=>cm) hb
 refine aC F24 rfl rfl ?_
 intro bi _
 simp +contextual only [go_sem,aE,sevalprocAttr]
 refine aY l.length 14 [(0,.slice aa l.length ac),(1,.slice ba l.length bc),(13,.int .i64 (l.length:Int))] (fun i e h=>h=⟨T,M,[],[]⟩) 0 (by omega) (by simp only [aG,go_sem,sevalprocAttr]) (by simp only [go_sem,sevalprocAttr]) rfl ?_
 rintro i e h hi aI ht rfl
 simp only [aG] at aI
 by_cases aN:i<l.length
 ·obtain ⟨b',o',cs',rfl,cG,v1,Za,rfl⟩:=hg i l[i] (gq aN)
  obtain ⟨b2,o2,cs2,rfl,kf,v2,hr2,rfl⟩:=tg i l[i] (gq aN)
  obtain ⟨y0,y1,_⟩:=cG
  obtain ⟨x0,x1,_⟩:=kf
  obtain ⟨_,pa,pc,rfl,_,_,hp⟩:=aF (by decide) (fun _ _=>fO) Za
  obtain ⟨_,qa,qc,rfl,_,_,hq⟩:=aF (by decide) (fun _ _=>fO) hr2
  simp +contextual only [go_sem,aE,sevalprocAttr,aI,ht,aN]
  refine aU ?_
  simp +contextual only [go_sem,aE,sevalprocAttr,aI,aN,y0,y1,x0,x1]
  refine aY l[i].row.length 49 [(0,.slice (some ⟨b',o',none⟩) l.length ac),(1,.slice (some ⟨b2,o2,none⟩) l.length bc),(13,.int .i64 (l.length:Int)),(14,.int .i64 (i:Int)),(5,.int .i64 (i:Int)),(48,.int .i64 (l[i].row.length:Int))] (fun j e h=>h=⟨T,M,[],[]⟩) 0 (by omega) (by simp only [aG,go_sem,sevalprocAttr,aI,ht]) (by simp only [go_sem,sevalprocAttr]) rfl ?_
  clear aI ht
  rintro j e h hj aI ht rfl
  simp only [aG] at aI
  by_cases qJ:j<l[i].row.length
  ·obtain ⟨pb,po,pcs,rfl,ahJ,kL⟩:=hp j l[i].row[j] (gq qJ)
   obtain ⟨qb,qo,qcs,rfl,ahB,oN⟩:=hq j l[i].row[j] (gq qJ)
   unfold RV V.cs at kL oN
   subst kL oN
   obtain ⟨z0,z1,z2,_⟩:=ahJ
   obtain ⟨w0,w1,w2,_⟩:=ahB
   simp +contextual only [go_sem,aE,sevalprocAttr,aI,ht,qJ]
   refine aU ?_
   simp +contextual only [go_sem,aE,sevalprocAttr,aI,ht,aN,qJ,y0,x0,z0,z1,z2,w0,w1,w2,Y8]
   refine aR (az ⟨l[i].row.length - (j+1),by omega,rfl,j+1,by omega,rfl,?_,?_,rfl⟩)
   ·simp only [aG,aI,go_sem,sevalprocAttr]
   ·simp only [go_sem,sevalprocAttr,aB j (by omega)]
  ·have:j=l[i].row.length:=by omega
   subst this
   simp +contextual only [go_sem,aE,sevalprocAttr,aI,ht,qJ]
   refine aR (az ⟨l.length - (i+1),by omega,rfl,i+1,by omega,rfl,?_,?_,rfl⟩)
   ·simp only [aG,aI,go_sem,sevalprocAttr]
   ·simp only [go_sem,sevalprocAttr,aB i (by omega)]
 ·have:i=l.length:=by omega
  subst this
  simp +contextual only [go_sem,aE,sevalprocAttr,aI,ht,aN]
  exact am aH.rfl' rfl
theorem xd {name:Bs}{v:Rel}(hv:v.name=name)(hw:v.view=true):∀ {rels:List Rel} {n:Nat},(∀ r∈rels,r.name≠name) ->iR name n (rels++[v])=some (v.plan,v.cols)
 | [],n,_=>by simp [iR,hv,hw]
 | r::l,n,h=>by
  rw [List.cons_append,iR,if_neg (h r (by simp))]
  exact xd hv hw fun r hr=>h r (p5 hr)
theorem Db {rels:List Rel}{v:Rel}(hw:v.view=true):bQ (rels++[v])=bQ rels:=by
 simp [bQ,hw]
def sm (name:Bs):Se:=⟨false,true,[],[⟨1,name,[],re⟩],false,false,re,re,[]⟩
def sq (name:Bs):Q:=⟨[sm name],[],[], -1⟩
theorem OG (name:Bs):OkSe (sm name) where
 src:=by simp [sm]
 on:=fun j x h h0=>by
  obtain ⟨j,rfl⟩:∃ k,j=k+1:=⟨j - 1,by omega⟩
  simp [sm] at h
 wh:=fun h=>by cases h
 grp:=by simp [sm]
 its:=fun h=>by cases h
 hv:=fun h=>by cases h
 cnt:=fun h=>by cases h
theorem Il {name:Bs}{v:Rel}{rels:List Rel}(hv:v.name=name)(hw:v.view=true)(h:∀ r∈rels,r.name≠name):gR (rels++[v]) (sq name)=.ok (v.plan,v.cols.map (·.name)):=by
 have hf:=xd hv hw h (n:=0)
 have h1:oH (rels++[v]) (sm name).src=.ok (v.plan,v.cols.map fun c=>(name,c.name)):=by
  simp [oH,sm,j0,mc,hf,dp]
 unfold gR sq
 simp only [fA]
 rw [mt,h1]
 simp [sm,q8,eQ,oI,s8,Function.comp_def]
def W6 {α:Type}(el:TypeId)(sz:Nat)(r:α ->List Value ->Prop)(R:RR)(fv:Value)(acc:List α):Prop:=
 (acc=[]/\R=[]/\∃ b,fv=.slice (some ⟨b,0,none⟩) 0 0)\/acc≠[]/\∃ a c xs,fv=.slice a acc.length c/\RL r acc xs/\R=[(fv,el,sz,xs)]
theorem nf {P:Program}{F:Fi}{s:List Vc.Item}{e:dj}{ds:List Deferred}{dd:Option Nat}{T:Tm}{M:aS}{L:LL}{R:RR}{t tx el:TypeId}{sz:Nat}{z xs2:List Value}{α:Type}{r:α ->List Value ->Prop}{acc l2:List α}{fv y:Value}(bP:eC P t=some (el,sz,z))(cq:kX P t=true)
 (h:W6 el sz r R fv acc) (hs:∀ R,Srcs P tx sz ⟨T,M,L,R⟩ y xs2) (hx:RL r l2 xs2) (bw:∀ x cs,r x cs ->cs.length=sz) (hl:(acc.length+l2.length)*sz<=4398046511104) (dG:0<sz)
 (k:∀ fv' R',W6 el sz r R' fv' (acc++l2) ->cj P F s (cB e dd fv') ds ⟨T,M,L,R'⟩ ⟨⟩):pA P F t tx fv y dd s e ds ⟨T,M,L,R⟩ ⟨⟩:=by
 have wu:=dO bw hx
 rw [Nat.add_mul] at hl
 rcases h with ⟨rfl,rfl,b,rfl⟩ | ⟨cD,a,c,xs,rfl,h3,rfl⟩
 ·by_cases h0:l2=[]
  ·subst h0
   obtain rfl:xs2=[]:=hx
   exact pt bP cq (hs _) (Nat.le_refl _) (k _ _ (.inl ⟨rfl,rfl,b,rfl⟩))
  ·have hp:0<l2.length:=List.length_pos_iff.2 h0
   refine jO (n:=0) (xs:=[]) bP cq (hs _) (by rw [Nat.zero_mul];rfl) (by rw [wu];exact Nat.mul_pos hp dG) (by simp only [List.length_nil] at hl ⊢;omega) ?_
   intro ra rm rc iL
   obtain rfl:rm=l2.length:=Nat.eq_of_mul_eq_mul_right dG (by simp only [List.length_nil] at iL;omega)
   exact k _ _ (.inr ⟨h0,ra,rc,xs2,rfl,hx,rfl⟩)
 ·have vC:=dO bw h3
  refine fK bP cq (hs _) (by omega) ?_
  intro ra rm rc iL
  obtain rfl:rm=(acc++l2).length:=Nat.eq_of_mul_eq_mul_right dG (by rw [List.length_append,Nat.add_mul];omega)
  exact k _ _ (.inr ⟨by simp [cD],ra,rc,_,rfl,cM h3 hx,rfl⟩)
theorem Hs {N:Tm}{M:aS}{L:LL}{el:TypeId}{sz:Nat}{R:RR}{α:Type}{r:α ->List Value ->Prop}{acc:List α}{fv:Value}{k:Sh ->Prop}(h:W6 el sz r R fv acc)(hb:acc.length*sz<=4398046511104)(dG:0<sz)(hk:∀ M',bh M M' ->RS M' r sz acc fv ->bK ⟨N,M',L,[]⟩ k)(bi:aJ M L):bK ⟨N,M,L,R⟩ k:=by
 rcases h with ⟨rfl,rfl,b,rfl⟩ | ⟨_,a,c,xs,rfl,h3,rfl⟩
 ·exact hk M bh.rfl' KC
 ·exact bT (fun M' hM oX gi=>hk M' hM ⟨hb,xs,gi,h3⟩) dG
theorem Lw {bf:List (List Int)}{p:Pl}{t:List Int}(h:gh bf p=.ok t):t.length<=8:=by
 unfold gh at h
 split at h
 ·cases h
 split at h
 ·cases h
 ·rename_i h2
  exact oe (yb (by simpa using h2)) _ _ _ h
theorem AC {M:aS}(r:Rel)(cs:List Value)(h:mD M r cs):∀ u∈cs,u.oneCell'=true:=by
 obtain ⟨c,p,h1,h2,rfl⟩:=h
 obtain ⟨_,a,n,rfl,_⟩:=aF (by decide) (fun _ _=>eU) h1
 intro u hu
 rcases qM hu with hu | hu
 ·simp only [mn] at hu
  rcases hu with rfl | rfl | rfl<;>rfl
 ·exact yX h2 u hu
set_option maxHeartbeats 1000000 in
theorem Cb {M:aS}{rels:List Rel}{rv dv:Value}{q:Q}{qc:List Value}{name:Bs}{data:List (List Z)}(hG:eX M)(hr:RS M (mD M) 14 rels rv)(hq:RQ M q qc)(hd:RS M (RD M) 1 data dv)(bw:rels.length<1048576)(eI:∀ r∈rels,r.cols.length<=1048576)(T:Tm):
 cw Tryz.prog 6 [rv,.agg ⟨qc⟩,st name,dv] T M [] [] (fun r _ _ _=>r=.bool true) aO:=by
 have tB:=hr
 have hq0:=hq
 obtain ⟨fS,ra,rc,rfl,dJ,_,hg⟩:=aF (by decide) (fun _ _=>ew) hr
 obtain ⟨pv,ov,orv,rfl,o1,o2,o3⟩:=wy hq
 refine aC F6 rfl rfl ?_
 intro bi _
 simp +contextual only [go_sem,sevalprocAttr]
 intro b3 T3 gj fB hZ
 refine aD (IZ hG T3) ?_
 rintro r M1 aV bG rfl
 simp only [aJ,and_true] at bG
 simp +contextual only [go_sem,aE,sevalprocAttr,aA bG]
 refine aD (Pm (nR aV hq0) T3) ?_
 rintro r M2 bg aZ rfl
 simp only [aJ,and_true] at aZ
 have eh:=aV.trans bg
 by_cases hQ:jn q=0
 rotate_left
 ·simp +contextual only [go_sem,aE,sevalprocAttr,hQ]
  exact ak (am fB rfl)
 simp +contextual only [go_sem,sevalprocAttr,hQ]
 refine aD (P4 (aL eh (eu eh) tB) (by omega) eI T3) ?_
 rintro r M3 bM bj ⟨g,rfl,C1⟩
 simp only [aJ,and_true] at bj
 cases g with
 | false=>
  simp +contextual only [go_sem,aE,sevalprocAttr]
  exact ak (am fB rfl)
 | true=>
  replace C1:=C1 rfl
  have lW:=eh.trans bM
  obtain ⟨hoq,Mb,hp4,EU,oQ⟩:=tW hQ
  simp +contextual only [go_sem,aE,sevalprocAttr,aA bj]
  refine aD (tO (aL lW (eu lW) tB) (nR lW hq0) (by omega) eI (fun s hs=>(oQ s hs).1) hoq.len (by omega) (fun hl=>⟨by have:=(EU hl).1;omega,(EU hl).2⟩) (Ao hoq) (XJ C1 hQ) T3) ?_
  rintro r M4 dh cE iW
  simp only [aJ,and_true] at cE
  have vv:=lW.trans dh
  unfold mr at iW
  cases hB:gT rels q with
  | error e=>
   rw [hB] at iW
   obtain ⟨cD,cs,rfl,hz⟩:=iW
   obtain ⟨c0,c1,c2,c3,c4,c5,c6,c7,c8,c9,c10,rfl,hc⟩:=cU hz
   simp +contextual only [go_sem,aE,sevalprocAttr,hc,cD]
   intro b5 T5 mp gK nw o9
   exact ak (ak (am (fB.trans nw) rfl))
  | ok w=>
   rw [hB] at iW
   obtain ⟨cs,cv,rfl,hpp,kM⟩:=iW
   obtain ⟨c0,c1,c2,c3,c4,c5,c6,c7,c8,c9,c10,rfl,hc⟩:=cU hpp
   obtain ⟨Ve,va,vc,rfl,_,_,hvg⟩:=aF (by decide) (fun _ _=>eU) kM
   obtain ⟨t,J0,GG,ht3⟩:=Gj (GB C1) Mb (fun s Dm=>⟨(oQ s Dm).2.1,fun j x hj h0=>((oQ s Dm).1.on j x hj h0).1⟩) hB
   simp +contextual only [go_sem,sevalprocAttr,hc]
   intro b5 T5 mp gK nw o9
   have hp5:¬ b5=b3/\¬ b3=b5:=gK
   have hT:=fB.trans nw
   refine aP (mZ name T5) ?_
   cases Dq:eM name with
   | false=>
    simp +contextual only [go_sem,aE,sevalprocAttr]
    exact ak (ak (am hT rfl))
   | true=>
    simp +contextual only [go_sem,aE,sevalprocAttr]
    refine br rels.length 47 [(0,.slice ra rels.length rc),(2,st name),(3,dv),(9,.pointer (some ⟨b5,0,none⟩)),(10,.slice va w.2.length vc),(45,.slice ra rels.length rc),(46,.int .i64 (rels.length:Int))]
     (fun i e h=>∃ N' M',aH T5 N'/\bh M4 M'/\M' b5=some [c0,c1,c2,c3,c4,c5,c6,c7,c8,c9,c10]/\(∀ (j:Nat) (hj:j<rels.length),j<i ->rels[j].name≠name)/\h=⟨N',M',[],[]⟩)
     0 (by omega) (by simp only [aG,go_sem,sevalprocAttr]) (by simp only [go_sem,sevalprocAttr]) (aT fun he h5 _=>ak (az ⟨T5,_,aH.rfl',he,h5,fun j _ h=>by omega,rfl⟩)) ?_
    rintro i e h hi aI ht ⟨N1,M5,tH,dF,h5,jM,rfl⟩
    simp only [aG] at aI
    have H2:=hT.trans tH
    by_cases aN:i<rels.length
    ·obtain ⟨b',o',cs',rfl,cG,fy⟩:=hg i rels[i] (gq aN)
     obtain ⟨ca,cn,s1,a1,n1,a2,n2,a3,n3,rfl,gF,_⟩:=jx fy
     have y:=I4 (cG.ext (vv.trans dF))
     simp +contextual only [go_sem,aE,sevalprocAttr,aI,ht,aN,y,gF]
     intro b6 T6 oZ sK BX
     by_cases Zh:rels[i].name=name
     ·rw [if_pos Zh]
      exact ak (am (H2.trans sK) rfl)
     ·rw [if_neg Zh]
      refine aR (ak (az ⟨rels.length - (i+1),by omega,rfl,i+1,by omega,rfl,?_,?_,T6,M5,tH.trans sK,dF,h5,fun j hj Bx=> ?_,rfl⟩))
      ·simp only [aG,aI,go_sem,sevalprocAttr]
      ·simp only [go_sem,sevalprocAttr,aB i (by omega)]
      ·rcases Nat.lt_or_ge j i with h | h
       ·exact jM j hj h
       ·have:j=i:=by omega
        subst this;exact Zh
    ·have:i=rels.length:=by omega
     subst this
     have cD:∀ r∈rels,r.name≠name:=fun r hr=>by
      obtain ⟨j,hj,rfl⟩:=List.getElem_of_mem hr
      exact jM j hj hj
     have wo:=vv.trans dF
     obtain ⟨xs,jP,eJ,yM⟩:=kx Tryz.underlying22 (fun _ _=>ew) AC (aL wo (eu wo) tB)
     have hvo:∀ u∈[st name,.slice va w.2.length vc,.bool true,c0,c1,c2,c3,c4,c5,c6,c7,c8,c9,c10],u.oneCell'=true:=AC ⟨name,w.2,true,w.1⟩ _ ⟨_,_,kM,hpp,rfl⟩
     simp +contextual only [go_sem,aE,sevalprocAttr,aI,ht,aN]
     refine lS (fun e ds h=>ds=[]/\aG e [(0,.slice ra rels.length rc),(2,st name),(3,dv),(9,.pointer (some ⟨b5,0,none⟩)),(10,.slice va w.2.length vc)]/\∃ L R' fv,aJ M5 L/\e 14=fv/\W6 52 14 (mD M5) R' fv (rels++[⟨name,w.2,true,w.1⟩])/\h=⟨N1,M5,L,R'⟩) (fun S' dU=>aU ?_) ?_
     ·simp +contextual only [go_sem,sevalprocAttr,aI,aX h5]
      have eD:(0+rels.length)*14<=4398046511104:=by omega
      have eR:(rels.length+1)*14<=4398046511104:=by omega
      have hv:mD M5 ⟨name,w.2,true,w.1⟩ [st name,.slice va w.2.length vc,.bool true,c0,c1,c2,c3,c4,c5,c6,c7,c8,c9,c10]:=eu dF _ _ ⟨_,_,kM,hpp,rfl⟩
      have bP:=Yc
      have cq:=Yd
      refine ⟨fun b0 Ng=>⟨?_,?_,fun b7 iN iV=>⟨?_,?_⟩⟩,fun b7 iN=>⟨?_,fun b0 Ng acv=>⟨?_,?_⟩⟩⟩
      ·exact iq bh.rfl' trivial
      ·refine nf bP cq (.inl ⟨rfl,rfl,b0,rfl⟩) (fun R=>yM _ _ R) eJ (fun _ _=>ew) eD (by decide) fun fv R1 h1=> ?_
       simp +contextual only [go_sem,sevalprocAttr]
       refine ⟨iq bh.rfl' trivial,fun b7 iN iV=>⟨iq bh.rfl' trivial,?_⟩⟩
       refine nf bP cq h1 (fun R=> .slice _ 1 _ _ _ Tryz.underlying22 (bL [] iN trivial rfl) hvo) (cA hv) (fun _ _=>ew) eR (by decide) fun fv2 R2 h2=> ?_
       simp +contextual only [go_sem,sevalprocAttr]
       refine ⟨iq bh.rfl' trivial,dU _ _ _ ⟨rfl,by simp only [aG,go_sem,sevalprocAttr,aI],_,_,fv2,?_,by simp only [go_sem,sevalprocAttr],h2,rfl⟩⟩
       exact ⟨by assumption,by assumption,trivial⟩
      ·exact iq bh.rfl' trivial
      ·refine nf bP cq (.inl ⟨rfl,rfl,b0,rfl⟩) (fun R=>yM _ _ R) eJ (fun _ _=>ew) eD (by decide) fun fv R1 h1=> ?_
       simp +contextual only [go_sem,sevalprocAttr]
       refine ⟨iq bh.rfl' trivial,?_⟩
       refine nf bP cq h1 (fun R=> .slice _ 1 _ _ _ Tryz.underlying22 (bL [] iN trivial rfl) hvo) (cA hv) (fun _ _=>ew) eR (by decide) fun fv2 R2 h2=> ?_
       simp +contextual only [go_sem,sevalprocAttr]
       refine ⟨iq bh.rfl' trivial,dU _ _ _ ⟨rfl,by simp only [aG,go_sem,sevalprocAttr,aI],_,_,fv2,?_,by simp only [go_sem,sevalprocAttr],h2,rfl⟩⟩
       exact ⟨by assumption,by assumption,trivial⟩
      ·exact iq bh.rfl' trivial
      ·exact iq bh.rfl' trivial
      ·refine nf bP cq (.inl ⟨rfl,rfl,b0,rfl⟩) (fun R=>yM _ _ R) eJ (fun _ _=>ew) eD (by decide) fun fv R1 h1=> ?_
       simp +contextual only [go_sem,sevalprocAttr]
       refine ⟨iq bh.rfl' trivial,?_⟩
       refine nf bP cq h1 (fun R=> .slice _ 1 _ _ _ Tryz.underlying22 (bL [(b0,[])] iN ⟨⟨acv.2,acv.1⟩,trivial⟩ rfl) hvo) (cA hv) (fun _ _=>ew) eR (by decide) fun fv2 R2 h2=> ?_
       simp +contextual only [go_sem,sevalprocAttr]
       refine ⟨iq bh.rfl' trivial,dU _ _ _ ⟨rfl,by simp only [aG,go_sem,sevalprocAttr,aI],_,_,fv2,?_,by simp only [go_sem,sevalprocAttr],h2,rfl⟩⟩
       exact ⟨by assumption,by assumption,trivial⟩
     rintro e ds h ⟨rfl,aI,L,R',fv,XK,e14,TO,rfl⟩
     simp only [aG] at aI
     simp +contextual only [go_sem,sevalprocAttr,aI,e14]
     intro b11 tU ap11 b12 lr ap12 b15 T15 ana ap15 aix alx
     have eR:(rels++[(⟨name,w.2,true,w.1⟩:Rel)]).length*14<=4398046511104:=by rw [List.length_append];simp only [ln];omega
     refine cQ (k:=fun h'=>∃ M6,bh M5 M6/\RS M6 (mD M6) 14 (rels++[⟨name,w.2,true,w.1⟩]) fv/\Cv M6 (sm name) [.bool false,.bool true,.slice none 0 0,.slice (some ⟨b11,0,none⟩) 1 1,.bool false,.bool false,.int .i64 0,.int .i64 0,.int .i64 0,st [],st [],st [],.slice none 0 0,.int .i64 0,.int .i64 0,.int .i64 0,st [],st [],st [],.slice none 0 0,.slice none 0 0]/\M6 b12=some [.bool false,.bool true,.slice none 0 0,.slice (some ⟨b11,0,none⟩) 1 1,.bool false,.bool false,.int .i64 0,.int .i64 0,.int .i64 0,st [],st [],st [],.slice none 0 0,.int .i64 0,.int .i64 0,.int .i64 0,st [],st [],st [],.slice none 0 0,.slice none 0 0]/\h'=⟨T15,M6,[],[]⟩)
      ?_ ?_ Ug.bd
     ·refine ak (Hs TO eR (by decide) (fun M6 eg cC=>aT fun vP fD _=>aT fun nF ey _=>cX (az ?_)) ⟨lr,tU,XK⟩)
      refine ⟨_,eg.trans (vP.trans nF),aL (vP.trans nF) (eu (eg.trans (vP.trans nF))) cC,?_,nF _ _ fD,rfl⟩
      exact ⟨.slice none 0 0,.slice (some ⟨b11,0,none⟩) 1 1,_,_,.slice none 0 0,bu,cK (fun _ _=>lj) ey (cA ⟨_,ja,rfl⟩) rfl (by decide),ja,ja,bu,rfl⟩
     rintro h' ⟨M6,eg,MB,akc,OB,rfl⟩
     have zk:=wo.trans eg
     obtain ⟨v,hvd⟩:∃ v:Rel,v=⟨name,w.2,true,w.1⟩:=⟨_,rfl⟩
     rw [<- hvd] at MB
     have hQB:gR (rels++[v]) (sq name)=.ok (w.1,w.2.map (·.name)):=by subst hvd;exact Il rfl rfl cD
     have hTB:bQ (rels++[v])=bQ rels:=by subst hvd;exact Db rfl
     have ht8:t.length<=8:=Lw J0
     have hB2:gT (rels++[v]) (sq name)=.ok (w.1,ns (w.2.map (·.name)) t):=by unfold gT;rw [hQB,hTB];simp only [J0]
     have hq2:RQ M6 (sq name) [.slice (some ⟨b12,0,none⟩) 1 1,.slice none 0 0,.slice none 0 0,.int .i64 (-1)]:=⟨_,_,_,cK (fun _ _=>jd) OB (cA akc) rfl (by simp [sq]),bu,bu,rfl⟩
     have XL:(rels++[v]).length<=1048576:=by rw [List.length_append];simp only [ln];omega
     have Ks:∀ r∈rels++[v],r.cols.length<=1048576:=by
      intro r hr
      rcases qM hr with hr | hr
      ·exact eI r hr
      ·simp only [mn] at hr;subst hr hvd;simp only;omega
     have Dl:=tO MB hq2 XL Ks (fun s hs=>by
      simp only [sq,mn] at hs;subst hs;exact OG name) (by simp [sq]) (by simp [sq]) (fun h=>by cases h) (fun e h=>by rw [hQB] at h;cases h) (fun r t2 h1 h2=>by
      rw [hQB] at h1;injection h1 with h1;subst h1
      rw [hTB,J0] at h2;injection h2 with h2;subst h2
      rw [List.length_map];omega) T15
     refine aD Dl ?_
     clear Dl
     rintro r M7 kT iO iW
     unfold mr at iW
     rw [hB2] at iW
     obtain ⟨cs,cv2,rfl,acQ,ajZ⟩:=iW
     obtain ⟨d0,d1,d2,d3,d4,d5,d6,d7,d8,d9,d10,rfl,hd2⟩:=cU acQ
     obtain ⟨al0,va2,vc2,rfl,_,_,_⟩:=aF (by decide) (fun _ _=>eU) ajZ
     have uz:(ns (w.2.map (·.name)) t).length=w.2.length:=by rw [(xZ _ t (by rw [List.length_map];omega)).1];omega
     rw [uz]
     simp +contextual only [go_sem,aE,sevalprocAttr,hd2,aI]
     intro b16 T16 CP S1 Ye
     have Om:=zk.trans kT
     have h57:=kT _ _ (eg _ _ h5)
     have hd7:=aL Om (nZ Om) hd
     have ag4:=bY (dF.trans (eg.trans kT)) _ _ hpp
     refine aU ?_
     simp +contextual only [go_sem,sevalprocAttr,aI,aX h57]
     refine aD (uu (aL Om (eu Om) tB) (by omega) eI T16) ?_
     rintro tv M8 qm nu zl
     simp +contextual only [go_sem,sevalprocAttr]
     refine ⟨em qm nu,?_⟩
     refine aD (JP zl (bY qm _ _ ag4) (aL qm (nZ qm) hd7) (fun e h=>by rw [J0] at h;cases h) T16) ?_
     rintro r1 M9 Jn nM kL
     obtain ⟨s1,e1,rfl⟩:=dE kL
     have h79:=qm.trans Jn
     have p7:=Om.trans h79
     simp only [aJ,and_true] at nM
     simp +contextual only [go_sem,sevalprocAttr]
     refine aU ?_
     simp +contextual only [go_sem,sevalprocAttr,aI,e14,aA nM]
     refine aD (uu (aL (kT.trans h79) (eu (kT.trans h79)) MB) XL Ks T16) ?_
     rw [hTB]
     rintro tv2 M10 abb adN agY
     simp +contextual only [go_sem,sevalprocAttr]
     refine ⟨em abb adN,?_⟩
     have Zb:=h79.trans abb
     have hcT:gh (bQ rels) w.1=.ok t:=J0
     refine aD (JP agY (bY Zb _ _ acQ) (aL Zb (nZ Zb) hd7) (fun e h=>by rw [J0] at h;cases h) T16) ?_
     rintro r2 M11 ah5 aks oN
     have Xm:=Qh (abb.trans ah5) kL
     clear kL
     have acy:=(H2.trans aix).trans S1
     cases hE:JE (bQ rels) w.1 data with
     | error er=>
      rw [hE] at Xm oN
      obtain ⟨ani,h1⟩:=Xm
      obtain ⟨_,rfl⟩:=oN
      injection h1 with h1;injection h1 with h1;injection h1 with h1 h2;injection h2 with h2;injection h2 with _ h2
      subst h1 h2
      simp +contextual only [go_sem,sevalprocAttr]
      refine aD (Fl (l:=[]) bu bu T16) ?_
      rintro r M12 OE acu rfl
      simp +contextual only [go_sem,sevalprocAttr]
      exact am acy rfl
     | ok z=>
      rw [hE] at Xm oN
      obtain ⟨za,h1,MA⟩:=Xm
      obtain ⟨zb,rfl,hz2⟩:=oN
      injection h1 with h1;injection h1 with h1;injection h1 with h1 h2;injection h2 with h2;injection h2 with _ h2
      subst h1 h2
      simp +contextual only [go_sem,sevalprocAttr]
      refine aD (Fl MA hz2 T16) ?_
      rintro r M12 OE acu rfl
      simp +contextual only [go_sem,sevalprocAttr]
      exact am acy rfl
set_option maxRecDepth 100000
section
variable {H:Type} {enc:TypeId×Value ->H} {W:World}
theorem af0 (n:Nat):rT enc Tryz.prog W n 159 (RZ (eW W)):=by
 cases n with
 | zero=>exact gN
 | succ n=>
  intro sp m hm cs x h hw
  have hl:=(dD Tryz.underlying159 hm h hw).1
  rw [show Tryz.prog.cellsOf 159=2 from by kernel_rfl] at hl
  obtain ⟨l,s,gF,lZ⟩:=ff Tryz.underlying159 hm h hw 0 157 0 1 rfl (by kernel_rfl) ((fF (sz:=3) (GU n) Tryz.underlying157 (by kernel_rfl) (by decide)).le (Nat.le_succ n))
  obtain ⟨w,zq⟩:=ff Tryz.underlying159 hm h hw 1 2 1 1 rfl (by kernel_rfl) (iy Tryz.underlying2)
  refine ⟨⟨l,w⟩,s,lZ,?_⟩
  show cs.drop 0=_
  rw [ii cs 0 1 1 rfl,gF,vI (n:=1) (by omega),zq]
  rfl
theorem Iq {sp:Nat ->Bool}{m:Nat}{cs:List Value}{x:DataW H×List MemPlace}(h:DataW.trod enc Tryz.prog W 0 sp true m 72 cs=some x)(hw:Rows.uptoBulk x.1<=1048576):
 ∃ l v,cs=[v]/\RS (eW W) (RD (eW W)) 1 l v:=by
 obtain ⟨l,v,h1,h2,_⟩:=tz (sz:=1) ((fF (sz:=2) (af0 m) Tryz.underlying80 (by kernel_rfl) (by decide)).le (Nat.le_succ m)) Tryz.underlying72 (by kernel_rfl) (by decide) (Nat.le_succ m) h hw
 exact ⟨l,v,h1,h2⟩
end
open Go.ChangeMaps
open Go.ChangeShapes Go.WideShapes Go.ChangeAt Go.RowKit
theorem zP (os:Os)(args:Array Value):laidMet Tryz.prog Rows.bindViewsUptoRow.laid ((nQ os).forCall (fun _ _=>0) ⟨#[],args,[]⟩).memory:=
 BU 8 (by kernel_rfl) (by kernel_rfl)
theorem sQ (os:Os){H:Type}(enc:TypeId×Value ->H):
 (Rows.OpenSpec.upto Rows.bindViewsSpec).preRow enc Tryz.prog Tryz.f6 Rows.bindViewsUptoRow.domain false Rows.bindViewsUptoRow.laid ((nQ os).forCall (fun _ _=>0) ⟨#[],#[.slice none 0 0,.agg #[.slice none 0 0,.slice none 0 0,.slice none 0 0,.int .i64 0],.string ⟨#[]⟩,.slice none 0 0],[]⟩).memory #[.slice none 0 0,.agg #[.slice none 0 0,.slice none 0 0,.slice none 0 0,.int .i64 0],.string ⟨#[]⟩,.slice none 0 0]:=by
 have hw:(DataW.whole enc Tryz.prog ((nQ os).forCall (fun _ _=>0) ⟨#[],#[.slice none 0 0,.agg #[.slice none 0 0,.slice none 0 0,.slice none 0 0,.int .i64 0],.string ⟨#[]⟩,.slice none 0 0],[]⟩).memory Tryz.f6.params.toList Rows.bindViewsSpec.vars false (#[.slice none 0 0,.agg #[.slice none 0 0,.slice none 0 0,.slice none 0 0,.int .i64 0],.string ⟨#[]⟩,.slice none 0 0]:Array Value).toList 8).map (fun x=>(x.1,x.2.1))=
  some ([.nil,.agg [.nil,.nil,.nil,.lit (.int .i64 0)],.lit (.string []),.nil],[]):=by kernel_rfl
 obtain ⟨⟨x1,x2,x3⟩,hx,vC⟩:=Option.map_eq_some_iff.1 hw
 simp only [Prod.mk.injEq] at vC
 obtain ⟨rfl,rfl⟩:=vC
 exact OpenSpec.preRow_of_cond 8 hx (by kernel_rfl) (fun k hk=>by cases hk;kernel_rfl) (by kernel_rfl) (zP os _)
theorem rk (H:Type)(enc:TypeId×Value ->H)(W:World)(base:Nat)(args:Array Value)(ds gs:List (DataW H))(before:List MemPlace)
 (yE:∀ (j:Nat) t v,Tryz.f6.params[j]?=some t ->args[j]?=some v ->Value.okWide Tryz.prog W .any base t v)
 (hW:DataW.Whole enc Tryz.prog Tryz.f6.params.toList Rows.bindViewsSpec.vars false W args.toList ds gs before) (JX:Rows.uptoSmall H (ds++gs)=true)
 (hL:laidMetH Tryz.prog Rows.bindViewsUptoRow.laid W) (hS:W.ShapedOpen Tryz.prog):
 Calls Tryz.prog 6 args W fun e W'=>∃ v,e=.returned v/\Rows.bindViewsSpec.post enc Tryz.prog Tryz.f6 false true false false W args v W':=by
 have hW':=hW
 obtain ⟨p,q,hA0,hV,rfl,TI,lH⟩:=hW
 have hA:DataW.TrodAll enc Tryz.prog W 0 (fun _=>true) true Tryz.f6.params.toList args.toList ds p:=hA0
 clear hA0
 have hA':=hA
 rw [Tryz.params6] at hA yE
 have hA:DataW.TrodAll enc Tryz.prog W 0 (fun _=>true) true [22,27,9,72] args.toList ds p:=hA
 obtain ⟨v0,vs0,d0,ds0,p0,q0,aaM,afX,Mb,h0,r0⟩:=trodAll_cons hA
 obtain ⟨v1,vs1,d1,ds1,p1,q1,Zd,aiP,lV,h1,r1⟩:=trodAll_cons r0
 obtain ⟨v2,vs2,d2,ds2,p2,q2,aal,agx,TS,h2,r2⟩:=trodAll_cons r1
 obtain ⟨v3,vs3,d3,ds3,p3,q3,ZH,ah4,hp3,h3,r3⟩:=trodAll_cons r2
 obtain ⟨hvn,hdn,hpn⟩:=trodAll_nil r3
 subst afX aiP agx ah4 hdn
 have Of:args.toList=[v0,v1,v2,v3]:=by rw [aaM,Zd,aal,ZH,hvn]
 obtain rfl:args= #[v0,v1,v2,v3]:=by cases args;simp_all
 obtain ⟨rfl,rfl⟩:=trodVars_none hV
 simp only [List.append_nil] at hW' JX
 have hG:eX (eW W):=Vy (by kernel_rfl) hL
 have hk:=of_decide_eq_true JX
 simp only [Rows.uptoBulkAll] at hk
 obtain ⟨a0,m0,c0,rfl⟩:=okWide_slice Tryz.underlying22 (yE 0 _ _ rfl rfl)
 obtain ⟨n0,k0⟩:=h0
 obtain ⟨l0,u0,eu0,tB,pC,Av⟩:=Jc k0 (show Rows.uptoBulk d0<=1048576 by omega)
 obtain rfl:Value.slice a0 m0 c0=u0:=by simpa [Value.cells] using eu0
 obtain ⟨⟨y1⟩,rfl, -⟩:=okWide_struct Tryz.underlying27 (yE 1 _ _ rfl rfl)
 obtain ⟨n1,k1⟩:=h1
 obtain ⟨x1,Za⟩:=ahV n1 _ n1 (Nat.le_refl _) _ _ k1 (show Rows.uptoBulk d1<=1048576 by omega)
 replace Za:RQ (eW W) x1 y1:=by simpa [Value.cells] using Za
 obtain ⟨s2,rfl,rfl,rfl,w2⟩:=open_string Tryz.underlying9 (yE 2 9 v2 rfl rfl) h2
 obtain ⟨a3,m3,c3,rfl⟩:=okWide_slice Tryz.underlying72 (yE 3 _ _ rfl rfl)
 obtain ⟨n3,k3⟩:=h3
 obtain ⟨l3,u3,eu3,W8⟩:=Iq k3 (show Rows.uptoBulk d3<=1048576 by omega)
 obtain rfl:Value.slice a3 m3 c3=u3:=by simpa [Value.cells] using eu3
 have hc:=PO (Cb (name:=s2.data.toList) hG tB Za W8 pC Av (fun _=>none)) (Ey W)
 have e2:st s2.data.toList=Value.string s2:=by unfold st;rw [<- XD]
 rw [e2] at hc
 refine hc.mono fun e W' ⟨v,M',he,hk,_,_,hv⟩=> ?_
 subst he;subst hv
 refine ⟨_,rfl,_,_,_,[],p,[],hW',?_,?_,?_,jW.but hk _,fun h=>by cases h⟩
 ·exact trodAll_mk1 (shut_bool Tryz.underlying4 true)
 ·exact BD hk (by decide +kernel) hA'
 ·rfl
end Go.Proofs.YtmccpbcbofhmlaaGreatDoor

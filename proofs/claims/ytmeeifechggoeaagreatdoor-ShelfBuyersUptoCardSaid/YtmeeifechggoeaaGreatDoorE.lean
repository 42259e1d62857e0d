import Derived.Test.YtmeeifechggoeaaGreatDoorD
import Derived.Shelf.Strings.Builder1
import Derived.Test.YtmeeifechggoeaaGreatDoorB
import Derived.Recover
import Derived.Laws.Pointers
set_option linter.all false
namespace Go.Proofs.YtmeeifechggoeaaGreatDoor
open Go Vc
set_option maxRecDepth 10000
def dw {α:Type}(en:Int)(g:List Tk ->Rs α):Nat ->List Tk ->Rs (List α)
 | 0,t=> .err 5 (pf en t)
 | k+1,t=>(g t).bind fun a t=>if bD kH t=true then (dw en g k t.tail).bind fun l t=> .ok (a::l) t else .ok [a] t
theorem Rs.bind_assoc {α β γ:Type}(r:Rs α)(f:α ->List Tk ->Rs β)(g:β ->List Tk ->Rs γ):(r.bind f).bind g=r.bind fun a t=>(f a t).bind g:=by cases r<;>rfl
theorem Bk {α:Type}{M:aS}{pb gf:Nat}{aU:List Tk}{lv:Value}{en op:Int}{fa fc:List Value}{g:List Tk ->Rs α}{r:aS ->α ->List Value ->Prop}{enc:α ->Value ->aS ->Prop}{C:aS ->Prop}(most:Nat)
 (Hx:∀ (M:aS) (t:List Tk) (lv:Value) (T:Tm),eQ M ->C M ->RS M gC 3 t lv ->g t≠ .out ->bV Tryz.prog gf (fa++fc) T M (pL pb lv en op) [] (fH pb en op enc (g t)) (gl pb en (g t)))
 (hE:∀ x v M,enc x v M ->∃ cs,v.cells.toList=cs/\r M x cs) (dS:∀ M x cs,r M x cs ->cs.length=7) (dt:∀ M x cs,r M x cs ->∀ u∈cs,u.oneCell'=true) (oJ:∀ M M' x cs,bm M M' ->r M x cs ->r M' x cs)
 (hC:∀ M M',bm M M' ->C M ->C M') (KG:C M) (KI:most<=400) (hg:eQ M) (hl:RS M gC 3 aU lv) (cu:dw en g most aU≠ .out) (T:Tm):
 bV Tryz.prog 78 [.pointer (some ⟨pb,0,none⟩),.int .i64 (most:Int),.func (.func gf) ⟨fa⟩ ⟨fc⟩] T M (pL pb lv en op) [] (fH pb en op (fun l v M=>RS M (r M) 7 l v) (dw en g most aU)) (gl pb en (dw en g most aU)):=by
 refine az F78 rfl rfl ?_
 intro bi _
 simp only [aK] at bi
 simp +contextual only [go_sem,aD,sevalprocAttr]
 refine gn (fun m e ds h=>ds=[]/\e 0=.pointer (some ⟨pb,0,none⟩)/\e 1=.int .i64 (most:Int)/\e 2=.func (.func gf) ⟨fa⟩ ⟨fc⟩/\
  ∃ M' t' lv' acc,m+acc.length=most/\bm M M'/\M' pb=none/\RS M' gC 3 t' lv'/\dw en g most aU=(dw en g m t').bind (fun l t=> .ok (acc++l) t)/\
   ((acc=[]/\e 7=.slice none 0 0/\h=⟨T,M',pL pb lv' en op,[]⟩)\/∃ ra rc xs,e 7=.slice ra acc.length rc/\RL (r M') acc xs/\h=⟨T,M',pL pb lv' en op,[(.slice ra acc.length rc,59,7,xs)]⟩))
  ⟨most,rfl,by simp only [go_sem,sevalprocAttr],by simp only [go_sem,sevalprocAttr],by simp only [go_sem,sevalprocAttr],M,aU,lv,[],by simp,bm.rfl',bi,hl,by cases dw en g most aU<;>rfl,.inl ⟨rfl,by simp only [go_sem,sevalprocAttr],rfl⟩⟩ ?_
 rintro m e ds h ⟨rfl,e0,e1,e2,M1,t1,lv1,acc,hm,aV,np,gK,am,kh⟩
 have lC:=hg.ext aV
 cases m with
 | zero=>
  have bq:(acc.length:Int)=(most:Int):=by omega
  have lD:dw en g most aU=.err 5 (pf en t1):=am
  rcases kh with ⟨rfl,e7,rfl⟩ | ⟨ra,rc,xs,e7,fM,rfl⟩
  ·have bq:(0:Int)=(most:Int):=by simpa using bq
   simp +contextual only [go_sem,aD,sevalprocAttr,e0,e1,e7,bq]
   refine mp [] gK ?_
   simp +contextual only [go_sem,sevalprocAttr]
   exact fy [] aF.rfl' lD
  ·simp +contextual only [go_sem,aD,sevalprocAttr,e0,e1,e7,bq]
   refine mp [] gK ?_
   simp +contextual only [go_sem,sevalprocAttr]
   exact fy [] aF.rfl' lD
 | succ m=>
  have bq:¬ (acc.length:Int)=(most:Int):=by omega
  simp only [dw,Rs.bind_assoc] at am
  rcases kh with ⟨rfl,e7,rfl⟩ | ⟨ra,rc,xs,e7,fM,rfl⟩
  ·have bq:¬ (0:Int)=(most:Int):=by simpa using bq
   simp +contextual only [go_sem,aD,sevalprocAttr,e1,e2,e7,bq]
   refine cm [] aF.rfl' am cu (fun h=>Hx M1 t1 lv1 T lC (hC _ _ aV KG) gK h) ?_
   rintro v M2 a t2 lv2 bh aZ am fp hv
   obtain ⟨cs,fS,hr⟩:=hE _ _ _ hv
   have cM:=dS _ _ _ hr
   simp only [nn,aK] at aZ
   have ju:=fS
   simp only [Value.cells] at ju
   simp +contextual only [go_sem,sevalprocAttr,ju,cM]
   intro b hb tG
   refine mH Hh F1 (.slice _ 1 _ _ _ Tryz.underlying55 (cD [] hb trivial (by rw [cM])) (dt _ _ _ hr)) (by rw [cM];decide) ?_
   intro ra rm rc jc
   have jA:rm=1:=by rw [cM] at jc;omega
   subst jA
   simp +contextual only [go_sem,sevalprocAttr,e0]
   refine iz [(b,_)] kH fp (fun hs lv3 fF=> ?_) (fun hs lv3 fF=> ?_)
   ·rw [if_pos hs,Rs.bind_assoc] at am
    simp +contextual only [go_sem,aD,sevalprocAttr]
    rw [eJ]
    refine al (aB ⟨m,by omega,rfl,?_,?_,?_,M2,t2.tail,lv3,[a],by simp only [ln] at hm ⊢;omega,aV.trans bh,aZ,fF,am,.inr ⟨ra,rc,cs,?_,dj hr,rfl⟩⟩)
    all_goals simp only [e0,e1,e2,go_sem,sevalprocAttr]
   ·rw [if_neg (by simp [hs])] at am
    simp +contextual only [go_sem,aD,sevalprocAttr]
    refine al (cK fun M3 bE bB iG=>aQ aF.rfl' rfl rfl ?_)
    exact ⟨[a],t2,lv3,am,rfl,aH bE (fun _ _ h=>h) fF,rfl,⟨by simp,cs,iG,dj (oJ _ _ _ _ bE hr)⟩⟩
  ·simp +contextual only [go_sem,aD,sevalprocAttr,e1,e2,e7,bq]
   refine cm [] aF.rfl' am cu (fun h=>Hx M1 t1 lv1 T lC (hC _ _ aV KG) gK h) ?_
   rintro v M2 a t2 lv2 bh aZ am fp hv
   obtain ⟨cs,fS,hr⟩:=hE _ _ _ hv
   have cM:=dS _ _ _ hr
   have iH:=eL (dS M1) fM
   have Db:RL (r M2) acc xs:=dl (fun x cs h=>oJ _ _ _ _ bh h) fM
   simp only [nn,aK] at aZ
   have ju:=fS
   simp only [Value.cells] at ju
   simp +contextual only [go_sem,sevalprocAttr,ju,cM]
   intro b hb tG
   refine gL Hh F1 (.slice _ 1 _ _ _ Tryz.underlying55 (cD [] hb trivial (by rw [cM])) (dt _ _ _ hr)) (by rw [cM,iH];omega) ?_
   intro ra' rm rc' jc
   have jA:rm=(acc++[a]).length:=by
    rw [cM,iH] at jc
    rw [List.length_append,List.length_cons,List.length_nil]
    omega
   subst jA
   have bj:=cP Db (dj hr)
   simp +contextual only [go_sem,sevalprocAttr,e0]
   refine iz [(b,_)] kH fp (fun hs lv3 fF=> ?_) (fun hs lv3 fF=> ?_)
   ·rw [if_pos hs,Rs.bind_assoc] at am
    simp +contextual only [go_sem,aD,sevalprocAttr]
    rw [eJ]
    refine al (aB ⟨m,by omega,rfl,?_,?_,?_,M2,t2.tail,lv3,acc++[a],by rw [List.length_append];simp only [ln];omega,aV.trans bh,aZ,fF,?_,.inr ⟨ra',rc',xs++cs,?_,bj,rfl⟩⟩)
    ·simp only [e0,go_sem,sevalprocAttr]
    ·simp only [e1,go_sem,sevalprocAttr]
    ·simp only [e2,go_sem,sevalprocAttr]
    ·rw [am]
     congr 1
     funext l t
     simp [Rs.bind]
    ·simp only [nX,go_sem,sevalprocAttr]
   ·rw [if_neg (by simp [hs])] at am
    simp +contextual only [go_sem,aD,sevalprocAttr]
    refine al (cK fun M3 bE bB iG=>aQ aF.rfl' rfl rfl ?_)
    exact ⟨acc++[a],t2,lv3,am,rfl,aH bE (fun _ _ h=>h) fF,rfl,⟨by rw [List.length_append];simp only [ln];omega,xs++cs,iG,dl (fun x cs h=>oJ _ _ _ _ bE h) bj⟩⟩
theorem JP {α:Type}{M:aS}{pb gf:Nat}{aU:List Tk}{lv:Value}{en op:Int}{fa fc:List Value}{g:List Tk ->Rs α}{r:aS ->α ->List Value ->Prop}{enc:α ->Value ->aS ->Prop}{C:aS ->Prop}(most:Nat)
 (Hx:∀ (M:aS) (t:List Tk) (lv:Value) (T:Tm),eQ M ->C M ->RS M gC 3 t lv ->g t≠ .out ->bV Tryz.prog gf (fa++fc) T M (pL pb lv en op) [] (fH pb en op enc (g t)) (gl pb en (g t)))
 (hE:∀ x v M,enc x v M ->∃ cs,v.cells.toList=cs/\r M x cs) (dS:∀ M x cs,r M x cs ->cs.length=2) (dt:∀ M x cs,r M x cs ->∀ u∈cs,u.oneCell'=true) (oJ:∀ M M' x cs,bm M M' ->r M x cs ->r M' x cs)
 (hC:∀ M M',bm M M' ->C M ->C M') (KG:C M) (KI:most<=400) (hg:eQ M) (hl:RS M gC 3 aU lv) (cu:dw en g most aU≠ .out) (T:Tm):
 bV Tryz.prog 44 [.pointer (some ⟨pb,0,none⟩),.int .i64 (most:Int),.func (.func gf) ⟨fa⟩ ⟨fc⟩] T M (pL pb lv en op) [] (fH pb en op (fun l v M=>RS M (r M) 2 l v) (dw en g most aU)) (gl pb en (dw en g most aU)):=by
 refine az F44 rfl rfl ?_
 intro bi _
 simp only [aK] at bi
 simp +contextual only [go_sem,aD,sevalprocAttr]
 refine gn (fun m e ds h=>ds=[]/\e 0=.pointer (some ⟨pb,0,none⟩)/\e 1=.int .i64 (most:Int)/\e 2=.func (.func gf) ⟨fa⟩ ⟨fc⟩/\
  ∃ M' t' lv' acc,m+acc.length=most/\bm M M'/\M' pb=none/\RS M' gC 3 t' lv'/\dw en g most aU=(dw en g m t').bind (fun l t=> .ok (acc++l) t)/\
   ((acc=[]/\e 7=.slice none 0 0/\h=⟨T,M',pL pb lv' en op,[]⟩)\/∃ ra rc xs,e 7=.slice ra acc.length rc/\RL (r M') acc xs/\h=⟨T,M',pL pb lv' en op,[(.slice ra acc.length rc,110,2,xs)]⟩))
  ⟨most,rfl,by simp only [go_sem,sevalprocAttr],by simp only [go_sem,sevalprocAttr],by simp only [go_sem,sevalprocAttr],M,aU,lv,[],by simp,bm.rfl',bi,hl,by cases dw en g most aU<;>rfl,.inl ⟨rfl,by simp only [go_sem,sevalprocAttr],rfl⟩⟩ ?_
 rintro m e ds h ⟨rfl,e0,e1,e2,M1,t1,lv1,acc,hm,aV,np,gK,am,kh⟩
 have lC:=hg.ext aV
 cases m with
 | zero=>
  have bq:(acc.length:Int)=(most:Int):=by omega
  have lD:dw en g most aU=.err 5 (pf en t1):=am
  rcases kh with ⟨rfl,e7,rfl⟩ | ⟨ra,rc,xs,e7,fM,rfl⟩
  ·have bq:(0:Int)=(most:Int):=by simpa using bq
   simp +contextual only [go_sem,aD,sevalprocAttr,e0,e1,e7,bq]
   refine mp [] gK ?_
   simp +contextual only [go_sem,sevalprocAttr]
   exact fy [] aF.rfl' lD
  ·simp +contextual only [go_sem,aD,sevalprocAttr,e0,e1,e7,bq]
   refine mp [] gK ?_
   simp +contextual only [go_sem,sevalprocAttr]
   exact fy [] aF.rfl' lD
 | succ m=>
  have bq:¬ (acc.length:Int)=(most:Int):=by omega
  simp only [dw,Rs.bind_assoc] at am
  rcases kh with ⟨rfl,e7,rfl⟩ | ⟨ra,rc,xs,e7,fM,rfl⟩
  ·have bq:¬ (0:Int)=(most:Int):=by simpa using bq
   simp +contextual only [go_sem,aD,sevalprocAttr,e1,e2,e7,bq]
   refine cm [] aF.rfl' am cu (fun h=>Hx M1 t1 lv1 T lC (hC _ _ aV KG) gK h) ?_
   rintro v M2 a t2 lv2 bh aZ am fp hv
   obtain ⟨cs,fS,hr⟩:=hE _ _ _ hv
   have cM:=dS _ _ _ hr
   simp only [nn,aK] at aZ
   have ju:=fS
   simp only [Value.cells] at ju
   simp +contextual only [go_sem,sevalprocAttr,ju,cM]
   intro b hb tG
   refine mH Lm LK (.slice _ 1 _ _ _ Tryz.underlying52 (cD [] hb trivial (by rw [cM])) (dt _ _ _ hr)) (by rw [cM];decide) ?_
   intro ra rm rc jc
   have jA:rm=1:=by rw [cM] at jc;omega
   subst jA
   simp +contextual only [go_sem,sevalprocAttr,e0]
   refine iz [(b,_)] kH fp (fun hs lv3 fF=> ?_) (fun hs lv3 fF=> ?_)
   ·rw [if_pos hs,Rs.bind_assoc] at am
    simp +contextual only [go_sem,aD,sevalprocAttr]
    rw [eJ]
    refine al (aB ⟨m,by omega,rfl,?_,?_,?_,M2,t2.tail,lv3,[a],by simp only [ln] at hm ⊢;omega,aV.trans bh,aZ,fF,am,.inr ⟨ra,rc,cs,?_,dj hr,rfl⟩⟩)
    all_goals simp only [e0,e1,e2,go_sem,sevalprocAttr]
   ·rw [if_neg (by simp [hs])] at am
    simp +contextual only [go_sem,aD,sevalprocAttr]
    refine al (cK fun M3 bE bB iG=>aQ aF.rfl' rfl rfl ?_)
    exact ⟨[a],t2,lv3,am,rfl,aH bE (fun _ _ h=>h) fF,rfl,⟨by simp,cs,iG,dj (oJ _ _ _ _ bE hr)⟩⟩
  ·simp +contextual only [go_sem,aD,sevalprocAttr,e1,e2,e7,bq]
   refine cm [] aF.rfl' am cu (fun h=>Hx M1 t1 lv1 T lC (hC _ _ aV KG) gK h) ?_
   rintro v M2 a t2 lv2 bh aZ am fp hv
   obtain ⟨cs,fS,hr⟩:=hE _ _ _ hv
   have cM:=dS _ _ _ hr
   have iH:=eL (dS M1) fM
   have Db:RL (r M2) acc xs:=dl (fun x cs h=>oJ _ _ _ _ bh h) fM
   simp only [nn,aK] at aZ
   have ju:=fS
   simp only [Value.cells] at ju
   simp +contextual only [go_sem,sevalprocAttr,ju,cM]
   intro b hb tG
   refine gL Lm LK (.slice _ 1 _ _ _ Tryz.underlying52 (cD [] hb trivial (by rw [cM])) (dt _ _ _ hr)) (by rw [cM,iH];omega) ?_
   intro ra' rm rc' jc
   have jA:rm=(acc++[a]).length:=by
    rw [cM,iH] at jc
    rw [List.length_append,List.length_cons,List.length_nil]
    omega
   subst jA
   have bj:=cP Db (dj hr)
   simp +contextual only [go_sem,sevalprocAttr,e0]
   refine iz [(b,_)] kH fp (fun hs lv3 fF=> ?_) (fun hs lv3 fF=> ?_)
   ·rw [if_pos hs,Rs.bind_assoc] at am
    simp +contextual only [go_sem,aD,sevalprocAttr]
    rw [eJ]
    refine al (aB ⟨m,by omega,rfl,?_,?_,?_,M2,t2.tail,lv3,acc++[a],by rw [List.length_append];simp only [ln];omega,aV.trans bh,aZ,fF,?_,.inr ⟨ra',rc',xs++cs,?_,bj,rfl⟩⟩)
    ·simp only [e0,go_sem,sevalprocAttr]
    ·simp only [e1,go_sem,sevalprocAttr]
    ·simp only [e2,go_sem,sevalprocAttr]
    ·rw [am]
     congr 1
     funext l t
     simp [Rs.bind]
    ·simp only [nX,go_sem,sevalprocAttr]
   ·rw [if_neg (by simp [hs])] at am
    simp +contextual only [go_sem,aD,sevalprocAttr]
    refine al (cK fun M3 bE bB iG=>aQ aF.rfl' rfl rfl ?_)
    exact ⟨acc++[a],t2,lv3,am,rfl,aH bE (fun _ _ h=>h) fF,rfl,⟨by rw [List.length_append];simp only [ln];omega,xs++cs,iG,dl (fun x cs h=>oJ _ _ _ _ bE h) bj⟩⟩
theorem HQ {α:Type}{M:aS}{pb gf:Nat}{aU:List Tk}{lv:Value}{en op:Int}{fa fc:List Value}{g:List Tk ->Rs α}{r:aS ->α ->List Value ->Prop}{enc:α ->Value ->aS ->Prop}{C:aS ->Prop}(most:Nat)
 (Hx:∀ (M:aS) (t:List Tk) (lv:Value) (T:Tm),eQ M ->C M ->RS M gC 3 t lv ->g t≠ .out ->bV Tryz.prog gf (fa++fc) T M (pL pb lv en op) [] (fH pb en op enc (g t)) (gl pb en (g t)))
 (hE:∀ x v M,enc x v M ->∃ cs,v.cells.toList=cs/\r M x cs) (dS:∀ M x cs,r M x cs ->cs.length=1) (dt:∀ M x cs,r M x cs ->∀ u∈cs,u.oneCell'=true) (oJ:∀ M M' x cs,bm M M' ->r M x cs ->r M' x cs)
 (hC:∀ M M',bm M M' ->C M ->C M') (KG:C M) (KI:most<=400) (hg:eQ M) (hl:RS M gC 3 aU lv) (cu:dw en g most aU≠ .out) (T:Tm):
 bV Tryz.prog 46 [.pointer (some ⟨pb,0,none⟩),.int .i64 (most:Int),.func (.func gf) ⟨fa⟩ ⟨fc⟩] T M (pL pb lv en op) [] (fH pb en op (fun l v M=>RS M (r M) 1 l v) (dw en g most aU)) (gl pb en (dw en g most aU)):=by
 refine az F46 rfl rfl ?_
 intro bi _
 simp only [aK] at bi
 simp +contextual only [go_sem,aD,sevalprocAttr]
 refine gn (fun m e ds h=>ds=[]/\e 0=.pointer (some ⟨pb,0,none⟩)/\e 1=.int .i64 (most:Int)/\e 2=.func (.func gf) ⟨fa⟩ ⟨fc⟩/\
  ∃ M' t' lv' acc,m+acc.length=most/\bm M M'/\M' pb=none/\RS M' gC 3 t' lv'/\dw en g most aU=(dw en g m t').bind (fun l t=> .ok (acc++l) t)/\
   ((acc=[]/\e 7=.slice none 0 0/\h=⟨T,M',pL pb lv' en op,[]⟩)\/∃ ra rc xs,e 7=.slice ra acc.length rc/\RL (r M') acc xs/\h=⟨T,M',pL pb lv' en op,[(.slice ra acc.length rc,30,1,xs)]⟩))
  ⟨most,rfl,by simp only [go_sem,sevalprocAttr],by simp only [go_sem,sevalprocAttr],by simp only [go_sem,sevalprocAttr],M,aU,lv,[],by simp,bm.rfl',bi,hl,by cases dw en g most aU<;>rfl,.inl ⟨rfl,by simp only [go_sem,sevalprocAttr],rfl⟩⟩ ?_
 rintro m e ds h ⟨rfl,e0,e1,e2,M1,t1,lv1,acc,hm,aV,np,gK,am,kh⟩
 have lC:=hg.ext aV
 cases m with
 | zero=>
  have bq:(acc.length:Int)=(most:Int):=by omega
  have lD:dw en g most aU=.err 5 (pf en t1):=am
  rcases kh with ⟨rfl,e7,rfl⟩ | ⟨ra,rc,xs,e7,fM,rfl⟩
  ·have bq:(0:Int)=(most:Int):=by simpa using bq
   simp +contextual only [go_sem,aD,sevalprocAttr,e0,e1,e7,bq]
   refine mp [] gK ?_
   simp +contextual only [go_sem,sevalprocAttr]
   exact fy [] aF.rfl' lD
  ·simp +contextual only [go_sem,aD,sevalprocAttr,e0,e1,e7,bq]
   refine mp [] gK ?_
   simp +contextual only [go_sem,sevalprocAttr]
   exact fy [] aF.rfl' lD
 | succ m=>
  have bq:¬ (acc.length:Int)=(most:Int):=by omega
  simp only [dw,Rs.bind_assoc] at am
  rcases kh with ⟨rfl,e7,rfl⟩ | ⟨ra,rc,xs,e7,fM,rfl⟩
  ·have bq:¬ (0:Int)=(most:Int):=by simpa using bq
   simp +contextual only [go_sem,aD,sevalprocAttr,e1,e2,e7,bq]
   refine cm [] aF.rfl' am cu (fun h=>Hx M1 t1 lv1 T lC (hC _ _ aV KG) gK h) ?_
   rintro v M2 a t2 lv2 bh aZ am fp hv
   obtain ⟨cs,fS,hr⟩:=hE _ _ _ hv
   have cM:=dS _ _ _ hr
   simp only [nn,aK] at aZ
   have ju:=fS
   simp only [Value.cells] at ju
   simp +contextual only [go_sem,sevalprocAttr,ju,cM]
   intro b hb tG
   refine mH yh Aj (.slice _ 1 _ _ _ Tryz.underlying24 (cD [] hb trivial (by rw [cM])) (dt _ _ _ hr)) (by rw [cM];decide) ?_
   intro ra rm rc jc
   have jA:rm=1:=by rw [cM] at jc;omega
   subst jA
   simp +contextual only [go_sem,sevalprocAttr,e0]
   refine iz [(b,_)] kH fp (fun hs lv3 fF=> ?_) (fun hs lv3 fF=> ?_)
   ·rw [if_pos hs,Rs.bind_assoc] at am
    simp +contextual only [go_sem,aD,sevalprocAttr]
    rw [eJ]
    refine al (aB ⟨m,by omega,rfl,?_,?_,?_,M2,t2.tail,lv3,[a],by simp only [ln] at hm ⊢;omega,aV.trans bh,aZ,fF,am,.inr ⟨ra,rc,cs,?_,dj hr,rfl⟩⟩)
    all_goals simp only [e0,e1,e2,go_sem,sevalprocAttr]
   ·rw [if_neg (by simp [hs])] at am
    simp +contextual only [go_sem,aD,sevalprocAttr]
    refine al (cK fun M3 bE bB iG=>aQ aF.rfl' rfl rfl ?_)
    exact ⟨[a],t2,lv3,am,rfl,aH bE (fun _ _ h=>h) fF,rfl,⟨by simp,cs,iG,dj (oJ _ _ _ _ bE hr)⟩⟩
  ·simp +contextual only [go_sem,aD,sevalprocAttr,e1,e2,e7,bq]
   refine cm [] aF.rfl' am cu (fun h=>Hx M1 t1 lv1 T lC (hC _ _ aV KG) gK h) ?_
   rintro v M2 a t2 lv2 bh aZ am fp hv
   obtain ⟨cs,fS,hr⟩:=hE _ _ _ hv
   have cM:=dS _ _ _ hr
   have iH:=eL (dS M1) fM
   have Db:RL (r M2) acc xs:=dl (fun x cs h=>oJ _ _ _ _ bh h) fM
   simp only [nn,aK] at aZ
   have ju:=fS
   simp only [Value.cells] at ju
   simp +contextual only [go_sem,sevalprocAttr,ju,cM]
   intro b hb tG
   refine gL yh Aj (.slice _ 1 _ _ _ Tryz.underlying24 (cD [] hb trivial (by rw [cM])) (dt _ _ _ hr)) (by rw [cM,iH];omega) ?_
   intro ra' rm rc' jc
   have jA:rm=(acc++[a]).length:=by
    rw [cM,iH] at jc
    rw [List.length_append,List.length_cons,List.length_nil]
    omega
   subst jA
   have bj:=cP Db (dj hr)
   simp +contextual only [go_sem,sevalprocAttr,e0]
   refine iz [(b,_)] kH fp (fun hs lv3 fF=> ?_) (fun hs lv3 fF=> ?_)
   ·rw [if_pos hs,Rs.bind_assoc] at am
    simp +contextual only [go_sem,aD,sevalprocAttr]
    rw [eJ]
    refine al (aB ⟨m,by omega,rfl,?_,?_,?_,M2,t2.tail,lv3,acc++[a],by rw [List.length_append];simp only [ln];omega,aV.trans bh,aZ,fF,?_,.inr ⟨ra',rc',xs++cs,?_,bj,rfl⟩⟩)
    ·simp only [e0,go_sem,sevalprocAttr]
    ·simp only [e1,go_sem,sevalprocAttr]
    ·simp only [e2,go_sem,sevalprocAttr]
    ·rw [am]
     congr 1
     funext l t
     simp [Rs.bind]
    ·simp only [nX,go_sem,sevalprocAttr]
   ·rw [if_neg (by simp [hs])] at am
    simp +contextual only [go_sem,aD,sevalprocAttr]
    refine al (cK fun M3 bE bB iG=>aQ aF.rfl' rfl rfl ?_)
    exact ⟨acc++[a],t2,lv3,am,rfl,aH bE (fun _ _ h=>h) fF,rfl,⟨by rw [List.length_append];simp only [ln];omega,xs++cs,iG,dl (fun x cs h=>oJ _ _ _ _ bE h) bj⟩⟩
theorem O9 {α:Type}{M:aS}{pb gf:Nat}{aU:List Tk}{lv:Value}{en op:Int}{fa fc:List Value}{g:List Tk ->Rs α}{r:aS ->α ->List Value ->Prop}{enc:α ->Value ->aS ->Prop}{C:aS ->Prop}(most:Nat)
 (Hx:∀ (M:aS) (t:List Tk) (lv:Value) (T:Tm),eQ M ->C M ->RS M gC 3 t lv ->g t≠ .out ->bV Tryz.prog gf (fa++fc) T M (pL pb lv en op) [] (fH pb en op enc (g t)) (gl pb en (g t)))
 (hE:∀ x v M,enc x v M ->∃ cs,v.cells.toList=cs/\r M x cs) (dS:∀ M x cs,r M x cs ->cs.length=3) (dt:∀ M x cs,r M x cs ->∀ u∈cs,u.oneCell'=true) (oJ:∀ M M' x cs,bm M M' ->r M x cs ->r M' x cs)
 (hC:∀ M M',bm M M' ->C M ->C M') (KG:C M) (KI:most<=400) (hg:eQ M) (hl:RS M gC 3 aU lv) (cu:dw en g most aU≠ .out) (T:Tm):
 bV Tryz.prog 80 [.pointer (some ⟨pb,0,none⟩),.int .i64 (most:Int),.func (.func gf) ⟨fa⟩ ⟨fc⟩] T M (pL pb lv en op) [] (fH pb en op (fun l v M=>RS M (r M) 3 l v) (dw en g most aU)) (gl pb en (dw en g most aU)):=by
 refine az F80 rfl rfl ?_
 intro bi _
 simp only [aK] at bi
 simp +contextual only [go_sem,aD,sevalprocAttr]
 refine gn (fun m e ds h=>ds=[]/\e 0=.pointer (some ⟨pb,0,none⟩)/\e 1=.int .i64 (most:Int)/\e 2=.func (.func gf) ⟨fa⟩ ⟨fc⟩/\
  ∃ M' t' lv' acc,m+acc.length=most/\bm M M'/\M' pb=none/\RS M' gC 3 t' lv'/\dw en g most aU=(dw en g m t').bind (fun l t=> .ok (acc++l) t)/\
   ((acc=[]/\e 7=.slice none 0 0/\h=⟨T,M',pL pb lv' en op,[]⟩)\/∃ ra rc xs,e 7=.slice ra acc.length rc/\RL (r M') acc xs/\h=⟨T,M',pL pb lv' en op,[(.slice ra acc.length rc,28,3,xs)]⟩))
  ⟨most,rfl,by simp only [go_sem,sevalprocAttr],by simp only [go_sem,sevalprocAttr],by simp only [go_sem,sevalprocAttr],M,aU,lv,[],by simp,bm.rfl',bi,hl,by cases dw en g most aU<;>rfl,.inl ⟨rfl,by simp only [go_sem,sevalprocAttr],rfl⟩⟩ ?_
 rintro m e ds h ⟨rfl,e0,e1,e2,M1,t1,lv1,acc,hm,aV,np,gK,am,kh⟩
 have lC:=hg.ext aV
 cases m with
 | zero=>
  have bq:(acc.length:Int)=(most:Int):=by omega
  have lD:dw en g most aU=.err 5 (pf en t1):=am
  rcases kh with ⟨rfl,e7,rfl⟩ | ⟨ra,rc,xs,e7,fM,rfl⟩
  ·have bq:(0:Int)=(most:Int):=by simpa using bq
   simp +contextual only [go_sem,aD,sevalprocAttr,e0,e1,e7,bq]
   refine mp [] gK ?_
   simp +contextual only [go_sem,sevalprocAttr]
   exact fy [] aF.rfl' lD
  ·simp +contextual only [go_sem,aD,sevalprocAttr,e0,e1,e7,bq]
   refine mp [] gK ?_
   simp +contextual only [go_sem,sevalprocAttr]
   exact fy [] aF.rfl' lD
 | succ m=>
  have bq:¬ (acc.length:Int)=(most:Int):=by omega
  simp only [dw,Rs.bind_assoc] at am
  rcases kh with ⟨rfl,e7,rfl⟩ | ⟨ra,rc,xs,e7,fM,rfl⟩
  ·have bq:¬ (0:Int)=(most:Int):=by simpa using bq
   simp +contextual only [go_sem,aD,sevalprocAttr,e1,e2,e7,bq]
   refine cm [] aF.rfl' am cu (fun h=>Hx M1 t1 lv1 T lC (hC _ _ aV KG) gK h) ?_
   rintro v M2 a t2 lv2 bh aZ am fp hv
   obtain ⟨cs,fS,hr⟩:=hE _ _ _ hv
   have cM:=dS _ _ _ hr
   simp only [nn,aK] at aZ
   have ju:=fS
   simp only [Value.cells] at ju
   simp +contextual only [go_sem,sevalprocAttr,ju,cM]
   intro b hb tG
   refine mH zG yP (.slice _ 1 _ _ _ Tryz.underlying30 (cD [] hb trivial (by rw [cM])) (dt _ _ _ hr)) (by rw [cM];decide) ?_
   intro ra rm rc jc
   have jA:rm=1:=by rw [cM] at jc;omega
   subst jA
   simp +contextual only [go_sem,sevalprocAttr,e0]
   refine iz [(b,_)] kH fp (fun hs lv3 fF=> ?_) (fun hs lv3 fF=> ?_)
   ·rw [if_pos hs,Rs.bind_assoc] at am
    simp +contextual only [go_sem,aD,sevalprocAttr]
    rw [eJ]
    refine al (aB ⟨m,by omega,rfl,?_,?_,?_,M2,t2.tail,lv3,[a],by simp only [ln] at hm ⊢;omega,aV.trans bh,aZ,fF,am,.inr ⟨ra,rc,cs,?_,dj hr,rfl⟩⟩)
    all_goals simp only [e0,e1,e2,go_sem,sevalprocAttr]
   ·rw [if_neg (by simp [hs])] at am
    simp +contextual only [go_sem,aD,sevalprocAttr]
    refine al (cK fun M3 bE bB iG=>aQ aF.rfl' rfl rfl ?_)
    exact ⟨[a],t2,lv3,am,rfl,aH bE (fun _ _ h=>h) fF,rfl,⟨by simp,cs,iG,dj (oJ _ _ _ _ bE hr)⟩⟩
  ·simp +contextual only [go_sem,aD,sevalprocAttr,e1,e2,e7,bq]
   refine cm [] aF.rfl' am cu (fun h=>Hx M1 t1 lv1 T lC (hC _ _ aV KG) gK h) ?_
   rintro v M2 a t2 lv2 bh aZ am fp hv
   obtain ⟨cs,fS,hr⟩:=hE _ _ _ hv
   have cM:=dS _ _ _ hr
   have iH:=eL (dS M1) fM
   have Db:RL (r M2) acc xs:=dl (fun x cs h=>oJ _ _ _ _ bh h) fM
   simp only [nn,aK] at aZ
   have ju:=fS
   simp only [Value.cells] at ju
   simp +contextual only [go_sem,sevalprocAttr,ju,cM]
   intro b hb tG
   refine gL zG yP (.slice _ 1 _ _ _ Tryz.underlying30 (cD [] hb trivial (by rw [cM])) (dt _ _ _ hr)) (by rw [cM,iH];omega) ?_
   intro ra' rm rc' jc
   have jA:rm=(acc++[a]).length:=by
    rw [cM,iH] at jc
    rw [List.length_append,List.length_cons,List.length_nil]
    omega
   subst jA
   have bj:=cP Db (dj hr)
   simp +contextual only [go_sem,sevalprocAttr,e0]
   refine iz [(b,_)] kH fp (fun hs lv3 fF=> ?_) (fun hs lv3 fF=> ?_)
   ·rw [if_pos hs,Rs.bind_assoc] at am
    simp +contextual only [go_sem,aD,sevalprocAttr]
    rw [eJ]
    refine al (aB ⟨m,by omega,rfl,?_,?_,?_,M2,t2.tail,lv3,acc++[a],by rw [List.length_append];simp only [ln];omega,aV.trans bh,aZ,fF,?_,.inr ⟨ra',rc',xs++cs,?_,bj,rfl⟩⟩)
    ·simp only [e0,go_sem,sevalprocAttr]
    ·simp only [e1,go_sem,sevalprocAttr]
    ·simp only [e2,go_sem,sevalprocAttr]
    ·rw [am]
     congr 1
     funext l t
     simp [Rs.bind]
    ·simp only [nX,go_sem,sevalprocAttr]
   ·rw [if_neg (by simp [hs])] at am
    simp +contextual only [go_sem,aD,sevalprocAttr]
    refine al (cK fun M3 bE bB iG=>aQ aF.rfl' rfl rfl ?_)
    exact ⟨acc++[a],t2,lv3,am,rfl,aH bE (fun _ _ h=>h) fF,rfl,⟨by rw [List.length_append];simp only [ln];omega,xs++cs,iG,dl (fun x cs h=>oJ _ _ _ _ bE h) bj⟩⟩
theorem I3 {α:Type}{M:aS}{pb gf:Nat}{aU:List Tk}{lv:Value}{en op:Int}{fa fc:List Value}{g:List Tk ->Rs α}{r:aS ->α ->List Value ->Prop}{enc:α ->Value ->aS ->Prop}{C:aS ->Prop}(most:Nat)
 (Hx:∀ (M:aS) (t:List Tk) (lv:Value) (T:Tm),eQ M ->C M ->RS M gC 3 t lv ->g t≠ .out ->bV Tryz.prog gf (fa++fc) T M (pL pb lv en op) [] (fH pb en op enc (g t)) (gl pb en (g t)))
 (hE:∀ x v M,enc x v M ->∃ cs,v.cells.toList=cs/\r M x cs) (dS:∀ M x cs,r M x cs ->cs.length=8) (dt:∀ M x cs,r M x cs ->∀ u∈cs,u.oneCell'=true) (oJ:∀ M M' x cs,bm M M' ->r M x cs ->r M' x cs)
 (hC:∀ M M',bm M M' ->C M ->C M') (KG:C M) (KI:most<=400) (hg:eQ M) (hl:RS M gC 3 aU lv) (cu:dw en g most aU≠ .out) (T:Tm):
 bV Tryz.prog 120 [.pointer (some ⟨pb,0,none⟩),.int .i64 (most:Int),.func (.func gf) ⟨fa⟩ ⟨fc⟩] T M (pL pb lv en op) [] (fH pb en op (fun l v M=>RS M (r M) 8 l v) (dw en g most aU)) (gl pb en (dw en g most aU)):=by
 refine az ahT rfl rfl ?_
 intro bi _
 simp only [aK] at bi
 simp +contextual only [go_sem,aD,sevalprocAttr]
 refine gn (fun m e ds h=>ds=[]/\e 0=.pointer (some ⟨pb,0,none⟩)/\e 1=.int .i64 (most:Int)/\e 2=.func (.func gf) ⟨fa⟩ ⟨fc⟩/\
  ∃ M' t' lv' acc,m+acc.length=most/\bm M M'/\M' pb=none/\RS M' gC 3 t' lv'/\dw en g most aU=(dw en g m t').bind (fun l t=> .ok (acc++l) t)/\
   ((acc=[]/\e 7=.slice none 0 0/\h=⟨T,M',pL pb lv' en op,[]⟩)\/∃ ra rc xs,e 7=.slice ra acc.length rc/\RL (r M') acc xs/\h=⟨T,M',pL pb lv' en op,[(.slice ra acc.length rc,216,8,xs)]⟩))
  ⟨most,rfl,by simp only [go_sem,sevalprocAttr],by simp only [go_sem,sevalprocAttr],by simp only [go_sem,sevalprocAttr],M,aU,lv,[],by simp,bm.rfl',bi,hl,by cases dw en g most aU<;>rfl,.inl ⟨rfl,by simp only [go_sem,sevalprocAttr],rfl⟩⟩ ?_
 rintro m e ds h ⟨rfl,e0,e1,e2,M1,t1,lv1,acc,hm,aV,np,gK,am,kh⟩
 have lC:=hg.ext aV
 cases m with
 | zero=>
  have bq:(acc.length:Int)=(most:Int):=by omega
  have lD:dw en g most aU=.err 5 (pf en t1):=am
  rcases kh with ⟨rfl,e7,rfl⟩ | ⟨ra,rc,xs,e7,fM,rfl⟩
  ·have bq:(0:Int)=(most:Int):=by simpa using bq
   simp +contextual only [go_sem,aD,sevalprocAttr,e0,e1,e7,bq]
   refine mp [] gK ?_
   simp +contextual only [go_sem,sevalprocAttr]
   exact fy [] aF.rfl' lD
  ·simp +contextual only [go_sem,aD,sevalprocAttr,e0,e1,e7,bq]
   refine mp [] gK ?_
   simp +contextual only [go_sem,sevalprocAttr]
   exact fy [] aF.rfl' lD
 | succ m=>
  have bq:¬ (acc.length:Int)=(most:Int):=by omega
  simp only [dw,Rs.bind_assoc] at am
  rcases kh with ⟨rfl,e7,rfl⟩ | ⟨ra,rc,xs,e7,fM,rfl⟩
  ·have bq:¬ (0:Int)=(most:Int):=by simpa using bq
   simp +contextual only [go_sem,aD,sevalprocAttr,e1,e2,e7,bq]
   refine cm [] aF.rfl' am cu (fun h=>Hx M1 t1 lv1 T lC (hC _ _ aV KG) gK h) ?_
   rintro v M2 a t2 lv2 bh aZ am fp hv
   obtain ⟨cs,fS,hr⟩:=hE _ _ _ hv
   have cM:=dS _ _ _ hr
   simp only [nn,aK] at aZ
   have ju:=fS
   simp only [Value.cells] at ju
   simp +contextual only [go_sem,sevalprocAttr,ju,cM]
   intro b hb tG
   refine mH Ib JY (.slice _ 1 _ _ _ Tryz.underlying153 (cD [] hb trivial (by rw [cM])) (dt _ _ _ hr)) (by rw [cM];decide) ?_
   intro ra rm rc jc
   have jA:rm=1:=by rw [cM] at jc;omega
   subst jA
   simp +contextual only [go_sem,sevalprocAttr,e0]
   refine iz [(b,_)] kH fp (fun hs lv3 fF=> ?_) (fun hs lv3 fF=> ?_)
   ·rw [if_pos hs,Rs.bind_assoc] at am
    simp +contextual only [go_sem,aD,sevalprocAttr]
    rw [eJ]
    refine al (aB ⟨m,by omega,rfl,?_,?_,?_,M2,t2.tail,lv3,[a],by simp only [ln] at hm ⊢;omega,aV.trans bh,aZ,fF,am,.inr ⟨ra,rc,cs,?_,dj hr,rfl⟩⟩)
    all_goals simp only [e0,e1,e2,go_sem,sevalprocAttr]
   ·rw [if_neg (by simp [hs])] at am
    simp +contextual only [go_sem,aD,sevalprocAttr]
    refine al (cK fun M3 bE bB iG=>aQ aF.rfl' rfl rfl ?_)
    exact ⟨[a],t2,lv3,am,rfl,aH bE (fun _ _ h=>h) fF,rfl,⟨by simp,cs,iG,dj (oJ _ _ _ _ bE hr)⟩⟩
  ·simp +contextual only [go_sem,aD,sevalprocAttr,e1,e2,e7,bq]
   refine cm [] aF.rfl' am cu (fun h=>Hx M1 t1 lv1 T lC (hC _ _ aV KG) gK h) ?_
   rintro v M2 a t2 lv2 bh aZ am fp hv
   obtain ⟨cs,fS,hr⟩:=hE _ _ _ hv
   have cM:=dS _ _ _ hr
   have iH:=eL (dS M1) fM
   have Db:RL (r M2) acc xs:=dl (fun x cs h=>oJ _ _ _ _ bh h) fM
   simp only [nn,aK] at aZ
   have ju:=fS
   simp only [Value.cells] at ju
   simp +contextual only [go_sem,sevalprocAttr,ju,cM]
   intro b hb tG
   refine gL Ib JY (.slice _ 1 _ _ _ Tryz.underlying153 (cD [] hb trivial (by rw [cM])) (dt _ _ _ hr)) (by rw [cM,iH];omega) ?_
   intro ra' rm rc' jc
   have jA:rm=(acc++[a]).length:=by
    rw [cM,iH] at jc
    rw [List.length_append,List.length_cons,List.length_nil]
    omega
   subst jA
   have bj:=cP Db (dj hr)
   simp +contextual only [go_sem,sevalprocAttr,e0]
   refine iz [(b,_)] kH fp (fun hs lv3 fF=> ?_) (fun hs lv3 fF=> ?_)
   ·rw [if_pos hs,Rs.bind_assoc] at am
    simp +contextual only [go_sem,aD,sevalprocAttr]
    rw [eJ]
    refine al (aB ⟨m,by omega,rfl,?_,?_,?_,M2,t2.tail,lv3,acc++[a],by rw [List.length_append];simp only [ln];omega,aV.trans bh,aZ,fF,?_,.inr ⟨ra',rc',xs++cs,?_,bj,rfl⟩⟩)
    ·simp only [e0,go_sem,sevalprocAttr]
    ·simp only [e1,go_sem,sevalprocAttr]
    ·simp only [e2,go_sem,sevalprocAttr]
    ·rw [am]
     congr 1
     funext l t
     simp [Rs.bind]
    ·simp only [nX,go_sem,sevalprocAttr]
   ·rw [if_neg (by simp [hs])] at am
    simp +contextual only [go_sem,aD,sevalprocAttr]
    refine al (cK fun M3 bE bB iG=>aQ aF.rfl' rfl rfl ?_)
    exact ⟨acc++[a],t2,lv3,am,rfl,aH bE (fun _ _ h=>h) fF,rfl,⟨by rw [List.length_append];simp only [ln];omega,xs++cs,iG,dl (fun x cs h=>oJ _ _ _ _ bE h) bj⟩⟩
def UV (en:Int)(t:List Tk):Rs V:=(jz en t).bind fun o t=>match o with
 | some v=> .ok v t
 | none=> .err 2 (pf en t)
theorem Lq {en:Int}{t:List Tk}:wK en t≠ .out:=by
 unfold wK
 generalize (if bD kX t=true then t.tail else t)=u
 cases u with
 | nil=>simp [rB]
 | cons t r=>
  simp only [rB]
  split
  ·split<;>simp
  ·simp
theorem Bt {en:Int}{t:List Tk}:jz en t≠ .out:=by
 unfold jz
 repeat' split
 all_goals first | simp | skip
 intro h
 cases hn:wK en t with
 | out=>exact Lq hn
 | ok a r=>rw [hn] at h;cases h
 | err e a=>rw [hn] at h;cases h
theorem Kx {en:Int}{t:List Tk}:UV en t≠ .out:=by
 unfold UV
 cases hn:jz en t with
 | out=>exact (Bt hn).elim
 | ok a r=>simp only [Rs.bind];split<;>simp
 | err e a=>simp [Rs.bind]
def SJ (x:V)(v:Value)(_:aS):Prop:=v=.agg ⟨x.cs⟩
theorem W0 {M:aS}{pb bc:Nat}{aU:List Tk}{lv:Value}{en op:Int}(hc:M bc=some [.pointer (some ⟨pb,0,none⟩)])(hl:RS M gC 3 aU lv)(T:Tm):
 bV Tryz.prog 81 [.pointer (some ⟨bc,0,none⟩)] T M (pL pb lv en op) [] (fH pb en op SJ (UV en aU)) (gl pb en (UV en aU)):=by
 refine az F81 rfl rfl ?_
 intro bi _
 simp only [aK] at bi
 simp +contextual only [go_sem,sevalprocAttr,bg hc]
 intro b2 T2 dN fh dy ei
 refine cm [(b2,_)] dy rfl Kx (fun _=>xT hl T2) ?_
 rintro v M1 o t lv1 aV bG am gK hv
 have Vl:=aV _ _ hc
 simp only [nn,aJ,aK] at bG
 cases o with
 | some x=>
  simp only [Um] at hv;subst hv
  simp +contextual only [go_sem,aD,sevalprocAttr,bG,V.cs]
  intro b3 T3 ii df fV gD
  refine al (al (aQ (dy.trans fV) rfl rfl ?_))
  exact ⟨x,t,lv1,am,rfl,gK,rfl,rfl⟩
 | none=>
  simp only [Um] at hv;subst hv
  simp +contextual only [go_sem,aD,sevalprocAttr,V.cs,bg Vl]
  intro b3 T3 ii df fV gD
  refine mp [(b3,_),(b2,_)] gK ?_
  simp +contextual only [go_sem,sevalprocAttr]
  exact fy [(b3,_),(b2,_)] (dy.trans fV) am
def QH (en:Int)(t:List Tk):Rs (List V):=(bZ en [rJ] t).bind fun _ t=>(dw en (UV en) 8 t).bind fun l t=>(bZ en [kC] t).bind fun _ t=> .ok l t
theorem bw {α β:Type}{g:Rs α}{f:α ->List Tk ->Rs β}(hg:g≠ .out)(hf:∀ a t,f a t≠ .out):g.bind f≠ .out:=by
 cases g with
 | out=>exact (hg rfl).elim
 | ok a t=>exact hf a t
 | err e a=>simp [Rs.bind]
theorem nN {α:Type}{en:Int}{g:List Tk ->Rs α}(hg:∀ t,g t≠ .out):∀ {n t},dw en g n t≠ .out:=by
 intro n
 induction n with
 | zero=>intro t;simp [dw]
 | succ n ih=>
  intro t
  refine bw (hg t) fun a t=> ?_
  split
  ·exact bw ih fun _ _=>by simp
  ·simp
theorem KN {en:Int}{t:List Tk}:QH en t≠ .out:=bw ef fun _ _=>bw (nN fun _=>Kx) fun _ _=>bw ef fun _ _=>by simp
def S9 (l:List V)(v:Value)(M:aS):Prop:=RS M RV 3 l v
theorem eM {v:V}{cs}(h:RV v cs):cs.length=3:=by unfold RV at h;subst h;rfl
theorem abz {M:aS}{pb:Nat}{aU:List Tk}{lv:Value}{en op:Int}(hg:eQ M)(hl:RS M gC 3 aU lv)(T:Tm):
 bV Tryz.prog 47 [.pointer (some ⟨pb,0,none⟩)] T M (pL pb lv en op) [] (fH pb en op S9 (QH en aU)) (gl pb en (QH en aU)):=by
 refine az F47 rfl rfl ?_
 intro bi _
 simp only [aK] at bi
 simp +contextual only [go_sem,sevalprocAttr]
 intro b1 T1 fx vu dh fT b5 j6 ea
 refine dM [(b1,_)] dh rfl hl ?_
 intro M2 lv2 bh aZ am fp
 simp only [nn,aJ,aK] at aZ
 simp +contextual only [go_sem,sevalprocAttr,aZ]
 refine cZ F80.bd fun M3 bE ii bB=> ?_
 have fF:=aH bE (fun _ _ h=>h) fp
 have cu:=KN (en:=en) (t:=aU)
 refine cm [] dh am cu (fun h=>O9 (fa:=[]) (fc:=[.pointer (some ⟨b1,0,none⟩)]) (C:=fun M=>M b1=some [.pointer (some ⟨pb,0,none⟩)]) (r:=fun _=>RV) 8
  (fun M t lv T _ hc hl _=>W0 hc hl T) (fun x v M h=>⟨x.cs,by unfold SJ at h;subst h;rfl,rfl⟩) (fun _ _ _ h=>eM h) (fun _ x _ h=>by unfold RV at h;subst h;intro u hu;simp only [V.cs,mn] at hu;rcases hu with rfl | rfl | rfl<;>rfl)
  (fun _ _ _ _ _ h=>h) (fun M M' he h=>he _ _ h) ii (by decide) ((hg.ext bh).ext bE) fF h T1) ?_
 rintro v M4 l t lv4 dD de am kf hv
 have hc4:=dD _ _ ii
 simp only [nn,aK] at de
 simp +contextual only [go_sem,sevalprocAttr,bg hc4]
 intro b6 pt gE
 refine dM [] dh am kf ?_
 intro M5 lv5 dJ bR am gZ
 simp +contextual only [go_sem,sevalprocAttr]
 refine aQ dh rfl rfl ?_
 exact ⟨l,_,lv5,am,rfl,gZ,rfl,aH dJ (fun _ _ h=>h) hv⟩
abbrev Wm:Bs:=[115,101,108,101,99,116]
abbrev jI:Bs:=[100,105,115,116,105,110,99,116]
abbrev YC:Bs:=[102,114,111,109]
abbrev rZ:Bs:=[119,104,101,114,101]
abbrev IU:Bs:=[103,114,111,117,112]
abbrev wBy:Bs:=[98,121]
abbrev xf:Bs:=[104,97,118,105,110,103]
abbrev H9:Bs:=[111,114,100,101,114]
abbrev aa3:Bs:=[108,105,109,105,116]
abbrev Kd:Bs:=[99,114,101,97,116,101]
abbrev Y5:Bs:=[118,105,101,119]
abbrev abd:Bs:=[116,97,98,108,101]
abbrev Lh:Bs:=[105,110,115,101,114,116]
abbrev aer:Bs:=[105,110,116,111]
abbrev Wl:Bs:=[118,97,108,117,101,115]
abbrev Mc:Bs:=[100,101,108,101,116,101]
abbrev agd:Bs:=[115,104,111,119]
def yb (en:Int)(ex:List Tk ->Rs X):Nat ->List Tk ->Rs (List So)
 | ly,t=>(uo en t).bind fun k t=>if 0<k then (match ly with
  | 0=> .err 5 (pf en t)
  | r+1=>(mI en ex k t).bind fun s t=>(yb en ex r t).bind fun l t=> .ok (s::l) t) else .ok [] t
def vw (en:Int)(ex:List Tk ->Rs X)(ly:Nat)(k:Int)(t:List Tk):Rs (List So):=if 0<k then (match ly with
 | 0=> .err 5 (pf en t)
 | r+1=>(mI en ex k t).bind fun s t=>(yb en ex r t).bind fun l t=> .ok (s::l) t) else .ok [] t
theorem qT (en:Int)(ex:List Tk ->Rs X)(ly:Nat)(t:List Tk):yb en ex ly t=(uo en t).bind (vw en ex ly):=by
 cases ly<;>rfl
def tl (b:Bool)(t:List Tk):List Tk:=if b=true then t.tail else t
def Dh (ex:List Tk ->Rs X)(w:Bs)(t:List Tk):Rs X:=if bD w t=true then ex t.tail else .ok jZ t
def aab (en:Int)(ex:List Tk ->Rs X)(t:List Tk):Rs (List X):=if bD IU t=true then (bZ en [wBy] t.tail).bind fun _ t=>dw en ex 8 t else .ok [] t
def U5 (ex:List Tk ->Rs X)(d s:Bool)(items:List It)(src:List So)(w:Bool)(wh:X)(group:List X)(t:List Tk):Rs Se:=
 (Dh ex xf t).bind fun hv t'=> .ok ⟨d,s,items,src,w,bD xf t,wh,hv,group⟩ t'
def Sf (en:Int)(ex:List Tk ->Rs X)(d s:Bool)(items:List It)(src:List So)(w:Bool)(wh:X)(t:List Tk):Rs Se:=
 (aab en ex t).bind fun group t=>U5 ex d s items src w wh group t
def Le (en:Int)(ex:List Tk ->Rs X)(d s:Bool)(items:List It)(src:List So)(t:List Tk):Rs Se:=
 (Dh ex rZ t).bind fun wh t'=>Sf en ex d s items src (bD rZ t) wh t'
def YO (en:Int)(ex:List Tk ->Rs X)(d s:Bool)(items:List It)(t:List Tk):Rs Se:=
 (bZ en [YC] t).bind fun _ t=>(mI en ex 1 t).bind fun s0 t=>(yb en ex 3 t).bind fun src t=>Le en ex d s items (s0::src) t
def w8 (en:Int)(ex:List Tk ->Rs X)(t:List Tk):Rs Se:=
 (bZ en [Wm] t).bind fun _ t0=>
 (if bD zL (tl (bD jI t0) t0)=true then .ok [] (tl (bD jI t0) t0).tail else dw en (A8 en ex) 8 (tl (bD jI t0) t0)).bind fun items t=>
 YO en ex (bD jI t0) (bD zL (tl (bD jI t0) t0)) items t
def afp (i:Se)(v:Value)(M:aS):Prop:=∃ cs,v=.agg ⟨cs⟩/\Hw M i cs
theorem Rx {M:aS}{x:It}{cs:List Value}(h:Am M x cs):∀ u∈cs,u.oneCell'=true:=by
 obtain ⟨c,hx,rfl⟩:=h
 intro u hu
 rcases wZ hu with hu | hu
 ·exact lJ hx u hu
 ·simp only [List.mem_singleton] at hu;subst hu;rfl
theorem E2 {M:aS}{x:So}{cs:List Value}(h:Gx M x cs):∀ u∈cs,u.oneCell'=true:=by
 obtain ⟨c,hx,rfl⟩:=h
 intro u hu
 rcases wZ hu with hu | hu
 ·simp only [mn] at hu
  rcases hu with rfl | rfl | rfl<;>rfl
 ·exact lJ hx u hu
theorem dA {α:Type}{r:α ->List Value ->Prop}{sz:Nat}{M:aS}{l:List α}{v:Value}(h:RS M r sz l v):v.oneCell'=true/\v.cells.toList=[v]:=by
 obtain ⟨_,_,h2,_⟩:=h
 rcases h2 with ⟨_,_,rfl,_⟩ | ⟨b,o,n,c,rfl,_⟩<;>exact ⟨rfl,rfl⟩
theorem bu {α:Type}{r:α ->List Value ->Prop}{sz:Nat}{M:aS}:RS M r sz [] (.slice none 0 0):=⟨by simp,[],.inl ⟨_,_,rfl,rfl,fun _=>rfl⟩,rfl⟩
theorem EN {M:aS}{x:So}{cs:List Value}(h:Gx M x cs):∃ a1 a2 a3 a4 a5 a6 a7,cs=[.int .i64 x.k,st x.name,st x.as,a1,a2,a3,a4,a5,a6,a7]:=by
 obtain ⟨c,hx,rfl⟩:=h
 obtain ⟨a1,a2,a3,a4,a5,a6,a7,rfl⟩:=Dq (dT hx)
 exact ⟨a1,a2,a3,a4,a5,a6,a7,rfl⟩
def oN (M:aS)(R:RR)(fv:Value)(acc:List So):Prop:=
 (∃ bF xs,R=[]/\fv=.slice (some ⟨bF,0,none⟩) 1 1/\acc.length=1/\M bF=some xs/\RL (Gx M) acc xs)\/
 (∃ ra rc xs,R=[(.slice ra acc.length rc,219,10,xs)]/\fv=.slice ra acc.length rc/\RL (Gx M) acc xs)
theorem vG {M:aS}{R:RR}{fv:Value}{acc:List So}(h:oN M R fv acc):∃ a c,fv=.slice a acc.length c:=by
 rcases h with ⟨bF,xs,_,rfl,h,_⟩ | ⟨ra,rc,xs,_,rfl,_⟩
 ·exact ⟨_,_,by rw [h]⟩
 ·exact ⟨_,_,rfl⟩
theorem sE {M M':aS}{R:RR}{fv:Value}{acc:List So}(hM:bm M M')(h:oN M R fv acc):oN M' R fv acc:=by
 rcases h with ⟨bF,xs,h1,h2,h3,h4,h5⟩ | ⟨ra,rc,xs,h1,h2,h3⟩
 ·exact .inl ⟨bF,xs,h1,h2,h3,hM _ _ h4,dl (fun x cs h=>qV hM _ _ h) h5⟩
 ·exact .inr ⟨ra,rc,xs,h1,h2,dl (fun x cs h=>qV hM _ _ h) h3⟩
theorem IY {N M L R fv acc}{k:Sh ->Prop}(h:oN M R fv acc)(hb:acc.length<=400)(hk:∀ M',bm M M' ->aJ M' L ->RS M' (Gx M') 10 acc fv ->cq ⟨N,M',L,[]⟩ k)(bi:aJ M L):cq ⟨N,M,L,R⟩ k:=by
 rcases h with ⟨bF,xs,rfl,rfl,h3,h4,h5⟩ | ⟨ra,rc,xs,rfl,rfl,h3⟩
 ·exact hk M bm.rfl' bi (dB (fun _ _=>oY) h4 h5 h3 (by decide))
 ·exact cK fun M' hM ui iG=>hk M' hM ui ⟨by omega,xs,iG,dl (fun x cs h=>qV hM _ _ h) h3⟩
theorem QZ {F:Fi}{s:List Vc.Item}{e:dp}{ds:List Deferred}{dd:Option Nat}{T:Tm}{M:aS}{L:LL}{R:RR}{b a n c}{acc:List So}{x:So}{cs:List Value}(hf:oN M R (.slice a n c) acc)(hx:Gx M x cs)(hb:M b=none)(bq:acc.length<=400)
 (k:∀ a' c' R',oN M R' (.slice a' (acc.length+1) c') (acc++[x]) ->cy Tryz.prog F s (cI e dd (.slice a' (acc.length+1) c')) ds ⟨T,M,(b,cs)::L,R'⟩ ⟨⟩):
 nG Tryz.prog F 154 154 (.slice a n c) (.slice (some ⟨b,0,none⟩) 1 1) dd s e ds ⟨T,M,(b,cs)::L,R⟩ ⟨⟩:=by
 have cM:=oY hx
 rcases hf with ⟨bF,xs,rfl,h2,h3,h4,h5⟩ | ⟨ra,rc,xs,rfl,h2,h3⟩
 ·injection h2 with h2 HB Ii;subst h2 HB Ii
  have iH:=eL (fun _ _=>oY) h5
  rw [h3] at iH
  refine l4 Je IH (.slice _ 1 _ _ _ Tryz.underlying154 (cD [] hb trivial (by rw [cM])) (E2 hx)) (xs:=xs) ?_ (by rw [cM];decide) (by rw [cM,iH];decide) ?_
  ·have:=xV (h:=⟨T,M,(b,cs)::L,[]⟩) (b:=bF) (cs:=xs) (fun o v hv=>by
    have:aN M ⟨bF,o,none⟩=some v:=by rw [bg h4];exact hv
    simp only [Sh.cell,this]) 10 0 (by omega)
   simpa using this
  ·intro ra rm rc jc
   have:rm=acc.length+1:=by rw [cM,iH] at jc;omega
   subst this
   exact k _ _ _ (.inr ⟨_,_,_,by rw [List.length_append];rfl,by rw [List.length_append];rfl,cP h5 (dj hx)⟩)
 ·injection h2 with h2 HB Ii;subst h2 HB Ii
  have iH:=eL (fun _ _=>oY) h3
  refine gL Je IH (.slice _ 1 _ _ _ Tryz.underlying154 (cD [] hb trivial (by rw [cM])) (E2 hx)) (by rw [cM,iH];omega) ?_
  intro ra rm rc jc
  have:rm=acc.length+1:=by rw [cM,iH] at jc;omega
  subst this
  exact k _ _ _ (.inr ⟨_,_,_,by rw [List.length_append];rfl,by rw [List.length_append];rfl,cP h3 (dj hx)⟩)
theorem Ub {M:aS}{pb:Nat}{aU:List Tk}{lv:Value}{en op:Int}{ex:List Tk ->Rs X}(hg:eQ M)(hl:RS M gC 3 aU lv)(ix:Zs en pb ex op)(cu:w8 en ex aU≠ .out)(T:Tm):
 bV Tryz.prog 76 [.pointer (some ⟨pb,0,none⟩)] T M (pL pb lv en op) [] (fH pb en op afp (w8 en ex aU)) (gl pb en (w8 en ex aU)):=by
 refine az F76 rfl rfl ?_
 intro bi _
 simp only [aK] at bi
 simp +contextual only [go_sem,sevalprocAttr]
 intro b2 T2 dN fh dy ei b5 j6 ea
 refine dM [(b2,_)] dy rfl hl ?_
 intro M1 lv1 aV bG am gK
 simp only [nn,aJ,aK] at bG
 simp +contextual only [go_sem,sevalprocAttr]
 refine GS [(b2,_)] jI gK ?_
 intro lv2 fp
 change RS M1 gC 3 (tl (bD jI aU.tail) aU.tail) lv2 at fp
 simp +contextual only [go_sem,sevalprocAttr]
 intro b3 T3 ii df fV gD
 have hT:=dy.trans fV
 generalize bD jI aU.tail=d at am fp ⊢
 generalize tl d aU.tail=t0 at am fp ⊢
 refine GS [(b3,_),(b2,_)] zL fp ?_
 intro lv3 fF
 generalize bD zL t0=sb at am fF ⊢
 simp +contextual only [go_sem,sevalprocAttr,ii]
 refine eU (fun e ds h=>ds=[]/\e 0=.pointer (some ⟨pb,0,none⟩)/\e 2=.pointer (some ⟨b2,0,none⟩)/\e 3=.pointer (some ⟨b3,0,none⟩)/\
  ∃ M' t lv' items iv,bm M1 M'/\M' b3=none/\M' b2=none/\M' pb=none/\RS M' gC 3 t lv'/\RS M' (Am M') 8 items iv/\w8 en ex aU=YO en ex d sb items t/\
   h=⟨T3,M',(b3,[.bool d,.bool sb,iv,.slice none 0 0,.bool false,.bool false,.int .i64 0,.int .i64 0,.int .i64 0,st [],st [],st [],.slice none 0 0,.int .i64 0,.int .i64 0,.int .i64 0,st [],st [],st [],.slice none 0 0,.slice none 0 0])::(b2,[.bool false,.bool false,.slice none 0 0,.slice none 0 0,.bool false,.bool false,.int .i64 0,.int .i64 0,.int .i64 0,st [],st [],st [],.slice none 0 0,.int .i64 0,.int .i64 0,.int .i64 0,st [],st [],st [],.slice none 0 0,.slice none 0 0])::pL pb lv' en op,[]⟩) (fun S' eY=> ?_) ?_
 ·cases sb with
  | true=>
   simp only [if_true] at am fF
   simp +contextual only [go_sem,aD,sevalprocAttr]
   refine eY _ _ _ ⟨rfl,?_,?_,?_,M1,_,lv3,[],_,bm.rfl',ii,bG.1,bG.2,fF,bu,am,rfl⟩
   all_goals simp only [go_sem,sevalprocAttr]
  | false=>
   simp only [if_false,Bool.false_eq_true] at am fF
   simp +contextual only [go_sem,aD,sevalprocAttr]
   refine cm [(b3,_),(b2,_)] hT am cu (fun h=>I3 (fa:=[.pointer (some ⟨pb,0,none⟩)]) (fc:=[]) (C:=fun _=>True) (r:=Am) (enc:=YI) (g:=A8 en ex) 8
    (fun M t lv T hg _ hl cu=>XS hg hl ix cu T) (fun x v M h=>by obtain ⟨cs,rfl,h⟩:=h;exact ⟨cs,rfl,h⟩) (fun _ _ _ h=>kO h) (fun _ _ _ h=>Rx h) (fun _ _ _ _ he h=>jT he _ _ h)
    (fun _ _ _ h=>h) trivial (by decide) (hg.ext aV) fF h T3) ?_
   rintro v M2 items t lv4 bh aZ am kf hv
   obtain ⟨k9,sj⟩:=dA hv
   have Ut:=sj
   simp only [Value.cells] at Ut
   simp only [nn,aJ,aK] at aZ
   simp +contextual only [go_sem,sevalprocAttr,k9,Ut]
   refine eY _ _ _ ⟨rfl,?_,?_,?_,M2,_,lv4,items,_,bh,aZ.1,aZ.2.1,aZ.2.2,kf,hv,am,rfl⟩
   all_goals simp only [go_sem,sevalprocAttr]
 clear am gK fp fF
 rintro e ds h ⟨rfl,e0,e2,e3,M2,t,lv4,items,iv,bh,n3,n2,np,kf,hiv,am,rfl⟩
 simp +contextual only [go_sem,sevalprocAttr,e0]
 intro b4 eN eE
 refine dM [(b3,_),(b2,_)] hT am kf ?_
 intro M3 lv5 bE bB am gZ
 simp +contextual only [go_sem,sevalprocAttr,e0]
 have hg3:=(hg.ext aV).ext (bh.trans bE)
 refine cm [(b3,_),(b2,_)] hT am cu (fun h=>zY hg3 gZ ix h T3) ?_
 rintro v M4 s0 t4 lv6 dD de am mB ⟨cs,rfl,hso⟩
 obtain ⟨a1,a2,a3,a4,a5,a6,a7,rfl⟩:=EN hso
 simp only [nn,aJ,aK] at de
 simp +contextual only [go_sem,sevalprocAttr,e0,e3]
 intro bF hbF ank
 refine cZ agj.bd fun M5 dJ aik bR=> ?_
 simp only [aJ,aK] at bR
 rw [qT,Rs.bind_assoc] at am
 refine cm [(b3,_),(b2,_)] hT am cu (fun _=>KH (aH dJ (fun _ _ h=>h) mB) T3) ?_
 rintro v M6 k t5 lv7 eP bU am o5 rfl
 simp only [nn,aJ,aK] at bU
 have rH:oN M6 [] (.slice (some ⟨bF,0,none⟩) 1 1) [s0]:=.inl ⟨bF,_,rfl,rfl,rfl,eP _ _ aik,dj (qV (dJ.trans eP) _ _ hso)⟩
 simp +contextual only [go_sem,sevalprocAttr]
 refine lE (fun e ds h=>ds=[]/\e 0=.pointer (some ⟨pb,0,none⟩)/\e 2=.pointer (some ⟨b2,0,none⟩)/\e 3=.pointer (some ⟨b3,0,none⟩)/\
  ∃ M' t lv' src fv R,bm M2 M'/\M' b3=none/\M' b2=none/\M' pb=none/\RS M' gC 3 t lv'/\src.length<=4/\oN M' R fv src/\w8 en ex aU=Le en ex d sb items src t/\
   h=⟨T3,M',(b3,[.bool d,.bool sb,iv,fv,.bool false,.bool false,.int .i64 0,.int .i64 0,.int .i64 0,st [],st [],st [],.slice none 0 0,.int .i64 0,.int .i64 0,.int .i64 0,st [],st [],st [],.slice none 0 0,.slice none 0 0])::(b2,[.bool false,.bool false,.slice none 0 0,.slice none 0 0,.bool false,.bool false,.int .i64 0,.int .i64 0,.int .i64 0,st [],st [],st [],.slice none 0 0,.int .i64 0,.int .i64 0,.int .i64 0,st [],st [],st [],.slice none 0 0,.slice none 0 0])::pL pb lv' en op,R⟩) (fun S' eY=> ?_) ?_
 ·clear gZ mB kf
  simp +contextual only [go_sem,aD,sevalprocAttr]
  refine gn (fun m e ds h=>ds=[]/\e 0=.pointer (some ⟨pb,0,none⟩)/\e 2=.pointer (some ⟨b2,0,none⟩)/\e 3=.pointer (some ⟨b3,0,none⟩)/\
   ∃ M' t lv' k src fv R,e 4=.int .i64 k/\m+src.length=4/\bm M6 M'/\M' b3=none/\M' b2=none/\M' pb=none/\RS M' gC 3 t lv'/\oN M' R fv src/\
    w8 en ex aU=(vw en ex m k t).bind (fun l t=>Le en ex d sb items (src++l) t)/\
    h=⟨T3,M',(b3,[.bool d,.bool sb,iv,fv,.bool false,.bool false,.int .i64 0,.int .i64 0,.int .i64 0,st [],st [],st [],.slice none 0 0,.int .i64 0,.int .i64 0,.int .i64 0,st [],st [],st [],.slice none 0 0,.slice none 0 0])::(b2,[.bool false,.bool false,.slice none 0 0,.slice none 0 0,.bool false,.bool false,.int .i64 0,.int .i64 0,.int .i64 0,st [],st [],st [],.slice none 0 0,.int .i64 0,.int .i64 0,.int .i64 0,st [],st [],st [],.slice none 0 0,.slice none 0 0])::pL pb lv' en op,R⟩)
   ⟨3,rfl,?_,?_,?_,M6,t5,lv7,k,[s0],_,[],?_,rfl,bm.rfl',bU.1,bU.2.1,bU.2.2,o5,rH,am,rfl⟩ ?_
  all_goals first | (simp only [e0,e2,e3,go_sem,sevalprocAttr];done) | skip
  clear am e0 e2 e3 o5 rH
  rintro m e ds h ⟨rfl,e0,e2,e3,M7,t7,lv8,k,src,fv,R,e4,hm,qN,n3,n2,np,tU,rH,am,rfl⟩
  by_cases hk:0<k
  ·obtain ⟨fa,fc,rfl⟩:=vG rH
   unfold vw at am
   rw [if_pos hk] at am
   cases m with
   | zero=>
    have bq:(src.length:Int)=4:=by omega
    simp +contextual only [go_sem,aD,sevalprocAttr,e0,e3,e4,hk,n3,bq]
    refine mp [(b3,_),(b2,_)] tU ?_
    simp +contextual only [go_sem,sevalprocAttr]
    exact fy [(b3,_),(b2,_)] hT am
   | succ m=>
    have bq:¬ (src.length:Int)=4:=by omega
    simp only [Rs.bind_assoc] at am
    simp +contextual only [go_sem,aD,sevalprocAttr,e3,e4,hk,n3,bq]
    refine eG ⟨T,fun _=>none,[(b3,_)],[]⟩ (gx n3) ?_
    simp +contextual only [go_sem,sevalprocAttr,e0,e3,e4]
    have hg7:=(hg.ext aV).ext ((((bh.trans bE).trans dD).trans dJ).trans (eP.trans qN))
    refine cm [(b3,_),(b2,_)] hT am cu (fun h=>zY hg7 tU ix h T3) ?_
    rintro v M8 so t8 lv9 vz oD am Ms ⟨cs,rfl,hso⟩
    obtain ⟨a1,a2,a3,a4,a5,a6,a7,rfl⟩:=EN hso
    simp only [nn,aJ,aK] at oD
    simp +contextual only [go_sem,sevalprocAttr]
    refine ⟨gx oD.1,?_⟩
    intro b8 px eB
    refine ⟨uq oD.1 (fun h=>eB.1.2 h),?_⟩
    refine QZ (sE vz rH) hso px (by omega) ?_
    intro fa' fc' R' ZX
    simp +contextual only [go_sem,sevalprocAttr,eB,e0,e3]
    rw [qT,Rs.bind_assoc] at am
    refine cm [(b8,_),(b3,_),(b2,_)] hT am cu (fun _=>KH Ms T3) ?_
    rintro v M9 k' t9 lva Oi rq am hla rfl
    simp only [nn,aJ,aK] at rq
    simp +contextual only [go_sem,sevalprocAttr]
    rw [eJ]
    refine al (aB ⟨m,by omega,rfl,?_,?_,?_,M9,t9,lva,k',src++[so],_,R',?_,?_,(qN.trans vz).trans Oi,rq.2.1,rq.2.2.1,rq.2.2.2,hla,sE Oi ZX,?_,rfl⟩)
    ·simp only [e0,go_sem,sevalprocAttr]
    ·simp only [e2,go_sem,sevalprocAttr]
    ·simp only [e3,go_sem,sevalprocAttr]
    ·simp only [go_sem,sevalprocAttr]
    ·rw [List.length_append];simp only [ln];omega
    ·rw [am];congr 1;funext l t;simp [Rs.bind]
  ·unfold vw at am
   rw [if_neg hk] at am
   simp +contextual only [go_sem,aD,sevalprocAttr,e4,hk]
   refine eY _ _ _ ⟨rfl,?_,?_,?_,M7,_,lv8,src,fv,R,?_,n3,n2,np,tU,by omega,rH,?_,rfl⟩
   ·simp only [e0,go_sem,sevalprocAttr]
   ·simp only [e2,go_sem,sevalprocAttr]
   ·simp only [e3,go_sem,sevalprocAttr]
   ·exact ((bE.trans dD).trans dJ).trans (eP.trans qN)
   ·rw [am];simp [Rs.bind]
 clear am bU o5 rH e0 e2 e3 kf gZ mB hso de bB
 rintro e ds h ⟨rfl,e0,e2,e3,M3,t,lv4,src,fv,R,bE,n3,n2,np,kf,iG,rH,am,rfl⟩
 simp +contextual only [go_sem,sevalprocAttr,e0]
 refine GS [(b3,_),(b2,_)] rZ kf ?_
 intro lv5 gZ
 unfold Le Dh at am
 generalize bD rZ t=hw at am gZ ⊢
 simp +contextual only [go_sem,sevalprocAttr,n3,e3]
 have hg3:=(hg.ext aV).ext (bh.trans bE)
 refine eU (fun e ds h=>ds=[]/\e 0=.pointer (some ⟨pb,0,none⟩)/\e 2=.pointer (some ⟨b2,0,none⟩)/\e 3=.pointer (some ⟨b3,0,none⟩)/\
  ∃ M' t lv' hw wh w1 w2 w3 w4 w5 w6 w7,bm M3 M'/\M' b3=none/\M' b2=none/\M' pb=none/\RS M' gC 3 t lv'/\RX M' wh [w1,w2,w3,w4,w5,w6,w7]/\w8 en ex aU=Sf en ex d sb items src hw wh t/\
   h=⟨T3,M',(b3,[.bool d,.bool sb,iv,fv,.bool hw,.bool false,w1,w2,w3,w4,w5,w6,w7,.int .i64 0,.int .i64 0,.int .i64 0,st [],st [],st [],.slice none 0 0,.slice none 0 0])::(b2,[.bool false,.bool false,.slice none 0 0,.slice none 0 0,.bool false,.bool false,.int .i64 0,.int .i64 0,.int .i64 0,st [],st [],st [],.slice none 0 0,.int .i64 0,.int .i64 0,.int .i64 0,st [],st [],st [],.slice none 0 0,.slice none 0 0])::pL pb lv' en op,R⟩) (fun S' eY=> ?_) ?_
 ·cases hw with
  | false=>
   simp only [if_false,Bool.false_eq_true] at am gZ
   simp +contextual only [go_sem,aD,sevalprocAttr]
   refine eY _ _ _ ⟨rfl,?_,?_,?_,M3,_,lv5,_,_,_,_,_,_,_,_,_,bm.rfl',n3,n2,np,gZ,kP,am,rfl⟩
   all_goals simp only [e0,e2,e3,go_sem,sevalprocAttr]
  | true=>
   simp only [if_true] at am gZ
   simp +contextual only [go_sem,aD,sevalprocAttr,e0]
   refine cm [(b3,_),(b2,_)] hT am cu (fun h=>ix M3 _ lv5 T3 hg3 gZ h) ?_
   rintro v M4 x t2 lv6 dD de am mB ⟨cs,rfl,hx⟩
   obtain ⟨s,rfl,h1,_⟩:=bX hx
   simp only [nn,aJ,aK] at de
   simp +contextual only [go_sem,sevalprocAttr,h1,e3]
   refine eY _ _ _ ⟨rfl,?_,?_,?_,M4,_,lv6,_,_,_,_,_,_,_,_,_,dD,de.1,de.2.1,de.2.2,mB,hx,am,rfl⟩
   all_goals simp only [e0,e2,e3,go_sem,sevalprocAttr]
 clear am n3 n2 np kf gZ e0 e2 e3
 rintro e ds h ⟨rfl,e0,e2,e3,M4,t,lv4,hw,wh,w1,w2,w3,w4,w5,w6,w7,dD,n3,n2,np,kf,hwh,am,rfl⟩
 simp +contextual only [go_sem,sevalprocAttr,e0]
 refine GS [(b3,_),(b2,_)] IU kf ?_
 intro lv5 gZ
 unfold Sf aab at am
 generalize bD IU t=gw at am gZ ⊢
 simp +contextual only [go_sem,sevalprocAttr]
 refine eU (fun e ds h=>ds=[]/\e 0=.pointer (some ⟨pb,0,none⟩)/\e 2=.pointer (some ⟨b2,0,none⟩)/\e 3=.pointer (some ⟨b3,0,none⟩)/\
  ∃ M' t lv' group gv,bm M4 M'/\M' b3=none/\M' b2=none/\M' pb=none/\RS M' gC 3 t lv'/\RS M' (RX M') 7 group gv/\w8 en ex aU=U5 ex d sb items src hw wh group t/\
   h=⟨T3,M',(b3,[.bool d,.bool sb,iv,fv,.bool hw,.bool false,w1,w2,w3,w4,w5,w6,w7,.int .i64 0,.int .i64 0,.int .i64 0,st [],st [],st [],.slice none 0 0,gv])::(b2,[.bool false,.bool false,.slice none 0 0,.slice none 0 0,.bool false,.bool false,.int .i64 0,.int .i64 0,.int .i64 0,st [],st [],st [],.slice none 0 0,.int .i64 0,.int .i64 0,.int .i64 0,st [],st [],st [],.slice none 0 0,.slice none 0 0])::pL pb lv' en op,R⟩) (fun S' eY=> ?_) ?_
 ·cases gw with
  | false=>
   simp only [if_false,Bool.false_eq_true] at am gZ
   simp +contextual only [go_sem,aD,sevalprocAttr]
   refine eY _ _ _ ⟨rfl,?_,?_,?_,M4,_,lv5,[],_,bm.rfl',n3,n2,np,gZ,bu,am,rfl⟩
   all_goals simp only [e0,e2,e3,go_sem,sevalprocAttr]
  | true=>
   simp only [if_true,Rs.bind_assoc] at am gZ
   simp +contextual only [go_sem,aD,sevalprocAttr,e0]
   intro b5 j6 ea
   refine dM [(b3,_),(b2,_)] hT am gZ ?_
   intro M5 lv6 dJ bR am mB
   simp +contextual only [go_sem,sevalprocAttr,e0]
   refine cm [(b3,_),(b2,_)] hT am cu (fun h=>Bk (fa:=[.pointer (some ⟨pb,0,none⟩)]) (fc:=[]) (C:=fun _=>True) (r:=RX) (enc:=Jq) (g:=ex) 8
    (fun M t lv T hg _ hl cu=>ix M t lv T hg hl cu) (fun x v M h=>by obtain ⟨cs,rfl,h⟩:=h;exact ⟨cs,rfl,h⟩) (fun _ _ _ h=>dT h) (fun _ _ _ h=>lJ h) (fun _ _ _ _ he h=>bL he _ _ h)
    (fun _ _ _ h=>h) trivial (by decide) (hg3.ext (dD.trans dJ)) mB h T3) ?_
   rintro v M6 group t2 lv7 eP bU am o5 hv
   obtain ⟨k9,sj⟩:=dA hv
   have Ut:=sj
   simp only [Value.cells] at Ut
   simp only [nn,aJ,aK] at bU
   simp +contextual only [go_sem,sevalprocAttr,k9,Ut,e3]
   refine eY _ _ _ ⟨rfl,?_,?_,?_,M6,_,lv7,group,_,dJ.trans eP,bU.1,bU.2.1,bU.2.2,o5,hv,am,rfl⟩
   all_goals simp only [e0,e2,e3,go_sem,sevalprocAttr]
 clear am n3 n2 np kf gZ e0 e2 e3
 rintro e ds h ⟨rfl,e0,e2,e3,M5,t,lv4,group,gv,dJ,n3,n2,np,kf,hgv,am,rfl⟩
 simp +contextual only [go_sem,sevalprocAttr,e0]
 refine GS [(b3,_),(b2,_)] xf kf ?_
 intro lv5 gZ
 unfold U5 Dh at am
 generalize bD xf t=hh at am gZ ⊢
 simp +contextual only [go_sem,sevalprocAttr,n3,e3]
 refine eU (fun e ds h=>ds=[]/\e 0=.pointer (some ⟨pb,0,none⟩)/\e 2=.pointer (some ⟨b2,0,none⟩)/\e 3=.pointer (some ⟨b3,0,none⟩)/\
  ∃ M' t lv' hh hv v1 v2 v3 v4 v5 v6 v7,bm M5 M'/\M' b3=none/\M' b2=none/\M' pb=none/\RS M' gC 3 t lv'/\RX M' hv [v1,v2,v3,v4,v5,v6,v7]/\w8 en ex aU=.ok ⟨d,sb,items,src,hw,hh,wh,hv,group⟩ t/\
   h=⟨T3,M',(b3,[.bool d,.bool sb,iv,fv,.bool hw,.bool hh,w1,w2,w3,w4,w5,w6,w7,v1,v2,v3,v4,v5,v6,v7,gv])::(b2,[.bool false,.bool false,.slice none 0 0,.slice none 0 0,.bool false,.bool false,.int .i64 0,.int .i64 0,.int .i64 0,st [],st [],st [],.slice none 0 0,.int .i64 0,.int .i64 0,.int .i64 0,st [],st [],st [],.slice none 0 0,.slice none 0 0])::pL pb lv' en op,R⟩) (fun S' eY=> ?_) ?_
 ·cases hh with
  | false=>
   simp only [if_false,Bool.false_eq_true] at am gZ
   simp +contextual only [go_sem,aD,sevalprocAttr]
   refine eY _ _ _ ⟨rfl,?_,?_,?_,M5,_,lv5,_,_,_,_,_,_,_,_,_,bm.rfl',n3,n2,np,gZ,kP,am,rfl⟩
   all_goals simp only [e0,e2,e3,go_sem,sevalprocAttr]
  | true=>
   simp only [if_true] at am gZ
   simp +contextual only [go_sem,aD,sevalprocAttr,e0]
   refine cm [(b3,_),(b2,_)] hT am cu (fun h=>ix M5 _ lv5 T3 (hg3.ext (dD.trans dJ)) gZ h) ?_
   rintro v M6 x t2 lv6 eP bU am mB ⟨cs,rfl,hx⟩
   obtain ⟨s,rfl,h1,_⟩:=bX hx
   simp only [nn,aJ,aK] at bU
   simp +contextual only [go_sem,sevalprocAttr,h1,e3]
   refine eY _ _ _ ⟨rfl,?_,?_,?_,M6,_,lv6,_,_,_,_,_,_,_,_,_,eP,bU.1,bU.2.1,bU.2.2,mB,hx,am,rfl⟩
   all_goals simp only [e0,e2,e3,go_sem,sevalprocAttr]
 clear am n3 n2 np kf gZ e0 e2 e3
 rintro e ds h ⟨rfl,e0,e2,e3,M6,t,lv4,hh,hv,v1,v2,v3,v4,v5,v6,v7,eP,n3,n2,np,kf,hhv,am,rfl⟩
 have o1:=dA hiv
 have ae7:=(dD.trans dJ).trans eP
 obtain ⟨fa,fc,rfl⟩:=vG rH
 have o3:=dA hgv
 obtain ⟨sw,hsw,ow,_⟩:=bX hwh
 obtain ⟨sh,hsh,oh,_⟩:=bX hhv
 simp only [List.cons.injEq,and_true] at hsw hsh
 obtain ⟨rfl,rfl,rfl,rfl,rfl,rfl,rfl⟩:=hsw
 obtain ⟨rfl,rfl,rfl,rfl,rfl,rfl,rfl⟩:=hsh
 simp +contextual only [go_sem,sevalprocAttr,e2,e3,n3,n2,df,o1,o3,ow,oh]
 refine al (al (IY (sE ae7 rH) (by omega) (fun M7 qN mw cG=>aQ hT rfl rfl ?_) (by simpa only [aK] using np)))
 have h17:=bE.trans (ae7.trans qN)
 exact ⟨_,t,lv4,am,rfl,aH qN (fun _ _ h=>h) kf,rfl,_,rfl,⟨iv,_,_,_,gv,aH h17 (jT h17) hiv,cG,bL ((dJ.trans eP).trans qN) _ _ hwh,bL qN _ _ hhv,aH (eP.trans qN) (bL (eP.trans qN)) hgv,rfl⟩⟩
def vX (en:Int)(ex:List Tk ->Rs X):Nat ->Int ->List Tk ->Rs (List Int×List Se)
 | ly,k,t=>if 0<k then (match ly with
  | 0=> .err 5 (pf en t)
  | r+1=>(w8 en ex t).bind fun s t=>(Dk t).bind fun k' t=>(vX en ex r k' t).bind fun l t=> .ok (k::l.1,s::l.2) t) else .ok ([],[]) t
def aco (en:Int)(t:List Tk):Rs Int:=(wK en t).bind fun n t'=>if n<0\/50<n then .err 3 (pf en t) else .ok n t'
def Iq (en:Int)(ex:List Tk ->Rs X)(t:List Tk):Rs (List X×Int):=
 if bD H9 t=true then (bZ en [wBy] t.tail).bind fun _ t=>(dw en ex 8 t).bind fun l t=>(bZ en [aa3] t).bind fun _ t=>(aco en t).bind fun n t=> .ok (l,n) t else .ok ([], -1) t
def Dm (en:Int)(ex:List Tk ->Rs X)(parts:List Se)(ops:List Int)(t:List Tk):Rs Q:=(Iq en ex t).bind fun o t=> .ok ⟨parts,ops,o.1,o.2⟩ t
def om (en:Int)(ex:List Tk ->Rs X)(t:List Tk):Rs Q:=(w8 en ex t).bind fun s t=>(Dk t).bind fun k t=>(vX en ex 3 k t).bind fun l t=>Dm en ex (s::l.2) l.1 t
def ak4 (q:Q)(v:Value)(M:aS):Prop:=∃ cs,v=.agg ⟨cs⟩/\RQ M q cs
theorem Qq {M:aS}{x:Se}{cs:List Value}(h:Hw M x cs):∀ u∈cs,u.oneCell'=true:=by
 obtain ⟨i,f,w,hh,g,h1,h2,h3,h4,h5,rfl⟩:=h
 intro u hu
 simp only [nn,List.mem_cons,List.mem_append,List.not_mem_nil,or_false] at hu
 rcases hu with rfl | rfl | rfl | rfl | rfl | rfl | hu | hu | rfl
 ·rfl
 ·rfl
 ·exact (dA h1).1
 ·exact (dA h2).1
 ·rfl
 ·rfl
 ·exact lJ h3 u hu
 ·exact lJ h4 u hu
 ·exact (dA h5).1
def L9 (M:aS)(R:RR)(ov pv:Value)(parts:List Se)(ops:List Int):Prop:=
 ∃ oa oc pa pc xs ys,ov=.slice oa ops.length oc/\pv=.slice pa parts.length pc/\R=[(pv,156,21,xs),(ov,3,1,ys)]/\RL (Hw M) parts xs/\RL RI ops ys
def CY (M:aS)(R:RR)(ov pv:Value)(parts:List Se)(ops:List Int):Prop:=
 (∃ bF xs,ops=[]/\ov=.slice none 0 0/\R=[]/\pv=.slice (some ⟨bF,0,none⟩) 1 1/\parts.length=1/\M bF=some xs/\RL (Hw M) parts xs)\/L9 M R ov pv parts ops
def Kr (M:aS)(R:RR)(ov pv:Value)(parts:List Se)(ops:List Int):Prop:=
 (∃ bF xs oa oc ys,ov=.slice oa ops.length oc/\R=[(ov,3,1,ys)]/\RL RI ops ys/\pv=.slice (some ⟨bF,0,none⟩) 1 1/\parts.length=1/\M bF=some xs/\RL (Hw M) parts xs)\/L9 M R ov pv parts ops
theorem B1 {M M':aS}{R ov pv parts ops}(hM:bm M M')(h:L9 M R ov pv parts ops):L9 M' R ov pv parts ops:=by
 obtain ⟨oa,oc,pa,pc,xs,ys,h1,h2,h3,h4,h5⟩:=h
 exact ⟨oa,oc,pa,pc,xs,ys,h1,h2,h3,dl (fun x cs h=>lF hM _ _ h) h4,h5⟩
theorem FT {M M':aS}{R ov pv parts ops}(hM:bm M M')(h:CY M R ov pv parts ops):CY M' R ov pv parts ops:=by
 rcases h with ⟨bF,xs,h1,h2,h3,h4,h5,h6,h7⟩ | h
 ·exact .inl ⟨bF,xs,h1,h2,h3,h4,h5,hM _ _ h6,dl (fun x cs h=>lF hM _ _ h) h7⟩
 ·exact .inr (B1 hM h)
theorem MQ {M M':aS}{R ov pv parts ops}(hM:bm M M')(h:Kr M R ov pv parts ops):Kr M' R ov pv parts ops:=by
 rcases h with ⟨bF,xs,oa,oc,ys,h1,h2,h3,h4,h5,h6,h7⟩ | h
 ·exact .inl ⟨bF,xs,oa,oc,ys,h1,h2,h3,h4,h5,hM _ _ h6,dl (fun x cs h=>lF hM _ _ h) h7⟩
 ·exact .inr (B1 hM h)
theorem Cl {M R ov pv parts ops}(h:CY M R ov pv parts ops):(∃ a c,ov=.slice a ops.length c)/\∃ a c,pv=.slice a parts.length c:=by
 rcases h with ⟨bF,xs,rfl,rfl,rfl,rfl,h,_⟩ | ⟨oa,oc,pa,pc,xs,ys,rfl,rfl,_⟩
 ·exact ⟨⟨_,_,rfl⟩,⟨_,_,by rw [h]⟩⟩
 ·exact ⟨⟨_,_,rfl⟩,⟨_,_,rfl⟩⟩
theorem ct {n:Int}{cs}(h:RI n cs):cs.length=1:=by unfold RI at h;subst h;rfl
theorem Xd {F:Fi}{s:List Vc.Item}{e:dp}{ds:List Deferred}{dd:Option Nat}{T:Tm}{M:aS}{L:LL}{R:RR}{b a n c pv}{parts:List Se}{ops:List Int}{k:Int}(hf:CY M R (.slice a n c) pv parts ops)(hb:M b=none)(bq:ops.length<=400)
 (kk:∀ a' c' R',Kr M R' (.slice a' (ops.length+1) c') pv parts (ops++[k]) ->cy Tryz.prog F s (cI e dd (.slice a' (ops.length+1) c')) ds ⟨T,M,(b,[.int .i64 k])::L,R'⟩ ⟨⟩):
 nG Tryz.prog F 54 54 (.slice a n c) (.slice (some ⟨b,0,none⟩) 1 1) dd s e ds ⟨T,M,(b,[.int .i64 k])::L,R⟩ ⟨⟩:=by
 have Aw:∀ R,Srcs Tryz.prog 54 1 ⟨T,M,(b,[.int .i64 k])::L,R⟩ (.slice (some ⟨b,0,none⟩) 1 1) [.int .i64 k]:=fun R=>
  .slice _ 1 _ _ _ Tryz.underlying54 (cD [] hb trivial rfl) (by intro u hu;simp only [List.mem_singleton] at hu;subst hu;rfl)
 rcases hf with ⟨bF,xs,rfl,h2,rfl,h4,h5,h6,h7⟩ | ⟨oa,oc,pa,pc,xs,ys,h1,h2,rfl,h3,h4⟩
 ·injection h2 with h2 HB Ii;subst h2 HB Ii
  refine mH kd ko (Aw []) (Nat.le_of_ble_eq_true rfl) ?_
  intro ra rm rc jc
  have:rm=1:=by simpa using jc
  subst this
  exact kk _ _ _ (.inl ⟨bF,xs,ra,rc,_,rfl,rfl,dj rfl,h4,h5,h6,h7⟩)
 ·injection h1 with h1 qZ Xo;subst h1 qZ Xo
  have iH:=eL (fun _ _=>ct) h4
  refine .inr ⟨_,_,_,_,kd,ko,Aw _,.inl ⟨1,ys,rfl,by rw [iH];simp only [ln];omega,?_⟩⟩
  intro ra rm rc jc
  have:rm=ops.length+1:=by rw [iH] at jc;simp only [ln] at jc;omega
  subst this
  exact kk _ _ _ (.inr ⟨_,_,_,_,_,_,by rw [List.length_append];rfl,h2,rfl,h3,cP h4 (dj rfl)⟩)
theorem NZ {F:Fi}{s:List Vc.Item}{e:dp}{ds:List Deferred}{dd:Option Nat}{T:Tm}{M:aS}{L:LL}{R:RR}{b a n c ov}{parts:List Se}{ops:List Int}{x:Se}{cs:List Value}(hf:Kr M R ov (.slice a n c) parts ops)(hx:Hw M x cs)(hb:M b=none)(bq:parts.length<=400)
 (kk:∀ a' c' R',CY M R' ov (.slice a' (parts.length+1) c') (parts++[x]) ops ->cy Tryz.prog F s (cI e dd (.slice a' (parts.length+1) c')) ds ⟨T,M,(b,cs)::L,R'⟩ ⟨⟩):
 nG Tryz.prog F 53 53 (.slice a n c) (.slice (some ⟨b,0,none⟩) 1 1) dd s e ds ⟨T,M,(b,cs)::L,R⟩ ⟨⟩:=by
 have cM:=lK hx
 have Aw:∀ R,Srcs Tryz.prog 53 21 ⟨T,M,(b,cs)::L,R⟩ (.slice (some ⟨b,0,none⟩) 1 1) cs:=fun R=>
  .slice _ 1 _ _ _ Tryz.underlying53 (cD [] hb trivial (by rw [cM])) (Qq hx)
 rcases hf with ⟨bF,xs,oa,oc,ys,h1,rfl,h3,h4,h5,h6,h7⟩ | ⟨oa,oc,pa,pc,xs,ys,h1,h2,rfl,h3,h4⟩
 ·injection h4 with h4 WK ajK;subst h4 WK ajK
  have iH:=eL (fun _ _=>lK) h7
  rw [h5] at iH
  refine l4 Rj P0 (Aw _) (xs:=xs) ?_ (by rw [cM];decide) (by rw [cM,iH];decide) ?_
  ·have:=xV (h:=⟨T,M,(b,cs)::L,[(ov,3,1,ys)]⟩) (b:=bF) (cs:=xs) (fun o v hv=>by
    have:aN M ⟨bF,o,none⟩=some v:=by rw [bg h6];exact hv
    simp only [Sh.cell,this]) 21 0 (by omega)
   simpa using this
  ·intro ra rm rc jc
   have:rm=parts.length+1:=by rw [cM,iH] at jc;omega
   subst this
   exact kk _ _ _ (.inr ⟨_,_,_,_,_,_,h1,by rw [List.length_append];rfl,rfl,cP h7 (dj hx),h3⟩)
 ·injection h2 with h2 HB Ii;subst h2 HB Ii
  have iH:=eL (fun _ _=>lK) h3
  refine gL Rj P0 (Aw _) (by rw [cM,iH];omega) ?_
  intro ra rm rc jc
  have:rm=parts.length+1:=by rw [cM,iH] at jc;omega
  subst this
  exact kk _ _ _ (.inr ⟨_,_,_,_,_,_,h1,by rw [List.length_append];rfl,rfl,cP h3 (dj hx),h4⟩)
theorem Ri {N M L R ov pv parts ops}{k:Sh ->Prop}(h:CY M R ov pv parts ops)(h1:parts.length<=400)(h2:ops.length<=400)(hk:∀ M',bm M M' ->aJ M' L ->RS M' (Hw M') 21 parts pv ->RS M' RI 1 ops ov ->cq ⟨N,M',L,[]⟩ k)(bi:aJ M L):cq ⟨N,M,L,R⟩ k:=by
 rcases h with ⟨bF,xs,rfl,rfl,rfl,rfl,h3,h4,h5⟩ | ⟨oa,oc,pa,pc,xs,ys,rfl,rfl,rfl,h3,h4⟩
 ·exact hk M bm.rfl' bi (dB (fun _ _=>lK) h4 h5 h3 (by decide)) bu
 ·exact cK fun M' hM ui iG=>cK fun M'' nj Y7 aiI=>hk M'' (hM.trans nj) Y7 ⟨by omega,xs,iG.ext nj,dl (fun x cs h=>lF (hM.trans nj) _ _ h) h3⟩ ⟨by omega,ys,aiI,h4⟩
theorem zC {P:Program}{F:Fi}{f:FuncId}{args:List Value}{dd:Option Nat}{s:List Vc.Item}{e:dp}{ds:List Deferred}{N:Tm}{M:aS}{b b':Nat}{cs cs':List Value}{L:LL}{R:RR}(hb:dm P f=true)
 (h:∀ M',bm M M' ->M' b=some cs ->aJ M' ((b',cs')::L) ->dx P F f args dd s e ds ⟨N,M',(b',cs')::L,R⟩ ⟨⟩):dx P F f args dd s e ds ⟨N,M,(b',cs')::(b,cs)::L,R⟩ ⟨⟩:=
 cL (k:=fun h'=>∃ M',bm M M'/\M' b=some cs/\aJ M' ((b',cs')::L)/\h'=⟨N,M',(b',cs')::L,R⟩) (cY (List.Perm.swap _ _ _) (aT fun he h1 h2=>aB ⟨_,he,h1,h2,rfl⟩))
  (by rintro h' ⟨M',he,h1,h2,rfl⟩;exact h M' he h1 h2) hb
theorem Ez {M:aS}{pb:Nat}{aU:List Tk}{lv:Value}{en op:Int}{ex:List Tk ->Rs X}(hg:eQ M)(hl:RS M gC 3 aU lv)(ix:Zs en pb ex op)(cu:om en ex aU≠ .out)(T:Tm):
 bV Tryz.prog 43 [.pointer (some ⟨pb,0,none⟩)] T M (pL pb lv en op) [] (fH pb en op ak4 (om en ex aU)) (gl pb en (om en ex aU)):=by
 refine az F43 rfl rfl ?_
 intro bi _
 simp only [aK] at bi
 simp +contextual only [go_sem,sevalprocAttr]
 intro b2 T2 dN fh dy ei
 refine cm [(b2,_)] dy rfl cu (fun h=>Ub hg hl ix h T2) ?_
 rintro v M1 s0 t lv1 aV bG am gK ⟨cs,rfl,xh⟩
 have cM:=lK xh
 simp only [nn,aJ,aK] at bG
 simp +contextual only [go_sem,sevalprocAttr,cM]
 intro b7 mN jv b3 T3 ii df fV gD
 have hT:=dy.trans fV
 refine zC F77.bd fun M2 bh abr aZ=> ?_
 simp only [aJ,aK] at aZ
 refine cm [(b3,_),(b2,_)] hT am cu (fun _=>TU (aH bh (fun _ _ h=>h) gK) T3) ?_
 rintro v M3 k t2 lv2 bE bB am fp rfl
 simp only [nn,aJ,aK] at bB
 have J7:CY M3 [] (.slice none 0 0) (.slice (some ⟨b7,0,none⟩) 1 1) [s0] []:=.inl ⟨b7,cs,rfl,rfl,rfl,rfl,rfl,bE _ _ abr,dj (lF (bh.trans bE) _ _ xh)⟩
 simp +contextual only [go_sem,sevalprocAttr]
 refine lE (fun e ds h=>ds=[]/\e 0=.pointer (some ⟨pb,0,none⟩)/\e 2=.pointer (some ⟨b2,0,none⟩)/\e 3=.pointer (some ⟨b3,0,none⟩)/\
  ∃ M' t lv' parts ops pv ov R,bm M3 M'/\M' b3=none/\M' b2=none/\M' pb=none/\RS M' gC 3 t lv'/\parts.length<=4/\ops.length<=4/\CY M' R ov pv parts ops/\om en ex aU=Dm en ex parts ops t/\
   h=⟨T3,M',(b3,[pv,ov,.slice none 0 0,.int .i64 (-1)])::(b2,[.slice none 0 0,.slice none 0 0,.slice none 0 0,.int .i64 0])::pL pb lv' en op,R⟩) (fun S' eY=> ?_) ?_
 ·simp +contextual only [go_sem,aD,sevalprocAttr]
  refine gn (fun m e ds h=>ds=[]/\e 0=.pointer (some ⟨pb,0,none⟩)/\e 2=.pointer (some ⟨b2,0,none⟩)/\e 3=.pointer (some ⟨b3,0,none⟩)/\
   ∃ M' t lv' k parts ops pv ov R,e 4=.int .i64 k/\m+parts.length=4/\ops.length+1=parts.length/\bm M3 M'/\M' b3=none/\M' b2=none/\M' pb=none/\RS M' gC 3 t lv'/\CY M' R ov pv parts ops/\
    om en ex aU=(vX en ex m k t).bind (fun l t=>Dm en ex (parts++l.2) (ops++l.1) t)/\
    h=⟨T3,M',(b3,[pv,ov,.slice none 0 0,.int .i64 (-1)])::(b2,[.slice none 0 0,.slice none 0 0,.slice none 0 0,.int .i64 0])::pL pb lv' en op,R⟩)
   ⟨3,rfl,?_,?_,?_,M3,t2,lv2,k,[s0],[],_,_,[],?_,rfl,rfl,bm.rfl',bB.1,bB.2.1,bB.2.2,fp,J7,am,rfl⟩ ?_
  all_goals first | (simp only [go_sem,sevalprocAttr];done) | skip
  clear am fp J7
  rintro m e ds h ⟨rfl,e0,e2,e3,M4,t4,lv4,k,parts,ops,pv,ov,R,e4,hm,hpo,dD,n3,n2,np,kf,J7,am,rfl⟩
  by_cases hk:0<k
  ·obtain ⟨⟨oa,oc,rfl⟩,pa,pc,rfl⟩:=Cl J7
   unfold vX at am
   rw [if_pos hk] at am
   cases m with
   | zero=>
    have bq:(parts.length:Int)=4:=by omega
    simp +contextual only [go_sem,aD,sevalprocAttr,e0,e3,e4,hk,n3,bq]
    refine mp [(b3,_),(b2,_)] kf ?_
    simp +contextual only [go_sem,sevalprocAttr]
    exact fy [(b3,_),(b2,_)] hT am
   | succ m=>
    have bq:¬ (parts.length:Int)=4:=by omega
    simp only [Rs.bind_assoc] at am
    simp +contextual only [go_sem,aD,sevalprocAttr,e3,e4,hk,n3,bq]
    refine eG ⟨T,fun _=>none,[(b3,_)],[]⟩ (gx n3) ?_
    simp +contextual only [go_sem,sevalprocAttr,e0,e3,e4]
    intro b8 px eB
    refine ⟨uq n3 (fun h=>eB.1.2 h),?_⟩
    refine Xd J7 px (by omega) ?_
    intro oa' oc' R1 TE
    simp +contextual only [go_sem,sevalprocAttr,e3]
    refine ⟨uq n3 (fun h=>eB.1.2 h),?_⟩
    have hg4:=(hg.ext aV).ext ((bh.trans bE).trans dD)
    refine cm [(b8,_),(b3,_),(b2,_)] hT am cu (fun h=>Ub hg4 kf ix h T3) ?_
    rintro v M5 s1 t5 lv5 dJ bR am gZ ⟨cs1,rfl,iX⟩
    have ajz:=lK iX
    simp only [nn,aJ,aK] at bR
    simp +contextual only [go_sem,sevalprocAttr,ajz]
    refine ⟨jX [(b8,_)] bR.2.1 ⟨⟨eB.1.2,eB.1.1⟩,trivial⟩,?_⟩
    intro b9 qy gP
    refine ⟨jX [(b9,_),(b8,_)] bR.2.1 ⟨⟨gP.2.1.2,gP.2.1.1⟩,⟨eB.1.2,eB.1.1⟩,trivial⟩,?_⟩
    refine NZ (MQ dJ TE) iX qy (by omega) ?_
    intro pa' pc' R2 ajX
    simp +contextual only [go_sem,sevalprocAttr,eB,gP,e0,e3]
    refine ⟨jX [(b9,_),(b8,_)] bR.2.1 ⟨⟨gP.2.1.2,gP.2.1.1⟩,⟨eB.1.2,eB.1.1⟩,trivial⟩,?_⟩
    refine cm [(b9,_),(b8,_),(b3,_),(b2,_)] hT am cu (fun _=>TU gZ T3) ?_
    rintro v M6 k' t6 lv6 eP bU am mB rfl
    simp only [nn,aJ,aK] at bU
    simp +contextual only [go_sem,sevalprocAttr]
    rw [eJ]
    refine al (al (aB ⟨m,by omega,rfl,?_,?_,?_,M6,t6,lv6,k',parts++[s1],ops++[k],_,_,R2,?_,?_,?_,(dD.trans dJ).trans eP,bU.2.2.1,bU.2.2.2.1,bU.2.2.2.2,mB,FT eP ajX,?_,rfl⟩))
    ·simp only [e0,go_sem,sevalprocAttr]
    ·simp only [e2,go_sem,sevalprocAttr]
    ·simp only [e3,go_sem,sevalprocAttr]
    ·simp only [go_sem,sevalprocAttr]
    ·rw [List.length_append];simp only [ln];omega
    ·rw [List.length_append,List.length_append];simp only [ln];omega
    ·rw [am];congr 1;funext l t;simp [Rs.bind]
  ·unfold vX at am
   rw [if_neg hk] at am
   simp +contextual only [go_sem,aD,sevalprocAttr,e4,hk]
   refine eY _ _ _ ⟨rfl,?_,?_,?_,M4,_,lv4,parts,ops,pv,ov,R,dD,n3,n2,np,kf,by omega,by omega,J7,?_,rfl⟩
   ·simp only [e0,go_sem,sevalprocAttr]
   ·simp only [e2,go_sem,sevalprocAttr]
   ·simp only [e3,go_sem,sevalprocAttr]
   ·rw [am];simp [Rs.bind]
 clear am bB fp J7 aZ bG
 rintro e ds h ⟨rfl,e0,e2,e3,M4,t,lv4,parts,ops,pv,ov,R,dD,n3,n2,np,kf,s9,hol,J7,am,rfl⟩
 simp +contextual only [go_sem,sevalprocAttr,e0]
 refine GS [(b3,_),(b2,_)] H9 kf ?_
 intro lv5 gZ
 unfold Dm Iq at am
 generalize bD H9 t=gw at am gZ ⊢
 simp +contextual only [go_sem,sevalprocAttr]
 have hg4:=(hg.ext aV).ext ((bh.trans bE).trans dD)
 refine eU (fun e ds h=>ds=[]/\e 0=.pointer (some ⟨pb,0,none⟩)/\e 2=.pointer (some ⟨b2,0,none⟩)/\e 3=.pointer (some ⟨b3,0,none⟩)/\
  ∃ M' t lv' ord rv lim,bm M4 M'/\M' b3=none/\M' b2=none/\M' pb=none/\RS M' gC 3 t lv'/\RS M' (RX M') 7 ord rv/\om en ex aU=.ok ⟨parts,ops,ord,lim⟩ t/\
   h=⟨T3,M',(b3,[pv,ov,rv,.int .i64 lim])::(b2,[.slice none 0 0,.slice none 0 0,.slice none 0 0,.int .i64 0])::pL pb lv' en op,R⟩) (fun S' eY=> ?_) ?_
 ·cases gw with
  | false=>
   simp only [if_false,Bool.false_eq_true] at am gZ
   simp +contextual only [go_sem,aD,sevalprocAttr]
   refine eY _ _ _ ⟨rfl,?_,?_,?_,M4,_,lv5,[],_,_,bm.rfl',n3,n2,np,gZ,bu,am,rfl⟩
   all_goals simp only [e0,e2,e3,go_sem,sevalprocAttr]
  | true=>
   simp only [if_true,Rs.bind_assoc] at am gZ
   simp +contextual only [go_sem,aD,sevalprocAttr,e0]
   intro b5 j6 ea
   refine dM [(b3,_),(b2,_)] hT am gZ ?_
   intro M5 lv6 dJ bR am mB
   simp +contextual only [go_sem,sevalprocAttr,e0]
   refine cm [(b3,_),(b2,_)] hT am cu (fun h=>Bk (fa:=[.pointer (some ⟨pb,0,none⟩)]) (fc:=[]) (C:=fun _=>True) (r:=RX) (enc:=Jq) (g:=ex) 8
    (fun M t lv T hg _ hl cu=>ix M t lv T hg hl cu) (fun x v M h=>by obtain ⟨cs,rfl,h⟩:=h;exact ⟨cs,rfl,h⟩) (fun _ _ _ h=>dT h) (fun _ _ _ h=>lJ h) (fun _ _ _ _ he h=>bL he _ _ h)
    (fun _ _ _ h=>h) trivial (by decide) (hg4.ext dJ) mB h T3) ?_
   rintro v M6 ord t2 lv7 eP bU am o5 hv
   obtain ⟨k9,sj⟩:=dA hv
   have G9:=sj
   simp only [Value.cells] at G9
   simp only [nn,aJ,aK] at bU
   simp +contextual only [go_sem,sevalprocAttr,k9,G9,e0,e3]
   intro b6 pt gE
   refine dM [(b3,_),(b2,_)] hT am o5 ?_
   intro M7 lv8 qN mw am tU
   simp +contextual only [go_sem,sevalprocAttr,e0]
   refine mp [(b3,_),(b2,_)] tU ?_
   unfold aco at am
   rw [Rs.bind_assoc] at am
   simp +contextual only [go_sem,sevalprocAttr,e0]
   refine cm [(b3,_),(b2,_)] hT am cu (fun _=>Fe tU T3) ?_
   rintro v M8 n t3 lv9 vz oD am Ms rfl
   simp only [nn,aJ,aK] at oD
   by_cases hn:n<0
   ·rw [if_pos (.inl hn)] at am
    simp +contextual only [go_sem,aD,sevalprocAttr,hn]
    exact fy [(b3,_),(b2,_)] hT am
   ·by_cases pi:50<n
    ·rw [if_pos (.inr pi)] at am
     simp +contextual only [go_sem,aD,sevalprocAttr,hn,pi]
     exact fy [(b3,_),(b2,_)] hT am
    ·rw [if_neg (by omega)] at am
     simp +contextual only [go_sem,aD,sevalprocAttr,e3,hn,pi]
     refine eY _ _ _ ⟨rfl,?_,?_,?_,M8,_,lv9,ord,_,n,((dJ.trans eP).trans qN).trans vz,oD.1,oD.2.1,oD.2.2,Ms,aH (qN.trans vz) (bL (qN.trans vz)) hv,am,rfl⟩
     all_goals simp only [e0,e2,e3,go_sem,sevalprocAttr]
 clear am n3 n2 np kf gZ e0 e2 e3
 rintro e ds h ⟨rfl,e0,e2,e3,M5,t,lv4,ord,rv,lim,dJ,n3,n2,np,kf,mP,am,rfl⟩
 obtain ⟨⟨oa,oc,rfl⟩,pa,pc,rfl⟩:=Cl J7
 have o3:=dA mP
 simp +contextual only [go_sem,sevalprocAttr,e2,e3,n3,n2,df,o3]
 refine al (al (Ri (FT dJ J7) (by omega) (by omega) (fun M6 eP bU cG hos=>aQ hT rfl rfl ?_) (by simpa only [aK] using np)))
 exact ⟨_,t,lv4,am,rfl,aH eP (fun _ _ h=>h) kf,rfl,_,rfl,⟨_,_,_,cG,hos,aH eP (bL eP) mP,rfl⟩⟩
def LC:Q:=⟨[],[],[],0⟩
def acz (q:Stm)(v:Value)(M:aS):Prop:=∃ cs,v=.agg ⟨cs⟩/\my M q cs
theorem xz {M:aS}:RQ M LC [.slice none 0 0,.slice none 0 0,.slice none 0 0,.int .i64 0]:=⟨_,_,_,bu,bu,bu,rfl⟩
theorem K1 {M:aS}{q:Q}{cs:List Value}(h:RQ M q cs):∃ p o r,cs=[p,o,r,.int .i64 q.limit]/\p.oneCell'=true/\o.oneCell'=true/\r.oneCell'=true:=by
 obtain ⟨p,o,r,h1,h2,h3,rfl⟩:=h
 exact ⟨p,o,r,rfl,(dA h1).1,(dA h2).1,(dA h3).1⟩
def ZG (en:Int)(ex:List Tk ->Rs X)(t:List Tk):Rs Stm:=(iF en t).bind fun n t=>(bZ en [wAs] t).bind fun _ t=>(om en ex t).bind fun q t=> .ok ⟨2,n,[],q,[],false,jZ⟩ t
def Ry (en:Int)(t:List Tk):Rs Stm:=(bZ en [abd] t).bind fun _ t=>(iF en t).bind fun n t=>(bZ en [rJ] t).bind fun _ t=>(dw en (qH en) 8 t).bind fun c t=>(bZ en [kC] t).bind fun _ t=> .ok ⟨1,n,c,LC,[],false,jZ⟩ t
def Ks (en:Int)(t:List Tk):Rs Stm:=(bZ en [aer] t).bind fun _ t=>(iF en t).bind fun n t=>(bZ en [Wl] t).bind fun _ t=>(dw en (QH en) 400 t).bind fun r t=> .ok ⟨3,n,[],LC,r,false,jZ⟩ t
def JZ (en:Int)(ex:List Tk ->Rs X)(t:List Tk):Rs Stm:=(bZ en [YC] t).bind fun _ t=>(iF en t).bind fun n t=>(Dh ex rZ t).bind fun wh t'=> .ok ⟨4,n,[],LC,[],bD rZ t,wh⟩ t'
def YV (en:Int)(ex:List Tk ->Rs X)(t:List Tk):Rs Stm:=(bZ en [agd] t).bind fun _ t=>(om en ex t).bind fun q t=> .ok ⟨5,[],[],q,[],false,jZ⟩ t
def pz (en:Int)(ex:List Tk ->Rs X)(t:List Tk):Rs Stm:=
 if bD Kd t=true then (if bD Y5 t.tail=true then ZG en ex t.tail.tail else Ry en t.tail)
 else if bD Lh t=true then Ks en t.tail
 else if bD Mc t=true then JZ en ex t.tail
 else YV en ex t
theorem Wq {M:aS}{pb:Nat}{aU:List Tk}{lv:Value}{en op:Int}{ex:List Tk ->Rs X}(hg:eQ M)(hl:RS M gC 3 aU lv)(ix:Zs en pb ex op)(cu:pz en ex aU≠ .out)(T:Tm):
 bV Tryz.prog 26 [.pointer (some ⟨pb,0,none⟩)] T M (pL pb lv en op) [] (fH pb en op acz (pz en ex aU)) (gl pb en (pz en ex aU)):=by
 refine az F26 rfl rfl ?_
 intro bi _
 simp only [aK] at bi
 simp +contextual only [go_sem,aD,sevalprocAttr]
 intro b2 T2 dN fh dy ei
 have am:pz en ex aU=pz en ex aU:=rfl
 generalize hS:pz en ex aU=S at cu ⊢
 unfold pz at hS
 replace am:=hS.symm
 refine iz [(b2,_)] Kd hl (fun hs lv1 gK=> ?_) (fun hs lv1 gK=> ?_)
 ·rw [if_pos hs] at am
  simp +contextual only [go_sem,aD,sevalprocAttr]
  refine iz [(b2,_)] Y5 gK (fun hs lv2 fp=> ?_) (fun hs lv2 fp=> ?_)
  ·rw [if_pos hs] at am
   unfold ZG at am
   simp +contextual only [go_sem,aD,sevalprocAttr]
   refine cm [(b2,_)] dy am cu (fun _=>hO hg fp T2) ?_
   rintro v M1 n t lv3 aV bG am fF rfl
   simp only [nn,aJ,aK] at bG
   simp +contextual only [go_sem,sevalprocAttr]
   intro b3 T3 ii df fV gD b4 eN eE
   have hT:=dy.trans fV
   refine dM [(b3,_),(b2,_)] hT am fF ?_
   intro M2 lv4 bh aZ am kf
   simp +contextual only [go_sem,sevalprocAttr]
   refine cm [(b3,_),(b2,_)] hT am cu (fun h=>Ez ((hg.ext aV).ext bh) kf ix h T3) ?_
   rintro v M3 q t2 lv5 bE bB am gZ ⟨cs,rfl,hq⟩
   obtain ⟨p,o,r,rfl,h1,h2,h3⟩:=K1 hq
   simp only [nn,aJ,aK] at bB
   simp +contextual only [go_sem,sevalprocAttr,bB,df,h1,h2,h3]
   refine al (al (aQ hT rfl rfl ?_))
   exact ⟨_,_,lv5,am,rfl,gZ,rfl,_,rfl,_,_,_,_,bu,hq,bu,kP,rfl⟩
  ·rw [if_neg (by simp [hs])] at am
   unfold Ry at am
   simp +contextual only [go_sem,aD,sevalprocAttr]
   intro b4 eN eE
   refine dM [(b2,_)] dy am fp ?_
   intro M1 lv3 aV bG am fF
   simp +contextual only [go_sem,sevalprocAttr]
   refine cm [(b2,_)] dy am cu (fun _=>hO (hg.ext aV) fF T2) ?_
   rintro v M2 n t lv4 bh aZ am kf rfl
   simp only [nn,aJ,aK] at aZ
   simp +contextual only [go_sem,sevalprocAttr]
   intro b3 T3 ii df fV gD b5 j6 ea
   have hT:=dy.trans fV
   refine dM [(b3,_),(b2,_)] hT am kf ?_
   intro M3 lv5 bE bB am gZ
   simp +contextual only [go_sem,sevalprocAttr]
   refine cm [(b3,_),(b2,_)] hT am cu (fun h=>JP (fa:=[.pointer (some ⟨pb,0,none⟩)]) (fc:=[]) (C:=fun _=>True) (r:=fun _=>ua) (enc:=Zo) (g:=qH en) 8
    (fun M t lv T hg _ hl cu=>Oz hg hl T) (fun x v M h=>by obtain ⟨cs,rfl,h⟩:=h;exact ⟨cs,rfl,h⟩) (fun _ _ _ h=>by unfold ua at h;subst h;rfl) (fun _ _ _ h=>by unfold ua at h;subst h;intro u hu;simp only [mn] at hu;rcases hu with rfl | rfl<;>rfl) (fun _ _ _ _ he h=>h)
    (fun _ _ _ h=>h) trivial (by decide) (((hg.ext aV).ext bh).ext bE) gZ h T3) ?_
   rintro v M4 cols t2 lv6 dD de am mB hv
   obtain ⟨k9,sj⟩:=dA hv
   have G9:=sj
   simp only [Value.cells] at G9
   simp only [nn,aJ,aK] at de
   simp +contextual only [go_sem,sevalprocAttr,k9,G9]
   intro b6 pt gE
   refine dM [(b3,_),(b2,_)] hT am mB ?_
   intro M5 lv7 dJ bR am o5
   simp only [nn,aJ,aK] at bR
   simp +contextual only [go_sem,sevalprocAttr,bR,df,k9]
   refine al (al (aQ hT rfl rfl ?_))
   exact ⟨_,_,lv7,am,rfl,o5,rfl,_,rfl,_,_,_,_,aH dJ (fun _ _ h=>h) hv,xz,bu,kP,rfl⟩
 rw [if_neg (by simp [hs])] at am
 clear hs
 simp +contextual only [go_sem,aD,sevalprocAttr]
 refine iz [(b2,_)] Lh gK (fun hs lv2 fp=> ?_) (fun hs lv2 fp=> ?_)
 ·rw [if_pos hs] at am
  unfold Ks at am
  simp +contextual only [go_sem,aD,sevalprocAttr]
  intro b4 eN eE
  refine dM [(b2,_)] dy am fp ?_
  intro M1 lv3 aV bG am fF
  simp +contextual only [go_sem,sevalprocAttr]
  refine cm [(b2,_)] dy am cu (fun _=>hO (hg.ext aV) fF T2) ?_
  rintro v M2 n t lv4 bh aZ am kf rfl
  simp only [nn,aJ,aK] at aZ
  simp +contextual only [go_sem,sevalprocAttr]
  intro b3 T3 ii df fV gD b5 j6 ea
  have hT:=dy.trans fV
  refine dM [(b3,_),(b2,_)] hT am kf ?_
  intro M3 lv5 bE bB am gZ
  simp +contextual only [go_sem,sevalprocAttr]
  refine cm [(b3,_),(b2,_)] hT am cu (fun h=>HQ (fa:=[.pointer (some ⟨pb,0,none⟩)]) (fc:=[]) (C:=fun _=>True) (r:=Hv) (enc:=S9) (g:=QH en) 400
   (fun M t lv T hg _ hl cu=>abz hg hl T) (fun x v M h=>⟨_,(dA h).2,_,h,rfl⟩) (fun _ _ _ h=>by obtain ⟨_,_,rfl⟩:=h;rfl) (fun _ _ _ h=>by obtain ⟨_,h,rfl⟩:=h;intro u hu;simp only [List.mem_singleton] at hu;subst hu;exact (dA h).1) (fun _ _ _ _ he h=>iP he _ _ h)
   (fun _ _ _ h=>h) trivial (by decide) (((hg.ext aV).ext bh).ext bE) gZ h T3) ?_
  rintro v M4 rows t2 lv6 dD de am mB hv
  obtain ⟨k9,sj⟩:=dA hv
  have G9:=sj
  simp only [Value.cells] at G9
  simp only [nn,aJ,aK] at de
  simp +contextual only [go_sem,sevalprocAttr,de,df,k9,G9]
  refine al (al (aQ hT rfl rfl ?_))
  exact ⟨_,_,lv6,am,rfl,mB,rfl,_,rfl,_,_,_,_,bu,xz,hv,kP,rfl⟩
 rw [if_neg (by simp [hs])] at am
 clear hs
 simp +contextual only [go_sem,aD,sevalprocAttr]
 refine iz [(b2,_)] Mc fp (fun hs lv3 fF=> ?_) (fun hs lv3 fF=> ?_)
 ·rw [if_pos hs] at am
  unfold JZ at am
  simp +contextual only [go_sem,aD,sevalprocAttr]
  intro b4 eN eE
  refine dM [(b2,_)] dy am fF ?_
  intro M1 lv4 aV bG am kf
  simp +contextual only [go_sem,sevalprocAttr]
  refine cm [(b2,_)] dy am cu (fun _=>hO (hg.ext aV) kf T2) ?_
  rintro v M2 n t lv5 bh aZ am gZ rfl
  simp only [nn,aJ,aK] at aZ
  simp +contextual only [go_sem,sevalprocAttr]
  intro b3 T3 ii df fV gD
  have hT:=dy.trans fV
  refine iz [(b3,_),(b2,_)] rZ gZ (fun hs lv6 mB=> ?_) (fun hs lv6 mB=> ?_)
  ·unfold Dh at am
   rw [if_pos hs,hs] at am
   simp +contextual only [go_sem,aD,sevalprocAttr,ii]
   refine cm [(b3,_),(b2,_)] hT am cu (fun h=>ix M2 _ lv6 T3 ((hg.ext aV).ext bh) mB h) ?_
   rintro v M3 x t2 lv7 bE bB am o5 ⟨cs,rfl,hx⟩
   obtain ⟨s,rfl,h1,_⟩:=bX hx
   simp only [nn,aJ,aK] at bB
   simp +contextual only [go_sem,sevalprocAttr,bB,df,h1]
   refine al (al (aQ hT rfl rfl ?_))
   exact ⟨_,_,lv7,am,rfl,o5,rfl,_,rfl,_,_,_,_,bu,xz,bu,hx,rfl⟩
  ·unfold Dh at am
   rw [if_neg (by simp [hs]),hs] at am
   simp +contextual only [go_sem,aD,sevalprocAttr,aZ,ii,df]
   refine al (al (aQ hT rfl rfl ?_))
   exact ⟨_,_,lv6,am,rfl,mB,rfl,_,rfl,_,_,_,_,bu,xz,bu,kP,rfl⟩
 rw [if_neg (by simp [hs])] at am
 clear hs
 unfold YV at am
 simp +contextual only [go_sem,aD,sevalprocAttr]
 intro b4 eN eE
 refine dM [(b2,_)] dy am fF ?_
 intro M1 lv4 aV bG am kf
 simp +contextual only [go_sem,sevalprocAttr]
 refine cm [(b2,_)] dy am cu (fun h=>Ez (hg.ext aV) kf ix h T2) ?_
 rintro v M2 q t2 lv5 bh aZ am gZ ⟨cs,rfl,hq⟩
 obtain ⟨p,o,r,rfl,h1,h2,h3⟩:=K1 hq
 simp only [nn,aJ,aK] at aZ
 simp +contextual only [go_sem,sevalprocAttr,aZ,h1,h2,h3]
 refine al (aQ dy rfl rfl ?_)
 exact ⟨_,_,lv5,am,rfl,gZ,rfl,_,rfl,_,_,_,_,bu,hq,bu,kP,rfl⟩
def nu (p:UInt8 ->Bool)(s:Bs):Nat:=(s.takeWhile p).length
theorem Ak {gf:Nat}{p:UInt8 ->Bool}(hp:∀ (c:UInt8) (M:aS),Ct Tryz.prog gf [.int .u8 (c.toNat:Int)] M [] [] (fun r _ _ _=>r=.bool (p c)) aM)(s:Bs)(hs:s.length<=4000)(M:aS):
 Ct Tryz.prog 67 [st s,.func (.func gf) ⟨[]⟩ ⟨[]⟩] M [] [] (fun r _ _ _=>r=.int .i64 (nu p s)) aM:=by
 intro T
 refine az F67 rfl rfl ?_
 intro bi _
 simp +contextual only [go_sem,aD,sevalprocAttr]
 refine aO s.length 5 [(0,st s),(1,.func (.func gf) ⟨[]⟩ ⟨[]⟩)] (fun i e h=>∃ M',h=⟨T,M',[],[]⟩/\nu p s=i+nu p (s.drop i)) 0 (by omega) (by simp only [aE,go_sem,sevalprocAttr]) (by simp only [go_sem,sevalprocAttr]) ⟨M,rfl,by simp⟩ ?_
 rintro i e h hi aG ht ⟨M1,rfl,am⟩
 simp only [aE,st] at aG
 by_cases aL:i<s.length
 ·have hx:=kE aL
  have bK:s.drop i=s[i]::s.drop (i+1):=dq aL
  rw [bK] at am
  simp +contextual only [go_sem,sevalprocAttr,aG,ht,aL,hx]
  refine aI (hp s[i] M1 T) ?_
  rintro v M2 bh _ rfl
  by_cases hk:p s[i]=true
  ·simp +contextual only [go_sem,aD,sevalprocAttr,ht,hk]
   refine ce aL ?_ ?_ ⟨M2,rfl,?_⟩
   ·simp only [aE,aG,go_sem,sevalprocAttr]
   ·simp only [go_sem,sevalprocAttr,aA i (by omega)]
   ·rw [am];simp only [nu,List.takeWhile_cons,hk,if_true,List.length_cons];omega
  ·simp +contextual only [go_sem,aD,sevalprocAttr,ht,hk]
   refine ak aF.rfl' ?_
   rw [am]
   simp only [nu,List.takeWhile_cons,hk,if_false,Bool.false_eq_true,List.length_nil,Nat.add_zero]
 ·have:i=s.length:=by omega
  subst this
  simp +contextual only [go_sem,aD,sevalprocAttr,aG,ht,aL]
  refine ak aF.rfl' ?_
  rw [am]
  simp [nu]
theorem Ik (s x:Bs)(M:aS):Ct Tryz.prog 117 [st s,st x] M [] [] (fun r _ _ _=>r=.bool (x.isPrefixOf s)) aM:=by
 intro T
 refine az akY rfl rfl ?_
 intro bi _
 by_cases hl:x.length<=s.length
 ·simp +contextual only [go_sem,sevalprocAttr,hl]
  refine ak aF.rfl' ?_
  rw [List.drop_zero]
  congr 1
  rw [Bool.eq_iff_iff,List.isPrefixOf_iff_prefix,List.prefix_iff_eq_take,decide_eq_true_eq]
  exact eq_comm
 ·simp +contextual only [go_sem,sevalprocAttr,hl]
  refine ak aF.rfl' ?_
  have:x.isPrefixOf s=false:=by
   rw [Bool.eq_false_iff];intro h;exact hl (List.isPrefixOf_iff_prefix.1 h).length_le
  rw [this]
theorem O1 (s x:Bs)(M:aS):Ct Tryz.prog 73 [st s,st x] M [] [] (fun r _ _ _=>r=.bool (x.isPrefixOf s)) aM:=by
 intro T
 refine az F73 rfl rfl ?_
 intro bi _
 simp +contextual only [go_sem,sevalprocAttr]
 refine aI (Ik s x M T) ?_
 rintro v M2 bh _ rfl
 simp +contextual only [go_sem,sevalprocAttr]
 exact ak aF.rfl' rfl
open Go Vc Go.RowKit Go.Shelf
theorem PR:Tryz.f116.ntmps=20:=by kernel_rfl
theorem ws:(Tryz.prog.info? 148).map (·.size)=some 2:=by kernel_rfl
theorem E6:liesAt Tryz.prog Tryz.prog.depth 148 (2 / Tryz.prog.cellsOf 148) 0 148 1=true:=by kernel_rfl
set_option maxHeartbeats 1000000 in
set_option maxRecDepth 100000 in
theorem uM (b:Nat)(w:World)(h0:w.cell? ⟨b,0,none⟩=some (.pointer (some ⟨b,0,none⟩))):
 Calls Tryz.prog 116 #[.pointer (some ⟨b,0,none⟩)] w fun e w'=>e=.returned (.tuple #[])/\w'=w:=by
 obtain ⟨j,hj,_⟩:=Option.map_eq_some_iff.1 ws
 have mixed:=mx
 go_enter Tryz.func116,PR
 go_wp2
 rw [Lib.run_neq_ptr_same w _ Tryz.underlying145 hj]
 go_wp2
 go_end0
 exact ⟨rfl,rfl⟩
set_option maxHeartbeats 1000000 in
set_option maxRecDepth 100000 in
theorem ue (b:Nat)(w:World)(h0:w.cell? ⟨b,0,none⟩=some (.pointer none))(hsh:w.shape? b=some (148,2))(U7:w.frozen? ⟨b,0,none⟩=false):
 Calls Tryz.prog 116 #[.pointer (some ⟨b,0,none⟩)] w fun e w'=>e=.returned (.tuple #[])/\w'=w.setCell ⟨b,0,none⟩ (.pointer (some ⟨b,0,none⟩)):=by
 obtain ⟨j,hj,hjs⟩:=Option.map_eq_some_iff.1 ws
 have mixed:=mx
 have t95:=Tryz.underlying148
 have t93:=Tryz.underlying145
 go_enter Tryz.func116,PR
 go_wp2
 rw [Lib.run_to_unsafe w ⟨b,0,none⟩ Tryz.underlying145 Tryz.underlying286 hj (by rw [hjs];decide) hsh (Nat.zero_lt_succ 1)]
 simp only [Result.andThen]
 rw [Oper.upon_value]
 go_wp2
 rw [run_callFunc_extern Tryz.func182 (by kernel_rfl) (by kernel_rfl) (by kernel_rfl) (e:=Extern.AbiNoEscape.same) (by kernel_rfl)]
 rw [Lib.run_noEscape]
 simp only [Result.andThen]
 rw [Oper.upon_value]
 go_wp2
 rw [Lib.run_from_unsafe w ⟨b,0,none⟩ Tryz.underlying286 Tryz.underlying145 hj hsh E6]
 simp only [Result.andThen]
 rw [Oper.upon_value]
 go_wp2
 go_end0
 exact ⟨rfl,rfl⟩
theorem YT:Tryz.f72.ntmps=14:=by kernel_rfl
theorem Ok:Tryz.prog.cellsOf 5=1:=by kernel_rfl
set_option maxHeartbeats 1000000 in
set_option maxRecDepth 100000 in
theorem Ql {tid:TypeId}(b g cap:Nat)(p:Value)(cur:Array Value)(l:List UInt8)(w:World)(h0:l≠[])(eZ:w.heap[b]?=some (.cells #[p,.slice (some ⟨g,0,none⟩) l.length cap] tid (0,0)))
 (hg:w.heap[g]?=some (.cells cur 5 (0,0))) (hnc:l.length<=cap) (fS:cur.size=cap) (hcm:l.length<=4294967296) (aeC:cur.toList.take l.length=Lib.byteCells l):
 Calls Tryz.prog 72 #[.pointer (some ⟨b,0,none⟩)] w fun e w'=>e=.returned (.string ⟨l.toArray⟩)/\w'=w.drew.freeze ⟨g,0,none⟩ l.length:=by
 have AI:l.length≠0:=by simpa using h0
 have c1:w.drew.cell? ⟨b,1,none⟩=some (.slice (some ⟨g,0,none⟩) l.length cap):=by
  have:w.drew.heap[b]?=some (.cells #[p,.slice (some ⟨g,0,none⟩) l.length cap] tid (0,0)):=eZ
  rw [Lib.cell_of_heap this];rfl
 have hSD:(Builtin.unsafeSliceData_ #[146] 211 #[.slice (some ⟨g,0,none⟩) l.length cap]).run Tryz.prog w.drew=.ok (.pointer (some ⟨g,0,none⟩)) w.drew:=
  Lib.run_unsafeSliceData_row _ _ _ _ _ _ (by omega)
 have hUS:(Builtin.unsafeString_ #[211,3] 9 #[.pointer (some ⟨g,0,none⟩),.int .i64 l.length]).run Tryz.prog w.drew=.ok (.string ⟨l.toArray⟩) (w.drew.freeze ⟨g,0,none⟩ l.length):=by
  refine Lib.run_unsafeString_row w.drew 211 3 9 5 Tryz.underlying211 Ok g cur.size (by have XV:w.drew.heap[g]?=some (.cells cur 5 (0,0)):=hg;simp [World.shape?,XV]) l h0 (by omega) (by omega) ?_
  intro j x hx
  have XV:w.drew.heap[g]?=some (.cells cur 5 (0,0)):=hg
  have hj:j<l.length:=(List.getElem?_eq_some_iff.1 hx).1
  have h2:(cur.toList.take l.length)[j]?=some (.int .u8 x.toNat):=by rw [aeC];simp [Lib.byteCells,hx]
  rw [List.getElem?_take_of_lt hj] at h2
  rw [Addr.add_lit,Nat.zero_add,Lib.cell_of_heap XV]
  simpa using h2
 have mixed:=mx
 have t95:=Tryz.underlying148
 have t93:=Tryz.underlying145
 have t37:=Tryz.underlying146
 have t137:=Tryz.underlying211
 go_enter Tryz.func72,YT
 go_wp2
 go_region_o
 all_goals (go_wp2;go_ret;exact ⟨rfl,rfl⟩)
theorem CR {tid:TypeId}(b:Nat)(p:Value)(w:World)(eZ:w.heap[b]?=some (.cells #[p,.slice none 0 0] tid (0,0))):
 Calls Tryz.prog 72 #[.pointer (some ⟨b,0,none⟩)] w fun e w'=>e=.returned (.string ⟨#[]⟩)/\w'=w.drew:=by
 have hUS:∀ W q,(Builtin.unsafeString_ #[211,3] 9 #[.pointer q,.int .i64 0]).run Tryz.prog W=.ok (.string .empty) W:=fun W q=>Lib.run_unsafeString_none W _ _ _ q
 have c1:w.drew.cell? ⟨b,1,none⟩=some (.slice none 0 0):=by
  have:w.drew.heap[b]?=some (.cells #[p,.slice none 0 0] tid (0,0)):=eZ
  rw [Lib.cell_of_heap this];rfl
 have hSD:(Builtin.unsafeSliceData_ #[146] 211 #[.slice none 0 0]).run Tryz.prog w.drew=.ok (.pointer none) w.drew:=rfl
 have mixed:=mx
 have t95:=Tryz.underlying148
 have t93:=Tryz.underlying145
 have t37:=Tryz.underlying146
 have t137:=Tryz.underlying211
 go_enter Tryz.func72,YT
 go_wp2
 go_region_o
 all_goals (go_wp2;go_ret;exact ⟨rfl,rfl⟩)
theorem aaF.bd':dm Tryz.prog 116=true:=by kernel_rfl
theorem F48.bd':dm Tryz.prog 72=true:=by kernel_rfl
theorem Dy {T:Tm}{M:aS}{b:Nat}{p v:Value}(hT:T b=some 148)(hp:p=.pointer none\/p=.pointer (some ⟨b,0,none⟩)):
 bV Tryz.prog 116 [.pointer (some ⟨b,0,none⟩)] T M [(b,[p,v])] [] (fun r M' L' R'=>r=.tuple #[]/\M'=M/\L'=[(b,[.pointer (some ⟨b,0,none⟩),v])]/\R'=[]) aM:=by
 refine ⟨aaF.bd',fun w U hw=> ?_⟩
 obtain ⟨bs,rfl,hi⟩:=hw
 have eZ:w.heap[b]?=some (.cells #[p,v] 148 (0,0)):=hi.typed hT (List.mem_singleton.2 rfl)
 have c0:w.cell? ⟨b,0,none⟩=some p:=by rw [Lib.cell_of_heap eZ];rfl
 rcases hp with rfl | rfl
 ·refine Calls.mono (ue b w c0 (by simp [World.shape?,eZ]) (Lib.frozen_of_heap eZ 0)) ?_
  rintro e w' ⟨rfl,rfl⟩
  have h2:=hi.store (k:=b) (i:=0) (v:=.pointer (some ⟨b,0,none⟩)) (by simp)
  have h3:sI [(b,[.pointer none,v])] b 0 (.pointer (some ⟨b,0,none⟩))=[(b,[.pointer (some ⟨b,0,none⟩),v])]:=by simp [sI]
  rw [h3] at h2
  exact ⟨M,_,[],⟨⟨bs,h2⟩,rfl,rfl⟩,rfl,rfl,rfl,rfl⟩
 ·refine Calls.mono (uM b w c0) ?_
  rintro e w' ⟨rfl,rfl⟩
  exact ⟨M,_,[],⟨⟨bs,hi⟩,rfl,rfl⟩,rfl,rfl,rfl,rfl⟩
theorem Uj {w:World}{g n b:Nat}(h:b≠g):(w.drew.freeze ⟨g,0,none⟩ n).heap[b]?=w.heap[b]?:=by
 rw [tM h];rfl
theorem NT {w:World}{g n:Nat}:(w.drew.freeze ⟨g,0,none⟩ n).heap.size=w.heap.size:=by
 unfold World.freeze
 split
 ·rfl
 ·show (Array.modify _ _ _).size=_
  rw [Array.size_modify];rfl
theorem NE {tid:TypeId}{T:Tm}{M:aS}{b:Nat}{p v:Value}{l:Bs}(hT:T b=some tid)(hl:l.length<=1000000000)(ug:l=[] ->v=.slice none 0 0):
 bV Tryz.prog 72 [.pointer (some ⟨b,0,none⟩)] T M [(b,[p,v])] [(v,5,1,Lib.byteCells l)] (fun r M' L' R'=>r=st l/\M'=M/\(∃ v',L'=[(b,[p,v'])])/\R'=[(.slice none 0 0,5,1,[])]) aM:=by
 refine ⟨F48.bd',fun w U hw=> ?_⟩
 obtain ⟨bs,rfl,hi⟩:=hw
 have eZ:w.heap[b]?=some (.cells #[p,v] tid (0,0)):=hi.typed hT (List.mem_singleton.2 rfl)
 obtain ⟨bq,bP⟩:=hi.rows
 obtain ⟨o,rfl⟩:∃ o,bs=[o]:=by
  cases bs with
  | nil=>simp at bq
  | cons o bs=>cases bs with
   | nil=>exact ⟨o,rfl⟩
   | cons _ _=>simp at bq
 have hr:=bP 0 _ _ _ _ o rfl rfl
 rcases hr with ⟨rfl,hx,rfl⟩ | ⟨g,n,cap,junk,rfl,hg,hn,hc,di,rfl⟩ | ⟨h0,_⟩ | ⟨h0,_⟩
 rotate_left 2
 ·exact absurd h0 (by decide)
 ·exact absurd h0 (by decide)
 ·have AI:l=[]:=by simpa [Lib.byteCells] using hx
  subst AI
  refine Calls.mono (CR b p w eZ) ?_
  rintro e w' ⟨rfl,rfl⟩
  exact ⟨M,_,_,⟨⟨[none],hi.keeps ⟨rfl,rfl,rfl,Nat.le_refl _,fun _ _=>rfl⟩⟩,rfl,rfl⟩,rfl,rfl,⟨_,rfl⟩,rfl⟩
 ·have YK:(Lib.byteCells l).length=l.length:=by simp [Lib.byteCells]
  have yF:n=l.length:=by omega
  subst yF
  have L8:=hi.apart g (by simp)
  have Po:g∉[(b,[p,.slice (some ⟨g,0,none⟩) l.length cap])].map (·.1):=by
   have:=hi.nodup
   simp at this
   simp
   exact fun h=>this h.symm
  obtain ⟨bs',DC⟩:=hi.dropR
  have Z1:bs'=[]:=by simpa using DC.rows.1.symm
  subst Z1
  by_cases h0:l=[]
  ·have:=ug h0;injection this with h;cases h
  ·refine Calls.mono (Ql b g cap p _ l w h0 eZ hg di (by simpa using hc) (by omega) ?_) ?_
   ·rw [<- YK];simp
   ·rintro e w' ⟨rfl,rfl⟩
    have h2:=DC.keepsBut (g:=g) (w':=w.drew.freeze ⟨g,0,none⟩ l.length) L8.2 L8.1 Po (by simp) (by unfold World.freeze;split<;>rfl) (by unfold World.freeze;split<;>rfl) (by unfold World.freeze;split<;>rfl) (by rw [NT];exact Nat.le_refl _) (fun k hk _=>Uj hk)
    exact ⟨M,_,_,⟨⟨_,h2.addNil⟩,rfl,rfl⟩,rfl,rfl,⟨_,rfl⟩,rfl⟩
theorem ab5 {M:aS}{b n c:Nat}{a:Option Addr}{p:Value}:Ct Tryz.prog 71 [.pointer (some ⟨b,0,none⟩)] M [(b,[p,.slice a n c])] [] (fun r M' L' R'=>r=.int .i64 n/\M'=M/\L'=[(b,[p,.slice a n c])]/\R'=[]) aM:=by
 intro T
 refine az F71 rfl rfl ?_
 intro bi _
 simp only [aJ,and_true] at bi
 simp +contextual only [go_sem,sevalprocAttr,bi]
 exact aQ aF.rfl' rfl rfl ⟨rfl,rfl,rfl,rfl⟩
theorem uf {T:Tm}{M:aS}{b:Nat}{a:Option Addr}{n c:Nat}{p:Value}{xs:List Value}{ch:Int}(hT:T b=some 148)(hp:p=.pointer none\/p=.pointer (some ⟨b,0,none⟩))(hn:xs.length=n)(hl:n<=4000):
 bV Tryz.prog 70 [.pointer (some ⟨b,0,none⟩),.int .u8 ch] T M [(b,[p,.slice a n c])] [(.slice a n c,5,1,xs)] (fun r M' L' R'=>r=.nilIface/\M'=M/\∃ a' c',L'=[(b,[.pointer (some ⟨b,0,none⟩),.slice a' (n+1) c'])]/\R'=[(.slice a' (n+1) c',5,1,xs++[.int .u8 ch])]) aM:=by
 refine az F70 rfl rfl ?_
 intro bi _
 simp only [aJ,and_true] at bi
 simp +contextual only [go_sem,sevalprocAttr]
 refine dC [] (Dy hT hp) ?_ (fun _ _ _ _ _ _ h=>h.elim)
 rintro v M' L' _ _ ui ⟨rfl,rfl,rfl, -⟩
 simp +contextual only [go_sem,sevalprocAttr,bi]
 intro b1 fx vu
 refine gL Q6 Up (.slice _ 1 _ _ _ Tryz.underlying146 (cD [] fx trivial rfl) (by intro u hu;simp only [List.mem_singleton] at hu;subst hu;rfl)) (by rw [hn];simp only [ln];omega) ?_
 intro a' m c' hm
 have:m=n+1:=by rw [hn] at hm;simp only [ln] at hm;omega
 subst this
 simp +contextual only [go_sem,sevalprocAttr,vu]
 exact al (aQ aF.rfl' rfl rfl ⟨rfl,rfl,_,_,rfl,rfl⟩)
def KZ (c:UInt8):Bool:=lH c.toNat || jw c.toNat
def zy (c:UInt8):Bool:=jw c.toNat
def kx:List Bs:=[[60,62],[60,61],[62,61],[124,124],[60],[62],[61],[43],[45],[42],[40],[41],[44],[46],[59]]
def kW:Bs ->Option (Bs×Nat)
 | []=>none
 | [c]=>if c=39 then some ([],1) else none
 | c::d::l=>if c=39 then (if d=39 then (kW l).map fun x=>(39::x.1,x.2+2) else some ([],1)) else (kW (d::l)).map fun x=>(c::x.1,x.2+1)
def E0 (at_:Int):Bs ->Except (Int×Int) (Tk×Nat)
 | []=> .error (2,at_)
 | c::l=>
  if lH c.toNat=true then .ok (⟨1,(c::l).take (nu KZ (c::l)),at_⟩,nu KZ (c::l))
  else if jw c.toNat=true then (if 16<nu zy (c::l) then .error (3,at_) else .ok (⟨2,(c::l).take (nu zy (c::l)),at_⟩,nu zy (c::l)))
  else if c=39 then (match kW l with | none=> .error (2,at_) | some x=>if 60<x.1.length then .error (4,at_) else .ok (⟨3,x.1,at_⟩,x.2+1))
  else match kx.find? (·.isPrefixOf (c::l)) with | none=> .error (2,at_) | some x=> .ok (⟨4,x,at_⟩,x.length)
def tkV (t:Tk):Value:=.agg ⟨[.int .i64 t.k,st t.s,.int .i64 t.at_]⟩
theorem acd {M:aS}{s:Bs}{at_:Int}(h0:s≠[])(hs:s.length<=4000):
 Ct Tryz.prog 40 [st s,.int .i64 at_] M [] [] (fun r _ _ _=>∃ t n,E0 at_ s=.ok (t,n)/\r=.tuple ⟨[tkV t,.int .i64 (n:Int)]⟩) (fun ch _ _ _=>∃ e a,E0 at_ s=.error (e,a)/\ch=rN e a):=by
 intro T
 obtain ⟨c,l,cM⟩:∃ c l,s=c::l:=by
  cases s with
  | nil=>exact (h0 rfl).elim
  | cons c l=>exact ⟨c,l,rfl⟩
 have hx:s4 (bs s) 0=c:=by rw [kE (by rw [cM];simp)];simp [cM]
 have dO:(0:Int)<(s.length:Int):=by rw [cM];simp only [List.length_cons];omega
 obtain ⟨S,dt⟩:∃ S,S=E0 at_ s:=⟨_,rfl⟩
 rw [<- dt]
 rw [cM] at dt
 simp only [E0] at dt
 rw [<- cM] at dt
 have runle:∀ p,nu p s<=s.length:=fun p=>(List.takeWhile_sublist p).length_le
 refine az F40 rfl rfl ?_
 intro bi _
 simp +contextual only [go_sem,aD,sevalprocAttr,hx,dO]
 intro b4 T4 eN fG iI
 refine aI (rK c.toNat M T4) ?_
 rintro v M1 aV bG rfl
 by_cases Sy:lH c.toNat=true
 ·rw [if_pos Sy] at dt
  simp +contextual only [go_sem,aD,sevalprocAttr,Sy]
  refine aI (Ak (p:=KZ) (fun c M=>VO c.toNat M) s hs M1 T4) ?_
  rintro v M2 bh aZ rfl
  simp only [aJ,and_true] at aZ
  simp +contextual only [go_sem,sevalprocAttr,Sy,aZ,runle]
  refine ak (fG) ?_
  exact ⟨_,_,dt,by simp [tkV,st]⟩
 rw [if_neg Sy] at dt
 simp +contextual only [go_sem,aD,sevalprocAttr,Sy]
 refine aI (oH c.toNat M1 T4) ?_
 rintro v M2 bh aZ rfl
 by_cases OY:jw c.toNat=true
 ·rw [if_pos OY] at dt
  simp +contextual only [go_sem,aD,sevalprocAttr,OY]
  refine aI (Ak (p:=zy) (fun c M=>oH c.toNat M) s hs M2 T4) ?_
  rintro v M3 bE bB rfl
  simp only [aJ,and_true] at bB
  by_cases xy:16<nu zy s
  ·rw [if_pos xy] at dt
   have HG:(16:Int)<(nu zy s:Int):=by omega
   simp +contextual only [go_sem,aD,sevalprocAttr,OY,HG]
   refine bT (gI 3 at_ M3 T4) (fun _ _ _ _ h=>h.elim) ?_
   rintro ch M4 dD de rfl
   rw [l7,j2]
   exact ak fG ⟨_,_,dt,rfl⟩
  ·rw [if_neg xy] at dt
   have HG:¬ (16:Int)<(nu zy s:Int):=by omega
   simp +contextual only [go_sem,aD,sevalprocAttr,OY,HG,bB,runle]
   refine ak fG ?_
   exact ⟨_,_,dt,by simp [tkV,st]⟩
 rw [if_neg OY] at dt
 simp +contextual only [go_sem,aD,sevalprocAttr,OY]
 by_cases hq:c=39
 ·have hq':((c.toNat:Nat):Int)=39:=by rw [hq];rfl
  rw [if_pos hq] at dt
  simp +contextual only [go_sem,sevalprocAttr,hq']
  intro b9 T9 qy gP ut pR
  refine ⟨fun m e ds h=>ds=[]/\e 0=st s/\e 1=.int .i64 at_/\e 4=.pointer (some ⟨b4,0,none⟩)/\e 9=.pointer (some ⟨b9,0,none⟩)/\
   ∃ M' i acc a c p,e 10=.int .i64 (i:Nat)/\m+i=s.length+1/\1<=i/\i<=s.length/\M' b9=none/\M' b4=none/\acc.length<=i/\(p=.pointer none\/p=.pointer (some ⟨b9,0,none⟩))/\(acc=[] ->a=none/\c=0)/\
    kW l=(kW (s.drop i)).map (fun x=>(acc++x.1,(i - 1)+x.2))/\
    h=⟨T9,M',[(b9,[p,.slice a acc.length c]),(b4,[.int .i64 0,.string (bs []),.int .i64 0])],[(.slice a acc.length c,5,1,Lib.byteCells acc)]⟩,
   eF (aB ⟨s.length,rfl,?_,?_,?_,?_,M2,1,[],none,0,.pointer none,?_,rfl,Nat.le_refl _,by omega,qy,?_,by simp,.inl rfl,fun _=>⟨rfl,rfl⟩,?_,rfl⟩),?_⟩
  ·simp only [go_sem,sevalprocAttr]
  ·simp only [go_sem,sevalprocAttr]
  ·simp only [go_sem,sevalprocAttr]
  ·simp only [go_sem,sevalprocAttr]
  ·simp only [go_sem,sevalprocAttr]
  ·simpa [aJ] using aZ
  ·rw [cM];simp
  rintro m e ds h ⟨rfl,e0,e1,e4,e9,M3,i,acc,a,cc,p,e10,hm,h1,hi,n9,n4,bj,hp,ug,YD,rfl⟩
  by_cases aL:i<s.length
  ·have yL:=kE aL
   have bK:s.drop i=s[i]::s.drop (i+1):=dq aL
   have Z5:=aA i (by omega)
   by_cases h39:s[i]=39
   ·have QN:((s[i].toNat:Nat):Int)=39:=by rw [h39];rfl
    by_cases hd:i+1<s.length/\s[i+1]?=some 39
    ·obtain ⟨w9,hd2⟩:=hd
     have Ad:=kE w9
     have hv:s[i+1]=39:=by rw [gq w9] at hd2;injection hd2
     have If:s.drop (i+1)=s[i+1]::s.drop (i+1+1):=dq w9
     have adO:((s[i+1].toNat:Nat):Int)=39:=by rw [hv];rfl
     have aiE:=aA (i+1) (by omega)
     simp +contextual only [go_sem,aD,sevalprocAttr,e0,e9,e10,aL,yL,QN,Z5,w9,Ad,adO]
     refine gu [] [(b9,_)] [(b4,_)] [] [_] [] (uf pR hp (by simp [Lib.byteCells]) (by omega)) ?_ (fun _ _ _ _ _ _ _ _ h=>h.elim)
     rintro v M4 L' R' _ _ _ de ⟨rfl,rfl,a',c',rfl,rfl⟩
     simp +contextual only [go_sem,sevalprocAttr,aiE]
     rw [eJ]
     refine aB ⟨m - 2,by omega,rfl,?_,?_,?_,?_,M4,i+2,acc++[39],a',c',_,?_,by omega,by omega,by omega,n9,n4,by rw [List.length_append];simp only [ln];omega,.inr rfl,by simp,?_,?_⟩
     ·simp only [e0,go_sem,sevalprocAttr]
     ·simp only [e1,go_sem,sevalprocAttr]
     ·simp only [e4,go_sem,sevalprocAttr]
     ·simp only [e9,go_sem,sevalprocAttr]
     ·simp only [go_sem,sevalprocAttr]
     ·rw [YD,bK,If,h39,hv]
      simp only [kW,if_true]
      rw [Option.map_map]
      congr 1
      funext x
      simp only [Function.comp,List.append_assoc,nn,Prod.mk.injEq,true_and]
      omega
     ·rw [List.length_append];simp [Lib.byteCells]
    ·have aiY:kW (s.drop i)=some ([],1):=by
      rw [bK,h39]
      cases BQ:s.drop (i+1) with
      | nil=>simp [kW]
      | cons d r=>
       have w9:i+1<s.length:=by
        have:=congrArg List.length BQ
        simp only [List.length_drop,List.length_cons] at this
        omega
       have hdd:d≠39:=by
        rintro rfl
        apply hd
        refine ⟨w9,?_⟩
        rw [dq w9] at BQ
        injection BQ with h1 h2
        rw [gq w9,h1]
       simp [kW,hdd]
     rw [aiY] at YD
     simp only [Option.map_some,List.append_nil] at YD
     rw [YD] at dt
     simp only at dt
     have adm:∀ w9:i+1<s.length,¬ ((s[i+1].toNat:Nat):Int)=39:=by
      intro w9 h
      have h2:s[i+1].toNat=39:=by omega
      exact hd ⟨w9,by rw [gq w9];exact congrArg some (UInt8.toNat_inj.1 h2)⟩
     by_cases w9:i+1<s.length
     have Ad:=kE w9
     have fp:=adm w9
     simp +contextual only [go_sem,aD,sevalprocAttr,e0,e9,e10,aL,yL,QN,Z5,w9,Ad,fp]
     rotate_left
     simp +contextual only [go_sem,aD,sevalprocAttr,e0,e9,e10,aL,yL,QN,Z5,w9]
     all_goals
      refine gu [] [(b9,_)] [(b4,_)] [] [] [_] (ab5 T9) ?_ (fun _ _ _ _ _ _ _ _ h=>h.elim)
      rintro v M4 L' R' _ _ _ de ⟨rfl,rfl,rfl,rfl⟩
      by_cases h60:60<acc.length
      ·rw [if_pos h60] at dt
       have aa6:(60:Int)<(acc.length:Int):=by omega
       simp +contextual only [go_sem,aD,sevalprocAttr,e1,aa6]
       refine bT (gI 4 at_ M4 T9) (fun _ _ _ _ h=>h.elim) ?_
       rintro ch M5 dJ bR rfl
       rw [l7,j2]
       exact ak (fG.trans ut) ⟨_,_,dt,rfl⟩
      ·rw [if_neg h60] at dt
       have aa6:¬ (60:Int)<(acc.length:Int):=by omega
       simp +contextual only [go_sem,aD,sevalprocAttr,e9,aa6]
       refine gu [] [(b9,_)] [(b4,_)] [] [_] [] (NE (l:=acc) pR (by omega) (fun h=>by obtain ⟨rfl,rfl⟩:=ug h;rw [h];rfl)) ?_ (fun _ _ _ _ _ _ _ _ h=>h.elim)
       rintro v M5 L' R' _ _ _ bR ⟨rfl,rfl,⟨v',rfl⟩,rfl⟩
       simp only [nn,aJ,and_true] at bR
       simp +contextual only [go_sem,sevalprocAttr,e1,e4,e10,bR,gP,Z5]
       refine ak (fG.trans ut) ⟨_,_,dt,?_⟩
       simp only [tkV,st]
       congr 4
       have:i+1=i - 1+1+1:=by omega
       rw [<- this]
   ·have QN:¬ ((s[i].toNat:Nat):Int)=39:=by
     intro h
     have h2:s[i].toNat=39:=by omega
     exact h39 (UInt8.toNat_inj.1 h2)
    simp +contextual only [go_sem,aD,sevalprocAttr,e0,e9,e10,aL,yL,QN]
    refine gu [] [(b9,_)] [(b4,_)] [] [_] [] (uf pR hp (by simp [Lib.byteCells]) (by omega)) ?_ (fun _ _ _ _ _ _ _ _ h=>h.elim)
    rintro v M4 L' R' _ _ _ de ⟨rfl,rfl,a',c',rfl,rfl⟩
    simp +contextual only [go_sem,sevalprocAttr,e10,Z5]
    rw [eJ]
    refine aB ⟨m - 1,by omega,rfl,?_,?_,?_,?_,M4,i+1,acc++[s[i]],a',c',_,?_,by omega,by omega,by omega,n9,n4,by rw [List.length_append];simp only [ln];omega,.inr rfl,by simp,?_,?_⟩
    ·simp only [e0,go_sem,sevalprocAttr]
    ·simp only [e1,go_sem,sevalprocAttr]
    ·simp only [e4,go_sem,sevalprocAttr]
    ·simp only [e9,go_sem,sevalprocAttr]
    ·simp only [go_sem,sevalprocAttr]
    ·have:kW (s.drop i)=(kW (s.drop (i+1))).map fun x=>(s[i]::x.1,x.2+1):=by
      rw [bK]
      cases s.drop (i+1) with
      | nil=>simp [kW,h39]
      | cons d r=>simp [kW,h39]
     rw [YD,this,Option.map_map]
     congr 1
     funext x
     simp only [Function.comp,List.append_assoc,nn,Prod.mk.injEq,true_and]
     omega
    ·rw [List.length_append];simp [Lib.byteCells]
  ·have:i=s.length:=by omega
   subst this
   rw [List.drop_length] at YD
   simp only [kW,Option.map_none] at YD
   rw [YD] at dt
   simp +contextual only [go_sem,aD,sevalprocAttr,e0,e1,e10,aL]
   refine bT (gI 2 at_ M3 T9) (fun _ _ _ _ h=>h.elim) ?_
   rintro ch M4 dD de rfl
   rw [l7,j2]
   exact ak (fG.trans ut) ⟨_,_,dt,rfl⟩
 ·have hq':¬ ((c.toNat:Nat):Int)=39:=by
   intro h
   have h2:c.toNat=39:=by omega
   exact hq (UInt8.toNat_inj.1 h2)
  rw [if_neg hq] at dt
  simp +contextual only [go_sem,sevalprocAttr,hq']
  intro b84 aoN amv
  refine bY 15 86 [(0,st s),(1,.int .i64 at_),(4,.pointer (some ⟨b4,0,none⟩)),(84,.slice (some ⟨b84,0,none⟩) 15 15),(85,.int .i64 ((15:Nat):Int))]
   (fun i e h=>(∃ M',h=⟨T4,M',[(b4,[.int .i64 0,.string (bs []),.int .i64 0])],[]⟩/\M' b84=some (kx.map st)/\M' b4=none)/\kx.find? (fun x=>x.isPrefixOf s)=(kx.drop i).find? (fun x=>x.isPrefixOf s))
   0 (by omega) (by simp only [aE,go_sem,sevalprocAttr]) (by simp only [go_sem,sevalprocAttr]) (aT fun he hb bi=>aB ⟨⟨_,rfl,hb,bi.1⟩,rfl⟩) ?_
  rintro i e h hi aG ht ⟨⟨M3,rfl,hw,hn4⟩,Cm⟩
  simp only [aE,st] at aG
  by_cases aL:i<15
  ·have nB:i<kx.length:=aL
   have bK:kx.drop i=kx[i]::kx.drop (i+1):=dq nB
   rw [bK] at Cm
   have hx:aN M3 ⟨b84,i,none⟩=some (st kx[i]):=by
    rw [bg hw,List.getElem?_map,gq nB]
    rfl
   have Uz:(i:Int)<15:=by omega
   simp +contextual only [go_sem,aD,sevalprocAttr,aG,ht,Uz,hx]
   refine aI (O1 s kx[i] M3 T4) ?_
   rintro v M4 dD de rfl
   simp only [aJ,and_true] at de
   by_cases hp:kx[i].isPrefixOf s=true
   ·simp only [List.find?_cons,hp] at Cm
    rw [Cm] at dt
    simp +contextual only [go_sem,aD,sevalprocAttr,aG,hp,de]
    exact ak fG ⟨_,_,dt,by simp [tkV,st]⟩
   ·simp only [Bool.not_eq_true] at hp
    simp only [List.find?_cons,hp] at Cm
    simp +contextual only [go_sem,aD,sevalprocAttr,ht,hp]
    refine ce aL ?_ ?_ ⟨⟨M4,rfl,dD _ _ hw,de⟩,Cm⟩
    ·simp only [aE,aG,go_sem,sevalprocAttr]
    ·simp only [go_sem,sevalprocAttr,aA i (by omega)]
  ·have:i=15:=by omega
   subst this
   have XG:kx.find? (fun x=>x.isPrefixOf s)=none:=Cm
   rw [XG] at dt
   have h33:¬ ((15:Nat):Int)<15:=by omega
   simp +contextual only [go_sem,aD,sevalprocAttr,aG,ht]
   refine bT (gI 2 at_ M3 T4) (fun _ _ _ _ h=>h.elim) ?_
   rintro ch M4 dD de rfl
   rw [l7,j2]
   exact ak fG ⟨_,_,dt,rfl⟩
def Di (c:UInt8):Bool:=decide (c=32) || decide (c=9) || decide (c=10)
def pd:Nat ->Int ->Bs ->Except (Int×Int) (List Tk)
 | 0,_,_=> .ok []
 | _+1,_,[]=> .ok []
 | f+1,at_,c::l=>if Di c=true then pd f (at_+1) l else match E0 at_ (c::l) with
  | .error x=> .error x
  | .ok (t,n)=>match pd f (at_+n) ((c::l).drop n) with
   | .error x=> .error x
   | .ok ts=> .ok (t::ts)
def qR (s:Bs):Except (Int×Int) (List Tk):=if 4000<s.length then .error (4,0) else pd (s.length+1) 0 s
theorem C3 (p:UInt8 ->Bool)(s:Bs):nu p s<=s.length:=(List.takeWhile_sublist p).length_le
theorem yj {p:UInt8 ->Bool}{c:UInt8}{l:Bs}(h:p c=true):1<=nu p (c::l):=by simp [nu,h]
theorem Nj (p:UInt8 ->Bool)(s:Bs):s.take (nu p s)=s.takeWhile p:=by
 unfold nu
 induction s with
 | nil=>rfl
 | cons c l ih=>
  rw [List.takeWhile_cons]
  split
  ·simp [ih]
  ·simp
theorem Su:∀ (n:Nat) (l:Bs),l.length<=n ->∀ x,kW l=some x ->x.2<=l.length/\1<=x.2:=by
 intro n
 induction n with
 | zero=>
  intro l hl x hx
  cases l with
  | nil=>cases hx
  | cons c l=>simp at hl
 | succ n ih=>
  intro l hl x hx
  match l,hl,hx with
  | [],_,hx=>cases hx
  | [c],_,hx=>
   simp only [kW] at hx
   split at hx
   ·injection hx with hx;subst hx;simp
   ·cases hx
  | c::d::l,hl,hx=>
   simp only [List.length_cons] at hl
   simp only [kW] at hx
   split at hx
   ·split at hx
    ·obtain ⟨y,hy,rfl⟩:=Option.map_eq_some_iff.1 hx
     have:=ih l (by omega) y hy
     simp only [List.length_cons];omega
    ·injection hx with hx;subst hx;simp
   ·obtain ⟨y,hy,rfl⟩:=Option.map_eq_some_iff.1 hx
    have:=ih (d::l) (by simp only [List.length_cons];omega) y hy
    simp only [List.length_cons] at this ⊢;omega
theorem Lk {at_:Int}{s:Bs}{t:Tk}{n:Nat}(h:E0 at_ s=.ok (t,n)):1<=n/\n<=s.length/\(t.k=2 ->vP t.s=true):=by
 cases s with
 | nil=>cases h
 | cons c l=>
  simp only [E0] at h
  split at h
  ·rename_i hc
   injection h with h;injection h with h1 h2;subst h1 h2
   exact ⟨yj (by simp [KZ,hc]),C3 _ _,fun h=>by cases h⟩
  ·split at h
   ·rename_i hc
    split at h
    ·cases h
    ·rename_i xy
     injection h with h;injection h with h1 h2;subst h1 h2
     refine ⟨yj hc,C3 _ _,fun _=> ?_⟩
     have hp:=yj (p:=zy) (l:=l) hc
     have di:=C3 zy (c::l)
     simp only [vP,Bool.and_eq_true,decide_eq_true_eq,List.length_take]
     refine ⟨by omega,?_⟩
     rw [Nj]
     show (List.takeWhile zy (c::l)).all zy=true
     exact List.all_takeWhile
   ·split at h
    ·split at h
     ·cases h
     ·rename_i x hx
      split at h
      ·cases h
      ·injection h with h;injection h with h1 h2;subst h1 h2
       have:=Su _ l (Nat.le_refl _) x hx
       refine ⟨by omega,by simp only [List.length_cons];omega,fun h=>by cases h⟩
    ·split at h
     ·cases h
     ·rename_i x hx
      injection h with h;injection h with h1 h2;subst h1 h2
      have h1:=List.find?_some hx
      have h2:=List.mem_of_find?_eq_some hx
      have h3:∀ x∈kx,1<=x.length:=by decide
      exact ⟨h3 _ h2,(List.isPrefixOf_iff_prefix.1 h1).length_le,fun h=>by cases h⟩
theorem HD:∀ (f g:Nat) (at_:Int) (s:Bs),s.length<f ->s.length<g ->pd f at_ s=pd g at_ s:=by
 intro f
 induction f with
 | zero=>intro g at_ s h;omega
 | succ f ih=>
  intro g at_ s hf hg
  obtain ⟨g,rfl⟩:∃ k,g=k+1:=⟨g - 1,by omega⟩
  cases s with
  | nil=>rfl
  | cons c l=>
   simp only [List.length_cons] at hf hg
   simp only [pd]
   split
   ·exact ih g _ l (by omega) (by omega)
   ·cases ho:E0 at_ (c::l) with
    | error x=>rfl
    | ok x=>
     obtain ⟨t,n⟩:=x
     obtain ⟨h1,h2,_⟩:=Lk ho
     simp only
     rw [ih g _ ((c::l).drop n) (by simp only [List.length_drop,List.length_cons];omega) (by simp only [List.length_drop,List.length_cons];omega)]
theorem KO (c:UInt8):(0<=Lib.indexByte [32,9,10] c.toNat.toUInt8) ↔ Di c=true:=by
 have h1:c.toNat.toUInt8=c:=by simp
 rw [h1]
 have:=c.toNat_lt
 simp only [Lib.indexByte,Di,Bool.or_eq_true,decide_eq_true_eq]
 by_cases h32:c=32
 ·subst h32;decide
 ·by_cases h9:c=9
  ·subst h9;decide
  ·by_cases DX:c=10
   ·subst DX;decide
   ·have e1:(32==c)=false:=by simp;exact fun h=>h32 h.symm
    have e2:(9==c)=false:=by simp;exact fun h=>h9 h.symm
    have e3:(10==c)=false:=by simp;exact fun h=>DX h.symm
    simp [e1,e2,e3,h32,h9,DX]
theorem CE (l:Bs)(c:Int)(M:aS):Ct Tryz.prog 39 [st l,.int .u8 c] M [] [] (fun r M' _ _=>r=.int .i64 (Lib.indexByte l c.toNat.toUInt8)/\M'=M) aM:=
 xp (by kernel_rfl) fun w hw=>Calls.mono (Tryz.strings_IndexByte (bs l) c w) fun e w' h=>⟨by rw [h.1];rfl,by rw [h.2];exact ke.rfl'⟩
theorem Ox {M:aS}(s:Bs):Ct Tryz.prog 23 [st s] M [] [] (fun r M' _ _=>∃ ts,qR s=.ok ts/\RS M' gC 3 ts r) (fun ch _ _ _=>∃ e a,qR s=.error (e,a)/\ch=rN e a):=by
 intro T
 refine az F23 rfl rfl ?_
 intro bi _
 unfold qR
 by_cases h4:4000<s.length
 ·have WK:(4000:Int)<(s.length:Int):=by omega
  simp +contextual only [go_sem,aD,sevalprocAttr,WK]
  refine bT (gI 4 0 M T) (fun _ _ _ _ h=>h.elim) ?_
  rintro ch M4 dD de rfl
  rw [l7,j2]
  exact ak aF.rfl' ⟨_,_,if_pos h4,rfl⟩
 ·rw [if_neg h4]
  have WK:¬ (4000:Int)<(s.length:Int):=by omega
  simp +contextual only [go_sem,aD,sevalprocAttr,WK]
  refine ⟨fun m e ds h=>ds=[]/\e 0=st s/\
   ∃ N M' i acc a c xs,aF T N/\e 4=.int .i64 (i:Nat)/\e 3=.slice a acc.length c/\m+i=s.length+1/\i<=s.length/\acc.length<=i/\RL gC acc xs/\
    pd (s.length+1) 0 s=(match pd m (i:Int) (s.drop i) with | .error x=> .error x | .ok ts=> .ok (acc++ts))/\
    h=⟨N,M',[],[(.slice a acc.length c,102,3,xs)]⟩,
   eF (aB ⟨s.length+1,rfl,?_,T,M,0,[],none,0,[],aF.rfl',?_,?_,rfl,by omega,by simp,rfl,?_,rfl⟩),?_⟩
  ·simp only [go_sem,sevalprocAttr]
  ·simp only [go_sem,sevalprocAttr]
  ·simp only [go_sem,sevalprocAttr]
  ·rw [List.drop_zero];cases pd (s.length+1) 0 s<;>simp
  rintro m e ds h ⟨rfl,e0,N,M1,i,acc,a,cc,xs,hN,e4,e3,hm,hi,bj,fM,am,rfl⟩
  by_cases aL:i<s.length
  ·have hx:=kE aL
   have bK:s.drop i=s[i]::s.drop (i+1):=dq aL
   obtain ⟨m,rfl⟩:∃ k,m=k+1:=⟨m - 1,by omega⟩
   simp +contextual only [go_sem,aD,sevalprocAttr,e0,e4,aL,hx]
   refine aI (CE [32,9,10] (s[i].toNat:Int) M1 N) ?_
   rintro v M2 bh aZ ⟨rfl,rfl⟩
   rw [bK] at am
   simp only [pd] at am
   by_cases DW:Di s[i]=true
   ·rw [if_pos DW] at am
    have aaB:=(KO s[i]).2 DW
    simp +contextual only [go_sem,aD,sevalprocAttr,e4,aaB,aA i (by omega)]
    rw [eJ]
    refine aB ⟨m,by omega,rfl,?_,N,M2,i+1,acc,a,cc,xs,hN,?_,?_,by omega,by omega,by omega,fM,?_,rfl⟩
    ·simp only [e0,go_sem,sevalprocAttr]
    ·simp only [go_sem,sevalprocAttr]
    ·simp only [e3,go_sem,sevalprocAttr]
    ·exact am
   ·rw [if_neg DW] at am
    have aaB:¬ (0<=Lib.indexByte [32,9,10] s[i].toNat.toUInt8):=fun h=>DW ((KO s[i]).1 h)
    have wN:(s.drop i).take (s.length - i)=s.drop i:=List.take_of_length_le (by simp)
    simp +contextual only [go_sem,aD,sevalprocAttr,e0,e4,aaB,hi,wN]
    rw [<- bK] at am
    refine bT (acd (s:=s.drop i) (at_:=(i:Int)) (by intro h;rw [bK] at h;cases h) (by simp;omega) N) ?_ ?_
    ·rintro v M3 bE bB ⟨t,n,cB,rfl⟩
     obtain ⟨h1,h2,h3⟩:=Lk cB
     rw [List.length_drop] at h2
     rw [cB] at am
     simp only [List.drop_drop] at am
     simp +contextual only [go_sem,sevalprocAttr,e3,tkV]
     intro b5 T5 j6 lG oQ b6 pt gE
     have iH:=eL (fun _ _=>qW) fM
     refine gL YU Y6 (.slice _ 1 _ _ _ Tryz.underlying77 (cD [] pt trivial rfl) (by intro u hu;simp only [mn] at hu;rcases hu with rfl | rfl | rfl<;>rfl)) (by rw [iH];simp only [ln];omega) ?_
     intro ra rm rc jc
     have jA:rm=(acc++[t]).length:=by
      rw [iH] at jc
      rw [List.length_append]
      simp only [ln] at jc ⊢
      omega
     subst jA
     have ek:=cP fM (dj (r:=gC) (x:=t) ⟨rfl,h3⟩)
     have Z5:IntKind.i64.wrap ((i:Int)+(n:Int))=((i+n:Nat):Int):=by rw [bH (by omega) (by omega)];omega
     simp +contextual only [go_sem,sevalprocAttr,e4,Z5]
     rw [eJ]
     refine al (al (aB ⟨m+1 - n,by omega,rfl,?_,T5,M3,i+n,acc++[t],ra,rc,_,hN.trans lG,?_,?_,by omega,by omega,by rw [List.length_append];simp only [ln];omega,ek,?_,rfl⟩))
     ·simp only [e0,go_sem,sevalprocAttr]
     ·simp only [go_sem,sevalprocAttr]
     ·simp only [go_sem,sevalprocAttr]
     ·rw [am,HD m (m+1 - n) _ _ (by rw [List.length_drop];omega) (by rw [List.length_drop];omega)]
      rw [show ((i+n:Nat):Int)=(i:Int)+(n:Int) from by omega]
      cases pd (m+1 - n) ((i:Int)+(n:Int)) (s.drop (i+n))<;>simp
    ·rintro ch M3 bE bB ⟨er,a,lD,rfl⟩
     rw [lD] at am
     rw [l7,j2]
     exact ak hN ⟨_,_,am,rfl⟩
  ·have kg:i=s.length:=by omega
   subst kg
   obtain ⟨m,rfl⟩:∃ k,m=k+1:=⟨m - 1,by omega⟩
   rw [List.drop_length] at am
   simp only [pd,List.append_nil] at am
   simp +contextual only [go_sem,aD,sevalprocAttr,e0,e3,e4,aL]
   exact cK fun M2 bh aZ iG=>aQ hN rfl rfl ⟨acc,am,by omega,xs,iG,fM⟩
open Go Vc Go.RowKit
theorem Dp (p q:Addr)(w:World):
 CallsD Tryz.prog 22 #[.pointer (some p),.pointer (some q)] .returning w fun e u' w'=>e=.returned (.tuple #[])/\u'=.returning/\w'=w:=by
 have mixed:=mx
 refine callsD_of_wpS Tryz.func22 rfl fun c₀ cs hu=> ?_
 apply wpS_seq
 apply wpS_region
 simp [wpOpsS,go_sem,recoverD,hu,Exit.thenS]
 refine wpS_of_wp ?_
 go_wp2
 cases c₀
 simp_all [bodyPostS,results]
theorem IC {F:Fi}{c:Code}{e:dp}{ds:List Deferred}{h:Sh}(hr:cy Tryz.prog F [.code c] e ds h ⟨⟩):Vh Tryz.prog F.dr c F.k e ds h:=hr
def A9 (e a:Int)(r:Bool):PanicEntry:={v:=.iface 75 (.agg #[.int .i64 e,.int .i64 a]),recovered:=r}
set_option maxHeartbeats 4000000 in
theorem FL {w:World}{U:List Nat}{T:Tm}{M:aS}{bs:List (Option Nat)}{b2 b3:Nat}{er a:Int}{v1 v2 v3:Value}(hi:Hp ⟨w,M,U⟩ ⟨T,M,[(b2,[v1]),(b3,[v2,v3])],[]⟩ w bs):
 CallsD Tryz.prog 22 #[.pointer (some ⟨b2,0,none⟩),.pointer (some ⟨b3,0,none⟩)] (.panicking [A9 er a false]) w fun e u' w'=>e=.returned (.tuple #[])/\u'=.panicking [A9 er a true]/\
  Dw w U T M [b2,b3] 0 M [(b2,[.slice none 0 0]),(b3,[.int .i64 er,.int .i64 a])] [] w':=by
 have mixed:=mx
 have hTA:∀ (v:Array Value) (w:World),(Instr.typeAssert (.iface 75 (.agg v)) 20 75 true).run Tryz.prog w=.ok (.tuple #[.agg v,.bool true]) w:=fun _ _=>by kernel_rfl
 refine callsD_of_wpS Tryz.func22 rfl fun c₀ cs hu=> ?_
 unfold A9 at hu
 apply wpS_seq
 apply wpS_region
 simp [wpOpsS,go_sem,recoverD,hu,Exit.thenS]
 refine wpS_of_wp ?_
 go_wp2
 have h2:=hi.alloc (t:=75) [.int .i64 er,.int .i64 a]
 have im:=h2.apart
 have jj:=h2.nodup
 have hns:M w.heap.size=none:=(im _ (by simp)).1
 have pi:M b2=none:=(im _ (by simp)).1
 have H2:M b3=none:=(im _ (by simp)).1
 have hp:(¬ w.heap.size=b2/\¬ w.heap.size=b3/\¬ b2=b3)/\(¬ b2=w.heap.size/\¬ b3=w.heap.size/\¬ b3=b2):=by
  simp at jj
  obtain ⟨⟨h1,h2,_⟩,⟨h3,_⟩,_⟩:=jj
  exact ⟨⟨h1,h2,h3⟩,fun h=>h1 h.symm,fun h=>h2 h.symm,fun h=>h3 h.symm⟩
 refine wp_mono (jK (c₀:=⟨w,M,U⟩) (n:=13) (dr:=[(7,.take 0<| .take 1<| .eff 2 false (.eff 3 true (.done)<| .no)<| .no)]) mx _ (Fi.k ⟨[(7,.take 0<| .take 1<| .eff 2 false (.eff 3 true (.done)<| .no)<| .no)],fun _ ds h=>ds=[]/\cq h (vA T [b2,b3] 0 (fun _ M' L' R'=>M'=M/\L'=[(b2,[.slice none 0 0]),(b3,[.int .i64 er,.int .i64 a])]/\R'=[]) undef),fun _ _ _ _=>False⟩)
  (fun t=>Array.getD _ t undef) [] _ _ _ (by kernel_rfl) ⟨?_,rfl,fun _=>rfl⟩ ⟨_,h2⟩ ?_) ?_
 ·simp
 ·refine IC (F:=⟨[(7,.take 0<| .take 1<| .eff 2 false (.eff 3 true (.done)<| .no)<| .no)],_,_⟩) ?_
  generalize hE:(fun t=>Array.getD _ t undef)=env
  have e0:env 0=.pointer (some ⟨b2,0,none⟩):=by rw [<- hE];simp
  have e1:env 1=.pointer (some ⟨b3,0,none⟩):=by rw [<- hE];simp
  have e3:env 3=.pointer (some ⟨w.heap.size,0,none⟩):=by rw [<- hE];simp
  clear hE
  have hT:aF T (T.add w.heap.size 75):=hi.extT
  generalize w.heap.size=bx at*
  simp +contextual only [go_sem,sevalprocAttr]
  refine ⟨fun _ _ _ _ _ _ _ _ _ h=>h,?_⟩
  refine eG ⟨T,fun _=>none,[(bx,_)],[]⟩ (gx hns) ?_
  simp +contextual only [go_sem,sevalprocAttr,e0,e1,e3,hp]
  refine ⟨gx hns,?_⟩
  exact al (aQ hT rfl rfl ⟨rfl,rfl,rfl⟩)
 ·rintro ex act w' hq
  cases ex with
  | normal=>
   obtain ⟨e,ds,h,ha,hw,rfl,cM⟩:=hq
   obtain ⟨h',gh,hT,hk,hR,hM,hL,No⟩:=cM _ _ hw
   have iC:=ky hT gh hk hR
   rw [hM,hL,No] at iC
   have uw:=ha.2.1
   simp only [Exit.inBlock]
   cases c₀
   exact ⟨uw,_,rfl,.tuple #[],results_none rfl _ _ _,rfl,rfl,iC⟩
  | ret=>
   obtain ⟨e,ds,h,ha,hw,rfl,cM⟩:=hq
   obtain ⟨h',gh,hT,hk,hR,hM,hL,No⟩:=cM _ _ hw
   have iC:=ky hT gh hk hR
   rw [hM,hL,No] at iC
   have uw:=ha.2.1
   simp only [Exit.inBlock]
   cases c₀
   exact ⟨uw,_,rfl,.tuple #[],results_none rfl _ _ _,rfl,rfl,iC⟩
  | panic ch=>obtain ⟨_,_,_,_,_,h⟩:=hq;exact h.elim
  | exit id=>obtain ⟨_,_,_,_,_,h⟩:=hq;exact h.elim
  | goto l=>exact hq.elim
  | outgrown=>exact hq.elim
def rdD (b2 b3:Nat)(ag:Array Value):Deferred:={target:=.fn (.func 22) ⟨[.pointer (some ⟨b2,0,none⟩),.pointer (some ⟨b3,0,none⟩)]⟩,args:=ag}
def Sp (T:Tm)(ts:List ResultVar)(post:eu)(e:dp)(ds:List Deferred)(h:Sh):Prop:=
 ∃ b2 b3 ag,ds=[rdD b2 b3 ag]/\ag.toList=[]/\dU (l9 Tryz.prog e h ts) fun vs=>cq h (vA T [] 0 post (tf vs))
def Ke (T:Tm)(post:eu)(ch:List PanicEntry)(e:dp)(ds:List Deferred)(h:Sh):Prop:=
 ∃ b2 b3 ag er a,ds=[rdD b2 b3 ag]/\ag.toList=[]/\e 2=.pointer (some ⟨b2,0,none⟩)/\e 3=.pointer (some ⟨b3,0,none⟩)/\ch=[A9 er a false]/\
  cq h fun h'=>aF T h'.N/\h'.R=[]/\(∃ v1 v2 v3,h'.L=[(b2,[v1]),(b3,[v2,v3])])/\post (.tuple ⟨[.slice none 0 0,X3 er a]⟩) h'.M [] []
def Ni (T:Tm)(dr:List (Nat×Sched))(ts:List ResultVar)(post:eu):Fi:=⟨dr,Sp T ts post,Ke T post⟩
theorem X7 {b2 b3:Nat}{ag:Array Value}(h:ag.toList=[]):ag++(⟨[.pointer (some ⟨b2,0,none⟩),.pointer (some ⟨b3,0,none⟩)]⟩:Array Value)= #[.pointer (some ⟨b2,0,none⟩),.pointer (some ⟨b3,0,none⟩)]:=by
 apply Array.toList_inj.1
 simp [h]
theorem Bw {a:Array Value}{R:Ending ->World ->Prop}{w:World}{b2 b3:Nat}{ag:Array Value}{u:FrameMode}{fn:Func}(h:ag.toList=[])(hu:u≠ .run)
 (hc:CallsD Tryz.prog 22 #[.pointer (some ⟨b2,0,none⟩),.pointer (some ⟨b3,0,none⟩)] u w fun
  | .returned _,u',w'=>Leaves Tryz.prog fn a R [] (settle u') w'
  | .panicked chain,u',w'=>Leaves Tryz.prog fn a R [] (raised u' chain) w'
  | .outgrown,_,w'=>R .outgrown w'):Leaves Tryz.prog fn a R [rdD b2 b3 ag] u w:=by
 refine leaves_cons (f:=22) (args:= #[.pointer (some ⟨b2,0,none⟩),.pointer (some ⟨b3,0,none⟩)]) hu ?_ hc
 show (invoke (.fn (.func 22) _) ag).run Tryz.prog w=_
 have RM:=Tryz.func22
 simp only [invoke,callFunc,Sem.run_bind,Result.andThen_ok,run_program,RM]
 rw [X7 h]
 rfl
theorem Jc {fn:Func}{T:Tm}{dr U M post}(hr:fn.results.toList=[.cell 2 43,.cell 3 45]){w0:World}{ex:Exit}{a:Act}{w:World}{n:Nat}
 (hq:KontL.toQ ⟨w0,M,U⟩ n (Ni T dr fn.results.toList post).k ex a w):bodyPostD Tryz.prog fn (Ps U T M [] 0 post aM w0) ex a w:=by
 have Gt:∀ {e ds h},Fr n a e ds ->Is ⟨w0,M,U⟩ h w ->Sp T fn.results.toList post e ds h ->Leaves Tryz.prog fn a.tmps (Ps U T M [] 0 post aM w0) a.defers .returning w:=by
  rintro e ds h ha hw ⟨b2,b3,ag,rfl,Pk,hd⟩
  rw [ha.2.1]
  refine Bw Pk (by simp) ?_
  refine (Dp _ _ w).mono ?_
  rintro en u' w' ⟨rfl,rfl,rfl⟩
  obtain ⟨vs,Hy,cM⟩:=cE hd
  obtain ⟨h',gh,hT,hk,hR,hp⟩:=cM _ _ hw
  exact ⟨_,jY hw Hy ha.2.2,h'.M,h'.L,h'.R,ky hT gh hk hR,hp⟩
 cases ex with
 | normal=>obtain ⟨e,ds,h,ha,hw,hd⟩:=hq;exact Gt ha hw hd
 | ret=>obtain ⟨e,ds,h,ha,hw,hd⟩:=hq;exact Gt ha hw hd
 | panic ch=>
  obtain ⟨e,ds,h,ha,hw,b2,b3,ag,er,ar,rfl,Pk,e2,e3,rfl,cM⟩:=hq
  show Leaves Tryz.prog fn a.tmps _ a.defers (.panicking _) w
  rw [ha.2.1]
  obtain ⟨⟨N,M',L',R'⟩,⟨bs,hi⟩,hT,hR,⟨v1,v2,v3,hL⟩,hp⟩:=cM _ _ hw
  simp only at hT hR hL hp
  subst hR hL
  have Z1:bs=[]:=by simpa using hi.rows.1.symm
  subst Z1
  have kg:Hp ⟨w0,M,U⟩ ⟨N,M',[]++[(b2,[v1]),(b3,[v2,v3])]++[],[]++[]++[]⟩ w ([]++[]++[]):=by simpa using hi
  have zz:=kg.enter rfl rfl
  refine Bw Pk (by simp) ?_
  refine (FL (er:=er) (a:=ar) zz).mono ?_
  rintro en u' w' ⟨rfl,rfl,⟨⟨bp',wA⟩,hk,hRl⟩⟩
  have YA:bp'=[]:=by simpa using wA.rows.1.symm
  subst YA
  have tw:=kg.frame (b1:=[]) (bp:=[]) (b2:=[]) rfl rfl rfl wA hk hRl
  have uO:Hp ⟨w0,M,U⟩ ⟨N,M',[(b2,[.slice none 0 0]),(b3,[.int .i64 er,.int .i64 ar])],[]⟩ w' []:=by simpa using tw
  have hIs:Is ⟨w0,M,U⟩ ⟨N,M',[(b2,[.slice none 0 0]),(b3,[.int .i64 er,.int .i64 ar])],[]⟩ w':=⟨[],uO⟩
  have pi:M' b2=none:=(uO.apart _ (by simp)).1
  have H2:M' b3=none:=(uO.apart _ (by simp)).1
  have cu:¬ b2=b3/\¬ b3=b2:=by
   have:=uO.nodup
   simp at this
   exact ⟨this,fun h=>this h.symm⟩
  have am:l9 Tryz.prog e ⟨N,M',[(b2,[.slice none 0 0]),(b3,[.int .i64 er,.int .i64 ar])],[]⟩ fn.results.toList=some [.slice none 0 0,X3 er ar]:=by
   rw [hr]
   simp +contextual only [go_sem,sevalprocAttr,e2,e3,pi,H2,cu]
   rfl
  have Tb:settle (.panicking [A9 er ar true])=.returning:=rfl
  show Leaves Tryz.prog fn a.tmps _ [] (settle (.panicking [A9 er ar true])) w'
  rw [Tb]
  obtain ⟨h',gh,hT',ML,No,DY⟩:=(ak (T:=T) (R:=[]) (L:=[(b2,[.slice none 0 0]),(b3,[.int .i64 er,.int .i64 ar])]) (post:=post) (v:=.tuple ⟨[.slice none 0 0,X3 er ar]⟩) hT hp) _ _ hIs
  exact ⟨_,jY hIs am ha.2.2,h'.M,h'.L,h'.R,ky hT' gh ML No,DY⟩
 | exit id=>obtain ⟨_,_,_,_,_,h⟩:=hq;exact h.elim
 | goto l=>exact hq.elim
 | outgrown=>exact hq.elim
theorem XY {f:FuncId}{fn:Func}{c:Code}{args:List Value}{dr}{T:Tm}{M post}(Cg:dm Tryz.prog f=true)
 (hf:Tryz.prog.funcs[f]?=some fn) (hb:fn.body=some c) (hn:args.length<=fn.ntmps) (hc:eo Tryz.prog fn.ntmps dr c=true) (hr:fn.results.toList=[.cell 2 43,.cell 3 45])
 (h:cy Tryz.prog (Ni T dr fn.results.toList post) [.code c] (mz args) [] ⟨T,M,[],[]⟩ ⟨⟩):bV Tryz.prog f args T M [] [] post aM:=by
 refine ⟨Cg,fun w U hw=>calls_of_wp_defers hf hb ?_⟩
 obtain ⟨h1,h2,h3⟩:=hw.facts
 have:=jK (c₀:=⟨w,M,U⟩) mx c (Ni T dr fn.results.toList post).k (mz args) [] ⟨T,M,[],[]⟩ w _ hc (fr0 args.toArray fn.ntmps (by simpa using hn)) h3 h
 exact wp_mono this fun ex a w' hq=>Jc hr hq
def gQ (l:List Bs):Int:=if l.all kL=true then 0 else 7
theorem tY {M:aS}{l:List Bs}{sv:Value}(hg:eQ M)(hs:RS M rj 1 l sv):Ct Tryz.prog 86 [sv] M [] [] (fun r _ _ _=>r=.int .i64 (gQ l)) aM:=by
 intro T
 obtain ⟨hb,a,c,rfl,di,_,gO⟩:=ax (by decide) (fun _ _=>ff) hs
 refine az F86 rfl rfl ?_
 intro bi _
 simp +contextual only [go_sem,aD,sevalprocAttr]
 refine aO l.length 7 [(5,.slice a l.length c),(6,.int .i64 l.length)] (fun i e h=>(∃ M',bm M M'/\h=⟨T,M',[],[]⟩)/\gQ l=gQ (l.drop i)) 0 (by omega) (by simp only [aE,go_sem,sevalprocAttr]) (by simp only [go_sem,sevalprocAttr]) ⟨⟨M,bm.rfl',rfl⟩,rfl⟩ ?_
 rintro i e h hi aG ht ⟨⟨M1,aV,rfl⟩,am⟩
 simp only [aE] at aG
 by_cases aL:i<l.length
 ·obtain ⟨b,o,cs,rfl,bQ,cG⟩:=gO i l[i] (gq aL)
  unfold rj at cG;subst cG
  have hx:=ay aV bQ.1
  rw [Nat.mul_one] at hx
  have bK:l.drop i=l[i]::l.drop (i+1):=dq aL
  rw [bK] at am
  simp +contextual only [go_sem,aD,sevalprocAttr,aG,ht,aL,hx]
  refine aI (tQ (hg.ext aV) l[i] T) ?_
  rintro v M2 bh _ rfl
  by_cases hn:kL l[i]=true
  ·simp +contextual only [go_sem,aD,sevalprocAttr,ht,hn]
   refine ce aL ?_ ?_ ⟨⟨M2,aV.trans bh,rfl⟩,?_⟩
   ·simp only [aE,aG,go_sem,sevalprocAttr]
   ·simp only [go_sem,sevalprocAttr,aA i (by omega)]
   ·rw [am];simp only [gQ,List.all_cons,hn,Bool.true_and]
  ·simp +contextual only [go_sem,aD,sevalprocAttr,hn]
   refine ak aF.rfl' ?_
   simp only [Bool.not_eq_true] at hn
   rw [am];simp only [gQ,List.all_cons,hn,Bool.false_and,if_false,Bool.false_eq_true]
 ·have:i=l.length:=by omega
  subst this
  simp +contextual only [go_sem,aD,sevalprocAttr,aG,ht,aL]
  refine ak aF.rfl' ?_
  rw [am];simp [gQ]
def j5 (s:Bs):Int:=if s=[] then 0 else gQ [s]
theorem E9 {M:aS}(s:Bs)(hg:eQ M):Ct Tryz.prog 190 [st s] M [] [] (fun r _ _ _=>r=.int .i64 (j5 s)) aM:=by
 intro T
 refine az aiU rfl rfl ?_
 intro bi _
 by_cases hs:s=[]
 ·simp +contextual only [go_sem,aD,sevalprocAttr,hs]
  exact ak aF.rfl' (by simp [j5])
 ·simp +contextual only [go_sem,aD,sevalprocAttr,hs]
  intro b hb
  refine cZ F86.bd fun M1 aV fx bG=> ?_
  have hl:RS M1 rj 1 [s] (.slice (some ⟨b,0,none⟩) 1 1):=dB (fun _ _=>ff) fx (kQ [s]) rfl (by decide)
  refine aI (tY (hg.ext aV) hl T) ?_
  rintro v M2 bh _ rfl
  simp +contextual only [go_sem,sevalprocAttr]
  exact ak aF.rfl' (by simp [j5,hs])
mutual
def kK (bI n:Nat):X ->Int×Nat
 | .mk k v tab name kids=>if 200<n+1\/20<bI then (4,n+1) else if rE k<0 then (1,n+1) else if (kids.length:Int)≠rE k then (5,n+1)
  else if k=1 then (eO v,n+1) else if k=2/\(kL name=false\/(tab≠[]/\kL tab=false)) then (7,n+1) else me (bI+1) (n+1) kids
def me (bI n:Nat):List X ->Int×Nat
 | []=>(0,n)
 | x::l=>if (kK bI n x).1≠0 then kK bI n x else me bI (kK bI n x).2 l
end
mutual
theorem BE (bI n:Nat):∀ x,n<=200 ->(kK bI n x).2<=201/\((kK bI n x).1=0 ->(kK bI n x).2<=200)
 | .mk k v tab name kids,hn=>by
  rw [kK]
  by_cases h:200<n+1\/20<bI
  ·rw [if_pos h];exact ⟨by show n+1<=201;omega,fun h=>by cases h⟩
  ·have ih:=AV (bI+1) (n+1) kids (by omega)
   rw [if_neg h]
   repeat' split
   all_goals first | exact ih | exact ⟨by show n+1<=201;omega,fun _=>by show n+1<=200;omega⟩
theorem AV (bI n:Nat):∀ l,n<=200 ->(me bI n l).2<=201/\((me bI n l).1=0 ->(me bI n l).2<=200)
 | [],hn=>by rw [me];exact ⟨by show n<=201;omega,fun _=>hn⟩
 | x::l,hn=>by
  rw [me]
  have hx:=BE bI n x hn
  split
  ·exact hx
  ·rename_i h0
   exact AV bI _ l (hx.2 (Classical.not_not.1 h0))
end
theorem vR {M:aS}{b o:Nat}{x:X}{cs:List Value}(h:RX M x cs)(ha:At M b o cs):∃ s,RS M (RX M) 7 x.kids s/\aN M ⟨b,o,none⟩=some (.int .i64 x.k)/\aN M ⟨b,o+1,none⟩=some (.int .i64 x.v.k)/\aN M ⟨b,o+2,none⟩=some (.int .i64 x.v.n)/\aN M ⟨b,o+3,none⟩=some (st x.v.t)/\
 aN M ⟨b,o+4,none⟩=some (st x.tab)/\aN M ⟨b,o+5,none⟩=some (st x.name)/\aN M ⟨b,o+6,none⟩=some s:=by
 obtain ⟨s,rfl,_,hs⟩:=bX h
 exact ⟨s,hs,ha.1,ha.2.1,ha.2.2.1,ha.2.2.2.1,ha.2.2.2.2.1,ha.2.2.2.2.2.1,ha.2.2.2.2.2.2.1⟩
theorem RJ:∀ (sz:Nat) (x:X),SizeOf.sizeOf x<=sz ->∀ (M:aS) (T:Tm) (b o hb bI n:Nat) (cs:List Value),eQ M ->At M b o cs ->RX M x cs ->n<=200 ->bI<=21 ->
 bV Tryz.prog 132 [.pointer (some ⟨hb,0,none⟩),.pointer (some ⟨b,o,none⟩),.int .i64 (bI:Int)] T M [(hb,[.int .i64 (n:Int)])] [] (fun r M' L' R'=>r=.int .i64 (kK bI n x).1/\L'=[(hb,[.int .i64 ((kK bI n x).2:Int)])]/\R'=[]) aM:=by
 intro sz
 induction sz with
 | zero=>intro x hx;cases x;simp at hx
 | succ sz ih=>
  intro x dS M T b o hb bI n cs hg ha hx hn Zj
  obtain ⟨s,hs,m0,m1,m2,m3,m4,m5,m6⟩:=vR hx ha
  obtain ⟨eZ,a,c,rfl,di,_,gO⟩:=ax (by decide) (fun _ _=>dT) hs
  refine az ado rfl rfl ?_
  intro bi _
  simp only [aJ,and_true] at bi
  have hwn:=aA n (by omega)
  have Xq:=aA bI (by omega)
  cases x with | mk k v tab name kids=>
  simp only [X.k,X.v,X.tab,X.name,X.kids] at m0 m1 m2 m3 m4 m5 m6 gO di hs eZ
  obtain ⟨S,hS⟩:∃ S,S=kK bI n (.mk k v tab name kids):=⟨_,rfl⟩
  rw [<- hS]
  rw [kK] at hS
  simp +contextual only [go_sem,aD,sevalprocAttr,bi,hwn,m0]
  by_cases vO:200<n+1\/20<bI
  ·rw [if_pos vO] at hS
   rw [if_pos (by omega)]
   exact aQ aF.rfl' rfl rfl ⟨by rw [hS],by rw [hS],rfl⟩
  rw [if_neg vO] at hS
  rw [if_neg (by omega)]
  refine aI (Fv k M T) ?_
  rintro r M1 aV bG rfl
  simp only [aJ,and_true] at bG
  have lC:=hg.ext aV
  replace m0:=ay aV m0
  replace m1:=ay aV m1
  replace m2:=ay aV m2
  replace m3:=ay aV m3
  replace m4:=ay aV m4
  replace m5:=ay aV m5
  replace m6:=ay aV m6
  simp +contextual only [go_sem,sevalprocAttr]
  refine lE (fun e ds h=>ds=[]/\e 0=.pointer (some ⟨hb,0,none⟩)/\e 1=.pointer (some ⟨b,o,none⟩)/\e 2=.int .i64 (bI:Int)/\S=me (bI+1) (n+1) kids/\∃ M',bm M1 M'/\M' hb=none/\h=⟨T,M',[(hb,[.int .i64 ((n+1:Nat):Int)])],[]⟩) (fun S' eY=> ?_) ?_
  ·by_cases o7:rE k<0
   ·rw [if_pos o7] at hS
    simp +contextual only [go_sem,aD,sevalprocAttr,o7]
    exact aQ aF.rfl' rfl rfl ⟨by rw [hS],by rw [hS],rfl⟩
   rw [if_neg o7] at hS
   by_cases pm:(kids.length:Int)=rE k
   ·rw [if_neg (fun h=>h pm)] at hS
    by_cases h1:k=1
    ·subst h1
     rw [if_pos rfl] at hS
     simp +contextual only [go_sem,aD,sevalprocAttr,o7,pm,m0,m1,m2,m3,m6]
     refine aI (ja v M1 T) ?_
     rintro r M2 bh aZ rfl
     simp +contextual only [go_sem,sevalprocAttr]
     exact aQ aF.rfl' rfl rfl ⟨by rw [hS],by rw [hS],rfl⟩
    rw [if_neg h1] at hS
    by_cases h2:k=2
    ·subst h2
     simp +contextual only [go_sem,aD,sevalprocAttr,o7,pm,m0,m5,m6]
     refine aI (tQ lC name T) ?_
     rintro r M2 bh aZ rfl
     simp only [aJ,and_true] at aZ
     replace m4:=ay bh m4
     by_cases Bl:kL name=true
     ·by_cases htb:tab=[]
      ·rw [if_neg (by rintro ⟨_,h | ⟨h,_⟩⟩;rw [Bl] at h;cases h;exact h htb)] at hS
       subst htb
       simp +contextual only [go_sem,aD,sevalprocAttr,Bl,m4]
       refine eY _ _ _ ⟨rfl,?_,?_,?_,hS,M2,bh,aZ,rfl⟩
       all_goals simp only [go_sem,sevalprocAttr]
      ·simp +contextual only [go_sem,sevalprocAttr,Bl,m4,htb]
       refine aI (tQ (lC.ext bh) tab T) ?_
       rintro r M3 bE bB rfl
       simp only [aJ,and_true] at bB
       by_cases pi:kL tab=true
       ·rw [if_neg (by rintro ⟨_,h | ⟨_,h⟩⟩;rw [Bl] at h;cases h;rw [pi] at h;cases h)] at hS
        simp +contextual only [go_sem,aD,sevalprocAttr,Bl,pi]
        refine eY _ _ _ ⟨rfl,?_,?_,?_,hS,M3,bh.trans bE,bB,rfl⟩
        all_goals simp only [go_sem,sevalprocAttr]
       ·rw [if_pos ⟨rfl,.inr ⟨htb,by simpa using pi⟩⟩] at hS
        simp +contextual only [go_sem,aD,sevalprocAttr,Bl,pi]
        exact aQ aF.rfl' rfl rfl ⟨by rw [hS],by rw [hS],rfl⟩
     ·rw [if_pos ⟨rfl,.inl (by simpa using Bl)⟩] at hS
      simp +contextual only [go_sem,aD,sevalprocAttr,Bl]
      exact aQ aF.rfl' rfl rfl ⟨by rw [hS],by rw [hS],rfl⟩
    ·rw [if_neg (fun h=>h2 h.1)] at hS
     simp +contextual only [go_sem,aD,sevalprocAttr,o7,pm,h1,h2,m0,m6]
     refine eY _ _ _ ⟨rfl,?_,?_,?_,hS,M1,bm.rfl',bG,rfl⟩
     all_goals simp only [go_sem,sevalprocAttr]
   ·rw [if_pos pm] at hS
    simp +contextual only [go_sem,aD,sevalprocAttr,o7,pm,m6]
    exact aQ aF.rfl' rfl rfl ⟨by rw [hS],by rw [hS],rfl⟩
  ·clear hS
   rintro e ds h ⟨rfl,e0,e1,e2,hS,M2,bh,n2,rfl⟩
   replace m6:=ay bh m6
   simp +contextual only [go_sem,aD,sevalprocAttr,e1,m6]
   refine aO kids.length 87 [(0,.pointer (some ⟨hb,0,none⟩)),(1,.pointer (some ⟨b,o,none⟩)),(2,.int .i64 (bI:Int)),(86,.int .i64 (kids.length:Int))] (fun i e h=>∃ (M':aS) (n':Nat),bm M2 M'/\M' hb=none/\n'<=200/\h=⟨T,M',[(hb,[.int .i64 (n':Int)])],[]⟩/\S=me (bI+1) n' (kids.drop i))
    0 (by omega) (by simp only [aE,e0,e1,e2,go_sem,sevalprocAttr]) (by simp only [go_sem,sevalprocAttr]) ⟨M2,n+1,bm.rfl',n2,by omega,rfl,hS⟩ ?_
   clear hS e0 e1 e2
   rintro i e h hi aG ht ⟨M3,n',bE,n3,Vm,rfl,hS⟩
   simp only [aE] at aG
   replace m6:=ay bE m6
   by_cases aL:i<kids.length
   ·obtain ⟨b',o',cs',rfl,bQ,dV⟩:=gO i kids[i] (gq aL)
    have te:=(aV.trans bh).trans bE
    have bK:kids.drop i=kids[i]::kids.drop (i+1):=dq aL
    rw [bK,me] at hS
    have IG:SizeOf.sizeOf kids[i]<=sz:=by
     have h1:=List.sizeOf_lt_of_mem (gm aL)
     simp only [X.mk.sizeOf_spec] at dS
     omega
    have ph:=BE (bI+1) n' kids[i] Vm
    simp +contextual only [go_sem,aD,sevalprocAttr,aG,ht,aL,m6,Xq]
    refine dC [] (ih kids[i] IG M3 T b' _ hb (bI+1) n' cs' (hg.ext te) (bQ.ext te) (bL te _ _ dV) Vm (by omega)) ?_ (fun _ _ _ _ _ _ h=>h.elim)
    rintro r M4 L' dD hk4 de ⟨rfl,rfl, -⟩
    simp only [List.nil_append,aJ,and_true] at de
    by_cases hr:(kK (bI+1) n' kids[i]).1=0
    ·rw [if_neg (fun h=>h hr)] at hS
     simp +contextual only [go_sem,aD,sevalprocAttr,ht,hr]
     refine ce aL ?_ ?_ ⟨M4,_,bE.trans dD,de,ph.2 hr,rfl,hS⟩
     ·simp only [aE,aG,go_sem,sevalprocAttr]
     ·simp only [go_sem,sevalprocAttr,aA i (by omega)]
    ·rw [if_pos hr] at hS
     simp +contextual only [go_sem,aD,sevalprocAttr,hr]
     exact aQ aF.rfl' rfl rfl ⟨by rw [hS],by rw [hS],rfl⟩
   ·have:i=kids.length:=by omega
    subst this
    rw [List.drop_length,me] at hS
    simp +contextual only [go_sem,aD,sevalprocAttr,aG,ht,aL]
    exact aQ aF.rfl' rfl rfl ⟨by rw [hS],by rw [hS],rfl⟩
theorem lx {F:Fi}{f:FuncId}{args:List Value}{dd:Option Nat}{s:List Vc.Item}{e:dp}{ds:List Deferred}{N:Tm}{M:aS}{L:LL}{R:RR}(hb:dm Tryz.prog f=true)
 (h:∀ M',bm M M' ->lV M' L ->dx Tryz.prog F f args dd s e ds ⟨N,M',[],R⟩ ⟨⟩):dx Tryz.prog F f args dd s e ds ⟨N,M,L,R⟩ ⟨⟩:=
 cL (k:=fun h'=>∃ M',bm M M'/\lV M' L/\h'=⟨N,M',[],R⟩) (lz fun M' he hL=>aB ⟨M',he,hL,rfl⟩) (by rintro h' ⟨M',he,hL,rfl⟩;exact h M' he hL) hb
def mM (x:X):Int:=(kK 1 0 x).1
theorem oE {M:aS}{x:X}{cs:List Value}(hg:eQ M)(hx:RX M x cs):Ct Tryz.prog 88 [.agg ⟨cs⟩] M [] [] (fun r _ _ _=>r=.int .i64 (mM x)) aM:=by
 intro T
 obtain ⟨s,rfl,h1,_⟩:=bX hx
 refine az F88 rfl rfl ?_
 intro bi _
 simp +contextual only [go_sem,sevalprocAttr]
 intro b1 T1 fx dh fT b4 T4 eN eE fG iI
 refine zC ado.bd fun M1 aV ZM bG=> ?_
 have ha:At M1 b1 0 [.int .i64 x.k,.int .i64 x.v.k,.int .i64 x.v.n,st x.v.t,st x.tab,st x.name,s]:=lf ZM _ 0 (fun i v h=>by rw [Nat.zero_add];exact h)
 refine dC [] (RJ _ x (Nat.le_refl _) M1 T4 b1 0 b4 1 0 _ (hg.ext aV) ha (bL aV _ _ hx) (by omega) (by omega)) ?_ (fun _ _ _ _ _ _ h=>h.elim)
 rintro r M2 L' bh lh aZ ⟨rfl,rfl, -⟩
 simp +contextual only [go_sem,sevalprocAttr]
 exact ak (dh.trans fG) rfl
def vN (a b:Int):Int:=if a≠0 then a else b
def mg:List Int ->Int | []=>0 | a::l=>vN a (mg l)
abbrev RFn (f:Nat×List Value×Int)(cs:List Value):Prop:=cs=[.func (.func f.1) ⟨[]⟩ ⟨f.2.1⟩]
theorem Ej {M:aS}{fs:List (Nat×List Value×Int)}{sv:Value}{es:List Int}(he:(fs.map fun f=>f.2.2)=es)(hs:RS M RFn 1 fs sv)
 (hf:∀ f∈fs,∀ M' T,bm M M' ->bV Tryz.prog f.1 f.2.1 T M' [] [] (fun r _ _ _=>r=.int .i64 f.2.2) aM):Ct Tryz.prog 187 [sv] M [] [] (fun r _ _ _=>r=.int .i64 (mg es)) aM:=by
 intro T
 subst he
 obtain ⟨hb,a,c,rfl,di,_,gO⟩:=ax (by decide) (fun _ _ h=>by unfold RFn at h;subst h;rfl) hs
 refine az abW rfl rfl ?_
 intro bi _
 simp +contextual only [go_sem,aD,sevalprocAttr]
 refine aO fs.length 8 [(6,.slice a fs.length c),(7,.int .i64 fs.length)] (fun i e h=>(∃ M',bm M M'/\h=⟨T,M',[],[]⟩)/\mg (fs.map fun f=>f.2.2)=mg ((fs.drop i).map fun f=>f.2.2)) 0 (by omega) (by simp only [aE,go_sem,sevalprocAttr]) (by simp only [go_sem,sevalprocAttr]) ⟨⟨M,bm.rfl',rfl⟩,rfl⟩ ?_
 rintro i e h hi aG ht ⟨⟨M1,aV,rfl⟩,am⟩
 simp only [aE] at aG
 by_cases aL:i<fs.length
 ·obtain ⟨b,o,cs,rfl,bQ,cG⟩:=gO i fs[i] (gq aL)
  unfold RFn at cG;subst cG
  have hx:=ay aV bQ.1
  rw [Nat.mul_one] at hx
  have bK:fs.drop i=fs[i]::fs.drop (i+1):=dq aL
  rw [bK] at am
  simp +contextual only [go_sem,aD,sevalprocAttr,aG,ht,aL,hx]
  refine aI (hf fs[i] (gm aL) M1 T aV) ?_
  rintro v M2 bh _ rfl
  simp only [List.map_cons,mg,vN] at am
  by_cases hn:fs[i].2.2=0
  ·rw [if_neg (fun h=>h hn)] at am
   simp +contextual only [go_sem,aD,sevalprocAttr,ht,hn]
   refine ce aL ?_ ?_ ⟨⟨M2,aV.trans bh,rfl⟩,am⟩
   ·simp only [aE,aG,go_sem,sevalprocAttr]
   ·simp only [go_sem,sevalprocAttr,aA i (by omega)]
  ·rw [if_pos hn] at am
   simp +contextual only [go_sem,aD,sevalprocAttr,hn]
   refine ak aF.rfl' ?_
   rw [am]
 ·have:i=fs.length:=by omega
  subst this
  simp +contextual only [go_sem,aD,sevalprocAttr,aG,ht,aL]
  refine ak aF.rfl' ?_
  rw [am];simp [mg]
theorem rY {M:aS}{b o:Nat}{x:X}{cs:List Value}(h:RX M x cs)(ha:At M b o cs):∃ s,cs=[.int .i64 x.k,.int .i64 x.v.k,.int .i64 x.v.n,st x.v.t,st x.tab,st x.name,s]/\s.oneCell'=true/\aN M ⟨b,o,none⟩=some (.int .i64 x.k)/\aN M ⟨b,o+1,none⟩=some (.int .i64 x.v.k)/\aN M ⟨b,o+2,none⟩=some (.int .i64 x.v.n)/\aN M ⟨b,o+3,none⟩=some (st x.v.t)/\
 aN M ⟨b,o+4,none⟩=some (st x.tab)/\aN M ⟨b,o+5,none⟩=some (st x.name)/\aN M ⟨b,o+6,none⟩=some s:=by
 obtain ⟨s,rfl,h1,hs⟩:=bX h
 exact ⟨s,rfl,h1,ha.1,ha.2.1,ha.2.2.1,ha.2.2.2.1,ha.2.2.2.2.1,ha.2.2.2.2.2.1,ha.2.2.2.2.2.2.1⟩
theorem abD {M:aS}{b o:Nat}{x:So}{cs:List Value}(h:Gx M x cs)(ha:At M b o cs):aN M ⟨b,o,none⟩=some (.int .i64 x.k)/\aN M ⟨b,o+1,none⟩=some (st x.name)/\aN M ⟨b,o+2,none⟩=some (st x.as)/\∃ c,RX M x.on c/\At M b (o+3) c:=by
 obtain ⟨c,hx,rfl⟩:=h
 rw [fz] at ha
 exact ⟨ha.1.1,ha.1.2.1,ha.1.2.2.1,c,hx,ha.2⟩
def tI (i:Nat)(s:So):Int:=
 if (¬ (decide (s.k=1)==decide ((i:Int)=0))=true\/s.k<1)\/5<s.k then 1 else
 if mg [gQ [s.name],j5 s.as]≠0\/i=0 then mg [gQ [s.name],j5 s.as] else mM s.on
theorem IP {M:aS}{p b o:Nat}{n:Bs}(hg:eQ M)(hp:M p=some [.pointer (some ⟨b,o,none⟩)])(hn:aN M ⟨b,o+1,none⟩=some (st n)):Ct Tryz.prog 229 [.pointer (some ⟨p,0,none⟩)] M [] [] (fun r _ _ _=>r=.int .i64 (gQ [n])) aM:=by
 intro T
 refine az akA rfl rfl ?_
 intro bi _
 simp +contextual only [go_sem,sevalprocAttr,bg hp,hn]
 intro b1 fx
 refine cZ F86.bd fun M1 aV fx bG=> ?_
 have hl:RS M1 rj 1 [n] (.slice (some ⟨b1,0,none⟩) 1 1):=dB (fun _ _=>ff) fx (kQ [n]) rfl (by decide)
 refine aI (tY (hg.ext aV) hl T) ?_
 rintro v M2 bh _ rfl
 simp +contextual only [go_sem,sevalprocAttr]
 exact ak aF.rfl' rfl
theorem Jw {M:aS}{p b o:Nat}{n:Bs}(hg:eQ M)(hp:M p=some [.pointer (some ⟨b,o,none⟩)])(hn:aN M ⟨b,o+2,none⟩=some (st n)):Ct Tryz.prog 230 [.pointer (some ⟨p,0,none⟩)] M [] [] (fun r _ _ _=>r=.int .i64 (j5 n)) aM:=by
 intro T
 refine az ahi rfl rfl ?_
 intro bi _
 simp +contextual only [go_sem,sevalprocAttr,bg hp,hn]
 refine aI (E9 n hg T) ?_
 rintro v M2 bh _ rfl
 simp +contextual only [go_sem,sevalprocAttr]
 exact ak aF.rfl' rfl
theorem IA {M:aS}{b o:Nat}{x:So}{cs:List Value}(i:Nat)(hg:eQ M)(hx:Gx M x cs)(ha:At M b o cs):Ct Tryz.prog 191 [.int .i64 (i:Int),.pointer (some ⟨b,o,none⟩)] M [] [] (fun r _ _ _=>r=.int .i64 (tI i x)) aM:=by
 intro T
 obtain ⟨m0,m1,m2,c,hc,zw⟩:=abD hx ha
 obtain ⟨s,rfl,ho,m3,m4,m5,m6,m7,m8,m9⟩:=rY hc zw
 refine az ak6 rfl rfl ?_
 intro bi _
 obtain ⟨S,hS⟩:∃ S,S=tI i x:=⟨_,rfl⟩
 rw [<- hS]
 unfold tI at hS
 simp +contextual only [go_sem,aD,sevalprocAttr,m0]
 intro b1 T1 fx dh fT
 by_cases hk:(¬ (decide (x.k=1)==decide ((i:Int)=0))=true\/x.k<1)\/5<x.k
 ·rw [if_pos hk] at hS ⊢
  exact ak dh (by rw [hS])
 rw [if_neg hk] at hS ⊢
 intro b2 dN fh
 refine lx abW.bd fun M1 aV hL1=> ?_
 obtain ⟨XG,mA, -⟩:=hL1
 have lC:=hg.ext aV
 have Ti:RS M1 RFn 1 [(229,[.pointer (some ⟨b1,0,none⟩)],gQ [x.name]),(230,[.pointer (some ⟨b1,0,none⟩)],j5 x.as)] (.slice (some ⟨b2,0,none⟩) 2 2):=
  dB (fun _ _ h=>by unfold RFn at h;subst h;rfl) XG ⟨_,_,rfl,rfl,_,_,rfl,rfl,rfl⟩ rfl (by decide)
 refine aI (Ej (es:=[gQ [x.name],j5 x.as]) rfl Ti (fun f hf M' T nj=> ?_) T1) ?_
 ·simp only [mn] at hf
  rcases hf with rfl | rfl
  ·exact IP (lC.ext nj) (nj _ _ mA) (ay (aV.trans nj) m1) T
  ·exact Jw (lC.ext nj) (nj _ _ mA) (ay (aV.trans nj) m2) T
 rintro v M2 bh _ rfl
 generalize mg [gQ [x.name],j5 x.as]=E at hS ⊢
 have ep:=aV.trans bh
 replace m3:=ay ep m3
 replace m4:=ay ep m4
 replace m5:=ay ep m5
 replace m6:=ay ep m6
 replace m7:=ay ep m7
 replace m8:=ay ep m8
 replace m9:=ay ep m9
 have WY:=bh _ _ mA
 by_cases hE:E=0
 ·by_cases uu:i=0
  ·rw [if_pos (.inr uu)] at hS
   subst uu
   simp +contextual only [go_sem,aD,sevalprocAttr,hE]
   exact ak dh (by rw [hS,hE])
  ·rw [if_neg (by rintro (h | h);exact h hE;exact uu h)] at hS
   have abk:¬ (i:Int)=0:=by omega
   simp +contextual only [go_sem,aD,sevalprocAttr,hE,abk,bg WY,m3,m4,m5,m6,m7,m8,m9]
   refine aI (oE (hg.ext ep) (bL ep _ _ hc) T1) ?_
   rintro v M3 bE _ rfl
   simp +contextual only [go_sem,sevalprocAttr]
   exact ak dh (by rw [hS])
 ·rw [if_pos (.inl hE)] at hS
  simp +contextual only [go_sem,aD,sevalprocAttr,hE]
  exact ak dh (by rw [hS])
theorem qC {T0 T:Tm}{M M':aS}{L:LL}{R:RR}(h:bm M M'):fO ⟨T0,M,[],[]⟩ ⟨T,M',L,R⟩:=by
 intro a v hv
 simp only [Sh.cell] at hv ⊢
 cases hm:aN M a with
 | some u=>
  rw [hm] at hv
  injection hv with hv;subst hv
  rw [ay h hm]
 | none=>
  rw [hm] at hv
  simp [eD] at hv
theorem Ta {M:aS}{b o:Nat}{x:It}{cs:List Value}(h:Am M x cs)(ha:At M b o cs):aN M ⟨b,o+7,none⟩=some (st x.as)/\∃ c,RX M x.x c/\At M b o c:=by
 obtain ⟨c,hx,rfl⟩:=h
 rw [fz,dT hx] at ha
 exact ⟨ha.2.1,c,hx,ha.1⟩
theorem RE {M:aS}{p q b o i:Nat}{items:List It}{iv:Value}(hg:eQ M)(hp:M p=some [.pointer (some ⟨b,o,none⟩)])(hq:M q=some [.int .i64 (i:Int)])(hn:aN M ⟨b,o+2,none⟩=some iv)(hi:RS M (Am M) 8 items iv)(aL:i<items.length):
 Ct Tryz.prog 188 [.pointer (some ⟨p,0,none⟩),.pointer (some ⟨q,0,none⟩)] M [] [] (fun r _ _ _=>r=.int .i64 (mM items[i].x)) aM:=by
 intro T
 obtain ⟨hb,a,c,rfl,di,_,gO⟩:=ax (by decide) (fun _ _=>kO) hi
 obtain ⟨b',o',cs,rfl,bQ,cG⟩:=gO i items[i] (gq aL)
 obtain ⟨m7,c',hx,zw⟩:=Ta cG bQ
 obtain ⟨s,rfl,ho,m0,m1,m2,m3,m4,m5,m6⟩:=rY hx zw
 refine az akw rfl rfl ?_
 intro bi _
 simp +contextual only [go_sem,sevalprocAttr]
 refine aX ?_
 simp +contextual only [go_sem,sevalprocAttr,bg hp,bg hq,hn,aL,m0,m1,m2,m3,m4,m5,m6]
 refine aI (oE hg hx T) ?_
 rintro v M3 bE _ rfl
 simp +contextual only [go_sem,sevalprocAttr]
 exact ⟨qC bE,ak aF.rfl' rfl⟩
theorem Qr {M:aS}{p q b o i:Nat}{items:List It}{iv:Value}(hg:eQ M)(hp:M p=some [.pointer (some ⟨b,o,none⟩)])(hq:M q=some [.int .i64 (i:Int)])(hn:aN M ⟨b,o+2,none⟩=some iv)(hi:RS M (Am M) 8 items iv)(aL:i<items.length):
 Ct Tryz.prog 189 [.pointer (some ⟨p,0,none⟩),.pointer (some ⟨q,0,none⟩)] M [] [] (fun r _ _ _=>r=.int .i64 (j5 items[i].as)) aM:=by
 intro T
 obtain ⟨hb,a,c,rfl,di,_,gO⟩:=ax (by decide) (fun _ _=>kO) hi
 obtain ⟨b',o',cs,rfl,bQ,cG⟩:=gO i items[i] (gq aL)
 obtain ⟨m7,c',hx,zw⟩:=Ta cG bQ
 refine az ake rfl rfl ?_
 intro bi _
 simp +contextual only [go_sem,sevalprocAttr]
 refine aX ?_
 simp +contextual only [go_sem,sevalprocAttr,bg hp,bg hq,hn,aL,m7]
 refine aI (E9 items[i].as hg T) ?_
 rintro v M3 bE _ rfl
 simp +contextual only [go_sem,sevalprocAttr]
 exact ⟨qC bE,ak aF.rfl' rfl⟩
theorem aaD {M:aS}{b o:Nat}{x:Se}{cs:List Value}(h:Hw M x cs)(ha:At M b o cs):∃ i f g,RS M (Am M) 8 x.items i/\RS M (Gx M) 10 x.src f/\RS M (RX M) 7 x.group g/\
 aN M ⟨b,o+1,none⟩=some (.bool x.star)/\aN M ⟨b,o+2,none⟩=some i/\aN M ⟨b,o+3,none⟩=some f/\aN M ⟨b,o+4,none⟩=some (.bool x.hasW)/\aN M ⟨b,o+5,none⟩=some (.bool x.hasH)/\
 (∃ c,RX M x.wh c/\At M b (o+6) c)/\(∃ c,RX M x.hv c/\At M b (o+13) c)/\aN M ⟨b,o+20,none⟩=some g:=by
 obtain ⟨i,f,w,hh,g,h1,h2,h3,h4,h5,rfl⟩:=h
 rw [fz,fz,fz,dT h3,dT h4] at ha
 obtain ⟨⟨_,a1,a2,a3,a4,a5,_⟩,aw,ah,ag,_⟩:=ha
 exact ⟨i,f,g,h1,h2,h5,a1,a2,a3,a4,a5,⟨w,h3,aw⟩,⟨hh,h4,ah⟩,ag⟩
def CX:List It ->Int | []=>0 | x::l=>vN (mg [mM x.x,j5 x.as]) (CX l)
def qf:Nat ->List So ->Int | _,[]=>0 | i,x::l=>vN (tI i x) (qf (i+1) l)
def oR:List X ->Int | []=>0 | x::l=>vN (mM x) (oR l)
def CA (x:Se):Bool:=decide (((x.src.length:Int)<1\/4<(x.src.length:Int))\/8<(x.group.length:Int)) || !x.star && (decide ((x.items.length:Int)<1) || decide (8<(x.items.length:Int)))
def KY (x:Se):Int:=if x.hasH=true then mM x.hv else 0
def Py (x:Se):Int:=vN (oR x.group) (KY x)
def LQ (x:Se):Int:=vN (if x.hasW=true then mM x.wh else 0) (Py x)
def KT (x:Se):Int:=vN (qf 0 x.src) (LQ x)
def Jl (x:Se):Int:=if CA x=true then 5 else vN (if x.star=true then 0 else CX x.items) (KT x)
theorem fE {a b:Int}(h:a≠0):vN a b=a:=if_pos h
theorem su (b:Int):vN 0 b=b:=if_neg (fun h'=>h' rfl)
theorem S7 {a b:Int}(h:a=0):vN a b=b:=if_neg (fun h'=>h' h)
theorem J6 {M:aS}{b o:Nat}{x:Se}{cs:List Value}(hg:eQ M)(hx:Hw M x cs)(ha:At M b o cs):Ct Tryz.prog 131 [.pointer (some ⟨b,o,none⟩)] M [] [] (fun r _ _ _=>r=.int .i64 (Jl x)) aM:=by
 intro T
 obtain ⟨iv,fv,gv,hi,hf,s8,m1,m2,m3,m4,m5,⟨wc,hw,haw⟩,⟨vc,hv,hav⟩,m20⟩:=aaD hx ha
 have uu:=hi
 obtain ⟨U8,ia,ic,rfl,D5,_,al1⟩:=ax (by decide) (fun _ _=>kO) hi
 obtain ⟨hfb,fa,fc,rfl,Vf,_,Qa⟩:=ax (by decide) (fun _ _=>oY) hf
 obtain ⟨hgb,ga,gc,rfl,U9,_,Qs⟩:=ax (by decide) (fun _ _=>dT) s8
 obtain ⟨sw,rfl,ow,w0,w1,w2,w3,w4,w5,w6⟩:=rY hw haw
 obtain ⟨sv,rfl,ov,v0,v1,v2,v3,v4,v5,v6⟩:=rY hv hav
 obtain ⟨S,hS⟩:∃ S,S=Jl x:=⟨_,rfl⟩
 rw [<- hS]
 unfold Jl at hS
 refine az ahu rfl rfl ?_
 intro bi _
 simp +contextual only [go_sem,sevalprocAttr,m1,m2,m3,m20]
 intro b1 T1 fx dh fT
 show yK _ _ (.bool (CA x)) _ _ _ _ _ _ _
 cases hmy:CA x with
 | true=>
  rw [if_pos hmy] at hS
  simp +contextual only [go_sem,aD,sevalprocAttr]
  exact ak dh (by rw [hS])
 | false=>
 rw [if_neg (by rw [hmy];exact Bool.false_ne_true)] at hS
 rw [dG,if_neg Bool.false_ne_true]
 simp +contextual only [go_sem,sevalprocAttr,fx,m2]
 refine lE (fun e ds h=>ds=[]/\e 1=.pointer (some ⟨b1,0,none⟩)/\S=KT x/\∃ N M' L,aF T N/\bm M M'/\M' b1=some [.pointer (some ⟨b,o,none⟩)]/\h=⟨N,M',L,[]⟩) (fun S' eY=> ?_) ?_
 ·simp +contextual only [go_sem,aD,sevalprocAttr]
  refine bY x.items.length 61 [(1,.pointer (some ⟨b1,0,none⟩)),(60,.int .i64 (x.items.length:Int))]
   (fun i e h=>∃ N M',aF T N/\bm M M'/\M' b1=some [.pointer (some ⟨b,o,none⟩)]/\h=⟨N,M',[],[]⟩/\S=vN (if x.star=true then 0 else CX (x.items.drop i)) (KT x))
   0 (by omega) (by simp only [aE,go_sem,sevalprocAttr]) (by simp only [go_sem,sevalprocAttr]) (aT fun he hb bi=>aB ⟨T1,_,dh,he,hb,rfl,hS⟩) ?_
  clear hS
  rintro i e h hi aG ht ⟨N,M1,hN,aV,mA,rfl,hS⟩
  simp only [aE] at aG
  have n1:=ay aV m1
  by_cases aL:i<x.items.length
  ·cases qL:x.star with
   | true=>
    rw [if_pos qL,S7 rfl] at hS
    simp +contextual only [go_sem,aD,sevalprocAttr,aG,ht,aL,bg mA,n1,qL]
    intro b3 N3 ii hN3 gD
    refine eY _ _ _ ⟨rfl,?_,hS,N3,M1,_,hN.trans hN3,aV,mA,rfl⟩
    simp only [aG,go_sem,sevalprocAttr]
   | false=>
    have bK:x.items.drop i=x.items[i]::x.items.drop (i+1):=dq aL
    rw [if_neg (by rw [qL];exact Bool.false_ne_true),bK,CX] at hS
    simp +contextual only [go_sem,aD,sevalprocAttr,aG,ht,aL,bg mA,n1,qL]
    intro b3 N3 ii hN3 gD b70 aoA alk
    refine lx abW.bd fun M2 bh hL2=> ?_
    obtain ⟨XG,hq2, -⟩:=hL2
    have ep:=aV.trans bh
    have xb:=hg.ext ep
    have WY:=bh _ _ mA
    have kg:=aH ep (jT ep) uu
    have Ti:RS M2 RFn 1 [(188,[.pointer (some ⟨b1,0,none⟩),.pointer (some ⟨b3,0,none⟩)],mM x.items[i].x),(189,[.pointer (some ⟨b1,0,none⟩),.pointer (some ⟨b3,0,none⟩)],j5 x.items[i].as)] (.slice (some ⟨b70,0,none⟩) 2 2):=
     dB (fun _ _ h=>by unfold RFn at h;subst h;rfl) XG ⟨_,_,rfl,rfl,_,_,rfl,rfl,rfl⟩ rfl (by decide)
    refine aI (Ej (es:=[mM x.items[i].x,j5 x.items[i].as]) rfl Ti (fun f hf M' T nj=> ?_) N3) ?_
    ·simp only [mn] at hf
     rcases hf with rfl | rfl
     ·exact RE (xb.ext nj) (nj _ _ WY) (nj _ _ hq2) (ay (ep.trans nj) m2) (aH nj (jT nj) kg) aL T
     ·exact Qr (xb.ext nj) (nj _ _ WY) (nj _ _ hq2) (ay (ep.trans nj) m2) (aH nj (jT nj) kg) aL T
    rintro v M3 bE _ rfl
    generalize mg [mM x.items[i].x,j5 x.items[i].as]=E at hS ⊢
    by_cases hE:E=0
    ·rw [hE,su] at hS
     simp +contextual only [go_sem,aD,sevalprocAttr,ht,hE]
     refine ce aL ?_ ?_ ⟨N3,M3,hN.trans hN3,ep.trans bE,bE _ _ WY,rfl,?_⟩
     ·simp only [aE,aG,go_sem,sevalprocAttr]
     ·simp only [go_sem,sevalprocAttr,aA i (by omega)]
     ·exact hS
    ·rw [fE hE,fE hE] at hS
     simp +contextual only [go_sem,aD,sevalprocAttr,hE]
     exact ak (hN.trans hN3) (by rw [hS])
  ·have:i=x.items.length:=by omega
   subst this
   rw [List.drop_length] at hS
   have hS2:S=KT x:=by rw [hS];cases x.star<;>rfl
   simp +contextual only [go_sem,aD,sevalprocAttr,aG,ht,aL]
   refine eY _ _ _ ⟨rfl,?_,hS2,N,M1,[],hN,aV,mA,rfl⟩
   simp only [aG,go_sem,sevalprocAttr]
 clear hS
 rintro e ds h ⟨rfl,e1,hS,N,M1,L1,hN,aV,mA,rfl⟩
 simp +contextual only [go_sem,sevalprocAttr,e1,bg mA,ay aV m3]
 refine lE (fun e ds h=>ds=[]/\e 1=.pointer (some ⟨b1,0,none⟩)/\S=LQ x/\∃ N M',aF T N/\bm M M'/\M' b1=some [.pointer (some ⟨b,o,none⟩)]/\h=⟨N,M',[],[]⟩) (fun S' eY=> ?_) ?_
 ·simp +contextual only [go_sem,aD,sevalprocAttr]
  refine bY x.src.length 81 [(1,.pointer (some ⟨b1,0,none⟩)),(80,.int .i64 (x.src.length:Int))]
   (fun i e h=>∃ M',bm M M'/\M' b1=some [.pointer (some ⟨b,o,none⟩)]/\h=⟨N,M',[],[]⟩/\S=vN (qf i (x.src.drop i)) (LQ x))
   0 (by omega) (by simp only [aE,e1,go_sem,sevalprocAttr]) (by simp only [go_sem,sevalprocAttr]) (bM (aB ⟨M1,aV,mA,rfl,hS⟩)) ?_
  clear hS e1 mA aV
  rintro i e h hi aG ht ⟨M1,aV,mA,rfl,hS⟩
  simp only [aE] at aG
  by_cases aL:i<x.src.length
  ·obtain ⟨b',o',cs',rfl,bQ,cG⟩:=Qa i x.src[i] (gq aL)
   have bK:x.src.drop i=x.src[i]::x.src.drop (i+1):=dq aL
   rw [bK,qf] at hS
   simp +contextual only [go_sem,aD,sevalprocAttr,aG,ht,aL,bg mA,ay aV m3]
   refine aI (IA i (hg.ext aV) (qV aV _ _ cG) (bQ.ext aV) N) ?_
   rintro v M2 bh _ rfl
   by_cases hE:tI i x.src[i]=0
   ·rw [hE,su] at hS
    simp +contextual only [go_sem,aD,sevalprocAttr,ht,hE]
    refine ce aL ?_ ?_ ⟨M2,aV.trans bh,bh _ _ mA,rfl,hS⟩
    ·simp only [aE,aG,go_sem,sevalprocAttr]
    ·simp only [go_sem,sevalprocAttr,aA i (by omega)]
   ·rw [fE hE,fE hE] at hS
    simp +contextual only [go_sem,aD,sevalprocAttr,hE]
    exact ak hN (by rw [hS])
  ·have:i=x.src.length:=by omega
   subst this
   rw [List.drop_length,qf,su] at hS
   simp +contextual only [go_sem,aD,sevalprocAttr,aG,ht,aL]
   refine eY _ _ _ ⟨rfl,?_,hS,N,M1,hN,aV,mA,rfl⟩
   simp only [aG,go_sem,sevalprocAttr]
 clear hS e1 mA aV hN
 rintro e ds h ⟨rfl,e1,hS,N,M1,hN,aV,mA,rfl⟩
 unfold LQ at hS
 simp +contextual only [go_sem,sevalprocAttr,e1,bg mA,ay aV m4]
 refine eU (fun e ds h=>ds=[]/\e 1=.pointer (some ⟨b1,0,none⟩)/\S=Py x/\∃ M',bm M M'/\M' b1=some [.pointer (some ⟨b,o,none⟩)]/\h=⟨N,M',[],[]⟩) (fun S' eY=> ?_) ?_
 ·cases hW:x.hasW with
  | false=>
   rw [if_neg (by rw [hW];exact Bool.false_ne_true),su] at hS
   simp +contextual only [go_sem,aD,sevalprocAttr]
   refine eY _ _ _ ⟨rfl,?_,hS,M1,aV,mA,rfl⟩
   simp only [e1,go_sem,sevalprocAttr]
  | true=>
   rw [if_pos hW] at hS
   simp +contextual only [go_sem,aD,sevalprocAttr,e1,bg mA,ay aV w0,ay aV w1,ay aV w2,ay aV w3,ay aV w4,ay aV w5,ay aV w6]
   refine aI (oE (hg.ext aV) (bL aV _ _ hw) N) ?_
   rintro v M2 bh _ rfl
   by_cases hE:mM x.wh=0
   ·rw [hE,su] at hS
    simp +contextual only [go_sem,aD,sevalprocAttr,hE]
    refine eY _ _ _ ⟨rfl,?_,hS,M2,aV.trans bh,bh _ _ mA,rfl⟩
    simp only [e1,go_sem,sevalprocAttr]
   ·rw [fE hE] at hS
    simp +contextual only [go_sem,aD,sevalprocAttr,hE]
    exact ak hN (by rw [hS])
 clear hS e1 mA aV
 rintro e ds h ⟨rfl,e1,hS,M1,aV,mA,rfl⟩
 unfold Py at hS
 simp +contextual only [go_sem,sevalprocAttr,e1,bg mA,ay aV m20]
 refine lE (fun e ds h=>ds=[]/\e 1=.pointer (some ⟨b1,0,none⟩)/\S=KY x/\∃ N M',aF T N/\bm M M'/\M' b1=some [.pointer (some ⟨b,o,none⟩)]/\h=⟨N,M',[],[]⟩) (fun S' eY=> ?_) ?_
 ·simp +contextual only [go_sem,aD,sevalprocAttr]
  refine aO x.group.length 113 [(1,.pointer (some ⟨b1,0,none⟩)),(111,.slice ga x.group.length gc),(112,.int .i64 (x.group.length:Int))]
   (fun i e h=>∃ N M',aF T N/\bm M M'/\M' b1=some [.pointer (some ⟨b,o,none⟩)]/\h=⟨N,M',[],[]⟩/\S=vN (oR (x.group.drop i)) (KY x))
   0 (by omega) (by simp only [aE,e1,go_sem,sevalprocAttr]) (by simp only [go_sem,sevalprocAttr]) ⟨N,M1,hN,aV,mA,rfl,hS⟩ ?_
  clear hS e1 mA aV hN
  rintro i e h hi aG ht ⟨N,M1,hN,aV,mA,rfl,hS⟩
  simp only [aE] at aG
  by_cases aL:i<x.group.length
  ·obtain ⟨b',o',cs',rfl,bQ,cG⟩:=Qs i x.group[i] (gq aL)
   obtain ⟨sg,rfl,og,g0,g1,g2,g3,g4,g5,g6⟩:=rY cG bQ
   have bK:x.group.drop i=x.group[i]::x.group.drop (i+1):=dq aL
   rw [bK,oR] at hS
   simp +contextual only [go_sem,aD,sevalprocAttr,aG,ht,aL,ay aV g0,ay aV g1,ay aV g2,ay aV g3,ay aV g4,ay aV g5,ay aV g6,og]
   intro b9 N9 qy Va pR
   refine aI (oE (hg.ext aV) (bL aV _ _ cG) N9) ?_
   rintro v M2 bh _ rfl
   by_cases hE:mM x.group[i]=0
   ·rw [hE,su] at hS
    simp +contextual only [go_sem,aD,sevalprocAttr,ht,hE]
    rw [eJ]
    refine al (aB ⟨x.group.length - (i+1),by omega,rfl,i+1,by omega,rfl,?_,?_,N9,M2,hN.trans Va,aV.trans bh,bh _ _ mA,rfl,hS⟩)
    ·simp only [aE,aG,go_sem,sevalprocAttr]
    ·simp only [go_sem,sevalprocAttr,aA i (by omega)]
   ·rw [fE hE,fE hE] at hS
    simp +contextual only [go_sem,aD,sevalprocAttr,hE]
    exact ak (hN.trans Va) (by rw [hS])
  ·have:i=x.group.length:=by omega
   subst this
   rw [List.drop_length,oR,su] at hS
   simp +contextual only [go_sem,aD,sevalprocAttr,aG,ht,aL]
   refine eY _ _ _ ⟨rfl,?_,hS,N,M1,hN,aV,mA,rfl⟩
   simp only [aG,go_sem,sevalprocAttr]
 clear hS e1 mA aV hN
 rintro e ds h ⟨rfl,e1,hS,N,M1,hN,aV,mA,rfl⟩
 unfold KY at hS
 cases hH:x.hasH with
 | false=>
  rw [if_neg (by rw [hH];exact Bool.false_ne_true)] at hS
  rw [hH] at m5
  simp +contextual only [go_sem,aD,sevalprocAttr,e1,bg mA,ay aV m5]
  exact ak hN (by rw [hS])
 | true=>
  rw [if_pos hH] at hS
  rw [hH] at m5
  simp +contextual only [go_sem,aD,sevalprocAttr,e1,bg mA,ay aV m5,ay aV v0,ay aV v1,ay aV v2,ay aV v3,ay aV v4,ay aV v5,ay aV v6]
  refine aI (oE (hg.ext aV) (bL aV _ _ hv) N) ?_
  rintro v M2 bh _ rfl
  simp +contextual only [go_sem,sevalprocAttr]
  exact ak hN (by rw [hS])
theorem aff {M:aS}{b o:Nat}{x:Q}{cs:List Value}(h:RQ M x cs)(ha:At M b o cs):∃ p f g,RS M (Hw M) 21 x.parts p/\RS M RI 1 x.ops f/\RS M (RX M) 7 x.order g/\
 aN M ⟨b,o,none⟩=some p/\aN M ⟨b,o+1,none⟩=some f/\aN M ⟨b,o+2,none⟩=some g/\aN M ⟨b,o+3,none⟩=some (.int .i64 x.limit):=by
 obtain ⟨p,f,g,h1,h2,h3,rfl⟩:=h
 exact ⟨p,f,g,h1,h2,h3,ha.1,ha.2.1,ha.2.2.1,ha.2.2.2.1⟩
def uF (ops:List Int):Nat ->List Se ->Int
 | _,[]=>0
 | i,s::l=>if 0<i/\(ops.getD (i - 1) 0<1\/4<ops.getD (i - 1) 0) then 1 else vN (Jl s) (uF ops (i+1) l)
def tZ (q:Q):Int:=if q.limit<0 then 0 else oR q.order
def iN (q:Q):Bool:=decide ((((q.parts.length:Int)<1\/4<(q.parts.length:Int))\/(q.ops.length:Int)≠(q.parts.length:Int) - 1)\/(0<=q.limit/\((q.order.length:Int)<1\/8<(q.order.length:Int))))
def xY (q:Q):Int:=if iN q=true then 5 else if 50<q.limit then 3 else vN (uF q.ops 0 q.parts) (tZ q)
theorem Cw {M:aS}{b o:Nat}{x:Q}{cs:List Value}(hg:eQ M)(hx:RQ M x cs)(ha:At M b o cs):Ct Tryz.prog 85 [.pointer (some ⟨b,o,none⟩)] M [] [] (fun r _ _ _=>r=.int .i64 (xY x)) aM:=by
 intro T
 obtain ⟨pv,fv,gv,hp,hf,s8,m0,m1,m2,m3⟩:=aff hx ha
 obtain ⟨hpb,pa,pc,rfl,s9,_,afL⟩:=ax (by decide) (fun _ _=>lK) hp
 obtain ⟨hfb,fa,fc,rfl,Vf,_,Qa⟩:=ax (by decide) (fun _ _=>ct) hf
 obtain ⟨hgb,ga,gc,rfl,U9,_,Qs⟩:=ax (by decide) (fun _ _=>dT) s8
 have FG:IntKind.i64.wrap ((x.parts.length:Int) - 1)=(x.parts.length:Int) - 1:=bH (by omega) (by omega)
 obtain ⟨S,hS⟩:∃ S,S=xY x:=⟨_,rfl⟩
 rw [<- hS]
 unfold xY at hS
 refine az F85 rfl rfl ?_
 intro bi _
 simp +contextual only [go_sem,sevalprocAttr]
 refine l5 (fun e ds h=>ds=[]/\e 0=.pointer (some ⟨b,o,none⟩)/\e 58=.bool (iN x)/\h=⟨T,M,[],[]⟩) (fun S' eY=> ?_) ?_
 ·have fin:∀ {e:dp} {t:Bool},e 0=.pointer (some ⟨b,o,none⟩) ->e 58=.bool t ->t=iN x ->cy Tryz.prog (fi Tryz.prog T [(1,.take 0<| .take 1<| .take 2<| .take 3<| .take 4<| .take 5<| .take 6<| .take 7<| .take 8<| .take 9<| .take 10<| .take 11<| .take 12<| .take 13<| .take 14<| .take 15<| .take 16<| .take 17<| .take 20<| .take 21<| .take 22<| .take 18<| .take 19<| .take 23<| .take 24<| .take 25<| .take 26<| .take 27<| .take 28<| .take 29<| .take 30<| .take 31<| .take 32<| .take 33<| .take 34<| .take 35<| .take 36<| .take 37<| .take 38<| .take 39<| .take 40<| .take 41<| .take 42<| .take 43<| .take 44<| .take 45<| .take 46<| .take 47<| .take 48<| .take 49<| .take 50<| .done)] [ResultVar.tmp 2] (aY []) 0 (fun r x x_1 x_2=>r=Value.int IntKind.i64 S) aM) S' e [] ⟨T,M,[],[]⟩ ⟨⟩:=by
   intro e t h0 h1 h2
   exact eY _ _ _ ⟨rfl,h0,by rw [h1,h2],rfl⟩
  refine aX ?_
  by_cases c1:(x.parts.length:Int)<1
  ·simp +contextual only [go_sem,sevalprocAttr,m0,c1]
   refine fin (t:=true) ?_ ?_ ?_
   ·simp only [go_sem,sevalprocAttr]
   ·simp only [go_sem,sevalprocAttr]
   ·simp [iN,c1]
  by_cases c2:4<(x.parts.length:Int)
  ·simp +contextual only [go_sem,sevalprocAttr,m0,c1,c2]
   refine fin (t:=true) ?_ ?_ ?_
   ·simp only [go_sem,sevalprocAttr]
   ·simp only [go_sem,sevalprocAttr]
   ·simp [iN,c2]
  by_cases c3:(x.ops.length:Int)=(x.parts.length:Int) - 1
  ·by_cases c4:0<=x.limit
   ·by_cases c5:(x.order.length:Int)<1
    ·simp +contextual only [go_sem,sevalprocAttr,m0,m1,m2,m3,FG,c1,c2,c3,c4,c5]
     refine fin (t:=true) ?_ ?_ ?_
     ·simp only [go_sem,sevalprocAttr]
     ·simp only [go_sem,sevalprocAttr]
     ·simp [iN,c4,c5]
    ·by_cases c6:8<(x.order.length:Int)
     ·simp +contextual only [go_sem,sevalprocAttr,m0,m1,m2,m3,FG,c1,c2,c3,c4,c5,c6]
      refine fin (t:=true) ?_ ?_ ?_
      ·simp only [go_sem,sevalprocAttr]
      ·simp only [go_sem,sevalprocAttr]
      ·simp [iN,c4,c6]
     ·simp +contextual only [go_sem,sevalprocAttr,m0,m1,m2,m3,FG,c1,c2,c3,c4,c5,c6]
      refine fin (t:=false) ?_ ?_ ?_
      ·simp only [go_sem,sevalprocAttr]
      ·simp only [go_sem,sevalprocAttr]
      ·exact (decide_eq_false (by omega)).symm
   ·simp +contextual only [go_sem,sevalprocAttr,m0,m1,m3,FG,c1,c2,c3,c4]
    refine fin (t:=false) ?_ ?_ ?_
    ·simp only [go_sem,sevalprocAttr]
    ·simp only [go_sem,sevalprocAttr]
    ·exact (decide_eq_false (by omega)).symm
  ·simp +contextual only [go_sem,sevalprocAttr,m0,m1,FG,c1,c2,c3]
   refine fin (t:=true) ?_ ?_ ?_
   ·simp only [go_sem,sevalprocAttr]
   ·simp only [go_sem,sevalprocAttr]
   ·simp [iN,c3]
 rintro e ds h ⟨rfl,e0,e58,rfl⟩
 cases hm:iN x with
 | true=>
  rw [hm] at e58
  rw [if_pos hm] at hS
  simp +contextual only [go_sem,aD,sevalprocAttr,e58]
  exact ak aF.rfl' (by rw [hS])
 | false=>
 rw [hm] at e58
 rw [if_neg (by rw [hm];exact Bool.false_ne_true)] at hS
 have sZ:x.ops.length+1=x.parts.length:=by
  have:=of_decide_eq_false hm
  omega
 by_cases h50:50<x.limit
 ·rw [if_pos h50] at hS
  simp +contextual only [go_sem,aD,sevalprocAttr,e0,e58,m3,h50]
  exact ak aF.rfl' (by rw [hS])
 rw [if_neg h50] at hS
 simp +contextual only [go_sem,sevalprocAttr,e58]
 rw [dG,if_neg Bool.false_ne_true]
 simp +contextual only [go_sem,sevalprocAttr,e0,m3,h50]
 rw [dG,if_neg Bool.false_ne_true]
 simp +contextual only [go_sem,sevalprocAttr,e0,m0]
 refine lE (fun e ds h=>ds=[]/\e 0=.pointer (some ⟨b,o,none⟩)/\S=tZ x/\∃ M',bm M M'/\h=⟨T,M',[],[]⟩) (fun S' eY=> ?_) ?_
 ·simp +contextual only [go_sem,aD,sevalprocAttr]
  refine aO x.parts.length 69 [(0,.pointer (some ⟨b,o,none⟩)),(68,.int .i64 (x.parts.length:Int))]
   (fun i e h=>∃ M',bm M M'/\h=⟨T,M',[],[]⟩/\S=vN (uF x.ops i (x.parts.drop i)) (tZ x))
   0 (by omega) (by simp only [aE,e0,go_sem,sevalprocAttr]) (by simp only [go_sem,sevalprocAttr]) ⟨M,bm.rfl',rfl,hS⟩ ?_
  clear hS e0 e58
  rintro i e h hi aG ht ⟨M1,aV,rfl,hS⟩
  simp only [aE] at aG
  have n0:=ay aV m0
  have n1:=ay aV m1
  by_cases aL:i<x.parts.length
  ·obtain ⟨b',o',cs',rfl,bQ,cG⟩:=afL i x.parts[i] (gq aL)
   have bK:x.parts.drop i=x.parts[i]::x.parts.drop (i+1):=dq aL
   rw [bK,uF] at hS
   have key:¬ (0<i/\(x.ops.getD (i - 1) 0<1\/4<x.ops.getD (i - 1) 0)) ->S=vN (vN (Jl x.parts[i]) (uF x.ops (i+1) (x.parts.drop (i+1)))) (tZ x):=fun h=>by rw [hS,if_neg h]
   by_cases hz:i=0
   ·have hz':¬ (0:Int)<(i:Int):=by omega
    replace hS:=key (fun h=>by omega)
    clear key
    simp +contextual only [go_sem,aD,sevalprocAttr,aG,ht,aL,hz',n0]
    refine aI (J6 (hg.ext aV) (lF aV _ _ cG) (bQ.ext aV) T) ?_
    rintro v M2 bh _ rfl
    by_cases hE:Jl x.parts[i]=0
    ·rw [hE,su] at hS
     simp +contextual only [go_sem,aD,sevalprocAttr,ht,hE]
     refine ce aL ?_ ?_ ⟨M2,aV.trans bh,rfl,hS⟩
     ·simp only [aE,aG,go_sem,sevalprocAttr]
     ·simp only [go_sem,sevalprocAttr,aA i (by omega)]
    ·rw [fE hE,fE hE] at hS
     simp +contextual only [go_sem,aD,sevalprocAttr,hE]
     exact ak aF.rfl' (by rw [hS])
   ·have hz':(0:Int)<(i:Int):=by omega
    have D5:i - 1<x.ops.length:=by omega
    obtain ⟨bo,oo,co,rfl,akx,hro⟩:=Qa (i - 1) x.ops[i - 1] (gq D5)
    unfold RI at hro;subst hro
    have hx:=ay aV akx.1
    rw [Nat.mul_one] at hx
    have WS:x.ops.getD (i - 1) 0=x.ops[i - 1]:=by simp [List.getD,gq D5]
    have hwi:IntKind.i64.wrap ((i:Int) - 1)=((i - 1:Nat):Int):=by rw [bH (by omega) (by omega)];omega
    rw [WS] at hS key
    by_cases c1:x.ops[i - 1]<1
    ·rw [if_pos ⟨by omega,.inl c1⟩,fE (by decide)] at hS
     simp +contextual only [go_sem,aD,sevalprocAttr,aG,ht,aL,hz',n1,hwi,D5,hx,c1]
     exact ak aF.rfl' (by rw [hS])
    ·by_cases c2:4<x.ops[i - 1]
     ·rw [if_pos ⟨by omega,.inr c2⟩,fE (by decide)] at hS
      simp +contextual only [go_sem,aD,sevalprocAttr,aG,ht,aL,hz',n1,hwi,D5,hx,c1,c2]
      exact ak aF.rfl' (by rw [hS])
     ·replace hS:=key (fun h=>by rcases h.2 with h | h;exact c1 h;exact c2 h)
      clear key
      simp +contextual only [go_sem,aD,sevalprocAttr,aG,ht,aL,hz',n0,n1,hwi,D5,hx,c1,c2]
      refine aI (J6 (hg.ext aV) (lF aV _ _ cG) (bQ.ext aV) T) ?_
      rintro v M2 bh _ rfl
      by_cases hE:Jl x.parts[i]=0
      ·rw [hE,su] at hS
       simp +contextual only [go_sem,aD,sevalprocAttr,ht,hE]
       refine ce aL ?_ ?_ ⟨M2,aV.trans bh,rfl,hS⟩
       ·simp only [aE,aG,go_sem,sevalprocAttr]
       ·simp only [go_sem,sevalprocAttr,aA i (by omega)]
      ·rw [fE hE,fE hE] at hS
       simp +contextual only [go_sem,aD,sevalprocAttr,hE]
       exact ak aF.rfl' (by rw [hS])
  ·have:i=x.parts.length:=by omega
   subst this
   rw [List.drop_length,uF,su] at hS
   simp +contextual only [go_sem,aD,sevalprocAttr,aG,ht,aL]
   refine eY _ _ _ ⟨rfl,?_,hS,M1,aV,rfl⟩
   simp only [aG,go_sem,sevalprocAttr]
 clear hS e0 e58
 rintro e ds h ⟨rfl,e0,hS,M1,aV,rfl⟩
 unfold tZ at hS
 simp +contextual only [go_sem,sevalprocAttr,e0,ay aV m2]
 refine lE (fun e ds h=>ds=[]/\S=0/\∃ N M' L,aF T N/\h=⟨N,M',L,[]⟩) (fun S' eY=> ?_) ?_
 ·simp +contextual only [go_sem,aD,sevalprocAttr]
  refine aO x.order.length 112 [(0,.pointer (some ⟨b,o,none⟩)),(110,.slice ga x.order.length gc),(111,.int .i64 (x.order.length:Int))]
   (fun i e h=>∃ N M',aF T N/\bm M M'/\h=⟨N,M',[],[]⟩/\S=(if x.limit<0 then 0 else oR (x.order.drop i)))
   0 (by omega) (by simp only [aE,e0,go_sem,sevalprocAttr]) (by simp only [go_sem,sevalprocAttr]) ⟨T,M1,aF.rfl',aV,rfl,hS⟩ ?_
  clear hS e0 aV
  rintro i e h hi aG ht ⟨N,M1,hN,aV,rfl,hS⟩
  simp only [aE] at aG
  by_cases aL:i<x.order.length
  ·obtain ⟨b',o',cs',rfl,bQ,cG⟩:=Qs i x.order[i] (gq aL)
   obtain ⟨sg,rfl,og,g0,g1,g2,g3,g4,g5,g6⟩:=rY cG bQ
   have bK:x.order.drop i=x.order[i]::x.order.drop (i+1):=dq aL
   by_cases TB:x.limit<0
   ·rw [if_pos TB] at hS
    simp +contextual only [go_sem,aD,sevalprocAttr,aG,ht,aL,ay aV m3,ay aV g0,ay aV g1,ay aV g2,ay aV g3,ay aV g4,ay aV g5,ay aV g6,og,TB]
    intro b9 N9 qy Va pR
    exact eY _ _ _ ⟨rfl,hS,N9,M1,_,hN.trans Va,rfl⟩
   rw [if_neg TB,bK,oR] at hS
   simp +contextual only [go_sem,aD,sevalprocAttr,aG,ht,aL,ay aV m3,ay aV g0,ay aV g1,ay aV g2,ay aV g3,ay aV g4,ay aV g5,ay aV g6,og,TB]
   intro b9 N9 qy Va pR
   refine aI (oE (hg.ext aV) (bL aV _ _ cG) N9) ?_
   rintro v M2 bh _ rfl
   by_cases hE:mM x.order[i]=0
   ·rw [hE,su] at hS
    simp +contextual only [go_sem,aD,sevalprocAttr,ht,hE]
    rw [eJ]
    refine al (aB ⟨x.order.length - (i+1),by omega,rfl,i+1,by omega,rfl,?_,?_,N9,M2,hN.trans Va,aV.trans bh,rfl,by rw [if_neg TB];exact hS⟩)
    ·simp only [aE,aG,go_sem,sevalprocAttr]
    ·simp only [go_sem,sevalprocAttr,aA i (by omega)]
   ·rw [fE hE] at hS
    simp +contextual only [go_sem,aD,sevalprocAttr,hE]
    exact ak (hN.trans Va) (by rw [hS])
  ·have:i=x.order.length:=by omega
   subst this
   rw [List.drop_length,oR,ite_self] at hS
   simp +contextual only [go_sem,aD,sevalprocAttr,aG,ht,aL]
   exact eY _ _ _ ⟨rfl,hS,N,M1,[],hN,rfl⟩
 rintro e ds h ⟨rfl,hS,N,M2,L,hN,rfl⟩
 simp +contextual only [go_sem,sevalprocAttr]
 exact ak hN (by rw [hS])
theorem VK {M:aS}{b o:Nat}{x:Stm}{cs:List Value}(h:my M x cs)(ha:At M b o cs):∃ c r,RS M ua 2 x.cols c/\RS M (Hv M) 1 x.rows r/\
 aN M ⟨b,o,none⟩=some (.int .i64 x.k)/\aN M ⟨b,o+1,none⟩=some (st x.name)/\aN M ⟨b,o+2,none⟩=some c/\(∃ q,RQ M x.q q/\At M b (o+3) q)/\
 aN M ⟨b,o+7,none⟩=some r/\aN M ⟨b,o+8,none⟩=some (.bool x.hasW)/\∃ w,RX M x.wh w/\At M b (o+9) w:=by
 obtain ⟨c,q,r,w,h1,h2,h3,h4,rfl⟩:=h
 rw [fz,fz,fz,QW h2] at ha
 obtain ⟨⟨a0,a1,a2,_⟩,aq,⟨a7,a8,_⟩,aw⟩:=ha
 exact ⟨c,r,h1,h3,a0,a1,a2,⟨q,h2,aq⟩,a7,a8,w,h4,aw⟩
def GY:List Co ->Int | []=>0 | c::l=>vN (gQ [c.name]) (if c.ty<2\/4<c.ty then 1 else GY l)
def AY:List V ->Int | []=>0 | v::l=>vN (eO v) (AY l)
def rG:List (List V) ->Int | []=>0 | r::l=>if (r.length:Int)<1\/8<(r.length:Int) then 5 else vN (AY r) (rG l)
def ll (s:Stm):Int:=
 if s.k<1\/5<s.k then 1 else if s.k=5 then xY s.q else vN (gQ [s.name]) (
  if s.k=2 then xY s.q
  else if s.k=1 then (if (s.cols.length:Int)<1\/8<(s.cols.length:Int) then 5 else GY s.cols)
  else if s.k=3 then (if (s.rows.length:Int)<1\/400<(s.rows.length:Int) then 5 else rG s.rows)
  else if s.k=4 then (if s.hasW=true then mM s.wh else 0) else 0)
theorem Ui {M:aS}{b o:Nat}{x:Stm}{cs:List Value}(hg:eQ M)(hx:my M x cs)(ha:At M b o cs):Ct Tryz.prog 49 [.pointer (some ⟨b,o,none⟩)] M [] [] (fun r _ _ _=>r=.int .i64 (ll x)) aM:=by
 intro T
 obtain ⟨cv,rv,hc,hr,m0,m1,m2,⟨qc,hq,haq⟩,m7,m8,wc,hw,haw⟩:=VK hx ha
 obtain ⟨hcb,ca,cc,rfl,cM,_,adR⟩:=ax (by decide) (fun _ _ h=>by unfold ua at h;subst h;rfl) hc
 obtain ⟨hrb,ra,rc,rfl,wJ,_,afG⟩:=ax (by decide) (fun _ _ h=>by obtain ⟨_,_,rfl⟩:=h;rfl) hr
 obtain ⟨sw,rfl,ow,w0,w1,w2,w3,w4,w5,w6⟩:=rY hw haw
 obtain ⟨S,hS⟩:∃ S,S=ll x:=⟨_,rfl⟩
 rw [<- hS]
 unfold ll at hS
 refine az F49 rfl rfl ?_
 intro bi _
 by_cases k0:x.k<1\/5<x.k
 ·rw [if_pos k0] at hS
  simp +contextual only [go_sem,sevalprocAttr,m0]
  rw [dG]
  by_cases k1:x.k<1
  ·simp +contextual only [go_sem,sevalprocAttr,k1]
   exact ak aF.rfl' (by rw [hS])
  ·have k2:5<x.k:=by omega
   simp +contextual only [go_sem,sevalprocAttr,k1,k2]
   exact ak aF.rfl' (by rw [hS])
 rw [if_neg k0] at hS
 have k1:¬ x.k<1:=fun h=>k0 (.inl h)
 have k2:¬ 5<x.k:=fun h=>k0 (.inr h)
 by_cases k5:x.k=5
 ·rw [if_pos k5] at hS
  simp +contextual only [go_sem,aD,sevalprocAttr,m0,k5]
  refine aI (Cw hg hq haq T) ?_
  rintro v M2 bh _ rfl
  simp +contextual only [go_sem,sevalprocAttr]
  exact ak aF.rfl' (by rw [hS])
 rw [if_neg k5] at hS
 simp +contextual only [go_sem,aD,sevalprocAttr,m0,m1,k1,k2,k5]
 intro b1 fx
 refine cZ F86.bd fun M1 aV ZM bG=> ?_
 have hl:RS M1 rj 1 [x.name] (.slice (some ⟨b1,0,none⟩) 1 1):=dB (fun _ _=>ff) ZM (kQ [x.name]) rfl (by decide)
 refine aI (tY (hg.ext aV) hl T) ?_
 rintro v M2 bh _ rfl
 have ep:=aV.trans bh
 by_cases hE:gQ [x.name]=0
 ·rw [hE,su] at hS
  have n0:=ay ep m0
  by_cases c2:x.k=2
  ·rw [if_pos c2] at hS
   simp +contextual only [go_sem,aD,sevalprocAttr,hE,n0,c2]
   refine aI (Cw (hg.ext ep) (Jd ep _ _ hq) (haq.ext ep) T) ?_
   rintro v M3 bE _ rfl
   simp +contextual only [go_sem,sevalprocAttr]
   exact ak aF.rfl' (by rw [hS])
  rw [if_neg c2] at hS
  by_cases c1:x.k=1
  ·rw [if_pos c1] at hS
   have n2:=ay ep m2
   by_cases cl:(x.cols.length:Int)<1\/8<(x.cols.length:Int)
   ·rw [if_pos cl] at hS
    by_cases cl1:(x.cols.length:Int)<1
    ·simp +contextual only [go_sem,aD,sevalprocAttr,hE,n0,c1,n2,cl1]
     exact ak aF.rfl' (by rw [hS])
    ·have cl2:8<(x.cols.length:Int):=by omega
     simp +contextual only [go_sem,aD,sevalprocAttr,hE,n0,c1,n2,cl1,cl2]
     exact ak aF.rfl' (by rw [hS])
   rw [if_neg cl] at hS
   have cl1:¬ (x.cols.length:Int)<1:=fun h=>cl (.inl h)
   have cl2:¬ 8<(x.cols.length:Int):=fun h=>cl (.inr h)
   simp +contextual only [go_sem,aD,sevalprocAttr,hE,n0,c1,n2,cl1,cl2]
   refine aO x.cols.length 73 [(71,.slice ca x.cols.length cc),(72,.int .i64 (x.cols.length:Int))]
    (fun i e h=>∃ N M',aF T N/\bm M M'/\h=⟨N,M',[],[]⟩/\S=GY (x.cols.drop i))
    0 (by omega) (by simp only [aE,go_sem,sevalprocAttr]) (by simp only [go_sem,sevalprocAttr]) ⟨T,M2,aF.rfl',ep,rfl,hS⟩ ?_
   clear hS
   rintro i e h hi aG ht ⟨N,M3,hN,bE,rfl,hS⟩
   simp only [aE] at aG
   by_cases aL:i<x.cols.length
   ·obtain ⟨b',o',cs',rfl,bQ,cG⟩:=adR i x.cols[i] (gq aL)
    unfold ua at cG;subst cG
    have bK:x.cols.drop i=x.cols[i]::x.cols.drop (i+1):=dq aL
    have q0:=ay bE bQ.1
    have q1:=ay bE bQ.2.1
    rw [bK,GY] at hS
    simp +contextual only [go_sem,aD,sevalprocAttr,aG,ht,aL,q0,q1]
    intro b5 N5 j6 sd oQ b7 mN jv
    refine cZ F86.bd fun M4 dD abr de=> ?_
    have hl:RS M4 rj 1 [x.cols[i].name] (.slice (some ⟨b7,0,none⟩) 1 1):=dB (fun _ _=>ff) abr (kQ [x.cols[i].name]) rfl (by decide)
    refine aI (tY (hg.ext (bE.trans dD)) hl N5) ?_
    rintro v M5 dJ bR rfl
    simp only [aJ,and_true] at bR
    by_cases uB:gQ [x.cols[i].name]=0
    ·rw [uB,su] at hS
     by_cases t1:x.cols[i].ty<2
     ·rw [if_pos (.inl t1)] at hS
      simp +contextual only [go_sem,aD,sevalprocAttr,uB,bR,t1]
      exact ak (hN.trans sd) (by rw [hS])
     ·by_cases t2:4<x.cols[i].ty
      ·rw [if_pos (.inr t2)] at hS
       simp +contextual only [go_sem,aD,sevalprocAttr,uB,bR,t1,t2]
       exact ak (hN.trans sd) (by rw [hS])
      ·rw [if_neg (by omega)] at hS
       simp +contextual only [go_sem,aD,sevalprocAttr,ht,uB,bR,t1,t2]
       rw [eJ]
       refine al (aB ⟨x.cols.length - (i+1),by omega,rfl,i+1,by omega,rfl,?_,?_,N5,M5,hN.trans sd,(bE.trans dD).trans dJ,rfl,hS⟩)
       ·simp only [aE,aG,go_sem,sevalprocAttr]
       ·simp only [go_sem,sevalprocAttr,aA i (by omega)]
    ·rw [fE uB] at hS
     simp +contextual only [go_sem,aD,sevalprocAttr,uB]
     exact ak (hN.trans sd) (by rw [hS])
   ·have:i=x.cols.length:=by omega
    subst this
    rw [List.drop_length,GY] at hS
    simp +contextual only [go_sem,aD,sevalprocAttr,aG,ht,aL]
    exact ak hN (by rw [hS])
  rw [if_neg c1] at hS
  by_cases c3:x.k=3
  ·rw [if_pos c3] at hS
   have n7:=ay ep m7
   by_cases cl:(x.rows.length:Int)<1\/400<(x.rows.length:Int)
   ·rw [if_pos cl] at hS
    by_cases cl1:(x.rows.length:Int)<1
    ·simp +contextual only [go_sem,aD,sevalprocAttr,hE,n0,c3,n7,cl1]
     exact ak aF.rfl' (by rw [hS])
    ·have cl2:400<(x.rows.length:Int):=by omega
     simp +contextual only [go_sem,aD,sevalprocAttr,hE,n0,c3,n7,cl1,cl2]
     exact ak aF.rfl' (by rw [hS])
   rw [if_neg cl] at hS
   have cl1:¬ (x.rows.length:Int)<1:=fun h=>cl (.inl h)
   have cl2:¬ 400<(x.rows.length:Int):=fun h=>cl (.inr h)
   simp +contextual only [go_sem,aD,sevalprocAttr,hE,n0,c3,n7,cl1,cl2]
   refine aO x.rows.length 114 [(112,.slice ra x.rows.length rc),(113,.int .i64 (x.rows.length:Int))]
    (fun i e h=>∃ N M',aF T N/\bm M M'/\h=⟨N,M',[],[]⟩/\S=rG (x.rows.drop i))
    0 (by omega) (by simp only [aE,go_sem,sevalprocAttr]) (by simp only [go_sem,sevalprocAttr]) ⟨T,M2,aF.rfl',ep,rfl,hS⟩ ?_
   clear hS
   rintro i e h hi aG ht ⟨N,M3,hN,bE,rfl,hS⟩
   simp only [aE] at aG
   by_cases aL:i<x.rows.length
   ·obtain ⟨b',o',cs',rfl,bQ,sv,sV,rfl⟩:=afG i x.rows[i] (gq aL)
    have bK:x.rows.drop i=x.rows[i]::x.rows.drop (i+1):=dq aL
    have q0:=ay bE bQ.1
    rw [Nat.mul_one] at q0
    rw [bK,rG] at hS
    obtain ⟨hvb,va,vc,rfl,hvl,_,ae4⟩:=ax (by decide) (fun _ _ h=>eM h) sV
    by_cases rl:(x.rows[i].length:Int)<1\/8<(x.rows[i].length:Int)
    ·rw [if_pos rl] at hS
     by_cases rl1:(x.rows[i].length:Int)<1
     ·simp +contextual only [go_sem,aD,sevalprocAttr,aG,ht,aL,q0,rl1]
      exact ak hN (by rw [hS])
     ·have rl2:8<(x.rows[i].length:Int):=by omega
      simp +contextual only [go_sem,aD,sevalprocAttr,aG,ht,aL,q0,rl1,rl2]
      exact ak hN (by rw [hS])
    rw [if_neg rl] at hS
    have rl1:¬ (x.rows[i].length:Int)<1:=fun h=>rl (.inl h)
    have rl2:¬ 8<(x.rows[i].length:Int):=fun h=>rl (.inr h)
    simp +contextual only [go_sem,aD,sevalprocAttr,aG,ht,aL,q0,rl1,rl2]
    refine aO x.rows[i].length 128 [(112,.slice (some ⟨b',o',none⟩) x.rows.length rc),(113,.int .i64 (x.rows.length:Int)),(114,.int .i64 (i:Int)),(126,.slice va x.rows[i].length vc),(127,.int .i64 (x.rows[i].length:Int))]
     (fun j e h=>∃ N M',aF T N/\bm M M'/\h=⟨N,M',[],[]⟩/\S=vN (AY (x.rows[i].drop j)) (rG (x.rows.drop (i+1))))
     0 (by omega) (by simp only [aE,aG,ht,go_sem,sevalprocAttr]) (by simp only [go_sem,sevalprocAttr]) ⟨N,M3,hN,bE,rfl,hS⟩ ?_
    clear hS aG ht e hN bE q0
    rintro j e h hj aG htj ⟨N,M4,hN,dD,rfl,hS⟩
    simp only [aE] at aG
    by_cases rp:j<x.rows[i].length
    ·obtain ⟨bv,ov,cv',rfl,abb,mP⟩:=ae4 j x.rows[i][j] (gq rp)
     unfold RV V.cs at mP;subst mP
     have abH:x.rows[i].drop j=x.rows[i][j]::x.rows[i].drop (j+1):=dq rp
     have q0:=ay dD abb.1
     have q1:=ay dD abb.2.1
     have q2:=ay dD abb.2.2.1
     rw [abH,AY] at hS
     simp +contextual only [go_sem,aD,sevalprocAttr,aG,htj,rp,q0,q1,q2]
     intro b10 N10 abA aeb YS
     refine aI (ja x.rows[i][j] M4 N10) ?_
     rintro v M5 dJ bR rfl
     by_cases uB:eO x.rows[i][j]=0
     ·rw [uB,su] at hS
      simp +contextual only [go_sem,aD,sevalprocAttr,htj,uB]
      rw [eJ]
      refine al (aB ⟨x.rows[i].length - (j+1),by omega,rfl,j+1,by omega,rfl,?_,?_,N10,M5,hN.trans aeb,dD.trans dJ,rfl,hS⟩)
      ·simp only [aE,aG,go_sem,sevalprocAttr]
      ·simp only [go_sem,sevalprocAttr,aA j (by omega)]
     ·rw [fE uB,fE uB] at hS
      simp +contextual only [go_sem,aD,sevalprocAttr,uB]
      exact ak (hN.trans aeb) (by rw [hS])
    ·have:j=x.rows[i].length:=by omega
     subst this
     rw [List.drop_length,AY,su] at hS
     simp +contextual only [go_sem,aD,sevalprocAttr,aG,htj,rp]
     refine ce aL ?_ ?_ ⟨N,M4,hN,dD,rfl,hS⟩
     ·simp only [aE,aG,go_sem,sevalprocAttr]
     ·simp only [go_sem,sevalprocAttr,aA i (by omega)]
   ·have:i=x.rows.length:=by omega
    subst this
    rw [List.drop_length,rG] at hS
    simp +contextual only [go_sem,aD,sevalprocAttr,aG,ht,aL]
    exact ak hN (by rw [hS])
  rw [if_neg c3] at hS
  by_cases c4:x.k=4
  ·rw [if_pos c4] at hS
   cases hW:x.hasW with
   | true=>
    rw [if_pos hW] at hS
    rw [hW] at m8
    simp +contextual only [go_sem,aD,sevalprocAttr,hE,n0,c4,ay ep m8,ay ep w0,ay ep w1,ay ep w2,ay ep w3,ay ep w4,ay ep w5,ay ep w6]
    refine aI (oE (hg.ext ep) (bL ep _ _ hw) T) ?_
    rintro v M3 bE _ rfl
    simp +contextual only [go_sem,sevalprocAttr]
    exact ak aF.rfl' (by rw [hS])
   | false=>
    rw [if_neg (by rw [hW];exact Bool.false_ne_true)] at hS
    rw [hW] at m8
    simp +contextual only [go_sem,aD,sevalprocAttr,hE,n0,c4,ay ep m8]
    exact ak aF.rfl' (by rw [hS])
  ·rw [if_neg c4] at hS
   simp +contextual only [go_sem,aD,sevalprocAttr,hE,n0,c2,c1,c3,c4]
   exact ak aF.rfl' (by rw [hS])
 ·rw [fE hE] at hS
  simp +contextual only [go_sem,aD,sevalprocAttr,hE]
  exact ak aF.rfl' (by rw [hS])
def sD:Nat ->List Stm ->Int×Nat | _,[]=>(0,0) | i,s::l=>if ll s≠0 then (ll s,i) else sD (i+1) l
def kJ (l:List Stm):Int×Nat:=if 60<(l.length:Int) then (5,0) else sD 0 l
theorem En {M:aS}{l:List Stm}{sv:Value}(hg:eQ M)(hs:RS M (my M) 16 l sv):Ct Tryz.prog 28 [sv] M [] [] (fun r _ _ _=>r=X3 (kJ l).1 ((kJ l).2:Int)) aM:=by
 intro T
 obtain ⟨hb,a,c,rfl,di,_,gO⟩:=ax (by decide) (fun _ _=>fP) hs
 obtain ⟨S,hS⟩:∃ S,S=kJ l:=⟨_,rfl⟩
 rw [<- hS]
 unfold kJ at hS
 refine az F28 rfl rfl ?_
 intro bi _
 simp +contextual only [go_sem,aD,sevalprocAttr]
 intro b2 T2 dN dy ei
 by_cases h60:60<(l.length:Int)
 ·rw [if_pos h60] at hS
  simp +contextual only [go_sem,sevalprocAttr,h60]
  exact ak dy (by rw [hS];rfl)
 rw [if_neg h60] at hS
 simp +contextual only [go_sem,sevalprocAttr,h60]
 refine aO l.length 11 [(0,.slice a l.length c),(2,.pointer (some ⟨b2,0,none⟩)),(10,.int .i64 l.length)] (fun i e h=>∃ M',bm M M'/\M' b2=none/\h=⟨T2,M',[(b2,[.int .i64 0,.int .i64 0])],[]⟩/\S=sD i (l.drop i)) 0 (by omega) (by simp only [aE,go_sem,sevalprocAttr]) (by simp only [go_sem,sevalprocAttr]) ⟨M,bm.rfl',dN,rfl,hS⟩ ?_
 clear hS
 rintro i e h hi aG ht ⟨M1,aV,n2,rfl,hS⟩
 simp only [aE] at aG
 by_cases aL:i<l.length
 ·obtain ⟨b,o,cs,rfl,bQ,cG⟩:=gO i l[i] (gq aL)
  have bK:l.drop i=l[i]::l.drop (i+1):=dq aL
  rw [bK,sD] at hS
  simp +contextual only [go_sem,aD,sevalprocAttr,aG,ht,aL]
  refine aI (Ui (hg.ext aV) (eT aV _ _ cG) (bQ.ext aV) T2) ?_
  rintro v M2 bh aZ rfl
  simp only [aJ,and_true] at aZ
  by_cases hE:ll l[i]=0
  ·rw [if_neg (fun h=>h hE)] at hS
   simp +contextual only [go_sem,aD,sevalprocAttr,ht,hE]
   refine ce aL ?_ ?_ ⟨M2,aV.trans bh,aZ,rfl,hS⟩
   ·simp only [aE,aG,go_sem,sevalprocAttr]
   ·simp only [go_sem,sevalprocAttr,aA i (by omega)]
  ·rw [if_pos hE] at hS
   simp +contextual only [go_sem,aD,sevalprocAttr,aG,hE,aZ]
   exact ak dy (by rw [hS];rfl)
 ·have:i=l.length:=by omega
  subst this
  rw [List.drop_length,sD] at hS
  simp +contextual only [go_sem,aD,sevalprocAttr,aG,ht,aL,n2]
  exact ak dy (by rw [hS];rfl)
end Go.Proofs.YtmeeifechggoeaaGreatDoor

import Derived.Test.YtmccpbcbofhmlaaGreatDoorC
import Derived.Shelf.Strings.Builder1
import Derived.Test.YtmccpbcbofhmlaaGreatDoorB
import Derived.Recover
import Derived.Laws.Pointers
set_option linter.all false
namespace Go.Proofs.YtmccpbcbofhmlaaGreatDoor
open Go Vc
set_option maxRecDepth 10000
def dx {α:Type}(en:Int)(g:List Tk ->Rs α):Nat ->List Tk ->Rs (List α)
 | 0,t=> .err 5 (oP en t)
 | k+1,t=>(g t).bind fun a t=>if bH kg t=true then (dx en g k t.tail).bind fun l t=> .ok (a::l) t else .ok [a] t
theorem Rs.bind_assoc {α β γ:Type}(r:Rs α)(f:α ->List Tk ->Rs β)(g:β ->List Tk ->Rs γ):(r.bind f).bind g=r.bind fun a t=>(f a t).bind g:=by cases r<;>rfl
theorem z7 {α:Type}{M:aS}{pb gf:Nat}{aW:List Tk}{lv:Value}{en op:Int}{fa fc:List Value}{g:List Tk ->Rs α}{r:aS ->α ->List Value ->Prop}{enc:α ->Value ->aS ->Prop}{C:aS ->Prop}(most:Nat)
 (JD:∀ (M:aS) (t:List Tk) (lv:Value) (T:Tm),eX M ->C M ->RS M gn 3 t lv ->g t≠ .out ->cw Tryz.prog gf (fa++fc) T M (pL pb lv en op) [] (fu pb en op enc (g t)) (fW pb en (g t)))
 (hE:∀ x v M,enc x v M ->∃ cs,v.cells.toList=cs/\r M x cs) (ej:∀ M x cs,r M x cs ->cs.length=7) (dL:∀ M x cs,r M x cs ->∀ u∈cs,u.oneCell'=true) (nG:∀ M M' x cs,bh M M' ->r M x cs ->r M' x cs)
 (hC:∀ M M',bh M M' ->C M ->C M') (Kn:C M) (J4:most<=400) (hg:eX M) (hl:RS M gn 3 aW lv) (cD:dx en g most aW≠ .out) (T:Tm):
 cw Tryz.prog 147 [.pointer (some ⟨pb,0,none⟩),.int .i64 (most:Int),.func (.func gf) ⟨fa⟩ ⟨fc⟩] T M (pL pb lv en op) [] (fu pb en op (fun l v M=>RS M (r M) 7 l v) (dx en g most aW)) (fW pb en (dx en g most aW)):=by
 refine aC ahf rfl rfl ?_
 intro bi _
 simp only [aK] at bi
 simp +contextual only [go_sem,aE,sevalprocAttr]
 refine fE (fun m e ds h=>ds=[]/\e 0=.pointer (some ⟨pb,0,none⟩)/\e 1=.int .i64 (most:Int)/\e 2=.func (.func gf) ⟨fa⟩ ⟨fc⟩/\
  ∃ M' t' lv' acc,m+acc.length=most/\bh M M'/\M' pb=none/\RS M' gn 3 t' lv'/\dx en g most aW=(dx en g m t').bind (fun l t=> .ok (acc++l) t)/\
   ((acc=[]/\e 7=.slice none 0 0/\h=⟨T,M',pL pb lv' en op,[]⟩)\/∃ ra rc xs,e 7=.slice ra acc.length rc/\RL (r M') acc xs/\h=⟨T,M',pL pb lv' en op,[(.slice ra acc.length rc,31,7,xs)]⟩))
  ⟨most,rfl,by simp only [go_sem,sevalprocAttr],by simp only [go_sem,sevalprocAttr],by simp only [go_sem,sevalprocAttr],M,aW,lv,[],by simp,bh.rfl',bi,hl,by cases dx en g most aW<;>rfl,.inl ⟨rfl,by simp only [go_sem,sevalprocAttr],rfl⟩⟩ ?_
 rintro m e ds h ⟨rfl,e0,e1,e2,M1,t1,lv1,acc,hm,aV,np,gI,ax,mo⟩
 have ly:=hg.ext aV
 cases m with
 | zero=>
  have bw:(acc.length:Int)=(most:Int):=by omega
  have li:dx en g most aW=.err 5 (oP en t1):=ax
  rcases mo with ⟨rfl,e7,rfl⟩ | ⟨ra,rc,xs,e7,eJ,rfl⟩
  ·have bw:(0:Int)=(most:Int):=by simpa using bw
   simp +contextual only [go_sem,aE,sevalprocAttr,e0,e1,e7,bw]
   refine lQ [] gI ?_
   simp +contextual only [go_sem,sevalprocAttr]
   exact fd [] aH.rfl' li
  ·simp +contextual only [go_sem,aE,sevalprocAttr,e0,e1,e7,bw]
   refine lQ [] gI ?_
   simp +contextual only [go_sem,sevalprocAttr]
   exact fd [] aH.rfl' li
 | succ m=>
  have bw:¬ (acc.length:Int)=(most:Int):=by omega
  simp only [dx,Rs.bind_assoc] at ax
  rcases mo with ⟨rfl,e7,rfl⟩ | ⟨ra,rc,xs,e7,eJ,rfl⟩
  ·have bw:¬ (0:Int)=(most:Int):=by simpa using bw
   simp +contextual only [go_sem,aE,sevalprocAttr,e1,e2,e7,bw]
   refine bZ [] aH.rfl' ax cD (fun h=>JD M1 t1 lv1 T ly (hC _ _ aV Kn) gI h) ?_
   rintro v M2 a t2 lv2 bg aZ ax eD hv
   obtain ⟨cs,iE,hr⟩:=hE _ _ _ hv
   have cO:=ej _ _ _ hr
   simp only [nn,aK] at aZ
   have ji:=iE
   simp only [Value.cells] at ji
   simp +contextual only [go_sem,sevalprocAttr,ji,cO]
   intro b hb se
   refine ma uG uQ (.slice _ 1 _ _ _ Tryz.underlying25 (bL [] hb trivial (by rw [cO])) (dL _ _ _ hr)) (by rw [cO];decide) ?_
   intro ra rm rc iL
   have iH:rm=1:=by rw [cO] at iL;omega
   subst iH
   simp +contextual only [go_sem,sevalprocAttr,e0]
   refine ir [(b,_)] kg eD (fun hs lv3 eR=> ?_) (fun hs lv3 eR=> ?_)
   ·rw [if_pos hs,Rs.bind_assoc] at ax
    simp +contextual only [go_sem,aE,sevalprocAttr]
    rw [dB]
    refine ak (az ⟨m,by omega,rfl,?_,?_,?_,M2,t2.tail,lv3,[a],by simp only [ln] at hm ⊢;omega,aV.trans bg,aZ,eR,ax,.inr ⟨ra,rc,cs,?_,cA hr,rfl⟩⟩)
    all_goals simp only [e0,e1,e2,go_sem,sevalprocAttr]
   ·rw [if_neg (by simp [hs])] at ax
    simp +contextual only [go_sem,aE,sevalprocAttr]
    refine ak (bT fun M3 bM bj gi=>aM aH.rfl' rfl rfl ?_)
    exact ⟨[a],t2,lv3,ax,rfl,aL bM (fun _ _ h=>h) eR,rfl,⟨by simp,cs,gi,cA (nG _ _ _ _ bM hr)⟩⟩
  ·simp +contextual only [go_sem,aE,sevalprocAttr,e1,e2,e7,bw]
   refine bZ [] aH.rfl' ax cD (fun h=>JD M1 t1 lv1 T ly (hC _ _ aV Kn) gI h) ?_
   rintro v M2 a t2 lv2 bg aZ ax eD hv
   obtain ⟨cs,iE,hr⟩:=hE _ _ _ hv
   have cO:=ej _ _ _ hr
   have jP:=dO (ej M1) eJ
   have Cn:RL (r M2) acc xs:=cH (fun x cs h=>nG _ _ _ _ bg h) eJ
   simp only [nn,aK] at aZ
   have ji:=iE
   simp only [Value.cells] at ji
   simp +contextual only [go_sem,sevalprocAttr,ji,cO]
   intro b hb se
   refine fK uG uQ (.slice _ 1 _ _ _ Tryz.underlying25 (bL [] hb trivial (by rw [cO])) (dL _ _ _ hr)) (by rw [cO,jP];omega) ?_
   intro ra' rm rc' iL
   have iH:rm=(acc++[a]).length:=by
    rw [cO,jP] at iL
    rw [List.length_append,List.length_cons,List.length_nil]
    omega
   subst iH
   have bC:=cM Cn (cA hr)
   simp +contextual only [go_sem,sevalprocAttr,e0]
   refine ir [(b,_)] kg eD (fun hs lv3 eR=> ?_) (fun hs lv3 eR=> ?_)
   ·rw [if_pos hs,Rs.bind_assoc] at ax
    simp +contextual only [go_sem,aE,sevalprocAttr]
    rw [dB]
    refine ak (az ⟨m,by omega,rfl,?_,?_,?_,M2,t2.tail,lv3,acc++[a],by rw [List.length_append];simp only [ln];omega,aV.trans bg,aZ,eR,?_,.inr ⟨ra',rc',xs++cs,?_,bC,rfl⟩⟩)
    ·simp only [e0,go_sem,sevalprocAttr]
    ·simp only [e1,go_sem,sevalprocAttr]
    ·simp only [e2,go_sem,sevalprocAttr]
    ·rw [ax]
     congr 1
     funext l t
     simp [Rs.bind]
    ·simp only [mK,go_sem,sevalprocAttr]
   ·rw [if_neg (by simp [hs])] at ax
    simp +contextual only [go_sem,aE,sevalprocAttr]
    refine ak (bT fun M3 bM bj gi=>aM aH.rfl' rfl rfl ?_)
    exact ⟨acc++[a],t2,lv3,ax,rfl,aL bM (fun _ _ h=>h) eR,rfl,⟨by rw [List.length_append];simp only [ln];omega,xs++cs,gi,cH (fun x cs h=>nG _ _ _ _ bM h) bC⟩⟩
theorem GM {α:Type}{M:aS}{pb gf:Nat}{aW:List Tk}{lv:Value}{en op:Int}{fa fc:List Value}{g:List Tk ->Rs α}{r:aS ->α ->List Value ->Prop}{enc:α ->Value ->aS ->Prop}{C:aS ->Prop}(most:Nat)
 (JD:∀ (M:aS) (t:List Tk) (lv:Value) (T:Tm),eX M ->C M ->RS M gn 3 t lv ->g t≠ .out ->cw Tryz.prog gf (fa++fc) T M (pL pb lv en op) [] (fu pb en op enc (g t)) (fW pb en (g t)))
 (hE:∀ x v M,enc x v M ->∃ cs,v.cells.toList=cs/\r M x cs) (ej:∀ M x cs,r M x cs ->cs.length=2) (dL:∀ M x cs,r M x cs ->∀ u∈cs,u.oneCell'=true) (nG:∀ M M' x cs,bh M M' ->r M x cs ->r M' x cs)
 (hC:∀ M M',bh M M' ->C M ->C M') (Kn:C M) (J4:most<=400) (hg:eX M) (hl:RS M gn 3 aW lv) (cD:dx en g most aW≠ .out) (T:Tm):
 cw Tryz.prog 97 [.pointer (some ⟨pb,0,none⟩),.int .i64 (most:Int),.func (.func gf) ⟨fa⟩ ⟨fc⟩] T M (pL pb lv en op) [] (fu pb en op (fun l v M=>RS M (r M) 2 l v) (dx en g most aW)) (fW pb en (dx en g most aW)):=by
 refine aC F97 rfl rfl ?_
 intro bi _
 simp only [aK] at bi
 simp +contextual only [go_sem,aE,sevalprocAttr]
 refine fE (fun m e ds h=>ds=[]/\e 0=.pointer (some ⟨pb,0,none⟩)/\e 1=.int .i64 (most:Int)/\e 2=.func (.func gf) ⟨fa⟩ ⟨fc⟩/\
  ∃ M' t' lv' acc,m+acc.length=most/\bh M M'/\M' pb=none/\RS M' gn 3 t' lv'/\dx en g most aW=(dx en g m t').bind (fun l t=> .ok (acc++l) t)/\
   ((acc=[]/\e 7=.slice none 0 0/\h=⟨T,M',pL pb lv' en op,[]⟩)\/∃ ra rc xs,e 7=.slice ra acc.length rc/\RL (r M') acc xs/\h=⟨T,M',pL pb lv' en op,[(.slice ra acc.length rc,48,2,xs)]⟩))
  ⟨most,rfl,by simp only [go_sem,sevalprocAttr],by simp only [go_sem,sevalprocAttr],by simp only [go_sem,sevalprocAttr],M,aW,lv,[],by simp,bh.rfl',bi,hl,by cases dx en g most aW<;>rfl,.inl ⟨rfl,by simp only [go_sem,sevalprocAttr],rfl⟩⟩ ?_
 rintro m e ds h ⟨rfl,e0,e1,e2,M1,t1,lv1,acc,hm,aV,np,gI,ax,mo⟩
 have ly:=hg.ext aV
 cases m with
 | zero=>
  have bw:(acc.length:Int)=(most:Int):=by omega
  have li:dx en g most aW=.err 5 (oP en t1):=ax
  rcases mo with ⟨rfl,e7,rfl⟩ | ⟨ra,rc,xs,e7,eJ,rfl⟩
  ·have bw:(0:Int)=(most:Int):=by simpa using bw
   simp +contextual only [go_sem,aE,sevalprocAttr,e0,e1,e7,bw]
   refine lQ [] gI ?_
   simp +contextual only [go_sem,sevalprocAttr]
   exact fd [] aH.rfl' li
  ·simp +contextual only [go_sem,aE,sevalprocAttr,e0,e1,e7,bw]
   refine lQ [] gI ?_
   simp +contextual only [go_sem,sevalprocAttr]
   exact fd [] aH.rfl' li
 | succ m=>
  have bw:¬ (acc.length:Int)=(most:Int):=by omega
  simp only [dx,Rs.bind_assoc] at ax
  rcases mo with ⟨rfl,e7,rfl⟩ | ⟨ra,rc,xs,e7,eJ,rfl⟩
  ·have bw:¬ (0:Int)=(most:Int):=by simpa using bw
   simp +contextual only [go_sem,aE,sevalprocAttr,e1,e2,e7,bw]
   refine bZ [] aH.rfl' ax cD (fun h=>JD M1 t1 lv1 T ly (hC _ _ aV Kn) gI h) ?_
   rintro v M2 a t2 lv2 bg aZ ax eD hv
   obtain ⟨cs,iE,hr⟩:=hE _ _ _ hv
   have cO:=ej _ _ _ hr
   simp only [nn,aK] at aZ
   have ji:=iE
   simp only [Value.cells] at ji
   simp +contextual only [go_sem,sevalprocAttr,ji,cO]
   intro b hb se
   refine ma Gv E7 (.slice _ 1 _ _ _ Tryz.underlying43 (bL [] hb trivial (by rw [cO])) (dL _ _ _ hr)) (by rw [cO];decide) ?_
   intro ra rm rc iL
   have iH:rm=1:=by rw [cO] at iL;omega
   subst iH
   simp +contextual only [go_sem,sevalprocAttr,e0]
   refine ir [(b,_)] kg eD (fun hs lv3 eR=> ?_) (fun hs lv3 eR=> ?_)
   ·rw [if_pos hs,Rs.bind_assoc] at ax
    simp +contextual only [go_sem,aE,sevalprocAttr]
    rw [dB]
    refine ak (az ⟨m,by omega,rfl,?_,?_,?_,M2,t2.tail,lv3,[a],by simp only [ln] at hm ⊢;omega,aV.trans bg,aZ,eR,ax,.inr ⟨ra,rc,cs,?_,cA hr,rfl⟩⟩)
    all_goals simp only [e0,e1,e2,go_sem,sevalprocAttr]
   ·rw [if_neg (by simp [hs])] at ax
    simp +contextual only [go_sem,aE,sevalprocAttr]
    refine ak (bT fun M3 bM bj gi=>aM aH.rfl' rfl rfl ?_)
    exact ⟨[a],t2,lv3,ax,rfl,aL bM (fun _ _ h=>h) eR,rfl,⟨by simp,cs,gi,cA (nG _ _ _ _ bM hr)⟩⟩
  ·simp +contextual only [go_sem,aE,sevalprocAttr,e1,e2,e7,bw]
   refine bZ [] aH.rfl' ax cD (fun h=>JD M1 t1 lv1 T ly (hC _ _ aV Kn) gI h) ?_
   rintro v M2 a t2 lv2 bg aZ ax eD hv
   obtain ⟨cs,iE,hr⟩:=hE _ _ _ hv
   have cO:=ej _ _ _ hr
   have jP:=dO (ej M1) eJ
   have Cn:RL (r M2) acc xs:=cH (fun x cs h=>nG _ _ _ _ bg h) eJ
   simp only [nn,aK] at aZ
   have ji:=iE
   simp only [Value.cells] at ji
   simp +contextual only [go_sem,sevalprocAttr,ji,cO]
   intro b hb se
   refine fK Gv E7 (.slice _ 1 _ _ _ Tryz.underlying43 (bL [] hb trivial (by rw [cO])) (dL _ _ _ hr)) (by rw [cO,jP];omega) ?_
   intro ra' rm rc' iL
   have iH:rm=(acc++[a]).length:=by
    rw [cO,jP] at iL
    rw [List.length_append,List.length_cons,List.length_nil]
    omega
   subst iH
   have bC:=cM Cn (cA hr)
   simp +contextual only [go_sem,sevalprocAttr,e0]
   refine ir [(b,_)] kg eD (fun hs lv3 eR=> ?_) (fun hs lv3 eR=> ?_)
   ·rw [if_pos hs,Rs.bind_assoc] at ax
    simp +contextual only [go_sem,aE,sevalprocAttr]
    rw [dB]
    refine ak (az ⟨m,by omega,rfl,?_,?_,?_,M2,t2.tail,lv3,acc++[a],by rw [List.length_append];simp only [ln];omega,aV.trans bg,aZ,eR,?_,.inr ⟨ra',rc',xs++cs,?_,bC,rfl⟩⟩)
    ·simp only [e0,go_sem,sevalprocAttr]
    ·simp only [e1,go_sem,sevalprocAttr]
    ·simp only [e2,go_sem,sevalprocAttr]
    ·rw [ax]
     congr 1
     funext l t
     simp [Rs.bind]
    ·simp only [mK,go_sem,sevalprocAttr]
   ·rw [if_neg (by simp [hs])] at ax
    simp +contextual only [go_sem,aE,sevalprocAttr]
    refine ak (bT fun M3 bM bj gi=>aM aH.rfl' rfl rfl ?_)
    exact ⟨acc++[a],t2,lv3,ax,rfl,aL bM (fun _ _ h=>h) eR,rfl,⟨by rw [List.length_append];simp only [ln];omega,xs++cs,gi,cH (fun x cs h=>nG _ _ _ _ bM h) bC⟩⟩
theorem IQ {α:Type}{M:aS}{pb gf:Nat}{aW:List Tk}{lv:Value}{en op:Int}{fa fc:List Value}{g:List Tk ->Rs α}{r:aS ->α ->List Value ->Prop}{enc:α ->Value ->aS ->Prop}{C:aS ->Prop}(most:Nat)
 (JD:∀ (M:aS) (t:List Tk) (lv:Value) (T:Tm),eX M ->C M ->RS M gn 3 t lv ->g t≠ .out ->cw Tryz.prog gf (fa++fc) T M (pL pb lv en op) [] (fu pb en op enc (g t)) (fW pb en (g t)))
 (hE:∀ x v M,enc x v M ->∃ cs,v.cells.toList=cs/\r M x cs) (ej:∀ M x cs,r M x cs ->cs.length=1) (dL:∀ M x cs,r M x cs ->∀ u∈cs,u.oneCell'=true) (nG:∀ M M' x cs,bh M M' ->r M x cs ->r M' x cs)
 (hC:∀ M M',bh M M' ->C M ->C M') (Kn:C M) (J4:most<=400) (hg:eX M) (hl:RS M gn 3 aW lv) (cD:dx en g most aW≠ .out) (T:Tm):
 cw Tryz.prog 99 [.pointer (some ⟨pb,0,none⟩),.int .i64 (most:Int),.func (.func gf) ⟨fa⟩ ⟨fc⟩] T M (pL pb lv en op) [] (fu pb en op (fun l v M=>RS M (r M) 1 l v) (dx en g most aW)) (fW pb en (dx en g most aW)):=by
 refine aC F99 rfl rfl ?_
 intro bi _
 simp only [aK] at bi
 simp +contextual only [go_sem,aE,sevalprocAttr]
 refine fE (fun m e ds h=>ds=[]/\e 0=.pointer (some ⟨pb,0,none⟩)/\e 1=.int .i64 (most:Int)/\e 2=.func (.func gf) ⟨fa⟩ ⟨fc⟩/\
  ∃ M' t' lv' acc,m+acc.length=most/\bh M M'/\M' pb=none/\RS M' gn 3 t' lv'/\dx en g most aW=(dx en g m t').bind (fun l t=> .ok (acc++l) t)/\
   ((acc=[]/\e 7=.slice none 0 0/\h=⟨T,M',pL pb lv' en op,[]⟩)\/∃ ra rc xs,e 7=.slice ra acc.length rc/\RL (r M') acc xs/\h=⟨T,M',pL pb lv' en op,[(.slice ra acc.length rc,157,1,xs)]⟩))
  ⟨most,rfl,by simp only [go_sem,sevalprocAttr],by simp only [go_sem,sevalprocAttr],by simp only [go_sem,sevalprocAttr],M,aW,lv,[],by simp,bh.rfl',bi,hl,by cases dx en g most aW<;>rfl,.inl ⟨rfl,by simp only [go_sem,sevalprocAttr],rfl⟩⟩ ?_
 rintro m e ds h ⟨rfl,e0,e1,e2,M1,t1,lv1,acc,hm,aV,np,gI,ax,mo⟩
 have ly:=hg.ext aV
 cases m with
 | zero=>
  have bw:(acc.length:Int)=(most:Int):=by omega
  have li:dx en g most aW=.err 5 (oP en t1):=ax
  rcases mo with ⟨rfl,e7,rfl⟩ | ⟨ra,rc,xs,e7,eJ,rfl⟩
  ·have bw:(0:Int)=(most:Int):=by simpa using bw
   simp +contextual only [go_sem,aE,sevalprocAttr,e0,e1,e7,bw]
   refine lQ [] gI ?_
   simp +contextual only [go_sem,sevalprocAttr]
   exact fd [] aH.rfl' li
  ·simp +contextual only [go_sem,aE,sevalprocAttr,e0,e1,e7,bw]
   refine lQ [] gI ?_
   simp +contextual only [go_sem,sevalprocAttr]
   exact fd [] aH.rfl' li
 | succ m=>
  have bw:¬ (acc.length:Int)=(most:Int):=by omega
  simp only [dx,Rs.bind_assoc] at ax
  rcases mo with ⟨rfl,e7,rfl⟩ | ⟨ra,rc,xs,e7,eJ,rfl⟩
  ·have bw:¬ (0:Int)=(most:Int):=by simpa using bw
   simp +contextual only [go_sem,aE,sevalprocAttr,e1,e2,e7,bw]
   refine bZ [] aH.rfl' ax cD (fun h=>JD M1 t1 lv1 T ly (hC _ _ aV Kn) gI h) ?_
   rintro v M2 a t2 lv2 bg aZ ax eD hv
   obtain ⟨cs,iE,hr⟩:=hE _ _ _ hv
   have cO:=ej _ _ _ hr
   simp only [nn,aK] at aZ
   have ji:=iE
   simp only [Value.cells] at ji
   simp +contextual only [go_sem,sevalprocAttr,ji,cO]
   intro b hb se
   refine ma S7 Pz (.slice _ 1 _ _ _ Tryz.underlying65 (bL [] hb trivial (by rw [cO])) (dL _ _ _ hr)) (by rw [cO];decide) ?_
   intro ra rm rc iL
   have iH:rm=1:=by rw [cO] at iL;omega
   subst iH
   simp +contextual only [go_sem,sevalprocAttr,e0]
   refine ir [(b,_)] kg eD (fun hs lv3 eR=> ?_) (fun hs lv3 eR=> ?_)
   ·rw [if_pos hs,Rs.bind_assoc] at ax
    simp +contextual only [go_sem,aE,sevalprocAttr]
    rw [dB]
    refine ak (az ⟨m,by omega,rfl,?_,?_,?_,M2,t2.tail,lv3,[a],by simp only [ln] at hm ⊢;omega,aV.trans bg,aZ,eR,ax,.inr ⟨ra,rc,cs,?_,cA hr,rfl⟩⟩)
    all_goals simp only [e0,e1,e2,go_sem,sevalprocAttr]
   ·rw [if_neg (by simp [hs])] at ax
    simp +contextual only [go_sem,aE,sevalprocAttr]
    refine ak (bT fun M3 bM bj gi=>aM aH.rfl' rfl rfl ?_)
    exact ⟨[a],t2,lv3,ax,rfl,aL bM (fun _ _ h=>h) eR,rfl,⟨by simp,cs,gi,cA (nG _ _ _ _ bM hr)⟩⟩
  ·simp +contextual only [go_sem,aE,sevalprocAttr,e1,e2,e7,bw]
   refine bZ [] aH.rfl' ax cD (fun h=>JD M1 t1 lv1 T ly (hC _ _ aV Kn) gI h) ?_
   rintro v M2 a t2 lv2 bg aZ ax eD hv
   obtain ⟨cs,iE,hr⟩:=hE _ _ _ hv
   have cO:=ej _ _ _ hr
   have jP:=dO (ej M1) eJ
   have Cn:RL (r M2) acc xs:=cH (fun x cs h=>nG _ _ _ _ bg h) eJ
   simp only [nn,aK] at aZ
   have ji:=iE
   simp only [Value.cells] at ji
   simp +contextual only [go_sem,sevalprocAttr,ji,cO]
   intro b hb se
   refine fK S7 Pz (.slice _ 1 _ _ _ Tryz.underlying65 (bL [] hb trivial (by rw [cO])) (dL _ _ _ hr)) (by rw [cO,jP];omega) ?_
   intro ra' rm rc' iL
   have iH:rm=(acc++[a]).length:=by
    rw [cO,jP] at iL
    rw [List.length_append,List.length_cons,List.length_nil]
    omega
   subst iH
   have bC:=cM Cn (cA hr)
   simp +contextual only [go_sem,sevalprocAttr,e0]
   refine ir [(b,_)] kg eD (fun hs lv3 eR=> ?_) (fun hs lv3 eR=> ?_)
   ·rw [if_pos hs,Rs.bind_assoc] at ax
    simp +contextual only [go_sem,aE,sevalprocAttr]
    rw [dB]
    refine ak (az ⟨m,by omega,rfl,?_,?_,?_,M2,t2.tail,lv3,acc++[a],by rw [List.length_append];simp only [ln];omega,aV.trans bg,aZ,eR,?_,.inr ⟨ra',rc',xs++cs,?_,bC,rfl⟩⟩)
    ·simp only [e0,go_sem,sevalprocAttr]
    ·simp only [e1,go_sem,sevalprocAttr]
    ·simp only [e2,go_sem,sevalprocAttr]
    ·rw [ax]
     congr 1
     funext l t
     simp [Rs.bind]
    ·simp only [mK,go_sem,sevalprocAttr]
   ·rw [if_neg (by simp [hs])] at ax
    simp +contextual only [go_sem,aE,sevalprocAttr]
    refine ak (bT fun M3 bM bj gi=>aM aH.rfl' rfl rfl ?_)
    exact ⟨acc++[a],t2,lv3,ax,rfl,aL bM (fun _ _ h=>h) eR,rfl,⟨by rw [List.length_append];simp only [ln];omega,xs++cs,gi,cH (fun x cs h=>nG _ _ _ _ bM h) bC⟩⟩
theorem LO {α:Type}{M:aS}{pb gf:Nat}{aW:List Tk}{lv:Value}{en op:Int}{fa fc:List Value}{g:List Tk ->Rs α}{r:aS ->α ->List Value ->Prop}{enc:α ->Value ->aS ->Prop}{C:aS ->Prop}(most:Nat)
 (JD:∀ (M:aS) (t:List Tk) (lv:Value) (T:Tm),eX M ->C M ->RS M gn 3 t lv ->g t≠ .out ->cw Tryz.prog gf (fa++fc) T M (pL pb lv en op) [] (fu pb en op enc (g t)) (fW pb en (g t)))
 (hE:∀ x v M,enc x v M ->∃ cs,v.cells.toList=cs/\r M x cs) (ej:∀ M x cs,r M x cs ->cs.length=3) (dL:∀ M x cs,r M x cs ->∀ u∈cs,u.oneCell'=true) (nG:∀ M M' x cs,bh M M' ->r M x cs ->r M' x cs)
 (hC:∀ M M',bh M M' ->C M ->C M') (Kn:C M) (J4:most<=400) (hg:eX M) (hl:RS M gn 3 aW lv) (cD:dx en g most aW≠ .out) (T:Tm):
 cw Tryz.prog 149 [.pointer (some ⟨pb,0,none⟩),.int .i64 (most:Int),.func (.func gf) ⟨fa⟩ ⟨fc⟩] T M (pL pb lv en op) [] (fu pb en op (fun l v M=>RS M (r M) 3 l v) (dx en g most aW)) (fW pb en (dx en g most aW)):=by
 refine aC acS rfl rfl ?_
 intro bi _
 simp only [aK] at bi
 simp +contextual only [go_sem,aE,sevalprocAttr]
 refine fE (fun m e ds h=>ds=[]/\e 0=.pointer (some ⟨pb,0,none⟩)/\e 1=.int .i64 (most:Int)/\e 2=.func (.func gf) ⟨fa⟩ ⟨fc⟩/\
  ∃ M' t' lv' acc,m+acc.length=most/\bh M M'/\M' pb=none/\RS M' gn 3 t' lv'/\dx en g most aW=(dx en g m t').bind (fun l t=> .ok (acc++l) t)/\
   ((acc=[]/\e 7=.slice none 0 0/\h=⟨T,M',pL pb lv' en op,[]⟩)\/∃ ra rc xs,e 7=.slice ra acc.length rc/\RL (r M') acc xs/\h=⟨T,M',pL pb lv' en op,[(.slice ra acc.length rc,29,3,xs)]⟩))
  ⟨most,rfl,by simp only [go_sem,sevalprocAttr],by simp only [go_sem,sevalprocAttr],by simp only [go_sem,sevalprocAttr],M,aW,lv,[],by simp,bh.rfl',bi,hl,by cases dx en g most aW<;>rfl,.inl ⟨rfl,by simp only [go_sem,sevalprocAttr],rfl⟩⟩ ?_
 rintro m e ds h ⟨rfl,e0,e1,e2,M1,t1,lv1,acc,hm,aV,np,gI,ax,mo⟩
 have ly:=hg.ext aV
 cases m with
 | zero=>
  have bw:(acc.length:Int)=(most:Int):=by omega
  have li:dx en g most aW=.err 5 (oP en t1):=ax
  rcases mo with ⟨rfl,e7,rfl⟩ | ⟨ra,rc,xs,e7,eJ,rfl⟩
  ·have bw:(0:Int)=(most:Int):=by simpa using bw
   simp +contextual only [go_sem,aE,sevalprocAttr,e0,e1,e7,bw]
   refine lQ [] gI ?_
   simp +contextual only [go_sem,sevalprocAttr]
   exact fd [] aH.rfl' li
  ·simp +contextual only [go_sem,aE,sevalprocAttr,e0,e1,e7,bw]
   refine lQ [] gI ?_
   simp +contextual only [go_sem,sevalprocAttr]
   exact fd [] aH.rfl' li
 | succ m=>
  have bw:¬ (acc.length:Int)=(most:Int):=by omega
  simp only [dx,Rs.bind_assoc] at ax
  rcases mo with ⟨rfl,e7,rfl⟩ | ⟨ra,rc,xs,e7,eJ,rfl⟩
  ·have bw:¬ (0:Int)=(most:Int):=by simpa using bw
   simp +contextual only [go_sem,aE,sevalprocAttr,e1,e2,e7,bw]
   refine bZ [] aH.rfl' ax cD (fun h=>JD M1 t1 lv1 T ly (hC _ _ aV Kn) gI h) ?_
   rintro v M2 a t2 lv2 bg aZ ax eD hv
   obtain ⟨cs,iE,hr⟩:=hE _ _ _ hv
   have cO:=ej _ _ _ hr
   simp only [nn,aK] at aZ
   have ji:=iE
   simp only [Value.cells] at ji
   simp +contextual only [go_sem,sevalprocAttr,ji,cO]
   intro b hb se
   refine ma mI mB (.slice _ 1 _ _ _ Tryz.underlying157 (bL [] hb trivial (by rw [cO])) (dL _ _ _ hr)) (by rw [cO];decide) ?_
   intro ra rm rc iL
   have iH:rm=1:=by rw [cO] at iL;omega
   subst iH
   simp +contextual only [go_sem,sevalprocAttr,e0]
   refine ir [(b,_)] kg eD (fun hs lv3 eR=> ?_) (fun hs lv3 eR=> ?_)
   ·rw [if_pos hs,Rs.bind_assoc] at ax
    simp +contextual only [go_sem,aE,sevalprocAttr]
    rw [dB]
    refine ak (az ⟨m,by omega,rfl,?_,?_,?_,M2,t2.tail,lv3,[a],by simp only [ln] at hm ⊢;omega,aV.trans bg,aZ,eR,ax,.inr ⟨ra,rc,cs,?_,cA hr,rfl⟩⟩)
    all_goals simp only [e0,e1,e2,go_sem,sevalprocAttr]
   ·rw [if_neg (by simp [hs])] at ax
    simp +contextual only [go_sem,aE,sevalprocAttr]
    refine ak (bT fun M3 bM bj gi=>aM aH.rfl' rfl rfl ?_)
    exact ⟨[a],t2,lv3,ax,rfl,aL bM (fun _ _ h=>h) eR,rfl,⟨by simp,cs,gi,cA (nG _ _ _ _ bM hr)⟩⟩
  ·simp +contextual only [go_sem,aE,sevalprocAttr,e1,e2,e7,bw]
   refine bZ [] aH.rfl' ax cD (fun h=>JD M1 t1 lv1 T ly (hC _ _ aV Kn) gI h) ?_
   rintro v M2 a t2 lv2 bg aZ ax eD hv
   obtain ⟨cs,iE,hr⟩:=hE _ _ _ hv
   have cO:=ej _ _ _ hr
   have jP:=dO (ej M1) eJ
   have Cn:RL (r M2) acc xs:=cH (fun x cs h=>nG _ _ _ _ bg h) eJ
   simp only [nn,aK] at aZ
   have ji:=iE
   simp only [Value.cells] at ji
   simp +contextual only [go_sem,sevalprocAttr,ji,cO]
   intro b hb se
   refine fK mI mB (.slice _ 1 _ _ _ Tryz.underlying157 (bL [] hb trivial (by rw [cO])) (dL _ _ _ hr)) (by rw [cO,jP];omega) ?_
   intro ra' rm rc' iL
   have iH:rm=(acc++[a]).length:=by
    rw [cO,jP] at iL
    rw [List.length_append,List.length_cons,List.length_nil]
    omega
   subst iH
   have bC:=cM Cn (cA hr)
   simp +contextual only [go_sem,sevalprocAttr,e0]
   refine ir [(b,_)] kg eD (fun hs lv3 eR=> ?_) (fun hs lv3 eR=> ?_)
   ·rw [if_pos hs,Rs.bind_assoc] at ax
    simp +contextual only [go_sem,aE,sevalprocAttr]
    rw [dB]
    refine ak (az ⟨m,by omega,rfl,?_,?_,?_,M2,t2.tail,lv3,acc++[a],by rw [List.length_append];simp only [ln];omega,aV.trans bg,aZ,eR,?_,.inr ⟨ra',rc',xs++cs,?_,bC,rfl⟩⟩)
    ·simp only [e0,go_sem,sevalprocAttr]
    ·simp only [e1,go_sem,sevalprocAttr]
    ·simp only [e2,go_sem,sevalprocAttr]
    ·rw [ax]
     congr 1
     funext l t
     simp [Rs.bind]
    ·simp only [mK,go_sem,sevalprocAttr]
   ·rw [if_neg (by simp [hs])] at ax
    simp +contextual only [go_sem,aE,sevalprocAttr]
    refine ak (bT fun M3 bM bj gi=>aM aH.rfl' rfl rfl ?_)
    exact ⟨acc++[a],t2,lv3,ax,rfl,aL bM (fun _ _ h=>h) eR,rfl,⟨by rw [List.length_append];simp only [ln];omega,xs++cs,gi,cH (fun x cs h=>nG _ _ _ _ bM h) bC⟩⟩
theorem HJ {α:Type}{M:aS}{pb gf:Nat}{aW:List Tk}{lv:Value}{en op:Int}{fa fc:List Value}{g:List Tk ->Rs α}{r:aS ->α ->List Value ->Prop}{enc:α ->Value ->aS ->Prop}{C:aS ->Prop}(most:Nat)
 (JD:∀ (M:aS) (t:List Tk) (lv:Value) (T:Tm),eX M ->C M ->RS M gn 3 t lv ->g t≠ .out ->cw Tryz.prog gf (fa++fc) T M (pL pb lv en op) [] (fu pb en op enc (g t)) (fW pb en (g t)))
 (hE:∀ x v M,enc x v M ->∃ cs,v.cells.toList=cs/\r M x cs) (ej:∀ M x cs,r M x cs ->cs.length=8) (dL:∀ M x cs,r M x cs ->∀ u∈cs,u.oneCell'=true) (nG:∀ M M' x cs,bh M M' ->r M x cs ->r M' x cs)
 (hC:∀ M M',bh M M' ->C M ->C M') (Kn:C M) (J4:most<=400) (hg:eX M) (hl:RS M gn 3 aW lv) (cD:dx en g most aW≠ .out) (T:Tm):
 cw Tryz.prog 184 [.pointer (some ⟨pb,0,none⟩),.int .i64 (most:Int),.func (.func gf) ⟨fa⟩ ⟨fc⟩] T M (pL pb lv en op) [] (fu pb en op (fun l v M=>RS M (r M) 8 l v) (dx en g most aW)) (fW pb en (dx en g most aW)):=by
 refine aC aif rfl rfl ?_
 intro bi _
 simp only [aK] at bi
 simp +contextual only [go_sem,aE,sevalprocAttr]
 refine fE (fun m e ds h=>ds=[]/\e 0=.pointer (some ⟨pb,0,none⟩)/\e 1=.int .i64 (most:Int)/\e 2=.func (.func gf) ⟨fa⟩ ⟨fc⟩/\
  ∃ M' t' lv' acc,m+acc.length=most/\bh M M'/\M' pb=none/\RS M' gn 3 t' lv'/\dx en g most aW=(dx en g m t').bind (fun l t=> .ok (acc++l) t)/\
   ((acc=[]/\e 7=.slice none 0 0/\h=⟨T,M',pL pb lv' en op,[]⟩)\/∃ ra rc xs,e 7=.slice ra acc.length rc/\RL (r M') acc xs/\h=⟨T,M',pL pb lv' en op,[(.slice ra acc.length rc,161,8,xs)]⟩))
  ⟨most,rfl,by simp only [go_sem,sevalprocAttr],by simp only [go_sem,sevalprocAttr],by simp only [go_sem,sevalprocAttr],M,aW,lv,[],by simp,bh.rfl',bi,hl,by cases dx en g most aW<;>rfl,.inl ⟨rfl,by simp only [go_sem,sevalprocAttr],rfl⟩⟩ ?_
 rintro m e ds h ⟨rfl,e0,e1,e2,M1,t1,lv1,acc,hm,aV,np,gI,ax,mo⟩
 have ly:=hg.ext aV
 cases m with
 | zero=>
  have bw:(acc.length:Int)=(most:Int):=by omega
  have li:dx en g most aW=.err 5 (oP en t1):=ax
  rcases mo with ⟨rfl,e7,rfl⟩ | ⟨ra,rc,xs,e7,eJ,rfl⟩
  ·have bw:(0:Int)=(most:Int):=by simpa using bw
   simp +contextual only [go_sem,aE,sevalprocAttr,e0,e1,e7,bw]
   refine lQ [] gI ?_
   simp +contextual only [go_sem,sevalprocAttr]
   exact fd [] aH.rfl' li
  ·simp +contextual only [go_sem,aE,sevalprocAttr,e0,e1,e7,bw]
   refine lQ [] gI ?_
   simp +contextual only [go_sem,sevalprocAttr]
   exact fd [] aH.rfl' li
 | succ m=>
  have bw:¬ (acc.length:Int)=(most:Int):=by omega
  simp only [dx,Rs.bind_assoc] at ax
  rcases mo with ⟨rfl,e7,rfl⟩ | ⟨ra,rc,xs,e7,eJ,rfl⟩
  ·have bw:¬ (0:Int)=(most:Int):=by simpa using bw
   simp +contextual only [go_sem,aE,sevalprocAttr,e1,e2,e7,bw]
   refine bZ [] aH.rfl' ax cD (fun h=>JD M1 t1 lv1 T ly (hC _ _ aV Kn) gI h) ?_
   rintro v M2 a t2 lv2 bg aZ ax eD hv
   obtain ⟨cs,iE,hr⟩:=hE _ _ _ hv
   have cO:=ej _ _ _ hr
   simp only [nn,aK] at aZ
   have ji:=iE
   simp only [Value.cells] at ji
   simp +contextual only [go_sem,sevalprocAttr,ji,cO]
   intro b hb se
   refine ma SY O1 (.slice _ 1 _ _ _ Tryz.underlying77 (bL [] hb trivial (by rw [cO])) (dL _ _ _ hr)) (by rw [cO];decide) ?_
   intro ra rm rc iL
   have iH:rm=1:=by rw [cO] at iL;omega
   subst iH
   simp +contextual only [go_sem,sevalprocAttr,e0]
   refine ir [(b,_)] kg eD (fun hs lv3 eR=> ?_) (fun hs lv3 eR=> ?_)
   ·rw [if_pos hs,Rs.bind_assoc] at ax
    simp +contextual only [go_sem,aE,sevalprocAttr]
    rw [dB]
    refine ak (az ⟨m,by omega,rfl,?_,?_,?_,M2,t2.tail,lv3,[a],by simp only [ln] at hm ⊢;omega,aV.trans bg,aZ,eR,ax,.inr ⟨ra,rc,cs,?_,cA hr,rfl⟩⟩)
    all_goals simp only [e0,e1,e2,go_sem,sevalprocAttr]
   ·rw [if_neg (by simp [hs])] at ax
    simp +contextual only [go_sem,aE,sevalprocAttr]
    refine ak (bT fun M3 bM bj gi=>aM aH.rfl' rfl rfl ?_)
    exact ⟨[a],t2,lv3,ax,rfl,aL bM (fun _ _ h=>h) eR,rfl,⟨by simp,cs,gi,cA (nG _ _ _ _ bM hr)⟩⟩
  ·simp +contextual only [go_sem,aE,sevalprocAttr,e1,e2,e7,bw]
   refine bZ [] aH.rfl' ax cD (fun h=>JD M1 t1 lv1 T ly (hC _ _ aV Kn) gI h) ?_
   rintro v M2 a t2 lv2 bg aZ ax eD hv
   obtain ⟨cs,iE,hr⟩:=hE _ _ _ hv
   have cO:=ej _ _ _ hr
   have jP:=dO (ej M1) eJ
   have Cn:RL (r M2) acc xs:=cH (fun x cs h=>nG _ _ _ _ bg h) eJ
   simp only [nn,aK] at aZ
   have ji:=iE
   simp only [Value.cells] at ji
   simp +contextual only [go_sem,sevalprocAttr,ji,cO]
   intro b hb se
   refine fK SY O1 (.slice _ 1 _ _ _ Tryz.underlying77 (bL [] hb trivial (by rw [cO])) (dL _ _ _ hr)) (by rw [cO,jP];omega) ?_
   intro ra' rm rc' iL
   have iH:rm=(acc++[a]).length:=by
    rw [cO,jP] at iL
    rw [List.length_append,List.length_cons,List.length_nil]
    omega
   subst iH
   have bC:=cM Cn (cA hr)
   simp +contextual only [go_sem,sevalprocAttr,e0]
   refine ir [(b,_)] kg eD (fun hs lv3 eR=> ?_) (fun hs lv3 eR=> ?_)
   ·rw [if_pos hs,Rs.bind_assoc] at ax
    simp +contextual only [go_sem,aE,sevalprocAttr]
    rw [dB]
    refine ak (az ⟨m,by omega,rfl,?_,?_,?_,M2,t2.tail,lv3,acc++[a],by rw [List.length_append];simp only [ln];omega,aV.trans bg,aZ,eR,?_,.inr ⟨ra',rc',xs++cs,?_,bC,rfl⟩⟩)
    ·simp only [e0,go_sem,sevalprocAttr]
    ·simp only [e1,go_sem,sevalprocAttr]
    ·simp only [e2,go_sem,sevalprocAttr]
    ·rw [ax]
     congr 1
     funext l t
     simp [Rs.bind]
    ·simp only [mK,go_sem,sevalprocAttr]
   ·rw [if_neg (by simp [hs])] at ax
    simp +contextual only [go_sem,aE,sevalprocAttr]
    refine ak (bT fun M3 bM bj gi=>aM aH.rfl' rfl rfl ?_)
    exact ⟨acc++[a],t2,lv3,ax,rfl,aL bM (fun _ _ h=>h) eR,rfl,⟨by rw [List.length_append];simp only [ln];omega,xs++cs,gi,cH (fun x cs h=>nG _ _ _ _ bM h) bC⟩⟩
def SB (en:Int)(t:List Tk):Rs V:=(jm en t).bind fun o t=>match o with
 | some v=> .ok v t
 | none=> .err 2 (oP en t)
theorem Kt {en:Int}{t:List Tk}:vF en t≠ .out:=by
 unfold vF
 generalize (if bH kF t=true then t.tail else t)=u
 cases u with
 | nil=>simp [qN]
 | cons t r=>
  simp only [qN]
  split
  ·split<;>simp
  ·simp
theorem AR {en:Int}{t:List Tk}:jm en t≠ .out:=by
 unfold jm
 repeat' split
 all_goals first | simp | skip
 intro h
 cases hn:vF en t with
 | out=>exact Kt hn
 | ok a r=>rw [hn] at h;cases h
 | err e a=>rw [hn] at h;cases h
theorem Ky {en:Int}{t:List Tk}:SB en t≠ .out:=by
 unfold SB
 cases hn:jm en t with
 | out=>exact (AR hn).elim
 | ok a r=>simp only [Rs.bind];split<;>simp
 | err e a=>simp [Rs.bind]
def Ss (x:V)(v:Value)(_:aS):Prop:=v=.agg ⟨x.cs⟩
theorem WF {M:aS}{pb bc:Nat}{aW:List Tk}{lv:Value}{en op:Int}(hc:M bc=some [.pointer (some ⟨pb,0,none⟩)])(hl:RS M gn 3 aW lv)(T:Tm):
 cw Tryz.prog 150 [.pointer (some ⟨bc,0,none⟩)] T M (pL pb lv en op) [] (fu pb en op Ss (SB en aW)) (fW pb en (SB en aW)):=by
 refine aC af8 rfl rfl ?_
 intro bi _
 simp only [aK] at bi
 simp +contextual only [go_sem,sevalprocAttr,aX hc]
 intro b2 T2 ey gx dV fG
 refine bZ [(b2,_)] dV rfl Ky (fun _=>xl hl T2) ?_
 rintro v M1 o t lv1 aV bG ax gI hv
 have I3:=aV _ _ hc
 simp only [nn,aJ,aK] at bG
 cases o with
 | some x=>
  simp only [PY] at hv;subst hv
  simp +contextual only [go_sem,aE,sevalprocAttr,bG,V.cs]
  intro b3 T3 gj cL fB hZ
  refine ak (ak (aM (dV.trans fB) rfl rfl ?_))
  exact ⟨x,t,lv1,ax,rfl,gI,rfl,rfl⟩
 | none=>
  simp only [PY] at hv;subst hv
  simp +contextual only [go_sem,aE,sevalprocAttr,V.cs,aX I3]
  intro b3 T3 gj cL fB hZ
  refine lQ [(b3,_),(b2,_)] gI ?_
  simp +contextual only [go_sem,sevalprocAttr]
  exact fd [(b3,_),(b2,_)] (dV.trans fB) ax
def Qu (en:Int)(t:List Tk):Rs (List V):=(bU en [qZ] t).bind fun _ t=>(dx en (SB en) 8 t).bind fun l t=>(bU en [kh] t).bind fun _ t=> .ok l t
theorem bz {α β:Type}{g:Rs α}{f:α ->List Tk ->Rs β}(hg:g≠ .out)(hf:∀ a t,f a t≠ .out):g.bind f≠ .out:=by
 cases g with
 | out=>exact (hg rfl).elim
 | ok a t=>exact hf a t
 | err e a=>simp [Rs.bind]
theorem mT {α:Type}{en:Int}{g:List Tk ->Rs α}(hg:∀ t,g t≠ .out):∀ {n t},dx en g n t≠ .out:=by
 intro n
 induction n with
 | zero=>intro t;simp [dx]
 | succ n ih=>
  intro t
  refine bz (hg t) fun a t=> ?_
  split
  ·exact bz ih fun _ _=>by simp
  ·simp
theorem Kj {en:Int}{t:List Tk}:Qu en t≠ .out:=bz eb fun _ _=>bz (mT fun _=>Ky) fun _ _=>bz eb fun _ _=>by simp
def O8 (l:List V)(v:Value)(M:aS):Prop:=RS M RV 3 l v
theorem fO {v:V}{cs}(h:RV v cs):cs.length=3:=by unfold RV at h;subst h;rfl
theorem ZE {M:aS}{pb:Nat}{aW:List Tk}{lv:Value}{en op:Int}(hg:eX M)(hl:RS M gn 3 aW lv)(T:Tm):
 cw Tryz.prog 100 [.pointer (some ⟨pb,0,none⟩)] T M (pL pb lv en op) [] (fu pb en op O8 (Qu en aW)) (fW pb en (Qu en aW)):=by
 refine aC agV rfl rfl ?_
 intro bi _
 simp only [aK] at bi
 simp +contextual only [go_sem,sevalprocAttr]
 intro b1 T1 fD IS cV ig b5 mp gK
 refine dN [(b1,_)] cV rfl hl ?_
 intro M2 lv2 bg aZ ax eD
 simp only [nn,aJ,aK] at aZ
 simp +contextual only [go_sem,sevalprocAttr,aZ]
 refine di acS.bd fun M3 bM gj bj=> ?_
 have eR:=aL bM (fun _ _ h=>h) eD
 have cD:=Kj (en:=en) (t:=aW)
 refine bZ [] cV ax cD (fun h=>LO (fa:=[]) (fc:=[.pointer (some ⟨b1,0,none⟩)]) (C:=fun M=>M b1=some [.pointer (some ⟨pb,0,none⟩)]) (r:=fun _=>RV) 8
  (fun M t lv T _ hc hl _=>WF hc hl T) (fun x v M h=>⟨x.cs,by unfold Ss at h;subst h;rfl,rfl⟩) (fun _ _ _ h=>fO h) (fun _ x _ h=>by unfold RV at h;subst h;intro u hu;simp only [V.cs,mn] at hu;rcases hu with rfl | rfl | rfl<;>rfl)
  (fun _ _ _ _ _ h=>h) (fun M M' he h=>he _ _ h) gj (by decide) ((hg.ext bg).ext bM) eR h T1) ?_
 rintro v M4 l t lv4 dh cE ax jY hv
 have hc4:=dh _ _ gj
 simp only [nn,aK] at cE
 simp +contextual only [go_sem,sevalprocAttr,aX hc4]
 intro b6 oZ fq
 refine dN [] cV ax jY ?_
 intro M5 lv5 dF bE ax gL
 simp +contextual only [go_sem,sevalprocAttr]
 refine aM cV rfl rfl ?_
 exact ⟨l,_,lv5,ax,rfl,gL,rfl,aL dF (fun _ _ h=>h) hv⟩
abbrev U8:Bs:=[115,101,108,101,99,116]
abbrev jv:Bs:=[100,105,115,116,105,110,99,116]
abbrev XE:Bs:=[102,114,111,109]
abbrev rC:Bs:=[119,104,101,114,101]
abbrev IG:Bs:=[103,114,111,117,112]
abbrev wBy:Bs:=[98,121]
abbrev wt:Bs:=[104,97,118,105,110,103]
abbrev I8:Bs:=[111,114,100,101,114]
abbrev aa1:Bs:=[108,105,109,105,116]
abbrev JY:Bs:=[99,114,101,97,116,101]
abbrev Xq:Bs:=[118,105,101,119]
abbrev ZU:Bs:=[116,97,98,108,101]
abbrev Kg:Bs:=[105,110,115,101,114,116]
abbrev acA:Bs:=[105,110,116,111]
abbrev WA:Bs:=[118,97,108,117,101,115]
abbrev Kc:Bs:=[100,101,108,101,116,101]
abbrev adA:Bs:=[115,104,111,119]
def ye (en:Int)(ex:List Tk ->Rs X):Nat ->List Tk ->Rs (List So)
 | lk,t=>(s7 en t).bind fun k t=>if 0<k then (match lk with
  | 0=> .err 5 (oP en t)
  | r+1=>(mi en ex k t).bind fun s t=>(ye en ex r t).bind fun l t=> .ok (s::l) t) else .ok [] t
def uf (en:Int)(ex:List Tk ->Rs X)(lk:Nat)(k:Int)(t:List Tk):Rs (List So):=if 0<k then (match lk with
 | 0=> .err 5 (oP en t)
 | r+1=>(mi en ex k t).bind fun s t=>(ye en ex r t).bind fun l t=> .ok (s::l) t) else .ok [] t
theorem qr (en:Int)(ex:List Tk ->Rs X)(lk:Nat)(t:List Tk):ye en ex lk t=(s7 en t).bind (uf en ex lk):=by
 cases lk<;>rfl
def tl (b:Bool)(t:List Tk):List Tk:=if b=true then t.tail else t
def Cf (ex:List Tk ->Rs X)(w:Bs)(t:List Tk):Rs X:=if bH w t=true then ex t.tail else .ok re t
def aan (en:Int)(ex:List Tk ->Rs X)(t:List Tk):Rs (List X):=if bH IG t=true then (bU en [wBy] t.tail).bind fun _ t=>dx en ex 8 t else .ok [] t
def Qf (ex:List Tk ->Rs X)(d s:Bool)(items:List It)(src:List So)(w:Bool)(wh:X)(group:List X)(t:List Tk):Rs Se:=
 (Cf ex wt t).bind fun hv t'=> .ok ⟨d,s,items,src,w,bH wt t,wh,hv,group⟩ t'
def Tp (en:Int)(ex:List Tk ->Rs X)(d s:Bool)(items:List It)(src:List So)(w:Bool)(wh:X)(t:List Tk):Rs Se:=
 (aan en ex t).bind fun group t=>Qf ex d s items src w wh group t
def JJ (en:Int)(ex:List Tk ->Rs X)(d s:Bool)(items:List It)(src:List So)(t:List Tk):Rs Se:=
 (Cf ex rC t).bind fun wh t'=>Tp en ex d s items src (bH rC t) wh t'
def Xt (en:Int)(ex:List Tk ->Rs X)(d s:Bool)(items:List It)(t:List Tk):Rs Se:=
 (bU en [XE] t).bind fun _ t=>(mi en ex 1 t).bind fun s0 t=>(ye en ex 3 t).bind fun src t=>JJ en ex d s items (s0::src) t
def vA (en:Int)(ex:List Tk ->Rs X)(t:List Tk):Rs Se:=
 (bU en [U8] t).bind fun _ t0=>
 (if bH xz (tl (bH jv t0) t0)=true then .ok [] (tl (bH jv t0) t0).tail else dx en (AB en ex) 8 (tl (bH jv t0) t0)).bind fun items t=>
 Xt en ex (bH jv t0) (bH xz (tl (bH jv t0) t0)) items t
def ac3 (i:Se)(v:Value)(M:aS):Prop:=∃ cs,v=.agg ⟨cs⟩/\Cv M i cs
theorem Ra {M:aS}{x:It}{cs:List Value}(h:xh M x cs):∀ u∈cs,u.oneCell'=true:=by
 obtain ⟨c,hx,rfl⟩:=h
 intro u hu
 rcases qM hu with hu | hu
 ·exact jf hx u hu
 ·simp only [List.mem_singleton] at hu;subst hu;rfl
theorem DL {M:aS}{x:So}{cs:List Value}(h:Do M x cs):∀ u∈cs,u.oneCell'=true:=by
 obtain ⟨c,hx,rfl⟩:=h
 intro u hu
 rcases qM hu with hu | hu
 ·simp only [mn] at hu
  rcases hu with rfl | rfl | rfl<;>rfl
 ·exact jf hx u hu
theorem cR {α:Type}{r:α ->List Value ->Prop}{sz:Nat}{M:aS}{l:List α}{v:Value}(h:RS M r sz l v):v.oneCell'=true/\v.cells.toList=[v]:=by
 obtain ⟨_,_,h2,_⟩:=h
 rcases h2 with ⟨_,_,rfl,_⟩ | ⟨b,o,n,c,rfl,_⟩<;>exact ⟨rfl,rfl⟩
theorem bu {α:Type}{r:α ->List Value ->Prop}{sz:Nat}{M:aS}:RS M r sz [] (.slice none 0 0):=⟨by simp,[],.inl ⟨_,_,rfl,rfl,fun _=>rfl⟩,rfl⟩
theorem FR {M:aS}{x:So}{cs:List Value}(h:Do M x cs):∃ a1 a2 a3 a4 a5 a6 a7,cs=[.int .i64 x.k,st x.name,st x.as,a1,a2,a3,a4,a5,a6,a7]:=by
 obtain ⟨c,hx,rfl⟩:=h
 obtain ⟨a1,a2,a3,a4,a5,a6,a7,rfl⟩:=Cz (dl hx)
 exact ⟨a1,a2,a3,a4,a5,a6,a7,rfl⟩
def nH (M:aS)(R:RR)(fv:Value)(acc:List So):Prop:=
 (∃ bF xs,R=[]/\fv=.slice (some ⟨bF,0,none⟩) 1 1/\acc.length=1/\M bF=some xs/\RL (Do M) acc xs)\/
 (∃ ra rc xs,R=[(.slice ra acc.length rc,75,10,xs)]/\fv=.slice ra acc.length rc/\RL (Do M) acc xs)
theorem u2 {M:aS}{R:RR}{fv:Value}{acc:List So}(h:nH M R fv acc):∃ a c,fv=.slice a acc.length c:=by
 rcases h with ⟨bF,xs,_,rfl,h,_⟩ | ⟨ra,rc,xs,_,rfl,_⟩
 ·exact ⟨_,_,by rw [h]⟩
 ·exact ⟨_,_,rfl⟩
theorem rB {M M':aS}{R:RR}{fv:Value}{acc:List So}(hM:bh M M')(h:nH M R fv acc):nH M' R fv acc:=by
 rcases h with ⟨bF,xs,h1,h2,h3,h4,h5⟩ | ⟨ra,rc,xs,h1,h2,h3⟩
 ·exact .inl ⟨bF,xs,h1,h2,h3,hM _ _ h4,cH (fun x cs h=>pU hM _ _ h) h5⟩
 ·exact .inr ⟨ra,rc,xs,h1,h2,cH (fun x cs h=>pU hM _ _ h) h3⟩
theorem Hc {N M L R fv acc}{k:Sh ->Prop}(h:nH M R fv acc)(hb:acc.length<=400)(hk:∀ M',bh M M' ->aJ M' L ->RS M' (Do M') 10 acc fv ->bK ⟨N,M',L,[]⟩ k)(bi:aJ M L):bK ⟨N,M,L,R⟩ k:=by
 rcases h with ⟨bF,xs,rfl,rfl,h3,h4,h5⟩ | ⟨ra,rc,xs,rfl,rfl,h3⟩
 ·exact hk M bh.rfl' bi (cK (fun _ _=>lj) h4 h5 h3 (by decide))
 ·exact bT fun M' hM oX gi=>hk M' hM oX ⟨by omega,xs,gi,cH (fun x cs h=>pU hM _ _ h) h3⟩
theorem Q7 {F:Fi}{s:List Vc.Item}{e:dj}{ds:List Deferred}{dd:Option Nat}{T:Tm}{M:aS}{L:LL}{R:RR}{b a n c}{acc:List So}{x:So}{cs:List Value}(hf:nH M R (.slice a n c) acc)(hx:Do M x cs)(hb:M b=none)(bw:acc.length<=400)
 (k:∀ a' c' R',nH M R' (.slice a' (acc.length+1) c') (acc++[x]) ->cj Tryz.prog F s (cB e dd (.slice a' (acc.length+1) c')) ds ⟨T,M,(b,cs)::L,R'⟩ ⟨⟩):
 pA Tryz.prog F 76 76 (.slice a n c) (.slice (some ⟨b,0,none⟩) 1 1) dd s e ds ⟨T,M,(b,cs)::L,R⟩ ⟨⟩:=by
 have cO:=lj hx
 rcases hf with ⟨bF,xs,rfl,h2,h3,h4,h5⟩ | ⟨ra,rc,xs,rfl,h2,h3⟩
 ·injection h2 with h2 Ib II;subst h2 Ib II
  have jP:=dO (fun _ _=>lj) h5
  rw [h3] at jP
  refine jO OD Sk (.slice _ 1 _ _ _ Tryz.underlying76 (bL [] hb trivial (by rw [cO])) (DL hx)) (xs:=xs) ?_ (by rw [cO];decide) (by rw [cO,jP];decide) ?_
  ·have:=xU (h:=⟨T,M,(b,cs)::L,[]⟩) (b:=bF) (cs:=xs) (fun o v hv=>by
    have:aQ M ⟨bF,o,none⟩=some v:=by rw [aX h4];exact hv
    simp only [Sh.cell,this]) 10 0 (by omega)
   simpa using this
  ·intro ra rm rc iL
   have:rm=acc.length+1:=by rw [cO,jP] at iL;omega
   subst this
   exact k _ _ _ (.inr ⟨_,_,_,by rw [List.length_append];rfl,by rw [List.length_append];rfl,cM h5 (cA hx)⟩)
 ·injection h2 with h2 Ib II;subst h2 Ib II
  have jP:=dO (fun _ _=>lj) h3
  refine fK OD Sk (.slice _ 1 _ _ _ Tryz.underlying76 (bL [] hb trivial (by rw [cO])) (DL hx)) (by rw [cO,jP];omega) ?_
  intro ra rm rc iL
  have:rm=acc.length+1:=by rw [cO,jP] at iL;omega
  subst this
  exact k _ _ _ (.inr ⟨_,_,_,by rw [List.length_append];rfl,by rw [List.length_append];rfl,cM h3 (cA hx)⟩)
theorem PP {M:aS}{pb:Nat}{aW:List Tk}{lv:Value}{en op:Int}{ex:List Tk ->Rs X}(hg:eX M)(hl:RS M gn 3 aW lv)(ib:Xr en pb ex op)(cD:vA en ex aW≠ .out)(T:Tm):
 cw Tryz.prog 145 [.pointer (some ⟨pb,0,none⟩)] T M (pL pb lv en op) [] (fu pb en op ac3 (vA en ex aW)) (fW pb en (vA en ex aW)):=by
 refine aC agr rfl rfl ?_
 intro bi _
 simp only [aK] at bi
 simp +contextual only [go_sem,sevalprocAttr]
 intro b2 T2 ey gx dV fG b5 mp gK
 refine dN [(b2,_)] dV rfl hl ?_
 intro M1 lv1 aV bG ax gI
 simp only [nn,aJ,aK] at bG
 simp +contextual only [go_sem,sevalprocAttr]
 refine EC [(b2,_)] jv gI ?_
 intro lv2 eD
 change RS M1 gn 3 (tl (bH jv aW.tail) aW.tail) lv2 at eD
 simp +contextual only [go_sem,sevalprocAttr]
 intro b3 T3 gj cL fB hZ
 have hT:=dV.trans fB
 generalize bH jv aW.tail=d at ax eD ⊢
 generalize tl d aW.tail=t0 at ax eD ⊢
 refine EC [(b3,_),(b2,_)] xz eD ?_
 intro lv3 eR
 generalize bH xz t0=sb at ax eR ⊢
 simp +contextual only [go_sem,sevalprocAttr,gj]
 refine dQ (fun e ds h=>ds=[]/\e 0=.pointer (some ⟨pb,0,none⟩)/\e 2=.pointer (some ⟨b2,0,none⟩)/\e 3=.pointer (some ⟨b3,0,none⟩)/\
  ∃ M' t lv' items iv,bh M1 M'/\M' b3=none/\M' b2=none/\M' pb=none/\RS M' gn 3 t lv'/\RS M' (xh M') 8 items iv/\vA en ex aW=Xt en ex d sb items t/\
   h=⟨T3,M',(b3,[.bool d,.bool sb,iv,.slice none 0 0,.bool false,.bool false,.int .i64 0,.int .i64 0,.int .i64 0,st [],st [],st [],.slice none 0 0,.int .i64 0,.int .i64 0,.int .i64 0,st [],st [],st [],.slice none 0 0,.slice none 0 0])::(b2,[.bool false,.bool false,.slice none 0 0,.slice none 0 0,.bool false,.bool false,.int .i64 0,.int .i64 0,.int .i64 0,st [],st [],st [],.slice none 0 0,.int .i64 0,.int .i64 0,.int .i64 0,st [],st [],st [],.slice none 0 0,.slice none 0 0])::pL pb lv' en op,[]⟩) (fun S' dU=> ?_) ?_
 ·cases sb with
  | true=>
   simp only [if_true] at ax eR
   simp +contextual only [go_sem,aE,sevalprocAttr]
   refine dU _ _ _ ⟨rfl,?_,?_,?_,M1,_,lv3,[],_,bh.rfl',gj,bG.1,bG.2,eR,bu,ax,rfl⟩
   all_goals simp only [go_sem,sevalprocAttr]
  | false=>
   simp only [if_false,Bool.false_eq_true] at ax eR
   simp +contextual only [go_sem,aE,sevalprocAttr]
   refine bZ [(b3,_),(b2,_)] hT ax cD (fun h=>HJ (fa:=[.pointer (some ⟨pb,0,none⟩)]) (fc:=[]) (C:=fun _=>True) (r:=xh) (enc:=XB) (g:=AB en ex) 8
    (fun M t lv T hg _ hl cD=>UT hg hl ib cD T) (fun x v M h=>by obtain ⟨cs,rfl,h⟩:=h;exact ⟨cs,rfl,h⟩) (fun _ _ _ h=>jE h) (fun _ _ _ h=>Ra h) (fun _ _ _ _ he h=>jA he _ _ h)
    (fun _ _ _ h=>h) trivial (by decide) (hg.ext aV) eR h T3) ?_
   rintro v M2 items t lv4 bg aZ ax jY hv
   obtain ⟨kL,oN⟩:=cR hv
   have IN:=oN
   simp only [Value.cells] at IN
   simp only [nn,aJ,aK] at aZ
   simp +contextual only [go_sem,sevalprocAttr,kL,IN]
   refine dU _ _ _ ⟨rfl,?_,?_,?_,M2,_,lv4,items,_,bg,aZ.1,aZ.2.1,aZ.2.2,jY,hv,ax,rfl⟩
   all_goals simp only [go_sem,sevalprocAttr]
 clear ax gI eD eR
 rintro e ds h ⟨rfl,e0,e2,e3,M2,t,lv4,items,iv,bg,n3,n2,np,jY,hiv,ax,rfl⟩
 simp +contextual only [go_sem,sevalprocAttr,e0]
 intro b4 dI dY
 refine dN [(b3,_),(b2,_)] hT ax jY ?_
 intro M3 lv5 bM bj ax gL
 simp +contextual only [go_sem,sevalprocAttr,e0]
 have Od:=(hg.ext aV).ext (bg.trans bM)
 refine bZ [(b3,_),(b2,_)] hT ax cD (fun h=>xS Od gL ib h T3) ?_
 rintro v M4 s0 t4 lv6 dh cE ax lY ⟨cs,rfl,hso⟩
 obtain ⟨a1,a2,a3,a4,a5,a6,a7,rfl⟩:=FR hso
 simp only [nn,aJ,aK] at cE
 simp +contextual only [go_sem,sevalprocAttr,e0,e3]
 intro bF hbF an3
 refine di acw.bd fun M5 dF ai6 bE=> ?_
 simp only [aJ,aK] at bE
 rw [qr,Rs.bind_assoc] at ax
 refine bZ [(b3,_),(b2,_)] hT ax cD (fun _=>K3 (aL dF (fun _ _ h=>h) lY) T3) ?_
 rintro v M6 k t5 lv7 eg bN ax oE rfl
 simp only [nn,aJ,aK] at bN
 have rh:nH M6 [] (.slice (some ⟨bF,0,none⟩) 1 1) [s0]:=.inl ⟨bF,_,rfl,rfl,rfl,eg _ _ ai6,cA (pU (dF.trans eg) _ _ hso)⟩
 simp +contextual only [go_sem,sevalprocAttr]
 refine je (fun e ds h=>ds=[]/\e 0=.pointer (some ⟨pb,0,none⟩)/\e 2=.pointer (some ⟨b2,0,none⟩)/\e 3=.pointer (some ⟨b3,0,none⟩)/\
  ∃ M' t lv' src fv R,bh M2 M'/\M' b3=none/\M' b2=none/\M' pb=none/\RS M' gn 3 t lv'/\src.length<=4/\nH M' R fv src/\vA en ex aW=JJ en ex d sb items src t/\
   h=⟨T3,M',(b3,[.bool d,.bool sb,iv,fv,.bool false,.bool false,.int .i64 0,.int .i64 0,.int .i64 0,st [],st [],st [],.slice none 0 0,.int .i64 0,.int .i64 0,.int .i64 0,st [],st [],st [],.slice none 0 0,.slice none 0 0])::(b2,[.bool false,.bool false,.slice none 0 0,.slice none 0 0,.bool false,.bool false,.int .i64 0,.int .i64 0,.int .i64 0,st [],st [],st [],.slice none 0 0,.int .i64 0,.int .i64 0,.int .i64 0,st [],st [],st [],.slice none 0 0,.slice none 0 0])::pL pb lv' en op,R⟩) (fun S' dU=> ?_) ?_
 ·clear gL lY jY
  simp +contextual only [go_sem,aE,sevalprocAttr]
  refine fE (fun m e ds h=>ds=[]/\e 0=.pointer (some ⟨pb,0,none⟩)/\e 2=.pointer (some ⟨b2,0,none⟩)/\e 3=.pointer (some ⟨b3,0,none⟩)/\
   ∃ M' t lv' k src fv R,e 4=.int .i64 k/\m+src.length=4/\bh M6 M'/\M' b3=none/\M' b2=none/\M' pb=none/\RS M' gn 3 t lv'/\nH M' R fv src/\
    vA en ex aW=(uf en ex m k t).bind (fun l t=>JJ en ex d sb items (src++l) t)/\
    h=⟨T3,M',(b3,[.bool d,.bool sb,iv,fv,.bool false,.bool false,.int .i64 0,.int .i64 0,.int .i64 0,st [],st [],st [],.slice none 0 0,.int .i64 0,.int .i64 0,.int .i64 0,st [],st [],st [],.slice none 0 0,.slice none 0 0])::(b2,[.bool false,.bool false,.slice none 0 0,.slice none 0 0,.bool false,.bool false,.int .i64 0,.int .i64 0,.int .i64 0,st [],st [],st [],.slice none 0 0,.int .i64 0,.int .i64 0,.int .i64 0,st [],st [],st [],.slice none 0 0,.slice none 0 0])::pL pb lv' en op,R⟩)
   ⟨3,rfl,?_,?_,?_,M6,t5,lv7,k,[s0],_,[],?_,rfl,bh.rfl',bN.1,bN.2.1,bN.2.2,oE,rh,ax,rfl⟩ ?_
  all_goals first | (simp only [e0,e2,e3,go_sem,sevalprocAttr];done) | skip
  clear ax e0 e2 e3 oE rh
  rintro m e ds h ⟨rfl,e0,e2,e3,M7,t7,lv8,k,src,fv,R,e4,hm,kT,n3,n2,np,rJ,rh,ax,rfl⟩
  by_cases hk:0<k
  ·obtain ⟨fa,fc,rfl⟩:=u2 rh
   unfold uf at ax
   rw [if_pos hk] at ax
   cases m with
   | zero=>
    have bw:(src.length:Int)=4:=by omega
    simp +contextual only [go_sem,aE,sevalprocAttr,e0,e3,e4,hk,n3,bw]
    refine lQ [(b3,_),(b2,_)] rJ ?_
    simp +contextual only [go_sem,sevalprocAttr]
    exact fd [(b3,_),(b2,_)] hT ax
   | succ m=>
    have bw:¬ (src.length:Int)=4:=by omega
    simp only [Rs.bind_assoc] at ax
    simp +contextual only [go_sem,aE,sevalprocAttr,e3,e4,hk,n3,bw]
    refine eL ⟨T,fun _=>none,[(b3,_)],[]⟩ (gA n3) ?_
    simp +contextual only [go_sem,sevalprocAttr,e0,e3,e4]
    have hg7:=(hg.ext aV).ext ((((bg.trans bM).trans dh).trans dF).trans (eg.trans kT))
    refine bZ [(b3,_),(b2,_)] hT ax cD (fun h=>xS hg7 rJ ib h T3) ?_
    rintro v M8 so t8 lv9 qm nu ax Ms ⟨cs,rfl,hso⟩
    obtain ⟨a1,a2,a3,a4,a5,a6,a7,rfl⟩:=FR hso
    simp only [nn,aJ,aK] at nu
    simp +contextual only [go_sem,sevalprocAttr]
    refine ⟨gA nu.1,?_⟩
    intro b8 mG eA
    refine ⟨sD nu.1 (fun h=>eA.1.2 h),?_⟩
    refine Q7 (rB qm rh) hso mG (by omega) ?_
    intro fa' fc' R' Zx
    simp +contextual only [go_sem,sevalprocAttr,eA,e0,e3]
    rw [qr,Rs.bind_assoc] at ax
    refine bZ [(b8,_),(b3,_),(b2,_)] hT ax cD (fun _=>K3 Ms T3) ?_
    rintro v M9 k' t9 lva Jn nM ax zj rfl
    simp only [nn,aJ,aK] at nM
    simp +contextual only [go_sem,sevalprocAttr]
    rw [dB]
    refine ak (az ⟨m,by omega,rfl,?_,?_,?_,M9,t9,lva,k',src++[so],_,R',?_,?_,(kT.trans qm).trans Jn,nM.2.1,nM.2.2.1,nM.2.2.2,zj,rB Jn Zx,?_,rfl⟩)
    ·simp only [e0,go_sem,sevalprocAttr]
    ·simp only [e2,go_sem,sevalprocAttr]
    ·simp only [e3,go_sem,sevalprocAttr]
    ·simp only [go_sem,sevalprocAttr]
    ·rw [List.length_append];simp only [ln];omega
    ·rw [ax];congr 1;funext l t;simp [Rs.bind]
  ·unfold uf at ax
   rw [if_neg hk] at ax
   simp +contextual only [go_sem,aE,sevalprocAttr,e4,hk]
   refine dU _ _ _ ⟨rfl,?_,?_,?_,M7,_,lv8,src,fv,R,?_,n3,n2,np,rJ,by omega,rh,?_,rfl⟩
   ·simp only [e0,go_sem,sevalprocAttr]
   ·simp only [e2,go_sem,sevalprocAttr]
   ·simp only [e3,go_sem,sevalprocAttr]
   ·exact ((bM.trans dh).trans dF).trans (eg.trans kT)
   ·rw [ax];simp [Rs.bind]
 clear ax bN oE rh e0 e2 e3 jY gL lY hso cE bj
 rintro e ds h ⟨rfl,e0,e2,e3,M3,t,lv4,src,fv,R,bM,n3,n2,np,jY,gi,rh,ax,rfl⟩
 simp +contextual only [go_sem,sevalprocAttr,e0]
 refine EC [(b3,_),(b2,_)] rC jY ?_
 intro lv5 gL
 unfold JJ Cf at ax
 generalize bH rC t=hw at ax gL ⊢
 simp +contextual only [go_sem,sevalprocAttr,n3,e3]
 have Od:=(hg.ext aV).ext (bg.trans bM)
 refine dQ (fun e ds h=>ds=[]/\e 0=.pointer (some ⟨pb,0,none⟩)/\e 2=.pointer (some ⟨b2,0,none⟩)/\e 3=.pointer (some ⟨b3,0,none⟩)/\
  ∃ M' t lv' hw wh w1 w2 w3 w4 w5 w6 w7,bh M3 M'/\M' b3=none/\M' b2=none/\M' pb=none/\RS M' gn 3 t lv'/\RX M' wh [w1,w2,w3,w4,w5,w6,w7]/\vA en ex aW=Tp en ex d sb items src hw wh t/\
   h=⟨T3,M',(b3,[.bool d,.bool sb,iv,fv,.bool hw,.bool false,w1,w2,w3,w4,w5,w6,w7,.int .i64 0,.int .i64 0,.int .i64 0,st [],st [],st [],.slice none 0 0,.slice none 0 0])::(b2,[.bool false,.bool false,.slice none 0 0,.slice none 0 0,.bool false,.bool false,.int .i64 0,.int .i64 0,.int .i64 0,st [],st [],st [],.slice none 0 0,.int .i64 0,.int .i64 0,.int .i64 0,st [],st [],st [],.slice none 0 0,.slice none 0 0])::pL pb lv' en op,R⟩) (fun S' dU=> ?_) ?_
 ·cases hw with
  | false=>
   simp only [if_false,Bool.false_eq_true] at ax gL
   simp +contextual only [go_sem,aE,sevalprocAttr]
   refine dU _ _ _ ⟨rfl,?_,?_,?_,M3,_,lv5,_,_,_,_,_,_,_,_,_,bh.rfl',n3,n2,np,gL,ja,ax,rfl⟩
   all_goals simp only [e0,e2,e3,go_sem,sevalprocAttr]
  | true=>
   simp only [if_true] at ax gL
   simp +contextual only [go_sem,aE,sevalprocAttr,e0]
   refine bZ [(b3,_),(b2,_)] hT ax cD (fun h=>ib M3 _ lv5 T3 Od gL h) ?_
   rintro v M4 x t2 lv6 dh cE ax lY ⟨cs,rfl,hx⟩
   obtain ⟨s,rfl,h1,_⟩:=bR hx
   simp only [nn,aJ,aK] at cE
   simp +contextual only [go_sem,sevalprocAttr,h1,e3]
   refine dU _ _ _ ⟨rfl,?_,?_,?_,M4,_,lv6,_,_,_,_,_,_,_,_,_,dh,cE.1,cE.2.1,cE.2.2,lY,hx,ax,rfl⟩
   all_goals simp only [e0,e2,e3,go_sem,sevalprocAttr]
 clear ax n3 n2 np jY gL e0 e2 e3
 rintro e ds h ⟨rfl,e0,e2,e3,M4,t,lv4,hw,wh,w1,w2,w3,w4,w5,w6,w7,dh,n3,n2,np,jY,hwh,ax,rfl⟩
 simp +contextual only [go_sem,sevalprocAttr,e0]
 refine EC [(b3,_),(b2,_)] IG jY ?_
 intro lv5 gL
 unfold Tp aan at ax
 generalize bH IG t=gw at ax gL ⊢
 simp +contextual only [go_sem,sevalprocAttr]
 refine dQ (fun e ds h=>ds=[]/\e 0=.pointer (some ⟨pb,0,none⟩)/\e 2=.pointer (some ⟨b2,0,none⟩)/\e 3=.pointer (some ⟨b3,0,none⟩)/\
  ∃ M' t lv' group gv,bh M4 M'/\M' b3=none/\M' b2=none/\M' pb=none/\RS M' gn 3 t lv'/\RS M' (RX M') 7 group gv/\vA en ex aW=Qf ex d sb items src hw wh group t/\
   h=⟨T3,M',(b3,[.bool d,.bool sb,iv,fv,.bool hw,.bool false,w1,w2,w3,w4,w5,w6,w7,.int .i64 0,.int .i64 0,.int .i64 0,st [],st [],st [],.slice none 0 0,gv])::(b2,[.bool false,.bool false,.slice none 0 0,.slice none 0 0,.bool false,.bool false,.int .i64 0,.int .i64 0,.int .i64 0,st [],st [],st [],.slice none 0 0,.int .i64 0,.int .i64 0,.int .i64 0,st [],st [],st [],.slice none 0 0,.slice none 0 0])::pL pb lv' en op,R⟩) (fun S' dU=> ?_) ?_
 ·cases gw with
  | false=>
   simp only [if_false,Bool.false_eq_true] at ax gL
   simp +contextual only [go_sem,aE,sevalprocAttr]
   refine dU _ _ _ ⟨rfl,?_,?_,?_,M4,_,lv5,[],_,bh.rfl',n3,n2,np,gL,bu,ax,rfl⟩
   all_goals simp only [e0,e2,e3,go_sem,sevalprocAttr]
  | true=>
   simp only [if_true,Rs.bind_assoc] at ax gL
   simp +contextual only [go_sem,aE,sevalprocAttr,e0]
   intro b5 mp gK
   refine dN [(b3,_),(b2,_)] hT ax gL ?_
   intro M5 lv6 dF bE ax lY
   simp +contextual only [go_sem,sevalprocAttr,e0]
   refine bZ [(b3,_),(b2,_)] hT ax cD (fun h=>z7 (fa:=[.pointer (some ⟨pb,0,none⟩)]) (fc:=[]) (C:=fun _=>True) (r:=RX) (enc:=G1) (g:=ex) 8
    (fun M t lv T hg _ hl cD=>ib M t lv T hg hl cD) (fun x v M h=>by obtain ⟨cs,rfl,h⟩:=h;exact ⟨cs,rfl,h⟩) (fun _ _ _ h=>dl h) (fun _ _ _ h=>jf h) (fun _ _ _ _ he h=>bB he _ _ h)
    (fun _ _ _ h=>h) trivial (by decide) (Od.ext (dh.trans dF)) lY h T3) ?_
   rintro v M6 group t2 lv7 eg bN ax oE hv
   obtain ⟨kL,oN⟩:=cR hv
   have IN:=oN
   simp only [Value.cells] at IN
   simp only [nn,aJ,aK] at bN
   simp +contextual only [go_sem,sevalprocAttr,kL,IN,e3]
   refine dU _ _ _ ⟨rfl,?_,?_,?_,M6,_,lv7,group,_,dF.trans eg,bN.1,bN.2.1,bN.2.2,oE,hv,ax,rfl⟩
   all_goals simp only [e0,e2,e3,go_sem,sevalprocAttr]
 clear ax n3 n2 np jY gL e0 e2 e3
 rintro e ds h ⟨rfl,e0,e2,e3,M5,t,lv4,group,gv,dF,n3,n2,np,jY,hgv,ax,rfl⟩
 simp +contextual only [go_sem,sevalprocAttr,e0]
 refine EC [(b3,_),(b2,_)] wt jY ?_
 intro lv5 gL
 unfold Qf Cf at ax
 generalize bH wt t=hh at ax gL ⊢
 simp +contextual only [go_sem,sevalprocAttr,n3,e3]
 refine dQ (fun e ds h=>ds=[]/\e 0=.pointer (some ⟨pb,0,none⟩)/\e 2=.pointer (some ⟨b2,0,none⟩)/\e 3=.pointer (some ⟨b3,0,none⟩)/\
  ∃ M' t lv' hh hv v1 v2 v3 v4 v5 v6 v7,bh M5 M'/\M' b3=none/\M' b2=none/\M' pb=none/\RS M' gn 3 t lv'/\RX M' hv [v1,v2,v3,v4,v5,v6,v7]/\vA en ex aW=.ok ⟨d,sb,items,src,hw,hh,wh,hv,group⟩ t/\
   h=⟨T3,M',(b3,[.bool d,.bool sb,iv,fv,.bool hw,.bool hh,w1,w2,w3,w4,w5,w6,w7,v1,v2,v3,v4,v5,v6,v7,gv])::(b2,[.bool false,.bool false,.slice none 0 0,.slice none 0 0,.bool false,.bool false,.int .i64 0,.int .i64 0,.int .i64 0,st [],st [],st [],.slice none 0 0,.int .i64 0,.int .i64 0,.int .i64 0,st [],st [],st [],.slice none 0 0,.slice none 0 0])::pL pb lv' en op,R⟩) (fun S' dU=> ?_) ?_
 ·cases hh with
  | false=>
   simp only [if_false,Bool.false_eq_true] at ax gL
   simp +contextual only [go_sem,aE,sevalprocAttr]
   refine dU _ _ _ ⟨rfl,?_,?_,?_,M5,_,lv5,_,_,_,_,_,_,_,_,_,bh.rfl',n3,n2,np,gL,ja,ax,rfl⟩
   all_goals simp only [e0,e2,e3,go_sem,sevalprocAttr]
  | true=>
   simp only [if_true] at ax gL
   simp +contextual only [go_sem,aE,sevalprocAttr,e0]
   refine bZ [(b3,_),(b2,_)] hT ax cD (fun h=>ib M5 _ lv5 T3 (Od.ext (dh.trans dF)) gL h) ?_
   rintro v M6 x t2 lv6 eg bN ax lY ⟨cs,rfl,hx⟩
   obtain ⟨s,rfl,h1,_⟩:=bR hx
   simp only [nn,aJ,aK] at bN
   simp +contextual only [go_sem,sevalprocAttr,h1,e3]
   refine dU _ _ _ ⟨rfl,?_,?_,?_,M6,_,lv6,_,_,_,_,_,_,_,_,_,eg,bN.1,bN.2.1,bN.2.2,lY,hx,ax,rfl⟩
   all_goals simp only [e0,e2,e3,go_sem,sevalprocAttr]
 clear ax n3 n2 np jY gL e0 e2 e3
 rintro e ds h ⟨rfl,e0,e2,e3,M6,t,lv4,hh,hv,v1,v2,v3,v4,v5,v6,v7,eg,n3,n2,np,jY,hhv,ax,rfl⟩
 have o1:=cR hiv
 have aeg:=(dh.trans dF).trans eg
 obtain ⟨fa,fc,rfl⟩:=u2 rh
 have o3:=cR hgv
 obtain ⟨sw,hsw,ow,_⟩:=bR hwh
 obtain ⟨sh,YW,oh,_⟩:=bR hhv
 simp only [List.cons.injEq,and_true] at hsw YW
 obtain ⟨rfl,rfl,rfl,rfl,rfl,rfl,rfl⟩:=hsw
 obtain ⟨rfl,rfl,rfl,rfl,rfl,rfl,rfl⟩:=YW
 simp +contextual only [go_sem,sevalprocAttr,e2,e3,n3,n2,cL,o1,o3,ow,oh]
 refine ak (ak (Hc (rB aeg rh) (by omega) (fun M7 kT iO cC=>aM hT rfl rfl ?_) (by simpa only [aK] using np)))
 have Om:=bM.trans (aeg.trans kT)
 exact ⟨_,t,lv4,ax,rfl,aL kT (fun _ _ h=>h) jY,rfl,_,rfl,⟨iv,_,_,_,gv,aL Om (jA Om) hiv,cC,bB ((dF.trans eg).trans kT) _ _ hwh,bB kT _ _ hhv,aL (eg.trans kT) (bB (eg.trans kT)) hgv,rfl⟩⟩
def vg (en:Int)(ex:List Tk ->Rs X):Nat ->Int ->List Tk ->Rs (List Int×List Se)
 | lk,k,t=>if 0<k then (match lk with
  | 0=> .err 5 (oP en t)
  | r+1=>(vA en ex t).bind fun s t=>(CT t).bind fun k' t=>(vg en ex r k' t).bind fun l t=> .ok (k::l.1,s::l.2) t) else .ok ([],[]) t
def aa9 (en:Int)(t:List Tk):Rs Int:=(vF en t).bind fun n t'=>if n<0\/50<n then .err 3 (oP en t) else .ok n t'
def HL (en:Int)(ex:List Tk ->Rs X)(t:List Tk):Rs (List X×Int):=
 if bH I8 t=true then (bU en [wBy] t.tail).bind fun _ t=>(dx en ex 8 t).bind fun l t=>(bU en [aa1] t).bind fun _ t=>(aa9 en t).bind fun n t=> .ok (l,n) t else .ok ([], -1) t
def Cd (en:Int)(ex:List Tk ->Rs X)(parts:List Se)(ops:List Int)(t:List Tk):Rs Q:=(HL en ex t).bind fun o t=> .ok ⟨parts,ops,o.1,o.2⟩ t
def nV (en:Int)(ex:List Tk ->Rs X)(t:List Tk):Rs Q:=(vA en ex t).bind fun s t=>(CT t).bind fun k t=>(vg en ex 3 k t).bind fun l t=>Cd en ex (s::l.2) l.1 t
def aiH (q:Q)(v:Value)(M:aS):Prop:=∃ cs,v=.agg ⟨cs⟩/\RQ M q cs
theorem Qg {M:aS}{x:Se}{cs:List Value}(h:Cv M x cs):∀ u∈cs,u.oneCell'=true:=by
 obtain ⟨i,f,w,hh,g,h1,h2,h3,h4,h5,rfl⟩:=h
 intro u hu
 simp only [nn,List.mem_cons,List.mem_append,List.not_mem_nil,or_false] at hu
 rcases hu with rfl | rfl | rfl | rfl | rfl | rfl | hu | hu | rfl
 ·rfl
 ·rfl
 ·exact (cR h1).1
 ·exact (cR h2).1
 ·rfl
 ·rfl
 ·exact jf h3 u hu
 ·exact jf h4 u hu
 ·exact (cR h5).1
def J5 (M:aS)(R:RR)(ov pv:Value)(parts:List Se)(ops:List Int):Prop:=
 ∃ oa oc pa pc xs ys,ov=.slice oa ops.length oc/\pv=.slice pa parts.length pc/\R=[(pv,79,21,xs),(ov,3,1,ys)]/\RL (Cv M) parts xs/\RL RI ops ys
def CZ (M:aS)(R:RR)(ov pv:Value)(parts:List Se)(ops:List Int):Prop:=
 (∃ bF xs,ops=[]/\ov=.slice none 0 0/\R=[]/\pv=.slice (some ⟨bF,0,none⟩) 1 1/\parts.length=1/\M bF=some xs/\RL (Cv M) parts xs)\/J5 M R ov pv parts ops
def JU (M:aS)(R:RR)(ov pv:Value)(parts:List Se)(ops:List Int):Prop:=
 (∃ bF xs oa oc ys,ov=.slice oa ops.length oc/\R=[(ov,3,1,ys)]/\RL RI ops ys/\pv=.slice (some ⟨bF,0,none⟩) 1 1/\parts.length=1/\M bF=some xs/\RL (Cv M) parts xs)\/J5 M R ov pv parts ops
theorem AE {M M':aS}{R ov pv parts ops}(hM:bh M M')(h:J5 M R ov pv parts ops):J5 M' R ov pv parts ops:=by
 obtain ⟨oa,oc,pa,pc,xs,ys,h1,h2,h3,h4,h5⟩:=h
 exact ⟨oa,oc,pa,pc,xs,ys,h1,h2,h3,cH (fun x cs h=>jb hM _ _ h) h4,h5⟩
theorem DZ {M M':aS}{R ov pv parts ops}(hM:bh M M')(h:CZ M R ov pv parts ops):CZ M' R ov pv parts ops:=by
 rcases h with ⟨bF,xs,h1,h2,h3,h4,h5,h6,h7⟩ | h
 ·exact .inl ⟨bF,xs,h1,h2,h3,h4,h5,hM _ _ h6,cH (fun x cs h=>jb hM _ _ h) h7⟩
 ·exact .inr (AE hM h)
theorem La {M M':aS}{R ov pv parts ops}(hM:bh M M')(h:JU M R ov pv parts ops):JU M' R ov pv parts ops:=by
 rcases h with ⟨bF,xs,oa,oc,ys,h1,h2,h3,h4,h5,h6,h7⟩ | h
 ·exact .inl ⟨bF,xs,oa,oc,ys,h1,h2,h3,h4,h5,hM _ _ h6,cH (fun x cs h=>jb hM _ _ h) h7⟩
 ·exact .inr (AE hM h)
theorem BM {M R ov pv parts ops}(h:CZ M R ov pv parts ops):(∃ a c,ov=.slice a ops.length c)/\∃ a c,pv=.slice a parts.length c:=by
 rcases h with ⟨bF,xs,rfl,rfl,rfl,rfl,h,_⟩ | ⟨oa,oc,pa,pc,xs,ys,rfl,rfl,_⟩
 ·exact ⟨⟨_,_,rfl⟩,⟨_,_,by rw [h]⟩⟩
 ·exact ⟨⟨_,_,rfl⟩,⟨_,_,rfl⟩⟩
theorem bV {n:Int}{cs}(h:RI n cs):cs.length=1:=by unfold RI at h;subst h;rfl
theorem WX {F:Fi}{s:List Vc.Item}{e:dj}{ds:List Deferred}{dd:Option Nat}{T:Tm}{M:aS}{L:LL}{R:RR}{b a n c pv}{parts:List Se}{ops:List Int}{k:Int}(hf:CZ M R (.slice a n c) pv parts ops)(hb:M b=none)(bw:ops.length<=400)
 (kk:∀ a' c' R',JU M R' (.slice a' (ops.length+1) c') pv parts (ops++[k]) ->cj Tryz.prog F s (cB e dd (.slice a' (ops.length+1) c')) ds ⟨T,M,(b,[.int .i64 k])::L,R'⟩ ⟨⟩):
 pA Tryz.prog F 24 24 (.slice a n c) (.slice (some ⟨b,0,none⟩) 1 1) dd s e ds ⟨T,M,(b,[.int .i64 k])::L,R⟩ ⟨⟩:=by
 have vn:∀ R,Srcs Tryz.prog 24 1 ⟨T,M,(b,[.int .i64 k])::L,R⟩ (.slice (some ⟨b,0,none⟩) 1 1) [.int .i64 k]:=fun R=>
  .slice _ 1 _ _ _ Tryz.underlying24 (bL [] hb trivial rfl) (by intro u hu;simp only [List.mem_singleton] at hu;subst hu;rfl)
 rcases hf with ⟨bF,xs,rfl,h2,rfl,h4,h5,h6,h7⟩ | ⟨oa,oc,pa,pc,xs,ys,h1,h2,rfl,h3,h4⟩
 ·injection h2 with h2 Ib II;subst h2 Ib II
  refine ma jL jD (vn []) (Nat.le_of_ble_eq_true rfl) ?_
  intro ra rm rc iL
  have:rm=1:=by simpa using iL
  subst this
  exact kk _ _ _ (.inl ⟨bF,xs,ra,rc,_,rfl,rfl,cA rfl,h4,h5,h6,h7⟩)
 ·injection h1 with h1 qC WZ;subst h1 qC WZ
  have jP:=dO (fun _ _=>bV) h4
  refine .inr ⟨_,_,_,_,jL,jD,vn _,.inl ⟨1,ys,rfl,by rw [jP];simp only [ln];omega,?_⟩⟩
  intro ra rm rc iL
  have:rm=ops.length+1:=by rw [jP] at iL;simp only [ln] at iL;omega
  subst this
  exact kk _ _ _ (.inr ⟨_,_,_,_,_,_,by rw [List.length_append];rfl,h2,rfl,h3,cM h4 (cA rfl)⟩)
theorem Ns {F:Fi}{s:List Vc.Item}{e:dj}{ds:List Deferred}{dd:Option Nat}{T:Tm}{M:aS}{L:LL}{R:RR}{b a n c ov}{parts:List Se}{ops:List Int}{x:Se}{cs:List Value}(hf:JU M R ov (.slice a n c) parts ops)(hx:Cv M x cs)(hb:M b=none)(bw:parts.length<=400)
 (kk:∀ a' c' R',CZ M R' ov (.slice a' (parts.length+1) c') (parts++[x]) ops ->cj Tryz.prog F s (cB e dd (.slice a' (parts.length+1) c')) ds ⟨T,M,(b,cs)::L,R'⟩ ⟨⟩):
 pA Tryz.prog F 23 23 (.slice a n c) (.slice (some ⟨b,0,none⟩) 1 1) dd s e ds ⟨T,M,(b,cs)::L,R⟩ ⟨⟩:=by
 have cO:=jd hx
 have vn:∀ R,Srcs Tryz.prog 23 21 ⟨T,M,(b,cs)::L,R⟩ (.slice (some ⟨b,0,none⟩) 1 1) cs:=fun R=>
  .slice _ 1 _ _ _ Tryz.underlying23 (bL [] hb trivial (by rw [cO])) (Qg hx)
 rcases hf with ⟨bF,xs,oa,oc,ys,h1,rfl,h3,h4,h5,h6,h7⟩ | ⟨oa,oc,pa,pc,xs,ys,h1,h2,rfl,h3,h4⟩
 ·injection h4 with h4 UI ahC;subst h4 UI ahC
  have jP:=dO (fun _ _=>jd) h7
  rw [h5] at jP
  refine jO OL QE (vn _) (xs:=xs) ?_ (by rw [cO];decide) (by rw [cO,jP];decide) ?_
  ·have:=xU (h:=⟨T,M,(b,cs)::L,[(ov,3,1,ys)]⟩) (b:=bF) (cs:=xs) (fun o v hv=>by
    have:aQ M ⟨bF,o,none⟩=some v:=by rw [aX h6];exact hv
    simp only [Sh.cell,this]) 21 0 (by omega)
   simpa using this
  ·intro ra rm rc iL
   have:rm=parts.length+1:=by rw [cO,jP] at iL;omega
   subst this
   exact kk _ _ _ (.inr ⟨_,_,_,_,_,_,h1,by rw [List.length_append];rfl,rfl,cM h7 (cA hx),h3⟩)
 ·injection h2 with h2 Ib II;subst h2 Ib II
  have jP:=dO (fun _ _=>jd) h3
  refine fK OL QE (vn _) (by rw [cO,jP];omega) ?_
  intro ra rm rc iL
  have:rm=parts.length+1:=by rw [cO,jP] at iL;omega
  subst this
  exact kk _ _ _ (.inr ⟨_,_,_,_,_,_,h1,by rw [List.length_append];rfl,rfl,cM h3 (cA hx),h4⟩)
theorem QX {N M L R ov pv parts ops}{k:Sh ->Prop}(h:CZ M R ov pv parts ops)(h1:parts.length<=400)(h2:ops.length<=400)(hk:∀ M',bh M M' ->aJ M' L ->RS M' (Cv M') 21 parts pv ->RS M' RI 1 ops ov ->bK ⟨N,M',L,[]⟩ k)(bi:aJ M L):bK ⟨N,M,L,R⟩ k:=by
 rcases h with ⟨bF,xs,rfl,rfl,rfl,rfl,h3,h4,h5⟩ | ⟨oa,oc,pa,pc,xs,ys,rfl,rfl,rfl,h3,h4⟩
 ·exact hk M bh.rfl' bi (cK (fun _ _=>jd) h4 h5 h3 (by decide)) bu
 ·exact bT fun M' hM oX gi=>bT fun M'' mW XO aiw=>hk M'' (hM.trans mW) XO ⟨by omega,xs,gi.ext mW,cH (fun x cs h=>jb (hM.trans mW) _ _ h) h3⟩ ⟨by omega,ys,aiw,h4⟩
theorem rH {P:Program}{F:Fi}{f:FuncId}{args:List Value}{dd:Option Nat}{s:List Vc.Item}{e:dj}{ds:List Deferred}{N:Tm}{M:aS}{b b':Nat}{cs cs':List Value}{L:LL}{R:RR}(hb:de P f=true)
 (h:∀ M',bh M M' ->M' b=some cs ->aJ M' ((b',cs')::L) ->dk P F f args dd s e ds ⟨N,M',(b',cs')::L,R⟩ ⟨⟩):dk P F f args dd s e ds ⟨N,M,(b',cs')::(b,cs)::L,R⟩ ⟨⟩:=
 cQ (k:=fun h'=>∃ M',bh M M'/\M' b=some cs/\aJ M' ((b',cs')::L)/\h'=⟨N,M',(b',cs')::L,R⟩) (dm (List.Perm.swap _ _ _) (aT fun he h1 h2=>az ⟨_,he,h1,h2,rfl⟩))
  (by rintro h' ⟨M',he,h1,h2,rfl⟩;exact h M' he h1 h2) hb
theorem Gq {M:aS}{pb:Nat}{aW:List Tk}{lv:Value}{en op:Int}{ex:List Tk ->Rs X}(hg:eX M)(hl:RS M gn 3 aW lv)(ib:Xr en pb ex op)(cD:nV en ex aW≠ .out)(T:Tm):
 cw Tryz.prog 96 [.pointer (some ⟨pb,0,none⟩)] T M (pL pb lv en op) [] (fu pb en op aiH (nV en ex aW)) (fW pb en (nV en ex aW)):=by
 refine aC F96 rfl rfl ?_
 intro bi _
 simp only [aK] at bi
 simp +contextual only [go_sem,sevalprocAttr]
 intro b2 T2 ey gx dV fG
 refine bZ [(b2,_)] dV rfl cD (fun h=>PP hg hl ib h T2) ?_
 rintro v M1 s0 t lv1 aV bG ax gI ⟨cs,rfl,tF⟩
 have cO:=jd tF
 simp only [nn,aJ,aK] at bG
 simp +contextual only [go_sem,sevalprocAttr,cO]
 intro b7 iN iV b3 T3 gj cL fB hZ
 have hT:=dV.trans fB
 refine rH abT.bd fun M2 bg aaF aZ=> ?_
 simp only [aJ,aK] at aZ
 refine bZ [(b3,_),(b2,_)] hT ax cD (fun _=>Qo (aL bg (fun _ _ h=>h) gI) T3) ?_
 rintro v M3 k t2 lv2 bM bj ax eD rfl
 simp only [nn,aJ,aK] at bj
 have Uf:CZ M3 [] (.slice none 0 0) (.slice (some ⟨b7,0,none⟩) 1 1) [s0] []:=.inl ⟨b7,cs,rfl,rfl,rfl,rfl,rfl,bM _ _ aaF,cA (jb (bg.trans bM) _ _ tF)⟩
 simp +contextual only [go_sem,sevalprocAttr]
 refine je (fun e ds h=>ds=[]/\e 0=.pointer (some ⟨pb,0,none⟩)/\e 2=.pointer (some ⟨b2,0,none⟩)/\e 3=.pointer (some ⟨b3,0,none⟩)/\
  ∃ M' t lv' parts ops pv ov R,bh M3 M'/\M' b3=none/\M' b2=none/\M' pb=none/\RS M' gn 3 t lv'/\parts.length<=4/\ops.length<=4/\CZ M' R ov pv parts ops/\nV en ex aW=Cd en ex parts ops t/\
   h=⟨T3,M',(b3,[pv,ov,.slice none 0 0,.int .i64 (-1)])::(b2,[.slice none 0 0,.slice none 0 0,.slice none 0 0,.int .i64 0])::pL pb lv' en op,R⟩) (fun S' dU=> ?_) ?_
 ·simp +contextual only [go_sem,aE,sevalprocAttr]
  refine fE (fun m e ds h=>ds=[]/\e 0=.pointer (some ⟨pb,0,none⟩)/\e 2=.pointer (some ⟨b2,0,none⟩)/\e 3=.pointer (some ⟨b3,0,none⟩)/\
   ∃ M' t lv' k parts ops pv ov R,e 4=.int .i64 k/\m+parts.length=4/\ops.length+1=parts.length/\bh M3 M'/\M' b3=none/\M' b2=none/\M' pb=none/\RS M' gn 3 t lv'/\CZ M' R ov pv parts ops/\
    nV en ex aW=(vg en ex m k t).bind (fun l t=>Cd en ex (parts++l.2) (ops++l.1) t)/\
    h=⟨T3,M',(b3,[pv,ov,.slice none 0 0,.int .i64 (-1)])::(b2,[.slice none 0 0,.slice none 0 0,.slice none 0 0,.int .i64 0])::pL pb lv' en op,R⟩)
   ⟨3,rfl,?_,?_,?_,M3,t2,lv2,k,[s0],[],_,_,[],?_,rfl,rfl,bh.rfl',bj.1,bj.2.1,bj.2.2,eD,Uf,ax,rfl⟩ ?_
  all_goals first | (simp only [go_sem,sevalprocAttr];done) | skip
  clear ax eD Uf
  rintro m e ds h ⟨rfl,e0,e2,e3,M4,t4,lv4,k,parts,ops,pv,ov,R,e4,hm,hpo,dh,n3,n2,np,jY,Uf,ax,rfl⟩
  by_cases hk:0<k
  ·obtain ⟨⟨oa,oc,rfl⟩,pa,pc,rfl⟩:=BM Uf
   unfold vg at ax
   rw [if_pos hk] at ax
   cases m with
   | zero=>
    have bw:(parts.length:Int)=4:=by omega
    simp +contextual only [go_sem,aE,sevalprocAttr,e0,e3,e4,hk,n3,bw]
    refine lQ [(b3,_),(b2,_)] jY ?_
    simp +contextual only [go_sem,sevalprocAttr]
    exact fd [(b3,_),(b2,_)] hT ax
   | succ m=>
    have bw:¬ (parts.length:Int)=4:=by omega
    simp only [Rs.bind_assoc] at ax
    simp +contextual only [go_sem,aE,sevalprocAttr,e3,e4,hk,n3,bw]
    refine eL ⟨T,fun _=>none,[(b3,_)],[]⟩ (gA n3) ?_
    simp +contextual only [go_sem,sevalprocAttr,e0,e3,e4]
    intro b8 mG eA
    refine ⟨sD n3 (fun h=>eA.1.2 h),?_⟩
    refine WX Uf mG (by omega) ?_
    intro oa' oc' R1 OO
    simp +contextual only [go_sem,sevalprocAttr,e3]
    refine ⟨sD n3 (fun h=>eA.1.2 h),?_⟩
    have hg4:=(hg.ext aV).ext ((bg.trans bM).trans dh)
    refine bZ [(b8,_),(b3,_),(b2,_)] hT ax cD (fun h=>PP hg4 jY ib h T3) ?_
    rintro v M5 s1 t5 lv5 dF bE ax gL ⟨cs1,rfl,gF⟩
    have age:=jd gF
    simp only [nn,aJ,aK] at bE
    simp +contextual only [go_sem,sevalprocAttr,age]
    refine ⟨dw [(b8,_)] bE.2.1 ⟨⟨eA.1.2,eA.1.1⟩,trivial⟩,?_⟩
    intro b9 lu eN
    refine ⟨dw [(b9,_),(b8,_)] bE.2.1 ⟨⟨eN.2.1.2,eN.2.1.1⟩,⟨eA.1.2,eA.1.1⟩,trivial⟩,?_⟩
    refine Ns (La dF OO) gF lu (by omega) ?_
    intro pa' pc' R2 ajt
    simp +contextual only [go_sem,sevalprocAttr,eA,eN,e0,e3]
    refine ⟨dw [(b9,_),(b8,_)] bE.2.1 ⟨⟨eN.2.1.2,eN.2.1.1⟩,⟨eA.1.2,eA.1.1⟩,trivial⟩,?_⟩
    refine bZ [(b9,_),(b8,_),(b3,_),(b2,_)] hT ax cD (fun _=>Qo gL T3) ?_
    rintro v M6 k' t6 lv6 eg bN ax lY rfl
    simp only [nn,aJ,aK] at bN
    simp +contextual only [go_sem,sevalprocAttr]
    rw [dB]
    refine ak (ak (az ⟨m,by omega,rfl,?_,?_,?_,M6,t6,lv6,k',parts++[s1],ops++[k],_,_,R2,?_,?_,?_,(dh.trans dF).trans eg,bN.2.2.1,bN.2.2.2.1,bN.2.2.2.2,lY,DZ eg ajt,?_,rfl⟩))
    ·simp only [e0,go_sem,sevalprocAttr]
    ·simp only [e2,go_sem,sevalprocAttr]
    ·simp only [e3,go_sem,sevalprocAttr]
    ·simp only [go_sem,sevalprocAttr]
    ·rw [List.length_append];simp only [ln];omega
    ·rw [List.length_append,List.length_append];simp only [ln];omega
    ·rw [ax];congr 1;funext l t;simp [Rs.bind]
  ·unfold vg at ax
   rw [if_neg hk] at ax
   simp +contextual only [go_sem,aE,sevalprocAttr,e4,hk]
   refine dU _ _ _ ⟨rfl,?_,?_,?_,M4,_,lv4,parts,ops,pv,ov,R,dh,n3,n2,np,jY,by omega,by omega,Uf,?_,rfl⟩
   ·simp only [e0,go_sem,sevalprocAttr]
   ·simp only [e2,go_sem,sevalprocAttr]
   ·simp only [e3,go_sem,sevalprocAttr]
   ·rw [ax];simp [Rs.bind]
 clear ax bj eD Uf aZ bG
 rintro e ds h ⟨rfl,e0,e2,e3,M4,t,lv4,parts,ops,pv,ov,R,dh,n3,n2,np,jY,oF,hol,Uf,ax,rfl⟩
 simp +contextual only [go_sem,sevalprocAttr,e0]
 refine EC [(b3,_),(b2,_)] I8 jY ?_
 intro lv5 gL
 unfold Cd HL at ax
 generalize bH I8 t=gw at ax gL ⊢
 simp +contextual only [go_sem,sevalprocAttr]
 have hg4:=(hg.ext aV).ext ((bg.trans bM).trans dh)
 refine dQ (fun e ds h=>ds=[]/\e 0=.pointer (some ⟨pb,0,none⟩)/\e 2=.pointer (some ⟨b2,0,none⟩)/\e 3=.pointer (some ⟨b3,0,none⟩)/\
  ∃ M' t lv' ord rv lim,bh M4 M'/\M' b3=none/\M' b2=none/\M' pb=none/\RS M' gn 3 t lv'/\RS M' (RX M') 7 ord rv/\nV en ex aW=.ok ⟨parts,ops,ord,lim⟩ t/\
   h=⟨T3,M',(b3,[pv,ov,rv,.int .i64 lim])::(b2,[.slice none 0 0,.slice none 0 0,.slice none 0 0,.int .i64 0])::pL pb lv' en op,R⟩) (fun S' dU=> ?_) ?_
 ·cases gw with
  | false=>
   simp only [if_false,Bool.false_eq_true] at ax gL
   simp +contextual only [go_sem,aE,sevalprocAttr]
   refine dU _ _ _ ⟨rfl,?_,?_,?_,M4,_,lv5,[],_,_,bh.rfl',n3,n2,np,gL,bu,ax,rfl⟩
   all_goals simp only [e0,e2,e3,go_sem,sevalprocAttr]
  | true=>
   simp only [if_true,Rs.bind_assoc] at ax gL
   simp +contextual only [go_sem,aE,sevalprocAttr,e0]
   intro b5 mp gK
   refine dN [(b3,_),(b2,_)] hT ax gL ?_
   intro M5 lv6 dF bE ax lY
   simp +contextual only [go_sem,sevalprocAttr,e0]
   refine bZ [(b3,_),(b2,_)] hT ax cD (fun h=>z7 (fa:=[.pointer (some ⟨pb,0,none⟩)]) (fc:=[]) (C:=fun _=>True) (r:=RX) (enc:=G1) (g:=ex) 8
    (fun M t lv T hg _ hl cD=>ib M t lv T hg hl cD) (fun x v M h=>by obtain ⟨cs,rfl,h⟩:=h;exact ⟨cs,rfl,h⟩) (fun _ _ _ h=>dl h) (fun _ _ _ h=>jf h) (fun _ _ _ _ he h=>bB he _ _ h)
    (fun _ _ _ h=>h) trivial (by decide) (hg4.ext dF) lY h T3) ?_
   rintro v M6 ord t2 lv7 eg bN ax oE hv
   obtain ⟨kL,oN⟩:=cR hv
   have Dw:=oN
   simp only [Value.cells] at Dw
   simp only [nn,aJ,aK] at bN
   simp +contextual only [go_sem,sevalprocAttr,kL,Dw,e0,e3]
   intro b6 oZ fq
   refine dN [(b3,_),(b2,_)] hT ax oE ?_
   intro M7 lv8 kT iO ax rJ
   simp +contextual only [go_sem,sevalprocAttr,e0]
   refine lQ [(b3,_),(b2,_)] rJ ?_
   unfold aa9 at ax
   rw [Rs.bind_assoc] at ax
   simp +contextual only [go_sem,sevalprocAttr,e0]
   refine bZ [(b3,_),(b2,_)] hT ax cD (fun _=>DG rJ T3) ?_
   rintro v M8 n t3 lv9 qm nu ax Ms rfl
   simp only [nn,aJ,aK] at nu
   by_cases hn:n<0
   ·rw [if_pos (.inl hn)] at ax
    simp +contextual only [go_sem,aE,sevalprocAttr,hn]
    exact fd [(b3,_),(b2,_)] hT ax
   ·by_cases rW:50<n
    ·rw [if_pos (.inr rW)] at ax
     simp +contextual only [go_sem,aE,sevalprocAttr,hn,rW]
     exact fd [(b3,_),(b2,_)] hT ax
    ·rw [if_neg (by omega)] at ax
     simp +contextual only [go_sem,aE,sevalprocAttr,e3,hn,rW]
     refine dU _ _ _ ⟨rfl,?_,?_,?_,M8,_,lv9,ord,_,n,((dF.trans eg).trans kT).trans qm,nu.1,nu.2.1,nu.2.2,Ms,aL (kT.trans qm) (bB (kT.trans qm)) hv,ax,rfl⟩
     all_goals simp only [e0,e2,e3,go_sem,sevalprocAttr]
 clear ax n3 n2 np jY gL e0 e2 e3
 rintro e ds h ⟨rfl,e0,e2,e3,M5,t,lv4,ord,rv,lim,dF,n3,n2,np,jY,rj,ax,rfl⟩
 obtain ⟨⟨oa,oc,rfl⟩,pa,pc,rfl⟩:=BM Uf
 have o3:=cR rj
 simp +contextual only [go_sem,sevalprocAttr,e2,e3,n3,n2,cL,o3]
 refine ak (ak (QX (DZ dF Uf) (by omega) (by omega) (fun M6 eg bN cC hos=>aM hT rfl rfl ?_) (by simpa only [aK] using np)))
 exact ⟨_,t,lv4,ax,rfl,aL eg (fun _ _ h=>h) jY,rfl,_,rfl,⟨_,_,_,cC,hos,aL eg (bB eg) rj,rfl⟩⟩
def Kk:Q:=⟨[],[],[],0⟩
def Zt (q:Stm)(v:Value)(M:aS):Prop:=∃ cs,v=.agg ⟨cs⟩/\ss M q cs
theorem ww {M:aS}:RQ M Kk [.slice none 0 0,.slice none 0 0,.slice none 0 0,.int .i64 0]:=⟨_,_,_,bu,bu,bu,rfl⟩
theorem wy {M:aS}{q:Q}{cs:List Value}(h:RQ M q cs):∃ p o r,cs=[p,o,r,.int .i64 q.limit]/\p.oneCell'=true/\o.oneCell'=true/\r.oneCell'=true:=by
 obtain ⟨p,o,r,h1,h2,h3,rfl⟩:=h
 exact ⟨p,o,r,rfl,(cR h1).1,(cR h2).1,(cR h3).1⟩
def XH (en:Int)(ex:List Tk ->Rs X)(t:List Tk):Rs Stm:=(ij en t).bind fun n t=>(bU en [wAs] t).bind fun _ t=>(nV en ex t).bind fun q t=> .ok ⟨2,n,[],q,[],false,re⟩ t
def PN (en:Int)(t:List Tk):Rs Stm:=(bU en [ZU] t).bind fun _ t=>(ij en t).bind fun n t=>(bU en [qZ] t).bind fun _ t=>(dx en (pZ en) 8 t).bind fun c t=>(bU en [kh] t).bind fun _ t=> .ok ⟨1,n,c,Kk,[],false,re⟩ t
def Jr (en:Int)(t:List Tk):Rs Stm:=(bU en [acA] t).bind fun _ t=>(ij en t).bind fun n t=>(bU en [WA] t).bind fun _ t=>(dx en (Qu en) 400 t).bind fun r t=> .ok ⟨3,n,[],Kk,r,false,re⟩ t
def JN (en:Int)(ex:List Tk ->Rs X)(t:List Tk):Rs Stm:=(bU en [XE] t).bind fun _ t=>(ij en t).bind fun n t=>(Cf ex rC t).bind fun wh t'=> .ok ⟨4,n,[],Kk,[],bH rC t,wh⟩ t'
def XV (en:Int)(ex:List Tk ->Rs X)(t:List Tk):Rs Stm:=(bU en [adA] t).bind fun _ t=>(nV en ex t).bind fun q t=> .ok ⟨5,[],[],q,[],false,re⟩ t
def pJ (en:Int)(ex:List Tk ->Rs X)(t:List Tk):Rs Stm:=
 if bH JY t=true then (if bH Xq t.tail=true then XH en ex t.tail.tail else PN en t.tail)
 else if bH Kg t=true then Jr en t.tail
 else if bH Kc t=true then JN en ex t.tail
 else XV en ex t
theorem VQ {M:aS}{pb:Nat}{aW:List Tk}{lv:Value}{en op:Int}{ex:List Tk ->Rs X}(hg:eX M)(hl:RS M gn 3 aW lv)(ib:Xr en pb ex op)(cD:pJ en ex aW≠ .out)(T:Tm):
 cw Tryz.prog 50 [.pointer (some ⟨pb,0,none⟩)] T M (pL pb lv en op) [] (fu pb en op Zt (pJ en ex aW)) (fW pb en (pJ en ex aW)):=by
 refine aC F50 rfl rfl ?_
 intro bi _
 simp only [aK] at bi
 simp +contextual only [go_sem,aE,sevalprocAttr]
 intro b2 T2 ey gx dV fG
 have ax:pJ en ex aW=pJ en ex aW:=rfl
 generalize hS:pJ en ex aW=S at cD ⊢
 unfold pJ at hS
 replace ax:=hS.symm
 refine ir [(b2,_)] JY hl (fun hs lv1 gI=> ?_) (fun hs lv1 gI=> ?_)
 ·rw [if_pos hs] at ax
  simp +contextual only [go_sem,aE,sevalprocAttr]
  refine ir [(b2,_)] Xq gI (fun hs lv2 eD=> ?_) (fun hs lv2 eD=> ?_)
  ·rw [if_pos hs] at ax
   unfold XH at ax
   simp +contextual only [go_sem,aE,sevalprocAttr]
   refine bZ [(b2,_)] dV ax cD (fun _=>gO hg eD T2) ?_
   rintro v M1 n t lv3 aV bG ax eR rfl
   simp only [nn,aJ,aK] at bG
   simp +contextual only [go_sem,sevalprocAttr]
   intro b3 T3 gj cL fB hZ b4 dI dY
   have hT:=dV.trans fB
   refine dN [(b3,_),(b2,_)] hT ax eR ?_
   intro M2 lv4 bg aZ ax jY
   simp +contextual only [go_sem,sevalprocAttr]
   refine bZ [(b3,_),(b2,_)] hT ax cD (fun h=>Gq ((hg.ext aV).ext bg) jY ib h T3) ?_
   rintro v M3 q t2 lv5 bM bj ax gL ⟨cs,rfl,hq⟩
   obtain ⟨p,o,r,rfl,h1,h2,h3⟩:=wy hq
   simp only [nn,aJ,aK] at bj
   simp +contextual only [go_sem,sevalprocAttr,bj,cL,h1,h2,h3]
   refine ak (ak (aM hT rfl rfl ?_))
   exact ⟨_,_,lv5,ax,rfl,gL,rfl,_,rfl,_,_,_,_,bu,hq,bu,ja,rfl⟩
  ·rw [if_neg (by simp [hs])] at ax
   unfold PN at ax
   simp +contextual only [go_sem,aE,sevalprocAttr]
   intro b4 dI dY
   refine dN [(b2,_)] dV ax eD ?_
   intro M1 lv3 aV bG ax eR
   simp +contextual only [go_sem,sevalprocAttr]
   refine bZ [(b2,_)] dV ax cD (fun _=>gO (hg.ext aV) eR T2) ?_
   rintro v M2 n t lv4 bg aZ ax jY rfl
   simp only [nn,aJ,aK] at aZ
   simp +contextual only [go_sem,sevalprocAttr]
   intro b3 T3 gj cL fB hZ b5 mp gK
   have hT:=dV.trans fB
   refine dN [(b3,_),(b2,_)] hT ax jY ?_
   intro M3 lv5 bM bj ax gL
   simp +contextual only [go_sem,sevalprocAttr]
   refine bZ [(b3,_),(b2,_)] hT ax cD (fun h=>GM (fa:=[.pointer (some ⟨pb,0,none⟩)]) (fc:=[]) (C:=fun _=>True) (r:=fun _=>sA) (enc:=XC) (g:=pZ en) 8
    (fun M t lv T hg _ hl cD=>LC hg hl T) (fun x v M h=>by obtain ⟨cs,rfl,h⟩:=h;exact ⟨cs,rfl,h⟩) (fun _ _ _ h=>by unfold sA at h;subst h;rfl) (fun _ _ _ h=>by unfold sA at h;subst h;intro u hu;simp only [mn] at hu;rcases hu with rfl | rfl<;>rfl) (fun _ _ _ _ he h=>h)
    (fun _ _ _ h=>h) trivial (by decide) (((hg.ext aV).ext bg).ext bM) gL h T3) ?_
   rintro v M4 cols t2 lv6 dh cE ax lY hv
   obtain ⟨kL,oN⟩:=cR hv
   have Dw:=oN
   simp only [Value.cells] at Dw
   simp only [nn,aJ,aK] at cE
   simp +contextual only [go_sem,sevalprocAttr,kL,Dw]
   intro b6 oZ fq
   refine dN [(b3,_),(b2,_)] hT ax lY ?_
   intro M5 lv7 dF bE ax oE
   simp only [nn,aJ,aK] at bE
   simp +contextual only [go_sem,sevalprocAttr,bE,cL,kL]
   refine ak (ak (aM hT rfl rfl ?_))
   exact ⟨_,_,lv7,ax,rfl,oE,rfl,_,rfl,_,_,_,_,aL dF (fun _ _ h=>h) hv,ww,bu,ja,rfl⟩
 rw [if_neg (by simp [hs])] at ax
 clear hs
 simp +contextual only [go_sem,aE,sevalprocAttr]
 refine ir [(b2,_)] Kg gI (fun hs lv2 eD=> ?_) (fun hs lv2 eD=> ?_)
 ·rw [if_pos hs] at ax
  unfold Jr at ax
  simp +contextual only [go_sem,aE,sevalprocAttr]
  intro b4 dI dY
  refine dN [(b2,_)] dV ax eD ?_
  intro M1 lv3 aV bG ax eR
  simp +contextual only [go_sem,sevalprocAttr]
  refine bZ [(b2,_)] dV ax cD (fun _=>gO (hg.ext aV) eR T2) ?_
  rintro v M2 n t lv4 bg aZ ax jY rfl
  simp only [nn,aJ,aK] at aZ
  simp +contextual only [go_sem,sevalprocAttr]
  intro b3 T3 gj cL fB hZ b5 mp gK
  have hT:=dV.trans fB
  refine dN [(b3,_),(b2,_)] hT ax jY ?_
  intro M3 lv5 bM bj ax gL
  simp +contextual only [go_sem,sevalprocAttr]
  refine bZ [(b3,_),(b2,_)] hT ax cD (fun h=>IQ (fa:=[.pointer (some ⟨pb,0,none⟩)]) (fc:=[]) (C:=fun _=>True) (r:=YM) (enc:=O8) (g:=Qu en) 400
   (fun M t lv T hg _ hl cD=>ZE hg hl T) (fun x v M h=>⟨_,(cR h).2,_,h,rfl⟩) (fun _ _ _ h=>by obtain ⟨_,_,rfl⟩:=h;rfl) (fun _ _ _ h=>by obtain ⟨_,h,rfl⟩:=h;intro u hu;simp only [List.mem_singleton] at hu;subst hu;exact (cR h).1) (fun _ _ _ _ he h=>Jx he _ _ h)
   (fun _ _ _ h=>h) trivial (by decide) (((hg.ext aV).ext bg).ext bM) gL h T3) ?_
  rintro v M4 rows t2 lv6 dh cE ax lY hv
  obtain ⟨kL,oN⟩:=cR hv
  have Dw:=oN
  simp only [Value.cells] at Dw
  simp only [nn,aJ,aK] at cE
  simp +contextual only [go_sem,sevalprocAttr,cE,cL,kL,Dw]
  refine ak (ak (aM hT rfl rfl ?_))
  exact ⟨_,_,lv6,ax,rfl,lY,rfl,_,rfl,_,_,_,_,bu,ww,hv,ja,rfl⟩
 rw [if_neg (by simp [hs])] at ax
 clear hs
 simp +contextual only [go_sem,aE,sevalprocAttr]
 refine ir [(b2,_)] Kc eD (fun hs lv3 eR=> ?_) (fun hs lv3 eR=> ?_)
 ·rw [if_pos hs] at ax
  unfold JN at ax
  simp +contextual only [go_sem,aE,sevalprocAttr]
  intro b4 dI dY
  refine dN [(b2,_)] dV ax eR ?_
  intro M1 lv4 aV bG ax jY
  simp +contextual only [go_sem,sevalprocAttr]
  refine bZ [(b2,_)] dV ax cD (fun _=>gO (hg.ext aV) jY T2) ?_
  rintro v M2 n t lv5 bg aZ ax gL rfl
  simp only [nn,aJ,aK] at aZ
  simp +contextual only [go_sem,sevalprocAttr]
  intro b3 T3 gj cL fB hZ
  have hT:=dV.trans fB
  refine ir [(b3,_),(b2,_)] rC gL (fun hs lv6 lY=> ?_) (fun hs lv6 lY=> ?_)
  ·unfold Cf at ax
   rw [if_pos hs,hs] at ax
   simp +contextual only [go_sem,aE,sevalprocAttr,gj]
   refine bZ [(b3,_),(b2,_)] hT ax cD (fun h=>ib M2 _ lv6 T3 ((hg.ext aV).ext bg) lY h) ?_
   rintro v M3 x t2 lv7 bM bj ax oE ⟨cs,rfl,hx⟩
   obtain ⟨s,rfl,h1,_⟩:=bR hx
   simp only [nn,aJ,aK] at bj
   simp +contextual only [go_sem,sevalprocAttr,bj,cL,h1]
   refine ak (ak (aM hT rfl rfl ?_))
   exact ⟨_,_,lv7,ax,rfl,oE,rfl,_,rfl,_,_,_,_,bu,ww,bu,hx,rfl⟩
  ·unfold Cf at ax
   rw [if_neg (by simp [hs]),hs] at ax
   simp +contextual only [go_sem,aE,sevalprocAttr,aZ,gj,cL]
   refine ak (ak (aM hT rfl rfl ?_))
   exact ⟨_,_,lv6,ax,rfl,lY,rfl,_,rfl,_,_,_,_,bu,ww,bu,ja,rfl⟩
 rw [if_neg (by simp [hs])] at ax
 clear hs
 unfold XV at ax
 simp +contextual only [go_sem,aE,sevalprocAttr]
 intro b4 dI dY
 refine dN [(b2,_)] dV ax eR ?_
 intro M1 lv4 aV bG ax jY
 simp +contextual only [go_sem,sevalprocAttr]
 refine bZ [(b2,_)] dV ax cD (fun h=>Gq (hg.ext aV) jY ib h T2) ?_
 rintro v M2 q t2 lv5 bg aZ ax gL ⟨cs,rfl,hq⟩
 obtain ⟨p,o,r,rfl,h1,h2,h3⟩:=wy hq
 simp only [nn,aJ,aK] at aZ
 simp +contextual only [go_sem,sevalprocAttr,aZ,h1,h2,h3]
 refine ak (aM dV rfl rfl ?_)
 exact ⟨_,_,lv5,ax,rfl,gL,rfl,_,rfl,_,_,_,_,bu,hq,bu,ja,rfl⟩
def ny (p:UInt8 ->Bool)(s:Bs):Nat:=(s.takeWhile p).length
theorem yz {gf:Nat}{p:UInt8 ->Bool}(hp:∀ (c:UInt8) (M:aS),Ct Tryz.prog gf [.int .u8 (c.toNat:Int)] M [] [] (fun r _ _ _=>r=.bool (p c)) aO)(s:Bs)(hs:s.length<=4000)(M:aS):
 Ct Tryz.prog 139 [st s,.func (.func gf) ⟨[]⟩ ⟨[]⟩] M [] [] (fun r _ _ _=>r=.int .i64 (ny p s)) aO:=by
 intro T
 refine aC agZ rfl rfl ?_
 intro bi _
 simp +contextual only [go_sem,aE,sevalprocAttr]
 refine aY s.length 5 [(0,st s),(1,.func (.func gf) ⟨[]⟩ ⟨[]⟩)] (fun i e h=>∃ M',h=⟨T,M',[],[]⟩/\ny p s=i+ny p (s.drop i)) 0 (by omega) (by simp only [aG,go_sem,sevalprocAttr]) (by simp only [go_sem,sevalprocAttr]) ⟨M,rfl,by simp⟩ ?_
 rintro i e h hi aI ht ⟨M1,rfl,ax⟩
 simp only [aG,st] at aI
 by_cases aN:i<s.length
 ·have hx:=iF aN
  have bA:s.drop i=s[i]::s.drop (i+1):=dq aN
  rw [bA] at ax
  simp +contextual only [go_sem,sevalprocAttr,aI,ht,aN,hx]
  refine aD (hp s[i] M1 T) ?_
  rintro v M2 bg _ rfl
  by_cases hk:p s[i]=true
  ·simp +contextual only [go_sem,aE,sevalprocAttr,ht,hk]
   refine cI aN ?_ ?_ ⟨M2,rfl,?_⟩
   ·simp only [aG,aI,go_sem,sevalprocAttr]
   ·simp only [go_sem,sevalprocAttr,aB i (by omega)]
   ·rw [ax];simp only [ny,List.takeWhile_cons,hk,if_true,List.length_cons];omega
  ·simp +contextual only [go_sem,aE,sevalprocAttr,ht,hk]
   refine am aH.rfl' ?_
   rw [ax]
   simp only [ny,List.takeWhile_cons,hk,if_false,Bool.false_eq_true,List.length_nil,Nat.add_zero]
 ·have:i=s.length:=by omega
  subst this
  simp +contextual only [go_sem,aE,sevalprocAttr,aI,ht,aN]
  refine am aH.rfl' ?_
  rw [ax]
  simp [ny]
theorem HO (s x:Bs)(M:aS):Ct Tryz.prog 182 [st s,st x] M [] [] (fun r _ _ _=>r=.bool (x.isPrefixOf s)) aO:=by
 intro T
 refine aC ajF rfl rfl ?_
 intro bi _
 by_cases hl:x.length<=s.length
 ·simp +contextual only [go_sem,sevalprocAttr,hl]
  refine am aH.rfl' ?_
  rw [List.drop_zero]
  congr 1
  rw [Bool.eq_iff_iff,List.isPrefixOf_iff_prefix,List.prefix_iff_eq_take,decide_eq_true_eq]
  exact eq_comm
 ·simp +contextual only [go_sem,sevalprocAttr,hl]
  refine am aH.rfl' ?_
  have:x.isPrefixOf s=false:=by
   rw [Bool.eq_false_iff];intro h;exact hl (List.isPrefixOf_iff_prefix.1 h).length_le
  rw [this]
theorem Lk (s x:Bs)(M:aS):Ct Tryz.prog 142 [st s,st x] M [] [] (fun r _ _ _=>r=.bool (x.isPrefixOf s)) aO:=by
 intro T
 refine aC aiy rfl rfl ?_
 intro bi _
 simp +contextual only [go_sem,sevalprocAttr]
 refine aD (HO s x M T) ?_
 rintro v M2 bg _ rfl
 simp +contextual only [go_sem,sevalprocAttr]
 exact am aH.rfl' rfl
open Go Vc Go.RowKit Go.Shelf
theorem RE:Tryz.f177.ntmps=20:=by kernel_rfl
theorem u4:(Tryz.prog.info? 136).map (·.size)=some 2:=by kernel_rfl
theorem Fz:liesAt Tryz.prog Tryz.prog.depth 136 (2 / Tryz.prog.cellsOf 136) 0 136 1=true:=by kernel_rfl
set_option maxHeartbeats 1000000 in
set_option maxRecDepth 100000 in
theorem tP (b:Nat)(w:World)(h0:w.cell? ⟨b,0,none⟩=some (.pointer (some ⟨b,0,none⟩))):
 Calls Tryz.prog 177 #[.pointer (some ⟨b,0,none⟩)] w fun e w'=>e=.returned (.tuple #[])/\w'=w:=by
 obtain ⟨j,hj,_⟩:=Option.map_eq_some_iff.1 u4
 have mixed:=mx
 go_enter Tryz.func177,RE
 go_wp2
 rw [Lib.run_neq_ptr_same w _ Tryz.underlying133 hj]
 go_wp2
 go_end0
 exact ⟨rfl,rfl⟩
set_option maxHeartbeats 1000000 in
set_option maxRecDepth 100000 in
theorem sf (b:Nat)(w:World)(h0:w.cell? ⟨b,0,none⟩=some (.pointer none))(YW:w.shape? b=some (136,2))(TI:w.frozen? ⟨b,0,none⟩=false):
 Calls Tryz.prog 177 #[.pointer (some ⟨b,0,none⟩)] w fun e w'=>e=.returned (.tuple #[])/\w'=w.setCell ⟨b,0,none⟩ (.pointer (some ⟨b,0,none⟩)):=by
 obtain ⟨j,hj,hjs⟩:=Option.map_eq_some_iff.1 u4
 have mixed:=mx
 have t95:=Tryz.underlying136
 have t93:=Tryz.underlying133
 go_enter Tryz.func177,RE
 go_wp2
 rw [Lib.run_to_unsafe w ⟨b,0,none⟩ Tryz.underlying133 Tryz.underlying328 hj (by rw [hjs];decide) YW (Nat.zero_lt_succ 1)]
 simp only [Result.andThen]
 rw [Oper.upon_value]
 go_wp2
 rw [run_callFunc_extern Tryz.func234 (by kernel_rfl) (by kernel_rfl) (by kernel_rfl) (e:=Extern.AbiNoEscape.same) (by kernel_rfl)]
 rw [Lib.run_noEscape]
 simp only [Result.andThen]
 rw [Oper.upon_value]
 go_wp2
 rw [Lib.run_from_unsafe w ⟨b,0,none⟩ Tryz.underlying328 Tryz.underlying133 hj YW Fz]
 simp only [Result.andThen]
 rw [Oper.upon_value]
 go_wp2
 go_end0
 exact ⟨rfl,rfl⟩
theorem Xp:Tryz.f45.ntmps=14:=by kernel_rfl
theorem MP:Tryz.prog.cellsOf 5=1:=by kernel_rfl
set_option maxHeartbeats 1000000 in
set_option maxRecDepth 100000 in
theorem Qt {tid:TypeId}(b g cap:Nat)(p:Value)(cur:Array Value)(l:List UInt8)(w:World)(h0:l≠[])(fS:w.heap[b]?=some (.cells #[p,.slice (some ⟨g,0,none⟩) l.length cap] tid (0,0)))
 (hg:w.heap[g]?=some (.cells cur 5 (0,0))) (hnc:l.length<=cap) (iE:cur.size=cap) (hcm:l.length<=4294967296) (adz:cur.toList.take l.length=Lib.byteCells l):
 Calls Tryz.prog 45 #[.pointer (some ⟨b,0,none⟩)] w fun e w'=>e=.returned (.string ⟨l.toArray⟩)/\w'=w.drew.freeze ⟨g,0,none⟩ l.length:=by
 have pC:l.length≠0:=by simpa using h0
 have c1:w.drew.cell? ⟨b,1,none⟩=some (.slice (some ⟨g,0,none⟩) l.length cap):=by
  have:w.drew.heap[b]?=some (.cells #[p,.slice (some ⟨g,0,none⟩) l.length cap] tid (0,0)):=fS
  rw [Lib.cell_of_heap this];rfl
 have hSD:(Builtin.unsafeSliceData_ #[134] 196 #[.slice (some ⟨g,0,none⟩) l.length cap]).run Tryz.prog w.drew=.ok (.pointer (some ⟨g,0,none⟩)) w.drew:=
  Lib.run_unsafeSliceData_row _ _ _ _ _ _ (by omega)
 have hUS:(Builtin.unsafeString_ #[196,3] 9 #[.pointer (some ⟨g,0,none⟩),.int .i64 l.length]).run Tryz.prog w.drew=.ok (.string ⟨l.toArray⟩) (w.drew.freeze ⟨g,0,none⟩ l.length):=by
  refine Lib.run_unsafeString_row w.drew 196 3 9 5 Tryz.underlying196 MP g cur.size (by have hg':w.drew.heap[g]?=some (.cells cur 5 (0,0)):=hg;simp [World.shape?,hg']) l h0 (by omega) (by omega) ?_
  intro j x hx
  have hg':w.drew.heap[g]?=some (.cells cur 5 (0,0)):=hg
  have hj:j<l.length:=(List.getElem?_eq_some_iff.1 hx).1
  have h2:(cur.toList.take l.length)[j]?=some (.int .u8 x.toNat):=by rw [adz];simp [Lib.byteCells,hx]
  rw [List.getElem?_take_of_lt hj] at h2
  rw [Addr.add_lit,Nat.zero_add,Lib.cell_of_heap hg']
  simpa using h2
 have mixed:=mx
 have t95:=Tryz.underlying136
 have t93:=Tryz.underlying133
 have t37:=Tryz.underlying134
 have t137:=Tryz.underlying196
 go_enter Tryz.func45,Xp
 go_wp2
 go_region_o
 all_goals (go_wp2;go_ret;exact ⟨rfl,rfl⟩)
theorem CX {tid:TypeId}(b:Nat)(p:Value)(w:World)(fS:w.heap[b]?=some (.cells #[p,.slice none 0 0] tid (0,0))):
 Calls Tryz.prog 45 #[.pointer (some ⟨b,0,none⟩)] w fun e w'=>e=.returned (.string ⟨#[]⟩)/\w'=w.drew:=by
 have hUS:∀ W q,(Builtin.unsafeString_ #[196,3] 9 #[.pointer q,.int .i64 0]).run Tryz.prog W=.ok (.string .empty) W:=fun W q=>Lib.run_unsafeString_none W _ _ _ q
 have c1:w.drew.cell? ⟨b,1,none⟩=some (.slice none 0 0):=by
  have:w.drew.heap[b]?=some (.cells #[p,.slice none 0 0] tid (0,0)):=fS
  rw [Lib.cell_of_heap this];rfl
 have hSD:(Builtin.unsafeSliceData_ #[134] 196 #[.slice none 0 0]).run Tryz.prog w.drew=.ok (.pointer none) w.drew:=rfl
 have mixed:=mx
 have t95:=Tryz.underlying136
 have t93:=Tryz.underlying133
 have t37:=Tryz.underlying134
 have t137:=Tryz.underlying196
 go_enter Tryz.func45,Xp
 go_wp2
 go_region_o
 all_goals (go_wp2;go_ret;exact ⟨rfl,rfl⟩)
theorem aeB.bd':de Tryz.prog 177=true:=by kernel_rfl
theorem F48.bd':de Tryz.prog 45=true:=by kernel_rfl
theorem C2 {T:Tm}{M:aS}{b:Nat}{p v:Value}(hT:T b=some 136)(hp:p=.pointer none\/p=.pointer (some ⟨b,0,none⟩)):
 cw Tryz.prog 177 [.pointer (some ⟨b,0,none⟩)] T M [(b,[p,v])] [] (fun r M' L' R'=>r=.tuple #[]/\M'=M/\L'=[(b,[.pointer (some ⟨b,0,none⟩),v])]/\R'=[]) aO:=by
 refine ⟨aeB.bd',fun w U hw=> ?_⟩
 obtain ⟨bs,rfl,hi⟩:=hw
 have fS:w.heap[b]?=some (.cells #[p,v] 136 (0,0)):=hi.typed hT (List.mem_singleton.2 rfl)
 have c0:w.cell? ⟨b,0,none⟩=some p:=by rw [Lib.cell_of_heap fS];rfl
 rcases hp with rfl | rfl
 ·refine Calls.mono (sf b w c0 (by simp [World.shape?,fS]) (Lib.frozen_of_heap fS 0)) ?_
  rintro e w' ⟨rfl,rfl⟩
  have h2:=hi.store (k:=b) (i:=0) (v:=.pointer (some ⟨b,0,none⟩)) (by simp)
  have h3:rt [(b,[.pointer none,v])] b 0 (.pointer (some ⟨b,0,none⟩))=[(b,[.pointer (some ⟨b,0,none⟩),v])]:=by simp [rt]
  rw [h3] at h2
  exact ⟨M,_,[],⟨⟨bs,h2⟩,rfl,rfl⟩,rfl,rfl,rfl,rfl⟩
 ·refine Calls.mono (tP b w c0) ?_
  rintro e w' ⟨rfl,rfl⟩
  exact ⟨M,_,[],⟨⟨bs,hi⟩,rfl,rfl⟩,rfl,rfl,rfl,rfl⟩
theorem SW {w:World}{g n b:Nat}(h:b≠g):(w.drew.freeze ⟨g,0,none⟩ n).heap[b]?=w.heap[b]?:=by
 rw [tD h];rfl
theorem Nv {w:World}{g n:Nat}:(w.drew.freeze ⟨g,0,none⟩ n).heap.size=w.heap.size:=by
 unfold World.freeze
 split
 ·rfl
 ·show (Array.modify _ _ _).size=_
  rw [Array.size_modify];rfl
theorem LF {tid:TypeId}{T:Tm}{M:aS}{b:Nat}{p v:Value}{l:Bs}(hT:T b=some tid)(hl:l.length<=1000000000)(tf:l=[] ->v=.slice none 0 0):
 cw Tryz.prog 45 [.pointer (some ⟨b,0,none⟩)] T M [(b,[p,v])] [(v,5,1,Lib.byteCells l)] (fun r M' L' R'=>r=st l/\M'=M/\(∃ v',L'=[(b,[p,v'])])/\R'=[(.slice none 0 0,5,1,[])]) aO:=by
 refine ⟨F48.bd',fun w U hw=> ?_⟩
 obtain ⟨bs,rfl,hi⟩:=hw
 have fS:w.heap[b]?=some (.cells #[p,v] tid (0,0)):=hi.typed hT (List.mem_singleton.2 rfl)
 obtain ⟨bw,bP⟩:=hi.rows
 obtain ⟨o,rfl⟩:∃ o,bs=[o]:=by
  cases bs with
  | nil=>simp at bw
  | cons o bs=>cases bs with
   | nil=>exact ⟨o,rfl⟩
   | cons _ _=>simp at bw
 have hr:=bP 0 _ _ _ _ o rfl rfl
 rcases hr with ⟨rfl,hx,rfl⟩ | ⟨g,n,cap,junk,rfl,hg,hn,hc,dJ,rfl⟩ | ⟨h0,_⟩ | ⟨h0,_⟩
 rotate_left 2
 ·exact absurd h0 (by decide)
 ·exact absurd h0 (by decide)
 ·have pC:l=[]:=by simpa [Lib.byteCells] using hx
  subst pC
  refine Calls.mono (CX b p w fS) ?_
  rintro e w' ⟨rfl,rfl⟩
  exact ⟨M,_,_,⟨⟨[none],hi.keeps ⟨rfl,rfl,rfl,Nat.le_refl _,fun _ _=>rfl⟩⟩,rfl,rfl⟩,rfl,rfl,⟨_,rfl⟩,rfl⟩
 ·have Ue:(Lib.byteCells l).length=l.length:=by simp [Lib.byteCells]
  have GW:n=l.length:=by omega
  subst GW
  have GH:=hi.apart g (by simp)
  have EY:g∉[(b,[p,.slice (some ⟨g,0,none⟩) l.length cap])].map (·.1):=by
   have:=hi.nodup
   simp at this
   simp
   exact fun h=>this h.symm
  obtain ⟨bs',qL⟩:=hi.dropR
  have XP:bs'=[]:=by simpa using qL.rows.1.symm
  subst XP
  by_cases h0:l=[]
  ·have:=tf h0;injection this with h;cases h
  ·refine Calls.mono (Qt b g cap p _ l w h0 fS hg dJ (by simpa using hc) (by omega) ?_) ?_
   ·rw [<- Ue];simp
   ·rintro e w' ⟨rfl,rfl⟩
    have h2:=qL.keepsBut (g:=g) (w':=w.drew.freeze ⟨g,0,none⟩ l.length) GH.2 GH.1 EY (by simp) (by unfold World.freeze;split<;>rfl) (by unfold World.freeze;split<;>rfl) (by unfold World.freeze;split<;>rfl) (by rw [Nv];exact Nat.le_refl _) (fun k hk _=>SW hk)
    exact ⟨M,_,_,⟨⟨_,h2.addNil⟩,rfl,rfl⟩,rfl,rfl,⟨_,rfl⟩,rfl⟩
theorem Y6 {M:aS}{b n c:Nat}{a:Option Addr}{p:Value}:Ct Tryz.prog 44 [.pointer (some ⟨b,0,none⟩)] M [(b,[p,.slice a n c])] [] (fun r M' L' R'=>r=.int .i64 n/\M'=M/\L'=[(b,[p,.slice a n c])]/\R'=[]) aO:=by
 intro T
 refine aC F44 rfl rfl ?_
 intro bi _
 simp only [aJ,and_true] at bi
 simp +contextual only [go_sem,sevalprocAttr,bi]
 exact aM aH.rfl' rfl rfl ⟨rfl,rfl,rfl,rfl⟩
theorem tt {T:Tm}{M:aS}{b:Nat}{a:Option Addr}{n c:Nat}{p:Value}{xs:List Value}{ch:Int}(hT:T b=some 136)(hp:p=.pointer none\/p=.pointer (some ⟨b,0,none⟩))(hn:xs.length=n)(hl:n<=4000):
 cw Tryz.prog 129 [.pointer (some ⟨b,0,none⟩),.int .u8 ch] T M [(b,[p,.slice a n c])] [(.slice a n c,5,1,xs)] (fun r M' L' R'=>r=.nilIface/\M'=M/\∃ a' c',L'=[(b,[.pointer (some ⟨b,0,none⟩),.slice a' (n+1) c'])]/\R'=[(.slice a' (n+1) c',5,1,xs++[.int .u8 ch])]) aO:=by
 refine aC ajW rfl rfl ?_
 intro bi _
 simp only [aJ,and_true] at bi
 simp +contextual only [go_sem,sevalprocAttr]
 refine dz [] (C2 hT hp) ?_ (fun _ _ _ _ _ _ h=>h.elim)
 rintro v M' L' _ _ oX ⟨rfl,rfl,rfl, -⟩
 simp +contextual only [go_sem,sevalprocAttr,bi]
 intro b1 fD IS
 refine fK RF Rx (.slice _ 1 _ _ _ Tryz.underlying134 (bL [] fD trivial rfl) (by intro u hu;simp only [List.mem_singleton] at hu;subst hu;rfl)) (by rw [hn];simp only [ln];omega) ?_
 intro a' m c' hm
 have:m=n+1:=by rw [hn] at hm;simp only [ln] at hm;omega
 subst this
 simp +contextual only [go_sem,sevalprocAttr,IS]
 exact ak (aM aH.rfl' rfl rfl ⟨rfl,rfl,_,_,rfl,rfl⟩)
def K1 (c:UInt8):Bool:=eF c.toNat || eH c.toNat
def yl (c:UInt8):Bool:=eH c.toNat
def j3:List Bs:=[[60,62],[60,61],[62,61],[124,124],[60],[62],[61],[43],[45],[42],[40],[41],[44],[46],[59]]
def kz:Bs ->Option (Bs×Nat)
 | []=>none
 | [c]=>if c=39 then some ([],1) else none
 | c::d::l=>if c=39 then (if d=39 then (kz l).map fun x=>(39::x.1,x.2+2) else some ([],1)) else (kz (d::l)).map fun x=>(c::x.1,x.2+1)
def ET (at_:Int):Bs ->Except (Int×Int) (Tk×Nat)
 | []=> .error (2,at_)
 | c::l=>
  if eF c.toNat=true then .ok (⟨1,(c::l).take (ny K1 (c::l)),at_⟩,ny K1 (c::l))
  else if eH c.toNat=true then (if 16<ny yl (c::l) then .error (3,at_) else .ok (⟨2,(c::l).take (ny yl (c::l)),at_⟩,ny yl (c::l)))
  else if c=39 then (match kz l with | none=> .error (2,at_) | some x=>if 60<x.1.length then .error (4,at_) else .ok (⟨3,x.1,at_⟩,x.2+1))
  else match j3.find? (·.isPrefixOf (c::l)) with | none=> .error (2,at_) | some x=> .ok (⟨4,x,at_⟩,x.length)
def tkV (t:Tk):Value:=.agg ⟨[.int .i64 t.k,st t.s,.int .i64 t.at_]⟩
theorem aai {M:aS}{s:Bs}{at_:Int}(h0:s≠[])(hs:s.length<=4000):
 Ct Tryz.prog 93 [st s,.int .i64 at_] M [] [] (fun r _ _ _=>∃ t n,ET at_ s=.ok (t,n)/\r=.tuple ⟨[tkV t,.int .i64 (n:Int)]⟩) (fun ch _ _ _=>∃ e a,ET at_ s=.error (e,a)/\ch=rd e a):=by
 intro T
 obtain ⟨c,l,cO⟩:∃ c l,s=c::l:=by
  cases s with
  | nil=>exact (h0 rfl).elim
  | cons c l=>exact ⟨c,l,rfl⟩
 have hx:rS (bs s) 0=c:=by rw [iF (by rw [cO];simp)];simp [cO]
 have dG:(0:Int)<(s.length:Int):=by rw [cO];simp only [List.length_cons];omega
 obtain ⟨S,dL⟩:∃ S,S=ET at_ s:=⟨_,rfl⟩
 rw [<- dL]
 rw [cO] at dL
 simp only [ET] at dL
 rw [<- cO] at dL
 have runle:∀ p,ny p s<=s.length:=fun p=>(List.takeWhile_sublist p).length_le
 refine aC F93 rfl rfl ?_
 intro bi _
 simp +contextual only [go_sem,aE,sevalprocAttr,hx,dG]
 intro b4 T4 dI fj gH
 refine aD (q7 c.toNat M T4) ?_
 rintro v M1 aV bG rfl
 by_cases Tr:eF c.toNat=true
 ·rw [if_pos Tr] at dL
  simp +contextual only [go_sem,aE,sevalprocAttr,Tr]
  refine aD (yz (p:=K1) (fun c M=>VW c.toNat M) s hs M1 T4) ?_
  rintro v M2 bg aZ rfl
  simp only [aJ,and_true] at aZ
  simp +contextual only [go_sem,sevalprocAttr,Tr,aZ,runle]
  refine am (fj) ?_
  exact ⟨_,_,dL,by simp [tkV,st]⟩
 rw [if_neg Tr] at dL
 simp +contextual only [go_sem,aE,sevalprocAttr,Tr]
 refine aD (nL c.toNat M1 T4) ?_
 rintro v M2 bg aZ rfl
 by_cases Mg:eH c.toNat=true
 ·rw [if_pos Mg] at dL
  simp +contextual only [go_sem,aE,sevalprocAttr,Mg]
  refine aD (yz (p:=yl) (fun c M=>nL c.toNat M) s hs M2 T4) ?_
  rintro v M3 bM bj rfl
  simp only [aJ,and_true] at bj
  by_cases zk:16<ny yl s
  ·rw [if_pos zk] at dL
   have Jj:(16:Int)<(ny yl s:Int):=by omega
   simp +contextual only [go_sem,aE,sevalprocAttr,Mg,Jj]
   refine bS (gu 3 at_ M3 T4) (fun _ _ _ _ h=>h.elim) ?_
   rintro ch M4 dh cE rfl
   rw [lT,jG]
   exact am fj ⟨_,_,dL,rfl⟩
  ·rw [if_neg zk] at dL
   have Jj:¬ (16:Int)<(ny yl s:Int):=by omega
   simp +contextual only [go_sem,aE,sevalprocAttr,Mg,Jj,bj,runle]
   refine am fj ?_
   exact ⟨_,_,dL,by simp [tkV,st]⟩
 rw [if_neg Mg] at dL
 simp +contextual only [go_sem,aE,sevalprocAttr,Mg]
 by_cases hq:c=39
 ·have hq':((c.toNat:Nat):Int)=39:=by rw [hq];rfl
  rw [if_pos hq] at dL
  simp +contextual only [go_sem,sevalprocAttr,hq']
  intro b9 T9 lu eN oY l4
  refine ⟨fun m e ds h=>ds=[]/\e 0=st s/\e 1=.int .i64 at_/\e 4=.pointer (some ⟨b4,0,none⟩)/\e 9=.pointer (some ⟨b9,0,none⟩)/\
   ∃ M' i acc a c p,e 10=.int .i64 (i:Nat)/\m+i=s.length+1/\1<=i/\i<=s.length/\M' b9=none/\M' b4=none/\acc.length<=i/\(p=.pointer none\/p=.pointer (some ⟨b9,0,none⟩))/\(acc=[] ->a=none/\c=0)/\
    kz l=(kz (s.drop i)).map (fun x=>(acc++x.1,(i - 1)+x.2))/\
    h=⟨T9,M',[(b9,[p,.slice a acc.length c]),(b4,[.int .i64 0,.string (bs []),.int .i64 0])],[(.slice a acc.length c,5,1,Lib.byteCells acc)]⟩,
   dC (az ⟨s.length,rfl,?_,?_,?_,?_,M2,1,[],none,0,.pointer none,?_,rfl,Nat.le_refl _,by omega,lu,?_,by simp,.inl rfl,fun _=>⟨rfl,rfl⟩,?_,rfl⟩),?_⟩
  ·simp only [go_sem,sevalprocAttr]
  ·simp only [go_sem,sevalprocAttr]
  ·simp only [go_sem,sevalprocAttr]
  ·simp only [go_sem,sevalprocAttr]
  ·simp only [go_sem,sevalprocAttr]
  ·simpa [aJ] using aZ
  ·rw [cO];simp
  rintro m e ds h ⟨rfl,e0,e1,e4,e9,M3,i,acc,a,cc,p,e10,hm,h1,hi,n9,n4,bC,hp,tf,Xz,rfl⟩
  by_cases aN:i<s.length
  ·have Ds:=iF aN
   have bA:s.drop i=s[i]::s.drop (i+1):=dq aN
   have Y9:=aB i (by omega)
   by_cases h39:s[i]=39
   ·have Rd:((s[i].toNat:Nat):Int)=39:=by rw [h39];rfl
    by_cases hd:i+1<s.length/\s[i+1]?=some 39
    ·obtain ⟨EL,hd2⟩:=hd
     have wu:=iF EL
     have hv:s[i+1]=39:=by rw [gq EL] at hd2;injection hd2
     have HX:s.drop (i+1)=s[i+1]::s.drop (i+1+1):=dq EL
     have aej:((s[i+1].toNat:Nat):Int)=39:=by rw [hv];rfl
     have ahd:=aB (i+1) (by omega)
     simp +contextual only [go_sem,aE,sevalprocAttr,e0,e9,e10,aN,Ds,Rd,Y9,EL,wu,aej]
     refine fH [] [(b9,_)] [(b4,_)] [] [_] [] (tt l4 hp (by simp [Lib.byteCells]) (by omega)) ?_ (fun _ _ _ _ _ _ _ _ h=>h.elim)
     rintro v M4 L' R' _ _ _ cE ⟨rfl,rfl,a',c',rfl,rfl⟩
     simp +contextual only [go_sem,sevalprocAttr,ahd]
     rw [dB]
     refine az ⟨m - 2,by omega,rfl,?_,?_,?_,?_,M4,i+2,acc++[39],a',c',_,?_,by omega,by omega,by omega,n9,n4,by rw [List.length_append];simp only [ln];omega,.inr rfl,by simp,?_,?_⟩
     ·simp only [e0,go_sem,sevalprocAttr]
     ·simp only [e1,go_sem,sevalprocAttr]
     ·simp only [e4,go_sem,sevalprocAttr]
     ·simp only [e9,go_sem,sevalprocAttr]
     ·simp only [go_sem,sevalprocAttr]
     ·rw [Xz,bA,HX,h39,hv]
      simp only [kz,if_true]
      rw [Option.map_map]
      congr 1
      funext x
      simp only [Function.comp,List.append_assoc,nn,Prod.mk.injEq,true_and]
      omega
     ·rw [List.length_append];simp [Lib.byteCells]
    ·have aiO:kz (s.drop i)=some ([],1):=by
      rw [bA,h39]
      cases hdr:s.drop (i+1) with
      | nil=>simp [kz]
      | cons d r=>
       have EL:i+1<s.length:=by
        have:=congrArg List.length hdr
        simp only [List.length_drop,List.length_cons] at this
        omega
       have hdd:d≠39:=by
        rintro rfl
        apply hd
        refine ⟨EL,?_⟩
        rw [dq EL] at hdr
        injection hdr with h1 h2
        rw [gq EL,h1]
       simp [kz,hdd]
     rw [aiO] at Xz
     simp only [Option.map_some,List.append_nil] at Xz
     rw [Xz] at dL
     simp only at dL
     have Gh:∀ EL:i+1<s.length,¬ ((s[i+1].toNat:Nat):Int)=39:=by
      intro EL h
      have h2:s[i+1].toNat=39:=by omega
      exact hd ⟨EL,by rw [gq EL];exact congrArg some (UInt8.toNat_inj.1 h2)⟩
     by_cases EL:i+1<s.length
     have wu:=iF EL
     have eD:=Gh EL
     simp +contextual only [go_sem,aE,sevalprocAttr,e0,e9,e10,aN,Ds,Rd,Y9,EL,wu,eD]
     rotate_left
     simp +contextual only [go_sem,aE,sevalprocAttr,e0,e9,e10,aN,Ds,Rd,Y9,EL]
     all_goals
      refine fH [] [(b9,_)] [(b4,_)] [] [] [_] (Y6 T9) ?_ (fun _ _ _ _ _ _ _ _ h=>h.elim)
      rintro v M4 L' R' _ _ _ cE ⟨rfl,rfl,rfl,rfl⟩
      by_cases h60:60<acc.length
      ·rw [if_pos h60] at dL
       have Zw:(60:Int)<(acc.length:Int):=by omega
       simp +contextual only [go_sem,aE,sevalprocAttr,e1,Zw]
       refine bS (gu 4 at_ M4 T9) (fun _ _ _ _ h=>h.elim) ?_
       rintro ch M5 dF bE rfl
       rw [lT,jG]
       exact am (fj.trans oY) ⟨_,_,dL,rfl⟩
      ·rw [if_neg h60] at dL
       have Zw:¬ (60:Int)<(acc.length:Int):=by omega
       simp +contextual only [go_sem,aE,sevalprocAttr,e9,Zw]
       refine fH [] [(b9,_)] [(b4,_)] [] [_] [] (LF (l:=acc) l4 (by omega) (fun h=>by obtain ⟨rfl,rfl⟩:=tf h;rw [h];rfl)) ?_ (fun _ _ _ _ _ _ _ _ h=>h.elim)
       rintro v M5 L' R' _ _ _ bE ⟨rfl,rfl,⟨v',rfl⟩,rfl⟩
       simp only [nn,aJ,and_true] at bE
       simp +contextual only [go_sem,sevalprocAttr,e1,e4,e10,bE,eN,Y9]
       refine am (fj.trans oY) ⟨_,_,dL,?_⟩
       simp only [tkV,st]
       congr 4
       have:i+1=i - 1+1+1:=by omega
       rw [<- this]
   ·have Rd:¬ ((s[i].toNat:Nat):Int)=39:=by
     intro h
     have h2:s[i].toNat=39:=by omega
     exact h39 (UInt8.toNat_inj.1 h2)
    simp +contextual only [go_sem,aE,sevalprocAttr,e0,e9,e10,aN,Ds,Rd]
    refine fH [] [(b9,_)] [(b4,_)] [] [_] [] (tt l4 hp (by simp [Lib.byteCells]) (by omega)) ?_ (fun _ _ _ _ _ _ _ _ h=>h.elim)
    rintro v M4 L' R' _ _ _ cE ⟨rfl,rfl,a',c',rfl,rfl⟩
    simp +contextual only [go_sem,sevalprocAttr,e10,Y9]
    rw [dB]
    refine az ⟨m - 1,by omega,rfl,?_,?_,?_,?_,M4,i+1,acc++[s[i]],a',c',_,?_,by omega,by omega,by omega,n9,n4,by rw [List.length_append];simp only [ln];omega,.inr rfl,by simp,?_,?_⟩
    ·simp only [e0,go_sem,sevalprocAttr]
    ·simp only [e1,go_sem,sevalprocAttr]
    ·simp only [e4,go_sem,sevalprocAttr]
    ·simp only [e9,go_sem,sevalprocAttr]
    ·simp only [go_sem,sevalprocAttr]
    ·have:kz (s.drop i)=(kz (s.drop (i+1))).map fun x=>(s[i]::x.1,x.2+1):=by
      rw [bA]
      cases s.drop (i+1) with
      | nil=>simp [kz,h39]
      | cons d r=>simp [kz,h39]
     rw [Xz,this,Option.map_map]
     congr 1
     funext x
     simp only [Function.comp,List.append_assoc,nn,Prod.mk.injEq,true_and]
     omega
    ·rw [List.length_append];simp [Lib.byteCells]
  ·have:i=s.length:=by omega
   subst this
   rw [List.drop_length] at Xz
   simp only [kz,Option.map_none] at Xz
   rw [Xz] at dL
   simp +contextual only [go_sem,aE,sevalprocAttr,e0,e1,e10,aN]
   refine bS (gu 2 at_ M3 T9) (fun _ _ _ _ h=>h.elim) ?_
   rintro ch M4 dh cE rfl
   rw [lT,jG]
   exact am (fj.trans oY) ⟨_,_,dL,rfl⟩
 ·have hq':¬ ((c.toNat:Nat):Int)=39:=by
   intro h
   have h2:c.toNat=39:=by omega
   exact hq (UInt8.toNat_inj.1 h2)
  rw [if_neg hq] at dL
  simp +contextual only [go_sem,sevalprocAttr,hq']
  intro b84 amb ak7
  refine br 15 86 [(0,st s),(1,.int .i64 at_),(4,.pointer (some ⟨b4,0,none⟩)),(84,.slice (some ⟨b84,0,none⟩) 15 15),(85,.int .i64 ((15:Nat):Int))]
   (fun i e h=>(∃ M',h=⟨T4,M',[(b4,[.int .i64 0,.string (bs []),.int .i64 0])],[]⟩/\M' b84=some (j3.map st)/\M' b4=none)/\j3.find? (fun x=>x.isPrefixOf s)=(j3.drop i).find? (fun x=>x.isPrefixOf s))
   0 (by omega) (by simp only [aG,go_sem,sevalprocAttr]) (by simp only [go_sem,sevalprocAttr]) (aT fun he hb bi=>az ⟨⟨_,rfl,hb,bi.1⟩,rfl⟩) ?_
  rintro i e h hi aI ht ⟨⟨M3,rfl,hw,hn4⟩,BA⟩
  simp only [aG,st] at aI
  by_cases aN:i<15
  ·have kD:i<j3.length:=aN
   have bA:j3.drop i=j3[i]::j3.drop (i+1):=dq kD
   rw [bA] at BA
   have hx:aQ M3 ⟨b84,i,none⟩=some (st j3[i]):=by
    rw [aX hw,List.getElem?_map,gq kD]
    rfl
   have Nr:(i:Int)<15:=by omega
   simp +contextual only [go_sem,aE,sevalprocAttr,aI,ht,Nr,hx]
   refine aD (Lk s j3[i] M3 T4) ?_
   rintro v M4 dh cE rfl
   simp only [aJ,and_true] at cE
   by_cases hp:j3[i].isPrefixOf s=true
   ·simp only [List.find?_cons,hp] at BA
    rw [BA] at dL
    simp +contextual only [go_sem,aE,sevalprocAttr,aI,hp,cE]
    exact am fj ⟨_,_,dL,by simp [tkV,st]⟩
   ·simp only [Bool.not_eq_true] at hp
    simp only [List.find?_cons,hp] at BA
    simp +contextual only [go_sem,aE,sevalprocAttr,ht,hp]
    refine cI aN ?_ ?_ ⟨⟨M4,rfl,dh _ _ hw,cE⟩,BA⟩
    ·simp only [aG,aI,go_sem,sevalprocAttr]
    ·simp only [go_sem,sevalprocAttr,aB i (by omega)]
  ·have:i=15:=by omega
   subst this
   have QN:j3.find? (fun x=>x.isPrefixOf s)=none:=BA
   rw [QN] at dL
   have h33:¬ ((15:Nat):Int)<15:=by omega
   simp +contextual only [go_sem,aE,sevalprocAttr,aI,ht]
   refine bS (gu 2 at_ M3 T4) (fun _ _ _ _ h=>h.elim) ?_
   rintro ch M4 dh cE rfl
   rw [lT,jG]
   exact am fj ⟨_,_,dL,rfl⟩
def Dg (c:UInt8):Bool:=decide (c=32) || decide (c=9) || decide (c=10)
def oD:Nat ->Int ->Bs ->Except (Int×Int) (List Tk)
 | 0,_,_=> .ok []
 | _+1,_,[]=> .ok []
 | f+1,at_,c::l=>if Dg c=true then oD f (at_+1) l else match ET at_ (c::l) with
  | .error x=> .error x
  | .ok (t,n)=>match oD f (at_+n) ((c::l).drop n) with
   | .error x=> .error x
   | .ok ts=> .ok (t::ts)
def qw (s:Bs):Except (Int×Int) (List Tk):=if 4000<s.length then .error (4,0) else oD (s.length+1) 0 s
theorem B3 (p:UInt8 ->Bool)(s:Bs):ny p s<=s.length:=(List.takeWhile_sublist p).length_le
theorem ze {p:UInt8 ->Bool}{c:UInt8}{l:Bs}(h:p c=true):1<=ny p (c::l):=by simp [ny,h]
theorem Lc (p:UInt8 ->Bool)(s:Bs):s.take (ny p s)=s.takeWhile p:=by
 unfold ny
 induction s with
 | nil=>rfl
 | cons c l ih=>
  rw [List.takeWhile_cons]
  split
  ·simp [ih]
  ·simp
theorem Qm:∀ (n:Nat) (l:Bs),l.length<=n ->∀ x,kz l=some x ->x.2<=l.length/\1<=x.2:=by
 intro n
 induction n with
 | zero=>
  intro l hl x hx
  cases l with
  | nil=>cases hx
  | cons c l=>simp at hl
 | succ n ih=>
  intro l hl x hx
  match l,hl,hx with
  | [],_,hx=>cases hx
  | [c],_,hx=>
   simp only [kz] at hx
   split at hx
   ·injection hx with hx;subst hx;simp
   ·cases hx
  | c::d::l,hl,hx=>
   simp only [List.length_cons] at hl
   simp only [kz] at hx
   split at hx
   ·split at hx
    ·obtain ⟨y,hy,rfl⟩:=Option.map_eq_some_iff.1 hx
     have:=ih l (by omega) y hy
     simp only [List.length_cons];omega
    ·injection hx with hx;subst hx;simp
   ·obtain ⟨y,hy,rfl⟩:=Option.map_eq_some_iff.1 hx
    have:=ih (d::l) (by simp only [List.length_cons];omega) y hy
    simp only [List.length_cons] at this ⊢;omega
theorem Jz {at_:Int}{s:Bs}{t:Tk}{n:Nat}(h:ET at_ s=.ok (t,n)):1<=n/\n<=s.length/\(t.k=2 ->u9 t.s=true):=by
 cases s with
 | nil=>cases h
 | cons c l=>
  simp only [ET] at h
  split at h
  ·rename_i hc
   injection h with h;injection h with h1 h2;subst h1 h2
   exact ⟨ze (by simp [K1,hc]),B3 _ _,fun h=>by cases h⟩
  ·split at h
   ·rename_i hc
    split at h
    ·cases h
    ·rename_i zk
     injection h with h;injection h with h1 h2;subst h1 h2
     refine ⟨ze hc,B3 _ _,fun _=> ?_⟩
     have hp:=ze (p:=yl) (l:=l) hc
     have dJ:=B3 yl (c::l)
     simp only [u9,Bool.and_eq_true,decide_eq_true_eq,List.length_take]
     refine ⟨by omega,?_⟩
     rw [Lc]
     show (List.takeWhile yl (c::l)).all yl=true
     exact List.all_takeWhile
   ·split at h
    ·split at h
     ·cases h
     ·rename_i x hx
      split at h
      ·cases h
      ·injection h with h;injection h with h1 h2;subst h1 h2
       have:=Qm _ l (Nat.le_refl _) x hx
       refine ⟨by omega,by simp only [List.length_cons];omega,fun h=>by cases h⟩
    ·split at h
     ·cases h
     ·rename_i x hx
      injection h with h;injection h with h1 h2;subst h1 h2
      have h1:=List.find?_some hx
      have h2:=List.mem_of_find?_eq_some hx
      have h3:∀ x∈j3,1<=x.length:=by decide
      exact ⟨h3 _ h2,(List.isPrefixOf_iff_prefix.1 h1).length_le,fun h=>by cases h⟩
theorem If:∀ (f g:Nat) (at_:Int) (s:Bs),s.length<f ->s.length<g ->oD f at_ s=oD g at_ s:=by
 intro f
 induction f with
 | zero=>intro g at_ s h;omega
 | succ f ih=>
  intro g at_ s hf hg
  obtain ⟨g,rfl⟩:∃ k,g=k+1:=⟨g - 1,by omega⟩
  cases s with
  | nil=>rfl
  | cons c l=>
   simp only [List.length_cons] at hf hg
   simp only [oD]
   split
   ·exact ih g _ l (by omega) (by omega)
   ·cases ho:ET at_ (c::l) with
    | error x=>rfl
    | ok x=>
     obtain ⟨t,n⟩:=x
     obtain ⟨h1,h2,_⟩:=Jz ho
     simp only
     rw [ih g _ ((c::l).drop n) (by simp only [List.length_drop,List.length_cons];omega) (by simp only [List.length_drop,List.length_cons];omega)]
theorem KY (c:UInt8):(0<=Lib.indexByte [32,9,10] c.toNat.toUInt8) ↔ Dg c=true:=by
 have h1:c.toNat.toUInt8=c:=by simp
 rw [h1]
 have:=c.toNat_lt
 simp only [Lib.indexByte,Dg,Bool.or_eq_true,decide_eq_true_eq]
 by_cases h32:c=32
 ·subst h32;decide
 ·by_cases h9:c=9
  ·subst h9;decide
  ·by_cases Jp:c=10
   ·subst Jp;decide
   ·have e1:(32==c)=false:=by simp;exact fun h=>h32 h.symm
    have e2:(9==c)=false:=by simp;exact fun h=>h9 h.symm
    have e3:(10==c)=false:=by simp;exact fun h=>Jp h.symm
    simp [e1,e2,e3,h32,h9,Jp]
theorem BY (l:Bs)(c:Int)(M:aS):Ct Tryz.prog 92 [st l,.int .u8 c] M [] [] (fun r M' _ _=>r=.int .i64 (Lib.indexByte l c.toNat.toUInt8)/\M'=M) aO:=
 wi (by kernel_rfl) fun w hw=>Calls.mono (Tryz.strings_IndexByte (bs l) c w) fun e w' h=>⟨by rw [h.1];rfl,by rw [h.2];exact jW.rfl'⟩
theorem Nc {M:aS}(s:Bs):Ct Tryz.prog 47 [st s] M [] [] (fun r M' _ _=>∃ ts,qw s=.ok ts/\RS M' gn 3 ts r) (fun ch _ _ _=>∃ e a,qw s=.error (e,a)/\ch=rd e a):=by
 intro T
 refine aC F47 rfl rfl ?_
 intro bi _
 unfold qw
 by_cases h4:4000<s.length
 ·have UI:(4000:Int)<(s.length:Int):=by omega
  simp +contextual only [go_sem,aE,sevalprocAttr,UI]
  refine bS (gu 4 0 M T) (fun _ _ _ _ h=>h.elim) ?_
  rintro ch M4 dh cE rfl
  rw [lT,jG]
  exact am aH.rfl' ⟨_,_,if_pos h4,rfl⟩
 ·rw [if_neg h4]
  have UI:¬ (4000:Int)<(s.length:Int):=by omega
  simp +contextual only [go_sem,aE,sevalprocAttr,UI]
  refine ⟨fun m e ds h=>ds=[]/\e 0=st s/\
   ∃ N M' i acc a c xs,aH T N/\e 4=.int .i64 (i:Nat)/\e 3=.slice a acc.length c/\m+i=s.length+1/\i<=s.length/\acc.length<=i/\RL gn acc xs/\
    oD (s.length+1) 0 s=(match oD m (i:Int) (s.drop i) with | .error x=> .error x | .ok ts=> .ok (acc++ts))/\
    h=⟨N,M',[],[(.slice a acc.length c,199,3,xs)]⟩,
   dC (az ⟨s.length+1,rfl,?_,T,M,0,[],none,0,[],aH.rfl',?_,?_,rfl,by omega,by simp,rfl,?_,rfl⟩),?_⟩
  ·simp only [go_sem,sevalprocAttr]
  ·simp only [go_sem,sevalprocAttr]
  ·simp only [go_sem,sevalprocAttr]
  ·rw [List.drop_zero];cases oD (s.length+1) 0 s<;>simp
  rintro m e ds h ⟨rfl,e0,N,M1,i,acc,a,cc,xs,hN,e4,e3,hm,hi,bC,eJ,ax,rfl⟩
  by_cases aN:i<s.length
  ·have hx:=iF aN
   have bA:s.drop i=s[i]::s.drop (i+1):=dq aN
   obtain ⟨m,rfl⟩:∃ k,m=k+1:=⟨m - 1,by omega⟩
   simp +contextual only [go_sem,aE,sevalprocAttr,e0,e4,aN,hx]
   refine aD (BY [32,9,10] (s[i].toNat:Int) M1 N) ?_
   rintro v M2 bg aZ ⟨rfl,rfl⟩
   rw [bA] at ax
   simp only [oD] at ax
   by_cases Dh:Dg s[i]=true
   ·rw [if_pos Dh] at ax
    have aah:=(KY s[i]).2 Dh
    simp +contextual only [go_sem,aE,sevalprocAttr,e4,aah,aB i (by omega)]
    rw [dB]
    refine az ⟨m,by omega,rfl,?_,N,M2,i+1,acc,a,cc,xs,hN,?_,?_,by omega,by omega,by omega,eJ,?_,rfl⟩
    ·simp only [e0,go_sem,sevalprocAttr]
    ·simp only [go_sem,sevalprocAttr]
    ·simp only [e3,go_sem,sevalprocAttr]
    ·exact ax
   ·rw [if_neg Dh] at ax
    have aah:¬ (0<=Lib.indexByte [32,9,10] s[i].toNat.toUInt8):=fun h=>Dh ((KY s[i]).1 h)
    have vB:(s.drop i).take (s.length - i)=s.drop i:=List.take_of_length_le (by simp)
    simp +contextual only [go_sem,aE,sevalprocAttr,e0,e4,aah,hi,vB]
    rw [<- bA] at ax
    refine bS (aai (s:=s.drop i) (at_:=(i:Int)) (by intro h;rw [bA] at h;cases h) (by simp;omega) N) ?_ ?_
    ·rintro v M3 bM bj ⟨t,n,cq,rfl⟩
     obtain ⟨h1,h2,h3⟩:=Jz cq
     rw [List.length_drop] at h2
     rw [cq] at ax
     simp only [List.drop_drop] at ax
     simp +contextual only [go_sem,sevalprocAttr,e3,tkV]
     intro b5 T5 mp nw o9 b6 oZ fq
     have jP:=dO (fun _ _=>qd) eJ
     refine fK Ph SL (.slice _ 1 _ _ _ Tryz.underlying146 (bL [] oZ trivial rfl) (by intro u hu;simp only [mn] at hu;rcases hu with rfl | rfl | rfl<;>rfl)) (by rw [jP];simp only [ln];omega) ?_
     intro ra rm rc iL
     have iH:rm=(acc++[t]).length:=by
      rw [jP] at iL
      rw [List.length_append]
      simp only [ln] at iL ⊢
      omega
     subst iH
     have lI:=cM eJ (cA (r:=gn) (x:=t) ⟨rfl,h3⟩)
     have Y9:IntKind.i64.wrap ((i:Int)+(n:Int))=((i+n:Nat):Int):=by rw [bJ (by omega) (by omega)];omega
     simp +contextual only [go_sem,sevalprocAttr,e4,Y9]
     rw [dB]
     refine ak (ak (az ⟨m+1 - n,by omega,rfl,?_,T5,M3,i+n,acc++[t],ra,rc,_,hN.trans nw,?_,?_,by omega,by omega,by rw [List.length_append];simp only [ln];omega,lI,?_,rfl⟩))
     ·simp only [e0,go_sem,sevalprocAttr]
     ·simp only [go_sem,sevalprocAttr]
     ·simp only [go_sem,sevalprocAttr]
     ·rw [ax,If m (m+1 - n) _ _ (by rw [List.length_drop];omega) (by rw [List.length_drop];omega)]
      rw [show ((i+n:Nat):Int)=(i:Int)+(n:Int) from by omega]
      cases oD (m+1 - n) ((i:Int)+(n:Int)) (s.drop (i+n))<;>simp
    ·rintro ch M3 bM bj ⟨er,a,li,rfl⟩
     rw [li] at ax
     rw [lT,jG]
     exact am hN ⟨_,_,ax,rfl⟩
  ·have jQ:i=s.length:=by omega
   subst jQ
   obtain ⟨m,rfl⟩:∃ k,m=k+1:=⟨m - 1,by omega⟩
   rw [List.drop_length] at ax
   simp only [oD,List.append_nil] at ax
   simp +contextual only [go_sem,aE,sevalprocAttr,e0,e3,e4,aN]
   exact bT fun M2 bg aZ gi=>aM hN rfl rfl ⟨acc,ax,by omega,xs,gi,eJ⟩
open Go Vc Go.RowKit
theorem CH (p q:Addr)(w:World):
 CallsD Tryz.prog 46 #[.pointer (some p),.pointer (some q)] .returning w fun e u' w'=>e=.returned (.tuple #[])/\u'=.returning/\w'=w:=by
 have mixed:=mx
 refine callsD_of_wpS Tryz.func46 rfl fun c₀ cs hu=> ?_
 apply wpS_seq
 apply wpS_region
 simp [wpOpsS,go_sem,recoverD,hu,Exit.thenS]
 refine wpS_of_wp ?_
 go_wp2
 cases c₀
 simp_all [bodyPostS,results]
theorem Hy {F:Fi}{c:Code}{e:dj}{ds:List Deferred}{h:Sh}(hr:cj Tryz.prog F [.code c] e ds h ⟨⟩):TY Tryz.prog F.dr c F.k e ds h:=hr
def BG (e a:Int)(r:Bool):PanicEntry:={v:=.iface 144 (.agg #[.int .i64 e,.int .i64 a]),recovered:=r}
set_option maxHeartbeats 4000000 in
theorem Ej {w:World}{U:List Nat}{T:Tm}{M:aS}{bs:List (Option Nat)}{b2 b3:Nat}{er a:Int}{v1 v2 v3:Value}(hi:Hp ⟨w,M,U⟩ ⟨T,M,[(b2,[v1]),(b3,[v2,v3])],[]⟩ w bs):
 CallsD Tryz.prog 46 #[.pointer (some ⟨b2,0,none⟩),.pointer (some ⟨b3,0,none⟩)] (.panicking [BG er a false]) w fun e u' w'=>e=.returned (.tuple #[])/\u'=.panicking [BG er a true]/\
  zB w U T M [b2,b3] 0 M [(b2,[.slice none 0 0]),(b3,[.int .i64 er,.int .i64 a])] [] w':=by
 have mixed:=mx
 have hTA:∀ (v:Array Value) (w:World),(Instr.typeAssert (.iface 144 (.agg v)) 20 144 true).run Tryz.prog w=.ok (.tuple #[.agg v,.bool true]) w:=fun _ _=>by kernel_rfl
 refine callsD_of_wpS Tryz.func46 rfl fun c₀ cs hu=> ?_
 unfold BG at hu
 apply wpS_seq
 apply wpS_region
 simp [wpOpsS,go_sem,recoverD,hu,Exit.thenS]
 refine wpS_of_wp ?_
 go_wp2
 have h2:=hi.alloc (t:=144) [.int .i64 er,.int .i64 a]
 have fX:=h2.apart
 have lH:=h2.nodup
 have hns:M w.heap.size=none:=(fX _ (by simp)).1
 have rW:M b2=none:=(fX _ (by simp)).1
 have P8:M b3=none:=(fX _ (by simp)).1
 have hp:(¬ w.heap.size=b2/\¬ w.heap.size=b3/\¬ b2=b3)/\(¬ b2=w.heap.size/\¬ b3=w.heap.size/\¬ b3=b2):=by
  simp at lH
  obtain ⟨⟨h1,h2,_⟩,⟨h3,_⟩,_⟩:=lH
  exact ⟨⟨h1,h2,h3⟩,fun h=>h1 h.symm,fun h=>h2 h.symm,fun h=>h3 h.symm⟩
 refine wp_mono (j6 (c₀:=⟨w,M,U⟩) (n:=13) (dr:=[(7,.take 0<| .take 1<| .eff 2 false (.eff 3 true (.done)<| .no)<| .no)]) mx _ (Fi.k ⟨[(7,.take 0<| .take 1<| .eff 2 false (.eff 3 true (.done)<| .no)<| .no)],fun _ ds h=>ds=[]/\bK h (ur T [b2,b3] 0 (fun _ M' L' R'=>M'=M/\L'=[(b2,[.slice none 0 0]),(b3,[.int .i64 er,.int .i64 a])]/\R'=[]) undef),fun _ _ _ _=>False⟩)
  (fun t=>Array.getD _ t undef) [] _ _ _ (by kernel_rfl) ⟨?_,rfl,fun _=>rfl⟩ ⟨_,h2⟩ ?_) ?_
 ·simp
 ·refine Hy (F:=⟨[(7,.take 0<| .take 1<| .eff 2 false (.eff 3 true (.done)<| .no)<| .no)],_,_⟩) ?_
  generalize hE:(fun t=>Array.getD _ t undef)=env
  have e0:env 0=.pointer (some ⟨b2,0,none⟩):=by rw [<- hE];simp
  have e1:env 1=.pointer (some ⟨b3,0,none⟩):=by rw [<- hE];simp
  have e3:env 3=.pointer (some ⟨w.heap.size,0,none⟩):=by rw [<- hE];simp
  clear hE
  have hT:aH T (T.add w.heap.size 144):=hi.extT
  generalize w.heap.size=bx at*
  simp +contextual only [go_sem,sevalprocAttr]
  refine ⟨fun _ _ _ _ _ _ _ _ _ h=>h,?_⟩
  refine eL ⟨T,fun _=>none,[(bx,_)],[]⟩ (gA hns) ?_
  simp +contextual only [go_sem,sevalprocAttr,e0,e1,e3,hp]
  refine ⟨gA hns,?_⟩
  exact ak (aM hT rfl rfl ⟨rfl,rfl,rfl⟩)
 ·rintro ex act w' hq
  cases ex with
  | normal=>
   obtain ⟨e,ds,h,ha,hw,rfl,cO⟩:=hq
   obtain ⟨h',gP,hT,hk,hR,hM,hL,MI⟩:=cO _ _ hw
   have iW:=j9 hT gP hk hR
   rw [hM,hL,MI] at iW
   have Dr:=ha.2.1
   simp only [Exit.inBlock]
   cases c₀
   exact ⟨Dr,_,rfl,.tuple #[],results_none rfl _ _ _,rfl,rfl,iW⟩
  | ret=>
   obtain ⟨e,ds,h,ha,hw,rfl,cO⟩:=hq
   obtain ⟨h',gP,hT,hk,hR,hM,hL,MI⟩:=cO _ _ hw
   have iW:=j9 hT gP hk hR
   rw [hM,hL,MI] at iW
   have Dr:=ha.2.1
   simp only [Exit.inBlock]
   cases c₀
   exact ⟨Dr,_,rfl,.tuple #[],results_none rfl _ _ _,rfl,rfl,iW⟩
  | panic ch=>obtain ⟨_,_,_,_,_,h⟩:=hq;exact h.elim
  | exit id=>obtain ⟨_,_,_,_,_,h⟩:=hq;exact h.elim
  | goto l=>exact hq.elim
  | outgrown=>exact hq.elim
def rdD (b2 b3:Nat)(ag:Array Value):Deferred:={target:=.fn (.func 46) ⟨[.pointer (some ⟨b2,0,none⟩),.pointer (some ⟨b3,0,none⟩)]⟩,args:=ag}
def Te (T:Tm)(ts:List ResultVar)(post:ez)(e:dj)(ds:List Deferred)(h:Sh):Prop:=
 ∃ b2 b3 ag,ds=[rdD b2 b3 ag]/\ag.toList=[]/\ed (nS Tryz.prog e h ts) fun vs=>bK h (ur T [] 0 post (vy vs))
def JL (T:Tm)(post:ez)(ch:List PanicEntry)(e:dj)(ds:List Deferred)(h:Sh):Prop:=
 ∃ b2 b3 ag er a,ds=[rdD b2 b3 ag]/\ag.toList=[]/\e 2=.pointer (some ⟨b2,0,none⟩)/\e 3=.pointer (some ⟨b3,0,none⟩)/\ch=[BG er a false]/\
  bK h fun h'=>aH T h'.N/\h'.R=[]/\(∃ v1 v2 v3,h'.L=[(b2,[v1]),(b3,[v2,v3])])/\post (.tuple ⟨[.slice none 0 0,flt er a]⟩) h'.M [] []
def MU (T:Tm)(dr:List (Nat×Sched))(ts:List ResultVar)(post:ez):Fi:=⟨dr,Te T ts post,JL T post⟩
theorem Wg {b2 b3:Nat}{ag:Array Value}(h:ag.toList=[]):ag++(⟨[.pointer (some ⟨b2,0,none⟩),.pointer (some ⟨b3,0,none⟩)]⟩:Array Value)= #[.pointer (some ⟨b2,0,none⟩),.pointer (some ⟨b3,0,none⟩)]:=by
 apply Array.toList_inj.1
 simp [h]
theorem AP {a:Array Value}{R:Ending ->World ->Prop}{w:World}{b2 b3:Nat}{ag:Array Value}{u:FrameMode}{fn:Func}(h:ag.toList=[])(hu:u≠ .run)
 (hc:CallsD Tryz.prog 46 #[.pointer (some ⟨b2,0,none⟩),.pointer (some ⟨b3,0,none⟩)] u w fun
  | .returned _,u',w'=>Leaves Tryz.prog fn a R [] (settle u') w'
  | .panicked chain,u',w'=>Leaves Tryz.prog fn a R [] (raised u' chain) w'
  | .outgrown,_,w'=>R .outgrown w'):Leaves Tryz.prog fn a R [rdD b2 b3 ag] u w:=by
 refine leaves_cons (f:=46) (args:= #[.pointer (some ⟨b2,0,none⟩),.pointer (some ⟨b3,0,none⟩)]) hu ?_ hc
 show (invoke (.fn (.func 46) _) ag).run Tryz.prog w=_
 have Ta:=Tryz.func46
 simp only [invoke,callFunc,Sem.run_bind,Result.andThen_ok,run_program,Ta]
 rw [Wg h]
 rfl
theorem Jb {fn:Func}{T:Tm}{dr U M post}(hr:fn.results.toList=[.cell 2 68,.cell 3 62]){w0:World}{ex:Exit}{a:Act}{w:World}{n:Nat}
 (hq:KontL.toQ ⟨w0,M,U⟩ n (MU T dr fn.results.toList post).k ex a w):bodyPostD Tryz.prog fn (Ot U T M [] 0 post aO w0) ex a w:=by
 have FT:∀ {e ds h},Fr n a e ds ->Is ⟨w0,M,U⟩ h w ->Te T fn.results.toList post e ds h ->Leaves Tryz.prog fn a.tmps (Ot U T M [] 0 post aO w0) a.defers .returning w:=by
  rintro e ds h ha hw ⟨b2,b3,ag,rfl,On,hd⟩
  rw [ha.2.1]
  refine AP On (by simp) ?_
  refine (CH _ _ w).mono ?_
  rintro en u' w' ⟨rfl,rfl,rfl⟩
  obtain ⟨vs,Of,cO⟩:=cJ hd
  obtain ⟨h',gP,hT,hk,hR,hp⟩:=cO _ _ hw
  exact ⟨_,lM hw Of ha.2.2,h'.M,h'.L,h'.R,j9 hT gP hk hR,hp⟩
 cases ex with
 | normal=>obtain ⟨e,ds,h,ha,hw,hd⟩:=hq;exact FT ha hw hd
 | ret=>obtain ⟨e,ds,h,ha,hw,hd⟩:=hq;exact FT ha hw hd
 | panic ch=>
  obtain ⟨e,ds,h,ha,hw,b2,b3,ag,er,ar,rfl,On,e2,e3,rfl,cO⟩:=hq
  show Leaves Tryz.prog fn a.tmps _ a.defers (.panicking _) w
  rw [ha.2.1]
  obtain ⟨⟨N,M',L',R'⟩,⟨bs,hi⟩,hT,hR,⟨v1,v2,v3,hL⟩,hp⟩:=cO _ _ hw
  simp only at hT hR hL hp
  subst hR hL
  have XP:bs=[]:=by simpa using hi.rows.1.symm
  subst XP
  have jQ:Hp ⟨w0,M,U⟩ ⟨N,M',[]++[(b2,[v1]),(b3,[v2,v3])]++[],[]++[]++[]⟩ w ([]++[]++[]):=by simpa using hi
  have xj:=jQ.enter rfl rfl
  refine AP On (by simp) ?_
  refine (Ej (er:=er) (a:=ar) xj).mono ?_
  rintro en u' w' ⟨rfl,rfl,⟨⟨bp',C9⟩,hk,hRl⟩⟩
  have Xv:bp'=[]:=by simpa using C9.rows.1.symm
  subst Xv
  have p4:=jQ.frame (b1:=[]) (bp:=[]) (b2:=[]) rfl rfl rfl C9 hk hRl
  have uC:Hp ⟨w0,M,U⟩ ⟨N,M',[(b2,[.slice none 0 0]),(b3,[.int .i64 er,.int .i64 ar])],[]⟩ w' []:=by simpa using p4
  have hIs:Is ⟨w0,M,U⟩ ⟨N,M',[(b2,[.slice none 0 0]),(b3,[.int .i64 er,.int .i64 ar])],[]⟩ w':=⟨[],uC⟩
  have rW:M' b2=none:=(uC.apart _ (by simp)).1
  have P8:M' b3=none:=(uC.apart _ (by simp)).1
  have cD:¬ b2=b3/\¬ b3=b2:=by
   have:=uC.nodup
   simp at this
   exact ⟨this,fun h=>this h.symm⟩
  have ax:nS Tryz.prog e ⟨N,M',[(b2,[.slice none 0 0]),(b3,[.int .i64 er,.int .i64 ar])],[]⟩ fn.results.toList=some [.slice none 0 0,flt er ar]:=by
   rw [hr]
   simp +contextual only [go_sem,sevalprocAttr,e2,e3,rW,P8,cD]
   rfl
  have QB:settle (.panicking [BG er ar true])=.returning:=rfl
  show Leaves Tryz.prog fn a.tmps _ [] (settle (.panicking [BG er ar true])) w'
  rw [QB]
  obtain ⟨h',gP,hT',Dp,MI,Fw⟩:=(am (T:=T) (R:=[]) (L:=[(b2,[.slice none 0 0]),(b3,[.int .i64 er,.int .i64 ar])]) (post:=post) (v:=.tuple ⟨[.slice none 0 0,flt er ar]⟩) hT hp) _ _ hIs
  exact ⟨_,lM hIs ax ha.2.2,h'.M,h'.L,h'.R,j9 hT' gP Dp MI,Fw⟩
 | exit id=>obtain ⟨_,_,_,_,_,h⟩:=hq;exact h.elim
 | goto l=>exact hq.elim
 | outgrown=>exact hq.elim
theorem V4 {f:FuncId}{fn:Func}{c:Code}{args:List Value}{dr}{T:Tm}{M post}(A7:de Tryz.prog f=true)
 (hf:Tryz.prog.funcs[f]?=some fn) (hb:fn.body=some c) (hn:args.length<=fn.ntmps) (hc:eo Tryz.prog fn.ntmps dr c=true) (hr:fn.results.toList=[.cell 2 68,.cell 3 62])
 (h:cj Tryz.prog (MU T dr fn.results.toList post) [.code c] (mQ args) [] ⟨T,M,[],[]⟩ ⟨⟩):cw Tryz.prog f args T M [] [] post aO:=by
 refine ⟨A7,fun w U hw=>calls_of_wp_defers hf hb ?_⟩
 obtain ⟨h1,h2,h3⟩:=hw.facts
 have:=j6 (c₀:=⟨w,M,U⟩) mx c (MU T dr fn.results.toList post).k (mQ args) [] ⟨T,M,[],[]⟩ w _ hc (fr0 args.toArray fn.ntmps (by simpa using hn)) h3 h
 exact wp_mono this fun ex a w' hq=>Jb hr hq
def ee (l:List Bs):Int:=if l.all eM=true then 0 else 7
theorem sd {M:aS}{l:List Bs}{sv:Value}(hg:eX M)(hs:RS M pX 1 l sv):Ct Tryz.prog 126 [sv] M [] [] (fun r _ _ _=>r=.int .i64 (ee l)) aO:=by
 intro T
 obtain ⟨hb,a,c,rfl,dJ,_,fU⟩:=aF (by decide) (fun _ _=>ep) hs
 refine aC Pg rfl rfl ?_
 intro bi _
 simp +contextual only [go_sem,aE,sevalprocAttr]
 refine aY l.length 7 [(5,.slice a l.length c),(6,.int .i64 l.length)] (fun i e h=>(∃ M',bh M M'/\h=⟨T,M',[],[]⟩)/\ee l=ee (l.drop i)) 0 (by omega) (by simp only [aG,go_sem,sevalprocAttr]) (by simp only [go_sem,sevalprocAttr]) ⟨⟨M,bh.rfl',rfl⟩,rfl⟩ ?_
 rintro i e h hi aI ht ⟨⟨M1,aV,rfl⟩,ax⟩
 simp only [aG] at aI
 by_cases aN:i<l.length
 ·obtain ⟨b,o,cs,rfl,cG,cC⟩:=fU i l[i] (gq aN)
  unfold pX at cC;subst cC
  have hx:=ay aV cG.1
  rw [Nat.mul_one] at hx
  have bA:l.drop i=l[i]::l.drop (i+1):=dq aN
  rw [bA] at ax
  simp +contextual only [go_sem,aE,sevalprocAttr,aI,ht,aN,hx]
  refine aD (sx (hg.ext aV) l[i] T) ?_
  rintro v M2 bg _ rfl
  by_cases hn:eM l[i]=true
  ·simp +contextual only [go_sem,aE,sevalprocAttr,ht,hn]
   refine cI aN ?_ ?_ ⟨⟨M2,aV.trans bg,rfl⟩,?_⟩
   ·simp only [aG,aI,go_sem,sevalprocAttr]
   ·simp only [go_sem,sevalprocAttr,aB i (by omega)]
   ·rw [ax];simp only [ee,List.all_cons,hn,Bool.true_and]
  ·simp +contextual only [go_sem,aE,sevalprocAttr,hn]
   refine am aH.rfl' ?_
   simp only [Bool.not_eq_true] at hn
   rw [ax];simp only [ee,List.all_cons,hn,Bool.false_and,if_false,Bool.false_eq_true]
 ·have:i=l.length:=by omega
  subst this
  simp +contextual only [go_sem,aE,sevalprocAttr,aI,ht,aN]
  refine am aH.rfl' ?_
  rw [ax];simp [ee]
def eB (s:Bs):Int:=if s=[] then 0 else ee [s]
theorem Eo {M:aS}(s:Bs)(hg:eX M):Ct Tryz.prog 231 [st s] M [] [] (fun r _ _ _=>r=.int .i64 (eB s)) aO:=by
 intro T
 refine aC afZ rfl rfl ?_
 intro bi _
 by_cases hs:s=[]
 ·simp +contextual only [go_sem,aE,sevalprocAttr,hs]
  exact am aH.rfl' (by simp [eB])
 ·simp +contextual only [go_sem,aE,sevalprocAttr,hs]
  intro b hb
  refine di Pg.bd fun M1 aV fD bG=> ?_
  have hl:RS M1 pX 1 [s] (.slice (some ⟨b,0,none⟩) 1 1):=cK (fun _ _=>ep) fD (kq [s]) rfl (by decide)
  refine aD (sd (hg.ext aV) hl T) ?_
  rintro v M2 bg _ rfl
  simp +contextual only [go_sem,sevalprocAttr]
  exact am aH.rfl' (by simp [eB,hs])
mutual
def fN (bq n:Nat):X ->Int×Nat
 | .mk k v tab name kids=>if 200<n+1\/20<bq then (4,n+1) else if kW k<0 then (1,n+1) else if (kids.length:Int)≠kW k then (5,n+1)
  else if k=1 then (gC v,n+1) else if k=2/\(eM name=false\/(tab≠[]/\eM tab=false)) then (7,n+1) else gE (bq+1) (n+1) kids
def gE (bq n:Nat):List X ->Int×Nat
 | []=>(0,n)
 | x::l=>if (fN bq n x).1≠0 then fN bq n x else gE bq (fN bq n x).2 l
end
mutual
theorem qf (bq n:Nat):∀ x,n<=200 ->(fN bq n x).2<=201/\((fN bq n x).1=0 ->(fN bq n x).2<=200)
 | .mk k v tab name kids,hn=>by
  rw [fN]
  by_cases h:200<n+1\/20<bq
  ·rw [if_pos h];exact ⟨by show n+1<=201;omega,fun h=>by cases h⟩
  ·have ih:=Aq (bq+1) (n+1) kids (by omega)
   rw [if_neg h]
   repeat' split
   all_goals first | exact ih | exact ⟨by show n+1<=201;omega,fun _=>by show n+1<=200;omega⟩
theorem Aq (bq n:Nat):∀ l,n<=200 ->(gE bq n l).2<=201/\((gE bq n l).1=0 ->(gE bq n l).2<=200)
 | [],hn=>by rw [gE];exact ⟨by show n<=201;omega,fun _=>hn⟩
 | x::l,hn=>by
  rw [gE]
  have hx:=qf bq n x hn
  split
  ·exact hx
  ·rename_i h0
   exact Aq bq _ l (hx.2 (Classical.not_not.1 h0))
end
theorem uJ {M:aS}{b o:Nat}{x:X}{cs:List Value}(h:RX M x cs)(ha:At M b o cs):∃ s,RS M (RX M) 7 x.kids s/\aQ M ⟨b,o,none⟩=some (.int .i64 x.k)/\aQ M ⟨b,o+1,none⟩=some (.int .i64 x.v.k)/\aQ M ⟨b,o+2,none⟩=some (.int .i64 x.v.n)/\aQ M ⟨b,o+3,none⟩=some (st x.v.t)/\
 aQ M ⟨b,o+4,none⟩=some (st x.tab)/\aQ M ⟨b,o+5,none⟩=some (st x.name)/\aQ M ⟨b,o+6,none⟩=some s:=by
 obtain ⟨s,rfl,_,hs⟩:=bR h
 exact ⟨s,hs,ha.1,ha.2.1,ha.2.2.1,ha.2.2.2.1,ha.2.2.2.2.1,ha.2.2.2.2.2.1,ha.2.2.2.2.2.2.1⟩
theorem Q6:∀ (sz:Nat) (x:X),SizeOf.sizeOf x<=sz ->∀ (M:aS) (T:Tm) (b o hb bq n:Nat) (cs:List Value),eX M ->At M b o cs ->RX M x cs ->n<=200 ->bq<=21 ->
 cw Tryz.prog 176 [.pointer (some ⟨hb,0,none⟩),.pointer (some ⟨b,o,none⟩),.int .i64 (bq:Int)] T M [(hb,[.int .i64 (n:Int)])] [] (fun r M' L' R'=>r=.int .i64 (fN bq n x).1/\L'=[(hb,[.int .i64 ((fN bq n x).2:Int)])]/\R'=[]) aO:=by
 intro sz
 induction sz with
 | zero=>intro x hx;cases x;simp at hx
 | succ sz ih=>
  intro x ej M T b o hb bq n cs hg ha hx hn Q0
  obtain ⟨s,hs,m0,m1,m2,m3,m4,m5,m6⟩:=uJ hx ha
  obtain ⟨fS,a,c,rfl,dJ,_,fU⟩:=aF (by decide) (fun _ _=>dl) hs
  refine aC adj rfl rfl ?_
  intro bi _
  simp only [aJ,and_true] at bi
  have ZA:=aB n (by omega)
  have Z1:=aB bq (by omega)
  cases x with | mk k v tab name kids=>
  simp only [X.k,X.v,X.tab,X.name,X.kids] at m0 m1 m2 m3 m4 m5 m6 fU dJ hs fS
  obtain ⟨S,hS⟩:∃ S,S=fN bq n (.mk k v tab name kids):=⟨_,rfl⟩
  rw [<- hS]
  rw [fN] at hS
  simp +contextual only [go_sem,aE,sevalprocAttr,bi,ZA,m0]
  by_cases pr:200<n+1\/20<bq
  ·rw [if_pos pr] at hS
   rw [if_pos (by omega)]
   exact aM aH.rfl' rfl rfl ⟨by rw [hS],by rw [hS],rfl⟩
  rw [if_neg pr] at hS
  rw [if_neg (by omega)]
  refine aD (Eg k M T) ?_
  rintro r M1 aV bG rfl
  simp only [aJ,and_true] at bG
  have ly:=hg.ext aV
  replace m0:=ay aV m0
  replace m1:=ay aV m1
  replace m2:=ay aV m2
  replace m3:=ay aV m3
  replace m4:=ay aV m4
  replace m5:=ay aV m5
  replace m6:=ay aV m6
  simp +contextual only [go_sem,sevalprocAttr]
  refine je (fun e ds h=>ds=[]/\e 0=.pointer (some ⟨hb,0,none⟩)/\e 1=.pointer (some ⟨b,o,none⟩)/\e 2=.int .i64 (bq:Int)/\S=gE (bq+1) (n+1) kids/\∃ M',bh M1 M'/\M' hb=none/\h=⟨T,M',[(hb,[.int .i64 ((n+1:Nat):Int)])],[]⟩) (fun S' dU=> ?_) ?_
  ·by_cases kd:kW k<0
   ·rw [if_pos kd] at hS
    simp +contextual only [go_sem,aE,sevalprocAttr,kd]
    exact aM aH.rfl' rfl rfl ⟨by rw [hS],by rw [hS],rfl⟩
   rw [if_neg kd] at hS
   by_cases oJ:(kids.length:Int)=kW k
   ·rw [if_neg (fun h=>h oJ)] at hS
    by_cases h1:k=1
    ·subst h1
     rw [if_pos rfl] at hS
     simp +contextual only [go_sem,aE,sevalprocAttr,kd,oJ,m0,m1,m2,m3,m6]
     refine aD (iU v M1 T) ?_
     rintro r M2 bg aZ rfl
     simp +contextual only [go_sem,sevalprocAttr]
     exact aM aH.rfl' rfl rfl ⟨by rw [hS],by rw [hS],rfl⟩
    rw [if_neg h1] at hS
    by_cases h2:k=2
    ·subst h2
     simp +contextual only [go_sem,aE,sevalprocAttr,kd,oJ,m0,m5,m6]
     refine aD (sx ly name T) ?_
     rintro r M2 bg aZ rfl
     simp only [aJ,and_true] at aZ
     replace m4:=ay bg m4
     by_cases zn:eM name=true
     ·by_cases TW:tab=[]
      ·rw [if_neg (by rintro ⟨_,h | ⟨h,_⟩⟩;rw [zn] at h;cases h;exact h TW)] at hS
       subst TW
       simp +contextual only [go_sem,aE,sevalprocAttr,zn,m4]
       refine dU _ _ _ ⟨rfl,?_,?_,?_,hS,M2,bg,aZ,rfl⟩
       all_goals simp only [go_sem,sevalprocAttr]
      ·simp +contextual only [go_sem,sevalprocAttr,zn,m4,TW]
       refine aD (sx (ly.ext bg) tab T) ?_
       rintro r M3 bM bj rfl
       simp only [aJ,and_true] at bj
       by_cases rW:eM tab=true
       ·rw [if_neg (by rintro ⟨_,h | ⟨_,h⟩⟩;rw [zn] at h;cases h;rw [rW] at h;cases h)] at hS
        simp +contextual only [go_sem,aE,sevalprocAttr,zn,rW]
        refine dU _ _ _ ⟨rfl,?_,?_,?_,hS,M3,bg.trans bM,bj,rfl⟩
        all_goals simp only [go_sem,sevalprocAttr]
       ·rw [if_pos ⟨rfl,.inr ⟨TW,by simpa using rW⟩⟩] at hS
        simp +contextual only [go_sem,aE,sevalprocAttr,zn,rW]
        exact aM aH.rfl' rfl rfl ⟨by rw [hS],by rw [hS],rfl⟩
     ·rw [if_pos ⟨rfl,.inl (by simpa using zn)⟩] at hS
      simp +contextual only [go_sem,aE,sevalprocAttr,zn]
      exact aM aH.rfl' rfl rfl ⟨by rw [hS],by rw [hS],rfl⟩
    ·rw [if_neg (fun h=>h2 h.1)] at hS
     simp +contextual only [go_sem,aE,sevalprocAttr,kd,oJ,h1,h2,m0,m6]
     refine dU _ _ _ ⟨rfl,?_,?_,?_,hS,M1,bh.rfl',bG,rfl⟩
     all_goals simp only [go_sem,sevalprocAttr]
   ·rw [if_pos oJ] at hS
    simp +contextual only [go_sem,aE,sevalprocAttr,kd,oJ,m6]
    exact aM aH.rfl' rfl rfl ⟨by rw [hS],by rw [hS],rfl⟩
  ·clear hS
   rintro e ds h ⟨rfl,e0,e1,e2,hS,M2,bg,n2,rfl⟩
   replace m6:=ay bg m6
   simp +contextual only [go_sem,aE,sevalprocAttr,e1,m6]
   refine aY kids.length 87 [(0,.pointer (some ⟨hb,0,none⟩)),(1,.pointer (some ⟨b,o,none⟩)),(2,.int .i64 (bq:Int)),(86,.int .i64 (kids.length:Int))] (fun i e h=>∃ (M':aS) (n':Nat),bh M2 M'/\M' hb=none/\n'<=200/\h=⟨T,M',[(hb,[.int .i64 (n':Int)])],[]⟩/\S=gE (bq+1) n' (kids.drop i))
    0 (by omega) (by simp only [aG,e0,e1,e2,go_sem,sevalprocAttr]) (by simp only [go_sem,sevalprocAttr]) ⟨M2,n+1,bh.rfl',n2,by omega,rfl,hS⟩ ?_
   clear hS e0 e1 e2
   rintro i e h hi aI ht ⟨M3,n',bM,n3,NJ,rfl,hS⟩
   simp only [aG] at aI
   replace m6:=ay bM m6
   by_cases aN:i<kids.length
   ·obtain ⟨b',o',cs',rfl,cG,fy⟩:=fU i kids[i] (gq aN)
    have lW:=(aV.trans bg).trans bM
    have bA:kids.drop i=kids[i]::kids.drop (i+1):=dq aN
    rw [bA,gE] at hS
    have De:SizeOf.sizeOf kids[i]<=sz:=by
     have h1:=List.sizeOf_lt_of_mem (gm aN)
     simp only [X.mk.sizeOf_spec] at ej
     omega
    have mz:=qf (bq+1) n' kids[i] NJ
    simp +contextual only [go_sem,aE,sevalprocAttr,aI,ht,aN,m6,Z1]
    refine dz [] (ih kids[i] De M3 T b' _ hb (bq+1) n' cs' (hg.ext lW) (cG.ext lW) (bB lW _ _ fy) NJ (by omega)) ?_ (fun _ _ _ _ _ _ h=>h.elim)
    rintro r M4 L' dh X9 cE ⟨rfl,rfl, -⟩
    simp only [List.nil_append,aJ,and_true] at cE
    by_cases hr:(fN (bq+1) n' kids[i]).1=0
    ·rw [if_neg (fun h=>h hr)] at hS
     simp +contextual only [go_sem,aE,sevalprocAttr,ht,hr]
     refine cI aN ?_ ?_ ⟨M4,_,bM.trans dh,cE,mz.2 hr,rfl,hS⟩
     ·simp only [aG,aI,go_sem,sevalprocAttr]
     ·simp only [go_sem,sevalprocAttr,aB i (by omega)]
    ·rw [if_pos hr] at hS
     simp +contextual only [go_sem,aE,sevalprocAttr,hr]
     exact aM aH.rfl' rfl rfl ⟨by rw [hS],by rw [hS],rfl⟩
   ·have:i=kids.length:=by omega
    subst this
    rw [List.drop_length,gE] at hS
    simp +contextual only [go_sem,aE,sevalprocAttr,aI,ht,aN]
    exact aM aH.rfl' rfl rfl ⟨by rw [hS],by rw [hS],rfl⟩
theorem oz {F:Fi}{f:FuncId}{args:List Value}{dd:Option Nat}{s:List Vc.Item}{e:dj}{ds:List Deferred}{N:Tm}{M:aS}{L:LL}{R:RR}(hb:de Tryz.prog f=true)
 (h:∀ M',bh M M' ->pE M' L ->dk Tryz.prog F f args dd s e ds ⟨N,M',[],R⟩ ⟨⟩):dk Tryz.prog F f args dd s e ds ⟨N,M,L,R⟩ ⟨⟩:=
 cQ (k:=fun h'=>∃ M',bh M M'/\pE M' L/\h'=⟨N,M',[],R⟩) (lf fun M' he hL=>az ⟨M',he,hL,rfl⟩) (by rintro h' ⟨M',he,hL,rfl⟩;exact h M' he hL) hb
def gt (x:X):Int:=(fN 1 0 x).1
theorem nP {M:aS}{x:X}{cs:List Value}(hg:eX M)(hx:RX M x cs):Ct Tryz.prog 128 [.agg ⟨cs⟩] M [] [] (fun r _ _ _=>r=.int .i64 (gt x)) aO:=by
 intro T
 obtain ⟨s,rfl,h1,_⟩:=bR hx
 refine aC ah2 rfl rfl ?_
 intro bi _
 simp +contextual only [go_sem,sevalprocAttr]
 intro b1 T1 fD cV ig b4 T4 dI dY fj gH
 refine rH adj.bd fun M1 aV Wd bG=> ?_
 have ha:At M1 b1 0 [.int .i64 x.k,.int .i64 x.v.k,.int .i64 x.v.n,st x.v.t,st x.tab,st x.name,s]:=kJ Wd _ 0 (fun i v h=>by rw [Nat.zero_add];exact h)
 refine dz [] (Q6 _ x (Nat.le_refl _) M1 T4 b1 0 b4 1 0 _ (hg.ext aV) ha (bB aV _ _ hx) (by omega) (by omega)) ?_ (fun _ _ _ _ _ _ h=>h.elim)
 rintro r M2 L' bg iJ aZ ⟨rfl,rfl, -⟩
 simp +contextual only [go_sem,sevalprocAttr]
 exact am (cV.trans fj) rfl
def qH (a b:Int):Int:=if a≠0 then a else b
def eY:List Int ->Int | []=>0 | a::l=>qH a (eY l)
abbrev ZX (f:Nat×List Value×Int)(cs:List Value):Prop:=cs=[.func (.func f.1) ⟨[]⟩ ⟨f.2.1⟩]
theorem DR {M:aS}{fs:List (Nat×List Value×Int)}{sv:Value}{es:List Int}(he:(fs.map fun f=>f.2.2)=es)(hs:RS M ZX 1 fs sv)
 (hf:∀ f∈fs,∀ M' T,bh M M' ->cw Tryz.prog f.1 f.2.1 T M' [] [] (fun r _ _ _=>r=.int .i64 f.2.2) aO):Ct Tryz.prog 228 [sv] M [] [] (fun r _ _ _=>r=.int .i64 (eY es)) aO:=by
 intro T
 subst he
 obtain ⟨hb,a,c,rfl,dJ,_,fU⟩:=aF (by decide) (fun _ _ h=>by unfold ZX at h;subst h;rfl) hs
 refine aC YU rfl rfl ?_
 intro bi _
 simp +contextual only [go_sem,aE,sevalprocAttr]
 refine aY fs.length 8 [(6,.slice a fs.length c),(7,.int .i64 fs.length)] (fun i e h=>(∃ M',bh M M'/\h=⟨T,M',[],[]⟩)/\eY (fs.map fun f=>f.2.2)=eY ((fs.drop i).map fun f=>f.2.2)) 0 (by omega) (by simp only [aG,go_sem,sevalprocAttr]) (by simp only [go_sem,sevalprocAttr]) ⟨⟨M,bh.rfl',rfl⟩,rfl⟩ ?_
 rintro i e h hi aI ht ⟨⟨M1,aV,rfl⟩,ax⟩
 simp only [aG] at aI
 by_cases aN:i<fs.length
 ·obtain ⟨b,o,cs,rfl,cG,cC⟩:=fU i fs[i] (gq aN)
  unfold ZX at cC;subst cC
  have hx:=ay aV cG.1
  rw [Nat.mul_one] at hx
  have bA:fs.drop i=fs[i]::fs.drop (i+1):=dq aN
  rw [bA] at ax
  simp +contextual only [go_sem,aE,sevalprocAttr,aI,ht,aN,hx]
  refine aD (hf fs[i] (gm aN) M1 T aV) ?_
  rintro v M2 bg _ rfl
  simp only [List.map_cons,eY,qH] at ax
  by_cases hn:fs[i].2.2=0
  ·rw [if_neg (fun h=>h hn)] at ax
   simp +contextual only [go_sem,aE,sevalprocAttr,ht,hn]
   refine cI aN ?_ ?_ ⟨⟨M2,aV.trans bg,rfl⟩,ax⟩
   ·simp only [aG,aI,go_sem,sevalprocAttr]
   ·simp only [go_sem,sevalprocAttr,aB i (by omega)]
  ·rw [if_pos hn] at ax
   simp +contextual only [go_sem,aE,sevalprocAttr,hn]
   refine am aH.rfl' ?_
   rw [ax]
 ·have:i=fs.length:=by omega
  subst this
  simp +contextual only [go_sem,aE,sevalprocAttr,aI,ht,aN]
  refine am aH.rfl' ?_
  rw [ax];simp [eY]
theorem my {M:aS}{b o:Nat}{x:X}{cs:List Value}(h:RX M x cs)(ha:At M b o cs):∃ s,cs=[.int .i64 x.k,.int .i64 x.v.k,.int .i64 x.v.n,st x.v.t,st x.tab,st x.name,s]/\s.oneCell'=true/\aQ M ⟨b,o,none⟩=some (.int .i64 x.k)/\aQ M ⟨b,o+1,none⟩=some (.int .i64 x.v.k)/\aQ M ⟨b,o+2,none⟩=some (.int .i64 x.v.n)/\aQ M ⟨b,o+3,none⟩=some (st x.v.t)/\
 aQ M ⟨b,o+4,none⟩=some (st x.tab)/\aQ M ⟨b,o+5,none⟩=some (st x.name)/\aQ M ⟨b,o+6,none⟩=some s:=by
 obtain ⟨s,rfl,h1,hs⟩:=bR h
 exact ⟨s,rfl,h1,ha.1,ha.2.1,ha.2.2.1,ha.2.2.2.1,ha.2.2.2.2.1,ha.2.2.2.2.2.1,ha.2.2.2.2.2.2.1⟩
theorem Y5 {M:aS}{b o:Nat}{x:So}{cs:List Value}(h:Do M x cs)(ha:At M b o cs):aQ M ⟨b,o,none⟩=some (.int .i64 x.k)/\aQ M ⟨b,o+1,none⟩=some (st x.name)/\aQ M ⟨b,o+2,none⟩=some (st x.as)/\∃ c,RX M x.on c/\At M b (o+3) c:=by
 obtain ⟨c,hx,rfl⟩:=h
 rw [gb] at ha
 exact ⟨ha.1.1,ha.1.2.1,ha.1.2.2.1,c,hx,ha.2⟩
def ld (i:Nat)(s:So):Int:=
 if (¬ (decide (s.k=1)==decide ((i:Int)=0))=true\/s.k<1)\/5<s.k then 1 else
 if eY [ee [s.name],eB s.as]≠0\/i=0 then eY [ee [s.name],eB s.as] else gt s.on
theorem Hz {M:aS}{p b o:Nat}{n:Bs}(hg:eX M)(hp:M p=some [.pointer (some ⟨b,o,none⟩)])(hn:aQ M ⟨b,o+1,none⟩=some (st n)):Ct Tryz.prog 273 [.pointer (some ⟨p,0,none⟩)] M [] [] (fun r _ _ _=>r=.int .i64 (ee [n])) aO:=by
 intro T
 refine aC ajB rfl rfl ?_
 intro bi _
 simp +contextual only [go_sem,sevalprocAttr,aX hp,hn]
 intro b1 fD
 refine di Pg.bd fun M1 aV fD bG=> ?_
 have hl:RS M1 pX 1 [n] (.slice (some ⟨b1,0,none⟩) 1 1):=cK (fun _ _=>ep) fD (kq [n]) rfl (by decide)
 refine aD (sd (hg.ext aV) hl T) ?_
 rintro v M2 bg _ rfl
 simp +contextual only [go_sem,sevalprocAttr]
 exact am aH.rfl' rfl
theorem IP {M:aS}{p b o:Nat}{n:Bs}(hg:eX M)(hp:M p=some [.pointer (some ⟨b,o,none⟩)])(hn:aQ M ⟨b,o+2,none⟩=some (st n)):Ct Tryz.prog 274 [.pointer (some ⟨p,0,none⟩)] M [] [] (fun r _ _ _=>r=.int .i64 (eB n)) aO:=by
 intro T
 refine aC ag6 rfl rfl ?_
 intro bi _
 simp +contextual only [go_sem,sevalprocAttr,aX hp,hn]
 refine aD (Eo n hg T) ?_
 rintro v M2 bg _ rfl
 simp +contextual only [go_sem,sevalprocAttr]
 exact am aH.rfl' rfl
theorem HU {M:aS}{b o:Nat}{x:So}{cs:List Value}(i:Nat)(hg:eX M)(hx:Do M x cs)(ha:At M b o cs):Ct Tryz.prog 232 [.int .i64 (i:Int),.pointer (some ⟨b,o,none⟩)] M [] [] (fun r _ _ _=>r=.int .i64 (ld i x)) aO:=by
 intro T
 obtain ⟨m0,m1,m2,c,hc,wr⟩:=Y5 hx ha
 obtain ⟨s,rfl,ho,m3,m4,m5,m6,m7,m8,m9⟩:=my hc wr
 refine aC aj6 rfl rfl ?_
 intro bi _
 obtain ⟨S,hS⟩:∃ S,S=ld i x:=⟨_,rfl⟩
 rw [<- hS]
 unfold ld at hS
 simp +contextual only [go_sem,aE,sevalprocAttr,m0]
 intro b1 T1 fD cV ig
 by_cases hk:(¬ (decide (x.k=1)==decide ((i:Int)=0))=true\/x.k<1)\/5<x.k
 ·rw [if_pos hk] at hS ⊢
  exact am cV (by rw [hS])
 rw [if_neg hk] at hS ⊢
 intro b2 ey gx
 refine oz YU.bd fun M1 aV hL1=> ?_
 obtain ⟨QN,lV, -⟩:=hL1
 have ly:=hg.ext aV
 have OQ:RS M1 ZX 1 [(273,[.pointer (some ⟨b1,0,none⟩)],ee [x.name]),(274,[.pointer (some ⟨b1,0,none⟩)],eB x.as)] (.slice (some ⟨b2,0,none⟩) 2 2):=
  cK (fun _ _ h=>by unfold ZX at h;subst h;rfl) QN ⟨_,_,rfl,rfl,_,_,rfl,rfl,rfl⟩ rfl (by decide)
 refine aD (DR (es:=[ee [x.name],eB x.as]) rfl OQ (fun f hf M' T mW=> ?_) T1) ?_
 ·simp only [mn] at hf
  rcases hf with rfl | rfl
  ·exact Hz (ly.ext mW) (mW _ _ lV) (ay (aV.trans mW) m1) T
  ·exact IP (ly.ext mW) (mW _ _ lV) (ay (aV.trans mW) m2) T
 rintro v M2 bg _ rfl
 generalize eY [ee [x.name],eB x.as]=E at hS ⊢
 have eh:=aV.trans bg
 replace m3:=ay eh m3
 replace m4:=ay eh m4
 replace m5:=ay eh m5
 replace m6:=ay eh m6
 replace m7:=ay eh m7
 replace m8:=ay eh m8
 replace m9:=ay eh m9
 have TS:=bg _ _ lV
 by_cases hE:E=0
 ·by_cases rU:i=0
  ·rw [if_pos (.inr rU)] at hS
   subst rU
   simp +contextual only [go_sem,aE,sevalprocAttr,hE]
   exact am cV (by rw [hS,hE])
  ·rw [if_neg (by rintro (h | h);exact h hE;exact rU h)] at hS
   have H4:¬ (i:Int)=0:=by omega
   simp +contextual only [go_sem,aE,sevalprocAttr,hE,H4,aX TS,m3,m4,m5,m6,m7,m8,m9]
   refine aD (nP (hg.ext eh) (bB eh _ _ hc) T1) ?_
   rintro v M3 bM _ rfl
   simp +contextual only [go_sem,sevalprocAttr]
   exact am cV (by rw [hS])
 ·rw [if_pos (.inl hE)] at hS
  simp +contextual only [go_sem,aE,sevalprocAttr,hE]
  exact am cV (by rw [hS])
theorem ql {T0 T:Tm}{M M':aS}{L:LL}{R:RR}(h:bh M M'):fZ ⟨T0,M,[],[]⟩ ⟨T,M',L,R⟩:=by
 intro a v hv
 simp only [Sh.cell] at hv ⊢
 cases hm:aQ M a with
 | some u=>
  rw [hm] at hv
  injection hv with hv;subst hv
  rw [ay h hm]
 | none=>
  rw [hm] at hv
  simp [dK] at hv
theorem SK {M:aS}{b o:Nat}{x:It}{cs:List Value}(h:xh M x cs)(ha:At M b o cs):aQ M ⟨b,o+7,none⟩=some (st x.as)/\∃ c,RX M x.x c/\At M b o c:=by
 obtain ⟨c,hx,rfl⟩:=h
 rw [gb,dl hx] at ha
 exact ⟨ha.2.1,c,hx,ha.1⟩
theorem Sb {M:aS}{p q b o i:Nat}{items:List It}{iv:Value}(hg:eX M)(hp:M p=some [.pointer (some ⟨b,o,none⟩)])(hq:M q=some [.int .i64 (i:Int)])(hn:aQ M ⟨b,o+2,none⟩=some iv)(hi:RS M (xh M) 8 items iv)(aN:i<items.length):
 Ct Tryz.prog 229 [.pointer (some ⟨p,0,none⟩),.pointer (some ⟨q,0,none⟩)] M [] [] (fun r _ _ _=>r=.int .i64 (gt items[i].x)) aO:=by
 intro T
 obtain ⟨hb,a,c,rfl,dJ,_,fU⟩:=aF (by decide) (fun _ _=>jE) hi
 obtain ⟨b',o',cs,rfl,cG,cC⟩:=fU i items[i] (gq aN)
 obtain ⟨m7,c',hx,wr⟩:=SK cC cG
 obtain ⟨s,rfl,ho,m0,m1,m2,m3,m4,m5,m6⟩:=my hx wr
 refine aC agM rfl rfl ?_
 intro bi _
 simp +contextual only [go_sem,sevalprocAttr]
 refine aU ?_
 simp +contextual only [go_sem,sevalprocAttr,aX hp,aX hq,hn,aN,m0,m1,m2,m3,m4,m5,m6]
 refine aD (nP hg hx T) ?_
 rintro v M3 bM _ rfl
 simp +contextual only [go_sem,sevalprocAttr]
 exact ⟨ql bM,am aH.rfl' rfl⟩
theorem Sm {M:aS}{p q b o i:Nat}{items:List It}{iv:Value}(hg:eX M)(hp:M p=some [.pointer (some ⟨b,o,none⟩)])(hq:M q=some [.int .i64 (i:Int)])(hn:aQ M ⟨b,o+2,none⟩=some iv)(hi:RS M (xh M) 8 items iv)(aN:i<items.length):
 Ct Tryz.prog 230 [.pointer (some ⟨p,0,none⟩),.pointer (some ⟨q,0,none⟩)] M [] [] (fun r _ _ _=>r=.int .i64 (eB items[i].as)) aO:=by
 intro T
 obtain ⟨hb,a,c,rfl,dJ,_,fU⟩:=aF (by decide) (fun _ _=>jE) hi
 obtain ⟨b',o',cs,rfl,cG,cC⟩:=fU i items[i] (gq aN)
 obtain ⟨m7,c',hx,wr⟩:=SK cC cG
 refine aC aj4 rfl rfl ?_
 intro bi _
 simp +contextual only [go_sem,sevalprocAttr]
 refine aU ?_
 simp +contextual only [go_sem,sevalprocAttr,aX hp,aX hq,hn,aN,m7]
 refine aD (Eo items[i].as hg T) ?_
 rintro v M3 bM _ rfl
 simp +contextual only [go_sem,sevalprocAttr]
 exact ⟨ql bM,am aH.rfl' rfl⟩
theorem Z6 {M:aS}{b o:Nat}{x:Se}{cs:List Value}(h:Cv M x cs)(ha:At M b o cs):∃ i f g,RS M (xh M) 8 x.items i/\RS M (Do M) 10 x.src f/\RS M (RX M) 7 x.group g/\
 aQ M ⟨b,o+1,none⟩=some (.bool x.star)/\aQ M ⟨b,o+2,none⟩=some i/\aQ M ⟨b,o+3,none⟩=some f/\aQ M ⟨b,o+4,none⟩=some (.bool x.hasW)/\aQ M ⟨b,o+5,none⟩=some (.bool x.hasH)/\
 (∃ c,RX M x.wh c/\At M b (o+6) c)/\(∃ c,RX M x.hv c/\At M b (o+13) c)/\aQ M ⟨b,o+20,none⟩=some g:=by
 obtain ⟨i,f,w,hh,g,h1,h2,h3,h4,h5,rfl⟩:=h
 rw [gb,gb,gb,dl h3,dl h4] at ha
 obtain ⟨⟨_,a1,a2,a3,a4,a5,_⟩,aw,ah,ag,_⟩:=ha
 exact ⟨i,f,g,h1,h2,h5,a1,a2,a3,a4,a5,⟨w,h3,aw⟩,⟨hh,h4,ah⟩,ag⟩
def ol:List It ->Int | []=>0 | x::l=>qH (eY [gt x.x,eB x.as]) (ol l)
def iQ:Nat ->List So ->Int | _,[]=>0 | i,x::l=>qH (ld i x) (iQ (i+1) l)
def ec:List X ->Int | []=>0 | x::l=>qH (gt x) (ec l)
def l9 (x:Se):Bool:=decide (((x.src.length:Int)<1\/4<(x.src.length:Int))\/8<(x.group.length:Int)) || !x.star && (decide ((x.items.length:Int)<1) || decide (8<(x.items.length:Int)))
def An (x:Se):Int:=if x.hasH=true then gt x.hv else 0
def Gl (x:Se):Int:=qH (ec x.group) (An x)
def si (x:Se):Int:=qH (if x.hasW=true then gt x.wh else 0) (Gl x)
def xE (x:Se):Int:=qH (iQ 0 x.src) (si x)
def qE (x:Se):Int:=if l9 x=true then 5 else qH (if x.star=true then 0 else ol x.items) (xE x)
theorem bO {a b:Int}(h:a≠0):qH a b=a:=if_pos h
theorem gS (b:Int):qH 0 b=b:=if_neg (fun h'=>h' rfl)
theorem Rw {a b:Int}(h:a=0):qH a b=b:=if_neg (fun h'=>h' h)
theorem JF {M:aS}{b o:Nat}{x:Se}{cs:List Value}(hg:eX M)(hx:Cv M x cs)(ha:At M b o cs):Ct Tryz.prog 175 [.pointer (some ⟨b,o,none⟩)] M [] [] (fun r _ _ _=>r=.int .i64 (qE x)) aO:=by
 intro T
 obtain ⟨iv,fv,gv,hi,hf,vj,m1,m2,m3,m4,m5,⟨wc,hw,haw⟩,⟨vc,hv,hav⟩,m20⟩:=Z6 hx ha
 have rU:=hi
 obtain ⟨hib,ia,ic,rfl,A2,_,akW⟩:=aF (by decide) (fun _ _=>jE) hi
 obtain ⟨NY,fa,fc,rfl,Ad,_,Gi⟩:=aF (by decide) (fun _ _=>lj) hf
 obtain ⟨hgb,ga,gc,rfl,Jt,_,EA⟩:=aF (by decide) (fun _ _=>dl) vj
 obtain ⟨sw,rfl,ow,w0,w1,w2,w3,w4,w5,w6⟩:=my hw haw
 obtain ⟨sv,rfl,ov,v0,v1,v2,v3,v4,v5,v6⟩:=my hv hav
 obtain ⟨S,hS⟩:∃ S,S=qE x:=⟨_,rfl⟩
 rw [<- hS]
 unfold qE at hS
 refine aC ajc rfl rfl ?_
 intro bi _
 simp +contextual only [go_sem,sevalprocAttr,m1,m2,m3,m20]
 intro b1 T1 fD cV ig
 show sj _ _ (.bool (l9 x)) _ _ _ _ _ _ _
 cases QG:l9 x with
 | true=>
  rw [if_pos QG] at hS
  simp +contextual only [go_sem,aE,sevalprocAttr]
  exact am cV (by rw [hS])
 | false=>
 rw [if_neg (by rw [QG];exact Bool.false_ne_true)] at hS
 rw [cd,if_neg Bool.false_ne_true]
 simp +contextual only [go_sem,sevalprocAttr,fD,m2]
 refine je (fun e ds h=>ds=[]/\e 1=.pointer (some ⟨b1,0,none⟩)/\S=xE x/\∃ N M' L,aH T N/\bh M M'/\M' b1=some [.pointer (some ⟨b,o,none⟩)]/\h=⟨N,M',L,[]⟩) (fun S' dU=> ?_) ?_
 ·simp +contextual only [go_sem,aE,sevalprocAttr]
  refine br x.items.length 61 [(1,.pointer (some ⟨b1,0,none⟩)),(60,.int .i64 (x.items.length:Int))]
   (fun i e h=>∃ N M',aH T N/\bh M M'/\M' b1=some [.pointer (some ⟨b,o,none⟩)]/\h=⟨N,M',[],[]⟩/\S=qH (if x.star=true then 0 else ol (x.items.drop i)) (xE x))
   0 (by omega) (by simp only [aG,go_sem,sevalprocAttr]) (by simp only [go_sem,sevalprocAttr]) (aT fun he hb bi=>az ⟨T1,_,cV,he,hb,rfl,hS⟩) ?_
  clear hS
  rintro i e h hi aI ht ⟨N,M1,hN,aV,lV,rfl,hS⟩
  simp only [aG] at aI
  have n1:=ay aV m1
  by_cases aN:i<x.items.length
  ·cases kE:x.star with
   | true=>
    rw [if_pos kE,Rw rfl] at hS
    simp +contextual only [go_sem,aE,sevalprocAttr,aI,ht,aN,aX lV,n1,kE]
    intro b3 N3 gj YL hZ
    refine dU _ _ _ ⟨rfl,?_,hS,N3,M1,_,hN.trans YL,aV,lV,rfl⟩
    simp only [aI,go_sem,sevalprocAttr]
   | false=>
    have bA:x.items.drop i=x.items[i]::x.items.drop (i+1):=dq aN
    rw [if_neg (by rw [kE];exact Bool.false_ne_true),bA,ol] at hS
    simp +contextual only [go_sem,aE,sevalprocAttr,aI,ht,aN,aX lV,n1,kE]
    intro b3 N3 gj YL hZ b70 amX alp
    refine oz YU.bd fun M2 bg hL2=> ?_
    obtain ⟨QN,hq2, -⟩:=hL2
    have eh:=aV.trans bg
    have tg:=hg.ext eh
    have TS:=bg _ _ lV
    have jQ:=aL eh (jA eh) rU
    have OQ:RS M2 ZX 1 [(229,[.pointer (some ⟨b1,0,none⟩),.pointer (some ⟨b3,0,none⟩)],gt x.items[i].x),(230,[.pointer (some ⟨b1,0,none⟩),.pointer (some ⟨b3,0,none⟩)],eB x.items[i].as)] (.slice (some ⟨b70,0,none⟩) 2 2):=
     cK (fun _ _ h=>by unfold ZX at h;subst h;rfl) QN ⟨_,_,rfl,rfl,_,_,rfl,rfl,rfl⟩ rfl (by decide)
    refine aD (DR (es:=[gt x.items[i].x,eB x.items[i].as]) rfl OQ (fun f hf M' T mW=> ?_) N3) ?_
    ·simp only [mn] at hf
     rcases hf with rfl | rfl
     ·exact Sb (tg.ext mW) (mW _ _ TS) (mW _ _ hq2) (ay (eh.trans mW) m2) (aL mW (jA mW) jQ) aN T
     ·exact Sm (tg.ext mW) (mW _ _ TS) (mW _ _ hq2) (ay (eh.trans mW) m2) (aL mW (jA mW) jQ) aN T
    rintro v M3 bM _ rfl
    generalize eY [gt x.items[i].x,eB x.items[i].as]=E at hS ⊢
    by_cases hE:E=0
    ·rw [hE,gS] at hS
     simp +contextual only [go_sem,aE,sevalprocAttr,ht,hE]
     refine cI aN ?_ ?_ ⟨N3,M3,hN.trans YL,eh.trans bM,bM _ _ TS,rfl,?_⟩
     ·simp only [aG,aI,go_sem,sevalprocAttr]
     ·simp only [go_sem,sevalprocAttr,aB i (by omega)]
     ·exact hS
    ·rw [bO hE,bO hE] at hS
     simp +contextual only [go_sem,aE,sevalprocAttr,hE]
     exact am (hN.trans YL) (by rw [hS])
  ·have:i=x.items.length:=by omega
   subst this
   rw [List.drop_length] at hS
   have hS2:S=xE x:=by rw [hS];cases x.star<;>rfl
   simp +contextual only [go_sem,aE,sevalprocAttr,aI,ht,aN]
   refine dU _ _ _ ⟨rfl,?_,hS2,N,M1,[],hN,aV,lV,rfl⟩
   simp only [aI,go_sem,sevalprocAttr]
 clear hS
 rintro e ds h ⟨rfl,e1,hS,N,M1,L1,hN,aV,lV,rfl⟩
 simp +contextual only [go_sem,sevalprocAttr,e1,aX lV,ay aV m3]
 refine je (fun e ds h=>ds=[]/\e 1=.pointer (some ⟨b1,0,none⟩)/\S=si x/\∃ N M',aH T N/\bh M M'/\M' b1=some [.pointer (some ⟨b,o,none⟩)]/\h=⟨N,M',[],[]⟩) (fun S' dU=> ?_) ?_
 ·simp +contextual only [go_sem,aE,sevalprocAttr]
  refine br x.src.length 81 [(1,.pointer (some ⟨b1,0,none⟩)),(80,.int .i64 (x.src.length:Int))]
   (fun i e h=>∃ M',bh M M'/\M' b1=some [.pointer (some ⟨b,o,none⟩)]/\h=⟨N,M',[],[]⟩/\S=qH (iQ i (x.src.drop i)) (si x))
   0 (by omega) (by simp only [aG,e1,go_sem,sevalprocAttr]) (by simp only [go_sem,sevalprocAttr]) (cX (az ⟨M1,aV,lV,rfl,hS⟩)) ?_
  clear hS e1 lV aV
  rintro i e h hi aI ht ⟨M1,aV,lV,rfl,hS⟩
  simp only [aG] at aI
  by_cases aN:i<x.src.length
  ·obtain ⟨b',o',cs',rfl,cG,cC⟩:=Gi i x.src[i] (gq aN)
   have bA:x.src.drop i=x.src[i]::x.src.drop (i+1):=dq aN
   rw [bA,iQ] at hS
   simp +contextual only [go_sem,aE,sevalprocAttr,aI,ht,aN,aX lV,ay aV m3]
   refine aD (HU i (hg.ext aV) (pU aV _ _ cC) (cG.ext aV) N) ?_
   rintro v M2 bg _ rfl
   by_cases hE:ld i x.src[i]=0
   ·rw [hE,gS] at hS
    simp +contextual only [go_sem,aE,sevalprocAttr,ht,hE]
    refine cI aN ?_ ?_ ⟨M2,aV.trans bg,bg _ _ lV,rfl,hS⟩
    ·simp only [aG,aI,go_sem,sevalprocAttr]
    ·simp only [go_sem,sevalprocAttr,aB i (by omega)]
   ·rw [bO hE,bO hE] at hS
    simp +contextual only [go_sem,aE,sevalprocAttr,hE]
    exact am hN (by rw [hS])
  ·have:i=x.src.length:=by omega
   subst this
   rw [List.drop_length,iQ,gS] at hS
   simp +contextual only [go_sem,aE,sevalprocAttr,aI,ht,aN]
   refine dU _ _ _ ⟨rfl,?_,hS,N,M1,hN,aV,lV,rfl⟩
   simp only [aI,go_sem,sevalprocAttr]
 clear hS e1 lV aV hN
 rintro e ds h ⟨rfl,e1,hS,N,M1,hN,aV,lV,rfl⟩
 unfold si at hS
 simp +contextual only [go_sem,sevalprocAttr,e1,aX lV,ay aV m4]
 refine dQ (fun e ds h=>ds=[]/\e 1=.pointer (some ⟨b1,0,none⟩)/\S=Gl x/\∃ M',bh M M'/\M' b1=some [.pointer (some ⟨b,o,none⟩)]/\h=⟨N,M',[],[]⟩) (fun S' dU=> ?_) ?_
 ·cases hW:x.hasW with
  | false=>
   rw [if_neg (by rw [hW];exact Bool.false_ne_true),gS] at hS
   simp +contextual only [go_sem,aE,sevalprocAttr]
   refine dU _ _ _ ⟨rfl,?_,hS,M1,aV,lV,rfl⟩
   simp only [e1,go_sem,sevalprocAttr]
  | true=>
   rw [if_pos hW] at hS
   simp +contextual only [go_sem,aE,sevalprocAttr,e1,aX lV,ay aV w0,ay aV w1,ay aV w2,ay aV w3,ay aV w4,ay aV w5,ay aV w6]
   refine aD (nP (hg.ext aV) (bB aV _ _ hw) N) ?_
   rintro v M2 bg _ rfl
   by_cases hE:gt x.wh=0
   ·rw [hE,gS] at hS
    simp +contextual only [go_sem,aE,sevalprocAttr,hE]
    refine dU _ _ _ ⟨rfl,?_,hS,M2,aV.trans bg,bg _ _ lV,rfl⟩
    simp only [e1,go_sem,sevalprocAttr]
   ·rw [bO hE] at hS
    simp +contextual only [go_sem,aE,sevalprocAttr,hE]
    exact am hN (by rw [hS])
 clear hS e1 lV aV
 rintro e ds h ⟨rfl,e1,hS,M1,aV,lV,rfl⟩
 unfold Gl at hS
 simp +contextual only [go_sem,sevalprocAttr,e1,aX lV,ay aV m20]
 refine je (fun e ds h=>ds=[]/\e 1=.pointer (some ⟨b1,0,none⟩)/\S=An x/\∃ N M',aH T N/\bh M M'/\M' b1=some [.pointer (some ⟨b,o,none⟩)]/\h=⟨N,M',[],[]⟩) (fun S' dU=> ?_) ?_
 ·simp +contextual only [go_sem,aE,sevalprocAttr]
  refine aY x.group.length 113 [(1,.pointer (some ⟨b1,0,none⟩)),(111,.slice ga x.group.length gc),(112,.int .i64 (x.group.length:Int))]
   (fun i e h=>∃ N M',aH T N/\bh M M'/\M' b1=some [.pointer (some ⟨b,o,none⟩)]/\h=⟨N,M',[],[]⟩/\S=qH (ec (x.group.drop i)) (An x))
   0 (by omega) (by simp only [aG,e1,go_sem,sevalprocAttr]) (by simp only [go_sem,sevalprocAttr]) ⟨N,M1,hN,aV,lV,rfl,hS⟩ ?_
  clear hS e1 lV aV hN
  rintro i e h hi aI ht ⟨N,M1,hN,aV,lV,rfl,hS⟩
  simp only [aG] at aI
  by_cases aN:i<x.group.length
  ·obtain ⟨b',o',cs',rfl,cG,cC⟩:=EA i x.group[i] (gq aN)
   obtain ⟨sg,rfl,og,g0,g1,g2,g3,g4,g5,g6⟩:=my cC cG
   have bA:x.group.drop i=x.group[i]::x.group.drop (i+1):=dq aN
   rw [bA,ec] at hS
   simp +contextual only [go_sem,aE,sevalprocAttr,aI,ht,aN,ay aV g0,ay aV g1,ay aV g2,ay aV g3,ay aV g4,ay aV g5,ay aV g6,og]
   intro b9 N9 lu Cq l4
   refine aD (nP (hg.ext aV) (bB aV _ _ cC) N9) ?_
   rintro v M2 bg _ rfl
   by_cases hE:gt x.group[i]=0
   ·rw [hE,gS] at hS
    simp +contextual only [go_sem,aE,sevalprocAttr,ht,hE]
    rw [dB]
    refine ak (az ⟨x.group.length - (i+1),by omega,rfl,i+1,by omega,rfl,?_,?_,N9,M2,hN.trans Cq,aV.trans bg,bg _ _ lV,rfl,hS⟩)
    ·simp only [aG,aI,go_sem,sevalprocAttr]
    ·simp only [go_sem,sevalprocAttr,aB i (by omega)]
   ·rw [bO hE,bO hE] at hS
    simp +contextual only [go_sem,aE,sevalprocAttr,hE]
    exact am (hN.trans Cq) (by rw [hS])
  ·have:i=x.group.length:=by omega
   subst this
   rw [List.drop_length,ec,gS] at hS
   simp +contextual only [go_sem,aE,sevalprocAttr,aI,ht,aN]
   refine dU _ _ _ ⟨rfl,?_,hS,N,M1,hN,aV,lV,rfl⟩
   simp only [aI,go_sem,sevalprocAttr]
 clear hS e1 lV aV hN
 rintro e ds h ⟨rfl,e1,hS,N,M1,hN,aV,lV,rfl⟩
 unfold An at hS
 cases hH:x.hasH with
 | false=>
  rw [if_neg (by rw [hH];exact Bool.false_ne_true)] at hS
  rw [hH] at m5
  simp +contextual only [go_sem,aE,sevalprocAttr,e1,aX lV,ay aV m5]
  exact am hN (by rw [hS])
 | true=>
  rw [if_pos hH] at hS
  rw [hH] at m5
  simp +contextual only [go_sem,aE,sevalprocAttr,e1,aX lV,ay aV m5,ay aV v0,ay aV v1,ay aV v2,ay aV v3,ay aV v4,ay aV v5,ay aV v6]
  refine aD (nP (hg.ext aV) (bB aV _ _ hv) N) ?_
  rintro v M2 bg _ rfl
  simp +contextual only [go_sem,sevalprocAttr]
  exact am hN (by rw [hS])
theorem ae8 {M:aS}{b o:Nat}{x:Q}{cs:List Value}(h:RQ M x cs)(ha:At M b o cs):∃ p f g,RS M (Cv M) 21 x.parts p/\RS M RI 1 x.ops f/\RS M (RX M) 7 x.order g/\
 aQ M ⟨b,o,none⟩=some p/\aQ M ⟨b,o+1,none⟩=some f/\aQ M ⟨b,o+2,none⟩=some g/\aQ M ⟨b,o+3,none⟩=some (.int .i64 x.limit):=by
 obtain ⟨p,f,g,h1,h2,h3,rfl⟩:=h
 exact ⟨p,f,g,h1,h2,h3,ha.1,ha.2.1,ha.2.2.1,ha.2.2.2.1⟩
def kR (ops:List Int):Nat ->List Se ->Int
 | _,[]=>0
 | i,s::l=>if 0<i/\(ops.getD (i - 1) 0<1\/4<ops.getD (i - 1) 0) then 1 else qH (qE s) (kR ops (i+1) l)
def ku (q:Q):Int:=if q.limit<0 then 0 else ec q.order
def fC (q:Q):Bool:=decide ((((q.parts.length:Int)<1\/4<(q.parts.length:Int))\/(q.ops.length:Int)≠(q.parts.length:Int) - 1)\/(0<=q.limit/\((q.order.length:Int)<1\/8<(q.order.length:Int))))
def jn (q:Q):Int:=if fC q=true then 5 else if 50<q.limit then 3 else qH (kR q.ops 0 q.parts) (ku q)
theorem Au {M:aS}{b o:Nat}{x:Q}{cs:List Value}(hg:eX M)(hx:RQ M x cs)(ha:At M b o cs):Ct Tryz.prog 125 [.pointer (some ⟨b,o,none⟩)] M [] [] (fun r _ _ _=>r=.int .i64 (jn x)) aO:=by
 intro T
 obtain ⟨pv,fv,gv,hp,hf,vj,m0,m1,m2,m3⟩:=ae8 hx ha
 obtain ⟨hpb,pa,pc,rfl,oF,_,aey⟩:=aF (by decide) (fun _ _=>jd) hp
 obtain ⟨NY,fa,fc,rfl,Ad,_,Gi⟩:=aF (by decide) (fun _ _=>bV) hf
 obtain ⟨hgb,ga,gc,rfl,Jt,_,EA⟩:=aF (by decide) (fun _ _=>dl) vj
 have zq:IntKind.i64.wrap ((x.parts.length:Int) - 1)=(x.parts.length:Int) - 1:=bJ (by omega) (by omega)
 obtain ⟨S,hS⟩:∃ S,S=jn x:=⟨_,rfl⟩
 rw [<- hS]
 unfold jn at hS
 refine aC agj rfl rfl ?_
 intro bi _
 simp +contextual only [go_sem,sevalprocAttr]
 refine lS (fun e ds h=>ds=[]/\e 0=.pointer (some ⟨b,o,none⟩)/\e 58=.bool (fC x)/\h=⟨T,M,[],[]⟩) (fun S' dU=> ?_) ?_
 ·have fin:∀ {e:dj} {t:Bool},e 0=.pointer (some ⟨b,o,none⟩) ->e 58=.bool t ->t=fC x ->cj Tryz.prog (fi Tryz.prog T [(1,.take 0<| .take 1<| .take 2<| .take 3<| .take 4<| .take 5<| .take 6<| .take 7<| .take 8<| .take 9<| .take 10<| .take 11<| .take 12<| .take 13<| .take 14<| .take 15<| .take 16<| .take 17<| .take 20<| .take 21<| .take 22<| .take 18<| .take 19<| .take 23<| .take 24<| .take 25<| .take 26<| .take 27<| .take 28<| .take 29<| .take 30<| .take 31<| .take 32<| .take 33<| .take 34<| .take 35<| .take 36<| .take 37<| .take 38<| .take 39<| .take 40<| .take 41<| .take 42<| .take 43<| .take 44<| .take 45<| .take 46<| .take 47<| .take 48<| .take 49<| .take 50<| .done)] [ResultVar.tmp 2] (keys []) 0 (fun r x x_1 x_2=>r=Value.int IntKind.i64 S) aO) S' e [] ⟨T,M,[],[]⟩ ⟨⟩:=by
   intro e t h0 h1 h2
   exact dU _ _ _ ⟨rfl,h0,by rw [h1,h2],rfl⟩
  refine aU ?_
  by_cases c1:(x.parts.length:Int)<1
  ·simp +contextual only [go_sem,sevalprocAttr,m0,c1]
   refine fin (t:=true) ?_ ?_ ?_
   ·simp only [go_sem,sevalprocAttr]
   ·simp only [go_sem,sevalprocAttr]
   ·simp [fC,c1]
  by_cases c2:4<(x.parts.length:Int)
  ·simp +contextual only [go_sem,sevalprocAttr,m0,c1,c2]
   refine fin (t:=true) ?_ ?_ ?_
   ·simp only [go_sem,sevalprocAttr]
   ·simp only [go_sem,sevalprocAttr]
   ·simp [fC,c2]
  by_cases c3:(x.ops.length:Int)=(x.parts.length:Int) - 1
  ·by_cases c4:0<=x.limit
   ·by_cases c5:(x.order.length:Int)<1
    ·simp +contextual only [go_sem,sevalprocAttr,m0,m1,m2,m3,zq,c1,c2,c3,c4,c5]
     refine fin (t:=true) ?_ ?_ ?_
     ·simp only [go_sem,sevalprocAttr]
     ·simp only [go_sem,sevalprocAttr]
     ·simp [fC,c4,c5]
    ·by_cases c6:8<(x.order.length:Int)
     ·simp +contextual only [go_sem,sevalprocAttr,m0,m1,m2,m3,zq,c1,c2,c3,c4,c5,c6]
      refine fin (t:=true) ?_ ?_ ?_
      ·simp only [go_sem,sevalprocAttr]
      ·simp only [go_sem,sevalprocAttr]
      ·simp [fC,c4,c6]
     ·simp +contextual only [go_sem,sevalprocAttr,m0,m1,m2,m3,zq,c1,c2,c3,c4,c5,c6]
      refine fin (t:=false) ?_ ?_ ?_
      ·simp only [go_sem,sevalprocAttr]
      ·simp only [go_sem,sevalprocAttr]
      ·exact (decide_eq_false (by omega)).symm
   ·simp +contextual only [go_sem,sevalprocAttr,m0,m1,m3,zq,c1,c2,c3,c4]
    refine fin (t:=false) ?_ ?_ ?_
    ·simp only [go_sem,sevalprocAttr]
    ·simp only [go_sem,sevalprocAttr]
    ·exact (decide_eq_false (by omega)).symm
  ·simp +contextual only [go_sem,sevalprocAttr,m0,m1,zq,c1,c2,c3]
   refine fin (t:=true) ?_ ?_ ?_
   ·simp only [go_sem,sevalprocAttr]
   ·simp only [go_sem,sevalprocAttr]
   ·simp [fC,c3]
 rintro e ds h ⟨rfl,e0,e58,rfl⟩
 cases hm:fC x with
 | true=>
  rw [hm] at e58
  rw [if_pos hm] at hS
  simp +contextual only [go_sem,aE,sevalprocAttr,e58]
  exact am aH.rfl' (by rw [hS])
 | false=>
 rw [hm] at e58
 rw [if_neg (by rw [hm];exact Bool.false_ne_true)] at hS
 have qG:x.ops.length+1=x.parts.length:=by
  have:=of_decide_eq_false hm
  omega
 by_cases VZ:50<x.limit
 ·rw [if_pos VZ] at hS
  simp +contextual only [go_sem,aE,sevalprocAttr,e0,e58,m3,VZ]
  exact am aH.rfl' (by rw [hS])
 rw [if_neg VZ] at hS
 simp +contextual only [go_sem,sevalprocAttr,e58]
 rw [cd,if_neg Bool.false_ne_true]
 simp +contextual only [go_sem,sevalprocAttr,e0,m3,VZ]
 rw [cd,if_neg Bool.false_ne_true]
 simp +contextual only [go_sem,sevalprocAttr,e0,m0]
 refine je (fun e ds h=>ds=[]/\e 0=.pointer (some ⟨b,o,none⟩)/\S=ku x/\∃ M',bh M M'/\h=⟨T,M',[],[]⟩) (fun S' dU=> ?_) ?_
 ·simp +contextual only [go_sem,aE,sevalprocAttr]
  refine aY x.parts.length 69 [(0,.pointer (some ⟨b,o,none⟩)),(68,.int .i64 (x.parts.length:Int))]
   (fun i e h=>∃ M',bh M M'/\h=⟨T,M',[],[]⟩/\S=qH (kR x.ops i (x.parts.drop i)) (ku x))
   0 (by omega) (by simp only [aG,e0,go_sem,sevalprocAttr]) (by simp only [go_sem,sevalprocAttr]) ⟨M,bh.rfl',rfl,hS⟩ ?_
  clear hS e0 e58
  rintro i e h hi aI ht ⟨M1,aV,rfl,hS⟩
  simp only [aG] at aI
  have n0:=ay aV m0
  have n1:=ay aV m1
  by_cases aN:i<x.parts.length
  ·obtain ⟨b',o',cs',rfl,cG,cC⟩:=aey i x.parts[i] (gq aN)
   have bA:x.parts.drop i=x.parts[i]::x.parts.drop (i+1):=dq aN
   rw [bA,kR] at hS
   have key:¬ (0<i/\(x.ops.getD (i - 1) 0<1\/4<x.ops.getD (i - 1) 0)) ->S=qH (qH (qE x.parts[i]) (kR x.ops (i+1) (x.parts.drop (i+1)))) (ku x):=fun h=>by rw [hS,if_neg h]
   by_cases hz:i=0
   ·have Iu:¬ (0:Int)<(i:Int):=by omega
    replace hS:=key (fun h=>by omega)
    clear key
    simp +contextual only [go_sem,aE,sevalprocAttr,aI,ht,aN,Iu,n0]
    refine aD (JF (hg.ext aV) (jb aV _ _ cC) (cG.ext aV) T) ?_
    rintro v M2 bg _ rfl
    by_cases hE:qE x.parts[i]=0
    ·rw [hE,gS] at hS
     simp +contextual only [go_sem,aE,sevalprocAttr,ht,hE]
     refine cI aN ?_ ?_ ⟨M2,aV.trans bg,rfl,hS⟩
     ·simp only [aG,aI,go_sem,sevalprocAttr]
     ·simp only [go_sem,sevalprocAttr,aB i (by omega)]
    ·rw [bO hE,bO hE] at hS
     simp +contextual only [go_sem,aE,sevalprocAttr,hE]
     exact am aH.rfl' (by rw [hS])
   ·have Iu:(0:Int)<(i:Int):=by omega
    have A2:i - 1<x.ops.length:=by omega
    obtain ⟨bo,oo,co,rfl,ZG,hro⟩:=Gi (i - 1) x.ops[i - 1] (gq A2)
    unfold RI at hro;subst hro
    have hx:=ay aV ZG.1
    rw [Nat.mul_one] at hx
    have Rm:x.ops.getD (i - 1) 0=x.ops[i - 1]:=by simp [List.getD,gq A2]
    have VU:IntKind.i64.wrap ((i:Int) - 1)=((i - 1:Nat):Int):=by rw [bJ (by omega) (by omega)];omega
    rw [Rm] at hS key
    by_cases c1:x.ops[i - 1]<1
    ·rw [if_pos ⟨by omega,.inl c1⟩,bO (by decide)] at hS
     simp +contextual only [go_sem,aE,sevalprocAttr,aI,ht,aN,Iu,n1,VU,A2,hx,c1]
     exact am aH.rfl' (by rw [hS])
    ·by_cases c2:4<x.ops[i - 1]
     ·rw [if_pos ⟨by omega,.inr c2⟩,bO (by decide)] at hS
      simp +contextual only [go_sem,aE,sevalprocAttr,aI,ht,aN,Iu,n1,VU,A2,hx,c1,c2]
      exact am aH.rfl' (by rw [hS])
     ·replace hS:=key (fun h=>by rcases h.2 with h | h;exact c1 h;exact c2 h)
      clear key
      simp +contextual only [go_sem,aE,sevalprocAttr,aI,ht,aN,Iu,n0,n1,VU,A2,hx,c1,c2]
      refine aD (JF (hg.ext aV) (jb aV _ _ cC) (cG.ext aV) T) ?_
      rintro v M2 bg _ rfl
      by_cases hE:qE x.parts[i]=0
      ·rw [hE,gS] at hS
       simp +contextual only [go_sem,aE,sevalprocAttr,ht,hE]
       refine cI aN ?_ ?_ ⟨M2,aV.trans bg,rfl,hS⟩
       ·simp only [aG,aI,go_sem,sevalprocAttr]
       ·simp only [go_sem,sevalprocAttr,aB i (by omega)]
      ·rw [bO hE,bO hE] at hS
       simp +contextual only [go_sem,aE,sevalprocAttr,hE]
       exact am aH.rfl' (by rw [hS])
  ·have:i=x.parts.length:=by omega
   subst this
   rw [List.drop_length,kR,gS] at hS
   simp +contextual only [go_sem,aE,sevalprocAttr,aI,ht,aN]
   refine dU _ _ _ ⟨rfl,?_,hS,M1,aV,rfl⟩
   simp only [aI,go_sem,sevalprocAttr]
 clear hS e0 e58
 rintro e ds h ⟨rfl,e0,hS,M1,aV,rfl⟩
 unfold ku at hS
 simp +contextual only [go_sem,sevalprocAttr,e0,ay aV m2]
 refine je (fun e ds h=>ds=[]/\S=0/\∃ N M' L,aH T N/\h=⟨N,M',L,[]⟩) (fun S' dU=> ?_) ?_
 ·simp +contextual only [go_sem,aE,sevalprocAttr]
  refine aY x.order.length 112 [(0,.pointer (some ⟨b,o,none⟩)),(110,.slice ga x.order.length gc),(111,.int .i64 (x.order.length:Int))]
   (fun i e h=>∃ N M',aH T N/\bh M M'/\h=⟨N,M',[],[]⟩/\S=(if x.limit<0 then 0 else ec (x.order.drop i)))
   0 (by omega) (by simp only [aG,e0,go_sem,sevalprocAttr]) (by simp only [go_sem,sevalprocAttr]) ⟨T,M1,aH.rfl',aV,rfl,hS⟩ ?_
  clear hS e0 aV
  rintro i e h hi aI ht ⟨N,M1,hN,aV,rfl,hS⟩
  simp only [aG] at aI
  by_cases aN:i<x.order.length
  ·obtain ⟨b',o',cs',rfl,cG,cC⟩:=EA i x.order[i] (gq aN)
   obtain ⟨sg,rfl,og,g0,g1,g2,g3,g4,g5,g6⟩:=my cC cG
   have bA:x.order.drop i=x.order[i]::x.order.drop (i+1):=dq aN
   by_cases FM:x.limit<0
   ·rw [if_pos FM] at hS
    simp +contextual only [go_sem,aE,sevalprocAttr,aI,ht,aN,ay aV m3,ay aV g0,ay aV g1,ay aV g2,ay aV g3,ay aV g4,ay aV g5,ay aV g6,og,FM]
    intro b9 N9 lu Cq l4
    exact dU _ _ _ ⟨rfl,hS,N9,M1,_,hN.trans Cq,rfl⟩
   rw [if_neg FM,bA,ec] at hS
   simp +contextual only [go_sem,aE,sevalprocAttr,aI,ht,aN,ay aV m3,ay aV g0,ay aV g1,ay aV g2,ay aV g3,ay aV g4,ay aV g5,ay aV g6,og,FM]
   intro b9 N9 lu Cq l4
   refine aD (nP (hg.ext aV) (bB aV _ _ cC) N9) ?_
   rintro v M2 bg _ rfl
   by_cases hE:gt x.order[i]=0
   ·rw [hE,gS] at hS
    simp +contextual only [go_sem,aE,sevalprocAttr,ht,hE]
    rw [dB]
    refine ak (az ⟨x.order.length - (i+1),by omega,rfl,i+1,by omega,rfl,?_,?_,N9,M2,hN.trans Cq,aV.trans bg,rfl,by rw [if_neg FM];exact hS⟩)
    ·simp only [aG,aI,go_sem,sevalprocAttr]
    ·simp only [go_sem,sevalprocAttr,aB i (by omega)]
   ·rw [bO hE] at hS
    simp +contextual only [go_sem,aE,sevalprocAttr,hE]
    exact am (hN.trans Cq) (by rw [hS])
  ·have:i=x.order.length:=by omega
   subst this
   rw [List.drop_length,ec,ite_self] at hS
   simp +contextual only [go_sem,aE,sevalprocAttr,aI,ht,aN]
   exact dU _ _ _ ⟨rfl,hS,N,M1,[],hN,rfl⟩
 rintro e ds h ⟨rfl,hS,N,M2,L,hN,rfl⟩
 simp +contextual only [go_sem,sevalprocAttr]
 exact am hN (by rw [hS])
theorem SP:IM Tryz.prog 29=some [1,1,2]:=by kernel_rfl
theorem Y8 (k n:Int)(t:ByteArray):gZ Tryz.prog .neq 29 (.agg ⟨[.int .i64 k,.int .i64 n,.string t]⟩) (.agg ⟨[.int .i64 k,.int .i64 n,.string t]⟩)=some (.bool false):=by
 show (match IM Tryz.prog 29 with | some ks=>(Nn ks _ _).map fun r=>Value.bool (!r) | none=>none)=_
 rw [SP];simp [Nn,Zk]
theorem IA {M:aS}{b o:Nat}{v0 v1 v2 v3 v4 v5 v6 v7 v8 v9 v10 v11 v12 v13 v14 v15 v16 v17 v18 v19 v20:Value}(h:At M b o [v0,v1,v2,v3,v4,v5,v6,v7,v8,v9,v10,v11,v12,v13,v14,v15,v16,v17,v18,v19,v20]):aQ M ⟨b,o,none⟩=some v0/\aQ M ⟨b,o+1,none⟩=some v1/\aQ M ⟨b,o+2,none⟩=some v2/\aQ M ⟨b,o+3,none⟩=some v3/\aQ M ⟨b,o+4,none⟩=some v4/\aQ M ⟨b,o+5,none⟩=some v5/\aQ M ⟨b,o+6,none⟩=some v6/\aQ M ⟨b,o+7,none⟩=some v7/\aQ M ⟨b,o+8,none⟩=some v8/\aQ M ⟨b,o+9,none⟩=some v9/\aQ M ⟨b,o+10,none⟩=some v10/\aQ M ⟨b,o+11,none⟩=some v11/\aQ M ⟨b,o+12,none⟩=some v12/\aQ M ⟨b,o+13,none⟩=some v13/\aQ M ⟨b,o+14,none⟩=some v14/\aQ M ⟨b,o+15,none⟩=some v15/\aQ M ⟨b,o+16,none⟩=some v16/\aQ M ⟨b,o+17,none⟩=some v17/\aQ M ⟨b,o+18,none⟩=some v18/\aQ M ⟨b,o+19,none⟩=some v19/\aQ M ⟨b,o+20,none⟩=some v20:=
 ⟨h.1,h.2.1,h.2.2.1,h.2.2.2.1,h.2.2.2.2.1,h.2.2.2.2.2.1,h.2.2.2.2.2.2.1,h.2.2.2.2.2.2.2.1,h.2.2.2.2.2.2.2.2.1,h.2.2.2.2.2.2.2.2.2.1,h.2.2.2.2.2.2.2.2.2.2.1,h.2.2.2.2.2.2.2.2.2.2.2.1,h.2.2.2.2.2.2.2.2.2.2.2.2.1,h.2.2.2.2.2.2.2.2.2.2.2.2.2.1,h.2.2.2.2.2.2.2.2.2.2.2.2.2.2.1,h.2.2.2.2.2.2.2.2.2.2.2.2.2.2.2.1,h.2.2.2.2.2.2.2.2.2.2.2.2.2.2.2.2.1,h.2.2.2.2.2.2.2.2.2.2.2.2.2.2.2.2.2.1,h.2.2.2.2.2.2.2.2.2.2.2.2.2.2.2.2.2.2.1,h.2.2.2.2.2.2.2.2.2.2.2.2.2.2.2.2.2.2.2.1,h.2.2.2.2.2.2.2.2.2.2.2.2.2.2.2.2.2.2.2.2.1⟩
theorem agm {M:aS}{b o:Nat}{v0 v1 v2 v3 v4 v5 v6 v7 v8 v9:Value}(h:At M b o [v0,v1,v2,v3,v4,v5,v6,v7,v8,v9]):aQ M ⟨b,o,none⟩=some v0/\aQ M ⟨b,o+1,none⟩=some v1/\aQ M ⟨b,o+2,none⟩=some v2/\aQ M ⟨b,o+3,none⟩=some v3/\aQ M ⟨b,o+4,none⟩=some v4/\aQ M ⟨b,o+5,none⟩=some v5/\aQ M ⟨b,o+6,none⟩=some v6/\aQ M ⟨b,o+7,none⟩=some v7/\aQ M ⟨b,o+8,none⟩=some v8/\aQ M ⟨b,o+9,none⟩=some v9:=
 ⟨h.1,h.2.1,h.2.2.1,h.2.2.2.1,h.2.2.2.2.1,h.2.2.2.2.2.1,h.2.2.2.2.2.2.1,h.2.2.2.2.2.2.2.1,h.2.2.2.2.2.2.2.2.1,h.2.2.2.2.2.2.2.2.2.1⟩
theorem At8 {M:aS}{b o:Nat}{v0 v1 v2 v3 v4 v5 v6 v7:Value}(h:At M b o [v0,v1,v2,v3,v4,v5,v6,v7]):aQ M ⟨b,o,none⟩=some v0/\aQ M ⟨b,o+1,none⟩=some v1/\aQ M ⟨b,o+2,none⟩=some v2/\aQ M ⟨b,o+3,none⟩=some v3/\aQ M ⟨b,o+4,none⟩=some v4/\aQ M ⟨b,o+5,none⟩=some v5/\aQ M ⟨b,o+6,none⟩=some v6/\aQ M ⟨b,o+7,none⟩=some v7:=
 ⟨h.1,h.2.1,h.2.2.1,h.2.2.2.1,h.2.2.2.2.1,h.2.2.2.2.2.1,h.2.2.2.2.2.2.1,h.2.2.2.2.2.2.2.1⟩
theorem yA {M:aS}{s:Se}{cs:List Value}(h:Cv M s cs):∃ ai aj af ag aw ah ap aq,cs=[.bool s.distinct,.bool s.star,.slice ai s.items.length aj,.slice af s.src.length ag,.bool s.hasW,.bool s.hasH,.int .i64 s.wh.k,.int .i64 s.wh.v.k,.int .i64 s.wh.v.n,st s.wh.v.t,st s.wh.tab,st s.wh.name,aw,.int .i64 s.hv.k,.int .i64 s.hv.v.k,.int .i64 s.hv.v.n,st s.hv.v.t,st s.hv.tab,st s.hv.name,ah,.slice ap s.group.length aq]/\RS M (xh M) 8 s.items (.slice ai s.items.length aj)/\RS M (Do M) 10 s.src (.slice af s.src.length ag)/\
 RX M s.wh [.int .i64 s.wh.k,.int .i64 s.wh.v.k,.int .i64 s.wh.v.n,st s.wh.v.t,st s.wh.tab,st s.wh.name,aw]/\RX M s.hv [.int .i64 s.hv.k,.int .i64 s.hv.v.k,.int .i64 s.hv.v.n,st s.hv.v.t,st s.hv.tab,st s.hv.name,ah]/\RS M (RX M) 7 s.group (.slice ap s.group.length aq)/\aw.oneCell'=true/\ah.oneCell'=true:=by
 obtain ⟨i,f,w,hh,g,h1,h2,h3,h4,h5,rfl⟩:=h
 obtain ⟨_,ai,aj,rfl,_⟩:=aF (by decide) (fun _ _=>jE) h1
 obtain ⟨_,af,ag,rfl,_⟩:=aF (by decide) (fun _ _=>lj) h2
 obtain ⟨_,ap,aq,rfl,_⟩:=aF (by decide) (fun _ _=>dl) h5
 obtain ⟨aw,rfl,k1,_⟩:=bR h3
 obtain ⟨ah,rfl,k2,_⟩:=bR h4
 exact ⟨ai,aj,af,ag,aw,ah,ap,aq,rfl,h1,h2,h3,h4,h5,k1,k2⟩
theorem AM {M:aS}{s:So}{cs:List Value}(h:Do M s cs):∃ aw,cs=[.int .i64 s.k,st s.name,st s.as,.int .i64 s.on.k,.int .i64 s.on.v.k,.int .i64 s.on.v.n,st s.on.v.t,st s.on.tab,st s.on.name,aw]/\RX M s.on [.int .i64 s.on.k,.int .i64 s.on.v.k,.int .i64 s.on.v.n,st s.on.v.t,st s.on.tab,st s.on.name,aw]/\aw.oneCell'=true:=by
 obtain ⟨c,h1,rfl⟩:=h
 obtain ⟨aw,rfl,k1,_⟩:=bR h1
 exact ⟨aw,rfl,h1,k1⟩
theorem lK {M:aS}{s:It}{cs:List Value}(h:xh M s cs):∃ aw,cs=[.int .i64 s.x.k,.int .i64 s.x.v.k,.int .i64 s.x.v.n,st s.x.v.t,st s.x.tab,st s.x.name,aw,st s.as]/\RX M s.x [.int .i64 s.x.k,.int .i64 s.x.v.k,.int .i64 s.x.v.n,st s.x.v.t,st s.x.tab,st s.x.name,aw]/\aw.oneCell'=true:=by
 obtain ⟨c,h1,rfl⟩:=h
 obtain ⟨aw,rfl,k1,_⟩:=bR h1
 exact ⟨aw,rfl,h1,k1⟩
theorem pB {α:Type}{M:aS}{r:α ->List Value ->Prop}{sz:Nat}{l:List α}{a n c}(dG:0<sz)(ej:∀ x cs,r x cs ->cs.length=sz)(hs:RS M r sz l (.slice a n c)){i:Nat}{x:α}(h:l[i]?=some x):∃ b o cs,a=some ⟨b,o,none⟩/\At M b (o+i*sz) cs/\r x cs:=by
 obtain ⟨_,a',c',he,_,_,hg⟩:=aF dG ej hs
 injection he with h1 h2 h3
 rw [h1];exact hg i x h
theorem aiG {M:aS}{b o:Nat}{v0 v1 v2 v3 v4 v5 v6 v7 v8 v9 v10 v11 v12 v13 v14 v15:Value}(h:At M b o [v0,v1,v2,v3,v4,v5,v6,v7,v8,v9,v10,v11,v12,v13,v14,v15]):aQ M ⟨b,o,none⟩=some v0/\aQ M ⟨b,o+1,none⟩=some v1/\aQ M ⟨b,o+2,none⟩=some v2/\aQ M ⟨b,o+3,none⟩=some v3/\aQ M ⟨b,o+4,none⟩=some v4/\aQ M ⟨b,o+5,none⟩=some v5/\aQ M ⟨b,o+6,none⟩=some v6/\aQ M ⟨b,o+7,none⟩=some v7/\aQ M ⟨b,o+8,none⟩=some v8/\aQ M ⟨b,o+9,none⟩=some v9/\aQ M ⟨b,o+10,none⟩=some v10/\aQ M ⟨b,o+11,none⟩=some v11/\aQ M ⟨b,o+12,none⟩=some v12/\aQ M ⟨b,o+13,none⟩=some v13/\aQ M ⟨b,o+14,none⟩=some v14/\aQ M ⟨b,o+15,none⟩=some v15:=
 ⟨h.1,h.2.1,h.2.2.1,h.2.2.2.1,h.2.2.2.2.1,h.2.2.2.2.2.1,h.2.2.2.2.2.2.1,h.2.2.2.2.2.2.2.1,h.2.2.2.2.2.2.2.2.1,h.2.2.2.2.2.2.2.2.2.1,h.2.2.2.2.2.2.2.2.2.2.1,h.2.2.2.2.2.2.2.2.2.2.2.1,h.2.2.2.2.2.2.2.2.2.2.2.2.1,h.2.2.2.2.2.2.2.2.2.2.2.2.2.1,h.2.2.2.2.2.2.2.2.2.2.2.2.2.2.1,h.2.2.2.2.2.2.2.2.2.2.2.2.2.2.2.1⟩
theorem Wa {M:aS}{b o:Nat}{v0 v1:Value}(h:At M b o [v0,v1]):aQ M ⟨b,o,none⟩=some v0/\aQ M ⟨b,o+1,none⟩=some v1:=
 ⟨h.1,h.2.1⟩
theorem tV {M:aS}{b o:Nat}{v0:Value}(h:At M b o [v0]):aQ M ⟨b,o,none⟩=some v0:=h.1
theorem eU {c:Co}{cs}(h:sA c cs):cs.length=2:=by unfold sA at h;subst h;rfl
theorem Xh {M:aS}{l:List V}{cs}(h:YM M l cs):cs.length=1:=by obtain ⟨s,_,rfl⟩:=h;rfl
theorem ND {M:aS}{s:Stm}{cs:List Value}(h:ss M s cs):∃ ac ad ap aq ao an ar ae au av aw,cs=[.int .i64 s.k,st s.name,.slice ac s.cols.length ad,.slice ap s.q.parts.length aq,.slice ao s.q.ops.length an,.slice ar s.q.order.length ae,.int .i64 s.q.limit,.slice au s.rows.length av,.bool s.hasW,.int .i64 s.wh.k,.int .i64 s.wh.v.k,.int .i64 s.wh.v.n,st s.wh.v.t,st s.wh.tab,st s.wh.name,aw]/\RS M sA 2 s.cols (.slice ac s.cols.length ad)/\RQ M s.q [.slice ap s.q.parts.length aq,.slice ao s.q.ops.length an,.slice ar s.q.order.length ae,.int .i64 s.q.limit]/\
 RS M (YM M) 1 s.rows (.slice au s.rows.length av)/\RX M s.wh [.int .i64 s.wh.k,.int .i64 s.wh.v.k,.int .i64 s.wh.v.n,st s.wh.v.t,st s.wh.tab,st s.wh.name,aw]/\aw.oneCell'=true:=by
 obtain ⟨c,qq,r,w,h1,h2,h3,h4,rfl⟩:=h
 obtain ⟨_,ac,ad,rfl,_⟩:=aF (by decide) (fun _ _=>eU) h1
 obtain ⟨_,au,av,rfl,_⟩:=aF (by decide) (fun _ _=>Xh) h3
 obtain ⟨aw,rfl,k1,_⟩:=bR h4
 obtain ⟨p,o,rr,g1,g2,g3,rfl⟩:=h2
 obtain ⟨_,ap,aq,rfl,_⟩:=aF (by decide) (fun _ _=>jd) g1
 obtain ⟨_,ao,an,rfl,_⟩:=aF (by decide) (fun _ _=>bV) g2
 obtain ⟨_,ar,ae,rfl,_⟩:=aF (by decide) (fun _ _=>dl) g3
 exact ⟨ac,ad,ap,aq,ao,an,ar,ae,au,av,aw,rfl,h1,⟨_,_,_,g1,g2,g3,rfl⟩,h3,h4,k1⟩
theorem Gf {N:Tm}{M:aS}{L:LL}{R:RR}{b:Nat}:∀ (xs:List Value) (o i:Nat),At M b (o+i) xs ->Sh.cells ⟨N,M,L,R⟩ ⟨b,o,none⟩ i xs.length=some xs
 | [],o,i,h=>rfl
 | x::xs,o,i,h=>by
  rw [List.length_cons,rx,Gf xs o (i+1) h.2]
  have:Sh.cell ⟨N,M,L,R⟩ ⟨b,o+i,none⟩=some x:=by simp only [Sh.cell,h.1]
  rw [this];rfl
theorem JO {α:Type}{r:α ->List Value ->Prop}(hr:∀ x cs,r x cs ->∀ u∈cs,u.oneCell'=true):∀ {l xs},RL r l xs ->∀ u∈xs,u.oneCell'=true
 | [],xs,h,u,hu=>by have:xs=[]:=h;subst this;cases hu
 | x::l,xs,h,u,hu=>by
  obtain ⟨cs,rest,rfl,h1,h2⟩:=h
  rcases qM hu with hu | hu
  ·exact hr x cs h1 u hu
  ·exact JO hr h2 u hu
theorem kx {P:Program}{tx e':TypeId}{α:Type}{r:α ->List Value ->Prop}{sz:Nat}{M:aS}{l:List α}{v:Value}(hu:P.underlying tx=some (.slice e'))(ej:∀ x cs,r x cs ->cs.length=sz)(hr:∀ x cs,r x cs ->∀ u∈cs,u.oneCell'=true)(hs:RS M r sz l v):
 ∃ xs,xs.length=l.length*sz/\RL r l xs/\∀ N L R,Srcs P tx sz ⟨N,M,L,R⟩ v xs:=by
 obtain ⟨_,xs,h,hl⟩:=hs
 refine ⟨xs,dO ej hl,hl,fun N L R=> ?_⟩
 rcases h with ⟨a,c,rfl,rfl,wr⟩ | ⟨b,o,n,c,rfl,dJ,hn,ha⟩
 ·cases a with
  | none=>rw [wr rfl];exact .nil 0 e' hu
  | some a=>exact .slice a 0 c [] e' hu (by rw [Nat.zero_mul];rfl) (fun u hu=>by cases hu)
 ·refine .slice _ n c xs e' hu ?_ (JO hr hl)
  rw [<- hn]
  exact Gf xs o 0 ha
theorem Bw {F:Fi}{f:FuncId}{args:List Value}{dd:Option Nat}{s:List Vc.Item}{e:dj}{ds:List Deferred}{N:Tm}{M:aS}{L:LL}{R:RR}{v:Value}{el:TypeId}{sz:Nat}{xs:List Value}(hb:de Tryz.prog f=true)
 (h:∀ M',bh M M' ->Sl M' v sz xs ->dk Tryz.prog F f args dd s e ds ⟨N,M',L,R⟩ ⟨⟩) (ej:0<sz:=by decide):dk Tryz.prog F f args dd s e ds ⟨N,M,L,(v,el,sz,xs)::R⟩ ⟨⟩:=
 cQ (k:=fun h'=>∃ M',bh M M'/\Sl M' v sz xs/\h'=⟨N,M',L,R⟩) (bT (fun M' he _ hL=>az ⟨M',he,hL,rfl⟩) ej) (by rintro h' ⟨M',he,hL,rfl⟩;exact h M' he hL) hb
theorem cM {α:Type}{r:α ->List Value ->Prop}:∀ {l m:List α} {xs ys:List Value},RL r l xs ->RL r m ys ->RL r (l++m) (xs++ys)
 | [],m,xs,ys,h,h'=>by have:xs=[]:=h;subst this;exact h'
 | x::l,m,xs,ys,h,h'=>by
  obtain ⟨cs,rest,rfl,h1,h2⟩:=h
  exact ⟨cs,rest++ys,by rw [List.append_assoc],h1,cM h2 h'⟩
def kV {α:Type}(el:TypeId)(sz:Nat)(r:α ->List Value ->Prop)(R0 R:RR)(fv:Value)(acc:List α):Prop:=
 (acc=[]/\fv=.slice none 0 0/\R=R0)\/∃ a c xs,fv=.slice a acc.length c/\RL r acc xs/\R=(fv,el,sz,xs)::R0
section
variable {α:Type} {el:TypeId} {sz:Nat} {r:α ->List Value ->Prop} {R0 R:RR} {fv:Value} {acc:List α}
theorem dg:kV el sz r R0 R0 (.slice none 0 0) []:=.inl ⟨rfl,rfl,rfl⟩
theorem il (h:kV el sz r R0 R fv acc):∃ a c,fv=.slice a acc.length c:=by
 rcases h with ⟨rfl,rfl,_⟩ | ⟨a,c,xs,rfl,_⟩
 ·exact ⟨_,_,rfl⟩
 ·exact ⟨_,_,rfl⟩
theorem Us (h:kV el sz r R0 R fv acc):fv.oneCell'=true/\fv.cells.toList=[fv]:=by
 obtain ⟨a,c,rfl⟩:=il h
 exact ⟨rfl,rfl⟩
theorem gJ {r':α ->List Value ->Prop}(hr:∀ x cs,r x cs ->r' x cs)(h:kV el sz r R0 R fv acc):kV el sz r' R0 R fv acc:=by
 rcases h with ⟨h1,h2,h3⟩ | ⟨a,c,xs,h1,h2,h3⟩
 ·exact .inl ⟨h1,h2,h3⟩
 ·exact .inr ⟨a,c,xs,h1,cH hr h2,h3⟩
theorem cy {P:Program}{F:Fi}{s:List Vc.Item}{e:dj}{ds:List Deferred}{dd:Option Nat}{T:Tm}{M:aS}{L:LL}{t:TypeId}{z:List Value}{b:Nat}{x:α}{cs:List Value}(hu:P.underlying t=some (.slice el))(bP:eC P t=some (el,sz,z))(cq:kX P t=true)
 (h:kV el sz r R0 R fv acc) (hx:r x cs) (bw:∀ x cs,r x cs ->cs.length=sz) (dL:∀ u∈cs,u.oneCell'=true) (hb:M b=none) (hl:acc.length*sz+sz<=4398046511104) (dG:0<sz)
 (k:∀ fv' R',kV el sz r R0 R' fv' (acc++[x]) ->cj P F s (cB e dd fv') ds ⟨T,M,(b,cs)::L,R'⟩ ⟨⟩):pA P F t t fv (.slice (some ⟨b,0,none⟩) 1 1) dd s e ds ⟨T,M,(b,cs)::L,R⟩ ⟨⟩:=by
 have cO:=bw x cs hx
 rcases h with ⟨rfl,rfl,rfl⟩ | ⟨a,c,xs,rfl,h3,rfl⟩
 ·refine ma bP cq (.slice _ 1 _ _ _ hu (bL [] hb trivial (by rw [cO,Nat.one_mul])) dL) (by rw [cO];simp at hl;omega) ?_
  intro ra rm rc iL
  have:rm=1:=by
   rw [cO] at iL
   exact Nat.eq_of_mul_eq_mul_right dG (by omega)
  subst this
  exact k _ _ (.inr ⟨_,_,_,rfl,cA hx,rfl⟩)
 ·have jP:=dO bw h3
  refine fK bP cq (.slice _ 1 _ _ _ hu (bL [] hb trivial (by rw [cO,Nat.one_mul])) dL) (by rw [cO,jP];omega) ?_
  intro ra rm rc iL
  have:rm=(acc++[x]).length:=by
   rw [cO,jP] at iL
   rw [List.length_append]
   refine Nat.eq_of_mul_eq_mul_right dG ?_
   rw [Nat.add_mul]
   simpa using iL
  subst this
  exact k _ _ (.inr ⟨_,_,_,rfl,cM h3 (cA hx),rfl⟩)
theorem ct {N:Tm}{M:aS}{L:LL}{k:Sh ->Prop}(h:kV el sz r R0 R fv acc)(hb:acc.length*sz<=4398046511104)(dG:0<sz)(bi:aJ M L)(hk:∀ M',bh M M' ->aJ M' L ->RS M' r sz acc fv ->bK ⟨N,M',L,R0⟩ k):bK ⟨N,M,L,R⟩ k:=by
 rcases h with ⟨rfl,rfl,rfl⟩ | ⟨a,c,xs,rfl,h3,rfl⟩
 ·exact hk M bh.rfl' bi bu
 ·exact bT (fun M' hM oX gi=>hk M' hM oX ⟨hb,xs,gi,h3⟩) dG
end
end Go.Proofs.YtmccpbcbofhmlaaGreatDoor

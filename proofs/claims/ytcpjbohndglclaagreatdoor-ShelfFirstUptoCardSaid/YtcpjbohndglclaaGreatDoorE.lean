import Derived.Test.YtcpjbohndglclaaGreatDoorD
import Derived.Shelf.Strings.Builder1
import Derived.Test.YtcpjbohndglclaaGreatDoorB
import Derived.Recover
import Derived.Laws.Pointers
set_option linter.all false
namespace Go.Proofs.YtcpjbohndglclaaGreatDoor
open Go Vc
set_option maxRecDepth 10000
def dC {α:Type}(en:Int)(g:List Tk ->Rs α):Nat ->List Tk ->Rs (List α)
 | 0,t=> .err 5 (pm en t)
 | k+1,t=>(g t).bind fun a t=>if bH kM t=true then (dC en g k t.tail).bind fun l t=> .ok (a::l) t else .ok [a] t
theorem Rs.bind_assoc {α β γ:Type}(r:Rs α)(f:α ->List Tk ->Rs β)(g:β ->List Tk ->Rs γ):(r.bind f).bind g=r.bind fun a t=>(f a t).bind g:=by cases r<;>rfl
def BJ {α:Type}{M:aR}{pb gf:Nat}{aX:List Tk}{lv:Value}{en op:Int}{fa fc:List Value}{g:List Tk ->Rs α}{r:aR ->α ->List Value ->Prop}{enc:α ->Value ->aR ->Prop}{C:aR ->Prop}(most:Nat)
 (HV:∀ (M:aR) (t:List Tk) (lv:Value) (T:Tm),eS M ->C M ->RS M gQ 3 t lv ->g t≠ .out ->bU Tryz.prog gf (fa++fc) T M (pL pb lv en op) [] (fR pb en op enc (g t)) (gN pb en (g t)))
 (hE:∀ x v M,enc x v M ->∃ cs,v.cells.toList=cs/\r M x cs) (ed:∀ M x cs,r M x cs ->cs.length=7) (dB:∀ M x cs,r M x cs ->∀ u∈cs,u.oneCell'=true) (oV:∀ M M' x cs,bm M M' ->r M x cs ->r M' x cs)
 (hC:∀ M M',bm M M' ->C M ->C M') (Lh:C M) (LB:most<=400) (hg:eS M) (hl:RS M gQ 3 aX lv) (cm:dC en g most aX≠ .out) (T:Tm):
 bU Tryz.prog 77 [.pointer (some ⟨pb,0,none⟩),.int .i64 (most:Int),.func (.func gf) ⟨fa⟩ ⟨fc⟩] T M (pL pb lv en op) [] (fR pb en op (fun l v M=>RS M (r M) 7 l v) (dC en g most aX)) (gN pb en (dC en g most aX)):=by
 refine az F77 rfl rfl ?_
 intro bj _
 simp only [aK] at bj
 simp +contextual only [go_sem,aD,sevalprocAttr]
 refine gM (fun m e ds h=>ds=[]/\e 0=.pointer (some ⟨pb,0,none⟩)/\e 1=.int .i64 (most:Int)/\e 2=.func (.func gf) ⟨fa⟩ ⟨fc⟩/\
  ∃ M' t' lv' acc,m+acc.length=most/\bm M M'/\M' pb=none/\RS M' gQ 3 t' lv'/\dC en g most aX=(dC en g m t').bind (fun l t=> .ok (acc++l) t)/\
   ((acc=[]/\e 7=.slice none 0 0/\h=⟨T,M',pL pb lv' en op,[]⟩)\/∃ ra rc xs,e 7=.slice ra acc.length rc/\RL (r M') acc xs/\h=⟨T,M',pL pb lv' en op,[(.slice ra acc.length rc,58,7,xs)]⟩))
  ⟨most,rfl,by simp only [go_sem,sevalprocAttr],by simp only [go_sem,sevalprocAttr],by simp only [go_sem,sevalprocAttr],M,aX,lv,[],by simp,bm.rfl',bj,hl,by cases dC en g most aX<;>rfl,.inl ⟨rfl,by simp only [go_sem,sevalprocAttr],rfl⟩⟩ ?_
 rintro m e ds h ⟨rfl,e0,e1,e2,M1,t1,lv1,acc,hm,aW,np,gZ,am,kq⟩
 have lM:=hg.ext aW
 cases m with
 | zero=>
  have bu:(acc.length:Int)=(most:Int):=by omega
  have lL:dC en g most aX=.err 5 (pm en t1):=am
  rcases kq with ⟨rfl,e7,rfl⟩ | ⟨ra,rc,xs,e7,fq,rfl⟩
  ·have bu:(0:Int)=(most:Int):=by simpa using bu
   simp +contextual only [go_sem,aD,sevalprocAttr,e0,e1,e7,bu]
   refine l4 [] gZ ?_
   simp +contextual only [go_sem,sevalprocAttr]
   exact fI [] aG.rfl' lL
  ·simp +contextual only [go_sem,aD,sevalprocAttr,e0,e1,e7,bu]
   refine l4 [] gZ ?_
   simp +contextual only [go_sem,sevalprocAttr]
   exact fI [] aG.rfl' lL
 | succ m=>
  have bu:¬ (acc.length:Int)=(most:Int):=by omega
  simp only [dC,Rs.bind_assoc] at am
  rcases kq with ⟨rfl,e7,rfl⟩ | ⟨ra,rc,xs,e7,fq,rfl⟩
  ·have bu:¬ (0:Int)=(most:Int):=by simpa using bu
   simp +contextual only [go_sem,aD,sevalprocAttr,e1,e2,e7,bu]
   refine cy [] aG.rfl' am cm (fun h=>HV M1 t1 lv1 T lM (hC _ _ aW Lh) gZ h) ?_
   rintro v M2 a t2 lv2 bh aZ am fD hv
   obtain ⟨cs,gC,hr⟩:=hE _ _ _ hv
   have cK:=ed _ _ _ hr
   simp only [nn,aK] at aZ
   have jE:=gC
   simp only [Value.cells] at jE
   simp +contextual only [go_sem,sevalprocAttr,jE,cK]
   intro b hb ui
   refine mO G7 GD (.slice _ 1 _ _ _ Tryz.underlying54 (cF [] hb trivial (by rw [cK])) (dB _ _ _ hr)) (by rw [cK];decide) ?_
   intro ra rm rc jl
   have jm:rm=1:=by rw [cK] at jl;omega
   subst jm
   simp +contextual only [go_sem,sevalprocAttr,e0]
   refine iS [(b,_)] kM fD (fun hs lv3 fP=> ?_) (fun hs lv3 fP=> ?_)
   ·rw [if_pos hs,Rs.bind_assoc] at am
    simp +contextual only [go_sem,aD,sevalprocAttr]
    rw [eL]
    refine al (aC ⟨m,by omega,rfl,?_,?_,?_,M2,t2.tail,lv3,[a],by simp only [ln] at hm ⊢;omega,aW.trans bh,aZ,fP,am,.inr ⟨ra,rc,cs,?_,dm hr,rfl⟩⟩)
    all_goals simp only [e0,e1,e2,go_sem,sevalprocAttr]
   ·rw [if_neg (by simp [hs])] at am
    simp +contextual only [go_sem,aD,sevalprocAttr]
    refine al (cP fun M3 bG bC iR=>aQ aG.rfl' rfl rfl ?_)
    exact ⟨[a],t2,lv3,am,rfl,aH bG (fun _ _ h=>h) fP,rfl,⟨by simp,cs,iR,dm (oV _ _ _ _ bG hr)⟩⟩
  ·simp +contextual only [go_sem,aD,sevalprocAttr,e1,e2,e7,bu]
   refine cy [] aG.rfl' am cm (fun h=>HV M1 t1 lv1 T lM (hC _ _ aW Lh) gZ h) ?_
   rintro v M2 a t2 lv2 bh aZ am fD hv
   obtain ⟨cs,gC,hr⟩:=hE _ _ _ hv
   have cK:=ed _ _ _ hr
   have iY:=eJ (ed M1) fq
   have DU:RL (r M2) acc xs:=dl (fun x cs h=>oV _ _ _ _ bh h) fq
   simp only [nn,aK] at aZ
   have jE:=gC
   simp only [Value.cells] at jE
   simp +contextual only [go_sem,sevalprocAttr,jE,cK]
   intro b hb ui
   refine gX G7 GD (.slice _ 1 _ _ _ Tryz.underlying54 (cF [] hb trivial (by rw [cK])) (dB _ _ _ hr)) (by rw [cK,iY];omega) ?_
   intro ra' rm rc' jl
   have jm:rm=(acc++[a]).length:=by
    rw [cK,iY] at jl
    rw [List.length_append,List.length_cons,List.length_nil]
    omega
   subst jm
   have bq:=cS DU (dm hr)
   simp +contextual only [go_sem,sevalprocAttr,e0]
   refine iS [(b,_)] kM fD (fun hs lv3 fP=> ?_) (fun hs lv3 fP=> ?_)
   ·rw [if_pos hs,Rs.bind_assoc] at am
    simp +contextual only [go_sem,aD,sevalprocAttr]
    rw [eL]
    refine al (aC ⟨m,by omega,rfl,?_,?_,?_,M2,t2.tail,lv3,acc++[a],by rw [List.length_append];simp only [ln];omega,aW.trans bh,aZ,fP,?_,.inr ⟨ra',rc',xs++cs,?_,bq,rfl⟩⟩)
    ·simp only [e0,go_sem,sevalprocAttr]
    ·simp only [e1,go_sem,sevalprocAttr]
    ·simp only [e2,go_sem,sevalprocAttr]
    ·rw [am]
     congr 1
     funext l t
     simp [Rs.bind]
    ·simp only [oF,go_sem,sevalprocAttr]
   ·rw [if_neg (by simp [hs])] at am
    simp +contextual only [go_sem,aD,sevalprocAttr]
    refine al (cP fun M3 bG bC iR=>aQ aG.rfl' rfl rfl ?_)
    exact ⟨acc++[a],t2,lv3,am,rfl,aH bG (fun _ _ h=>h) fP,rfl,⟨by rw [List.length_append];simp only [ln];omega,xs++cs,iR,dl (fun x cs h=>oV _ _ _ _ bG h) bq⟩⟩
def IK {α:Type}{M:aR}{pb gf:Nat}{aX:List Tk}{lv:Value}{en op:Int}{fa fc:List Value}{g:List Tk ->Rs α}{r:aR ->α ->List Value ->Prop}{enc:α ->Value ->aR ->Prop}{C:aR ->Prop}(most:Nat)
 (HV:∀ (M:aR) (t:List Tk) (lv:Value) (T:Tm),eS M ->C M ->RS M gQ 3 t lv ->g t≠ .out ->bU Tryz.prog gf (fa++fc) T M (pL pb lv en op) [] (fR pb en op enc (g t)) (gN pb en (g t)))
 (hE:∀ x v M,enc x v M ->∃ cs,v.cells.toList=cs/\r M x cs) (ed:∀ M x cs,r M x cs ->cs.length=2) (dB:∀ M x cs,r M x cs ->∀ u∈cs,u.oneCell'=true) (oV:∀ M M' x cs,bm M M' ->r M x cs ->r M' x cs)
 (hC:∀ M M',bm M M' ->C M ->C M') (Lh:C M) (LB:most<=400) (hg:eS M) (hl:RS M gQ 3 aX lv) (cm:dC en g most aX≠ .out) (T:Tm):
 bU Tryz.prog 43 [.pointer (some ⟨pb,0,none⟩),.int .i64 (most:Int),.func (.func gf) ⟨fa⟩ ⟨fc⟩] T M (pL pb lv en op) [] (fR pb en op (fun l v M=>RS M (r M) 2 l v) (dC en g most aX)) (gN pb en (dC en g most aX)):=by
 refine az F43 rfl rfl ?_
 intro bj _
 simp only [aK] at bj
 simp +contextual only [go_sem,aD,sevalprocAttr]
 refine gM (fun m e ds h=>ds=[]/\e 0=.pointer (some ⟨pb,0,none⟩)/\e 1=.int .i64 (most:Int)/\e 2=.func (.func gf) ⟨fa⟩ ⟨fc⟩/\
  ∃ M' t' lv' acc,m+acc.length=most/\bm M M'/\M' pb=none/\RS M' gQ 3 t' lv'/\dC en g most aX=(dC en g m t').bind (fun l t=> .ok (acc++l) t)/\
   ((acc=[]/\e 7=.slice none 0 0/\h=⟨T,M',pL pb lv' en op,[]⟩)\/∃ ra rc xs,e 7=.slice ra acc.length rc/\RL (r M') acc xs/\h=⟨T,M',pL pb lv' en op,[(.slice ra acc.length rc,109,2,xs)]⟩))
  ⟨most,rfl,by simp only [go_sem,sevalprocAttr],by simp only [go_sem,sevalprocAttr],by simp only [go_sem,sevalprocAttr],M,aX,lv,[],by simp,bm.rfl',bj,hl,by cases dC en g most aX<;>rfl,.inl ⟨rfl,by simp only [go_sem,sevalprocAttr],rfl⟩⟩ ?_
 rintro m e ds h ⟨rfl,e0,e1,e2,M1,t1,lv1,acc,hm,aW,np,gZ,am,kq⟩
 have lM:=hg.ext aW
 cases m with
 | zero=>
  have bu:(acc.length:Int)=(most:Int):=by omega
  have lL:dC en g most aX=.err 5 (pm en t1):=am
  rcases kq with ⟨rfl,e7,rfl⟩ | ⟨ra,rc,xs,e7,fq,rfl⟩
  ·have bu:(0:Int)=(most:Int):=by simpa using bu
   simp +contextual only [go_sem,aD,sevalprocAttr,e0,e1,e7,bu]
   refine l4 [] gZ ?_
   simp +contextual only [go_sem,sevalprocAttr]
   exact fI [] aG.rfl' lL
  ·simp +contextual only [go_sem,aD,sevalprocAttr,e0,e1,e7,bu]
   refine l4 [] gZ ?_
   simp +contextual only [go_sem,sevalprocAttr]
   exact fI [] aG.rfl' lL
 | succ m=>
  have bu:¬ (acc.length:Int)=(most:Int):=by omega
  simp only [dC,Rs.bind_assoc] at am
  rcases kq with ⟨rfl,e7,rfl⟩ | ⟨ra,rc,xs,e7,fq,rfl⟩
  ·have bu:¬ (0:Int)=(most:Int):=by simpa using bu
   simp +contextual only [go_sem,aD,sevalprocAttr,e1,e2,e7,bu]
   refine cy [] aG.rfl' am cm (fun h=>HV M1 t1 lv1 T lM (hC _ _ aW Lh) gZ h) ?_
   rintro v M2 a t2 lv2 bh aZ am fD hv
   obtain ⟨cs,gC,hr⟩:=hE _ _ _ hv
   have cK:=ed _ _ _ hr
   simp only [nn,aK] at aZ
   have jE:=gC
   simp only [Value.cells] at jE
   simp +contextual only [go_sem,sevalprocAttr,jE,cK]
   intro b hb ui
   refine mO Ml L8 (.slice _ 1 _ _ _ Tryz.underlying51 (cF [] hb trivial (by rw [cK])) (dB _ _ _ hr)) (by rw [cK];decide) ?_
   intro ra rm rc jl
   have jm:rm=1:=by rw [cK] at jl;omega
   subst jm
   simp +contextual only [go_sem,sevalprocAttr,e0]
   refine iS [(b,_)] kM fD (fun hs lv3 fP=> ?_) (fun hs lv3 fP=> ?_)
   ·rw [if_pos hs,Rs.bind_assoc] at am
    simp +contextual only [go_sem,aD,sevalprocAttr]
    rw [eL]
    refine al (aC ⟨m,by omega,rfl,?_,?_,?_,M2,t2.tail,lv3,[a],by simp only [ln] at hm ⊢;omega,aW.trans bh,aZ,fP,am,.inr ⟨ra,rc,cs,?_,dm hr,rfl⟩⟩)
    all_goals simp only [e0,e1,e2,go_sem,sevalprocAttr]
   ·rw [if_neg (by simp [hs])] at am
    simp +contextual only [go_sem,aD,sevalprocAttr]
    refine al (cP fun M3 bG bC iR=>aQ aG.rfl' rfl rfl ?_)
    exact ⟨[a],t2,lv3,am,rfl,aH bG (fun _ _ h=>h) fP,rfl,⟨by simp,cs,iR,dm (oV _ _ _ _ bG hr)⟩⟩
  ·simp +contextual only [go_sem,aD,sevalprocAttr,e1,e2,e7,bu]
   refine cy [] aG.rfl' am cm (fun h=>HV M1 t1 lv1 T lM (hC _ _ aW Lh) gZ h) ?_
   rintro v M2 a t2 lv2 bh aZ am fD hv
   obtain ⟨cs,gC,hr⟩:=hE _ _ _ hv
   have cK:=ed _ _ _ hr
   have iY:=eJ (ed M1) fq
   have DU:RL (r M2) acc xs:=dl (fun x cs h=>oV _ _ _ _ bh h) fq
   simp only [nn,aK] at aZ
   have jE:=gC
   simp only [Value.cells] at jE
   simp +contextual only [go_sem,sevalprocAttr,jE,cK]
   intro b hb ui
   refine gX Ml L8 (.slice _ 1 _ _ _ Tryz.underlying51 (cF [] hb trivial (by rw [cK])) (dB _ _ _ hr)) (by rw [cK,iY];omega) ?_
   intro ra' rm rc' jl
   have jm:rm=(acc++[a]).length:=by
    rw [cK,iY] at jl
    rw [List.length_append,List.length_cons,List.length_nil]
    omega
   subst jm
   have bq:=cS DU (dm hr)
   simp +contextual only [go_sem,sevalprocAttr,e0]
   refine iS [(b,_)] kM fD (fun hs lv3 fP=> ?_) (fun hs lv3 fP=> ?_)
   ·rw [if_pos hs,Rs.bind_assoc] at am
    simp +contextual only [go_sem,aD,sevalprocAttr]
    rw [eL]
    refine al (aC ⟨m,by omega,rfl,?_,?_,?_,M2,t2.tail,lv3,acc++[a],by rw [List.length_append];simp only [ln];omega,aW.trans bh,aZ,fP,?_,.inr ⟨ra',rc',xs++cs,?_,bq,rfl⟩⟩)
    ·simp only [e0,go_sem,sevalprocAttr]
    ·simp only [e1,go_sem,sevalprocAttr]
    ·simp only [e2,go_sem,sevalprocAttr]
    ·rw [am]
     congr 1
     funext l t
     simp [Rs.bind]
    ·simp only [oF,go_sem,sevalprocAttr]
   ·rw [if_neg (by simp [hs])] at am
    simp +contextual only [go_sem,aD,sevalprocAttr]
    refine al (cP fun M3 bG bC iR=>aQ aG.rfl' rfl rfl ?_)
    exact ⟨acc++[a],t2,lv3,am,rfl,aH bG (fun _ _ h=>h) fP,rfl,⟨by rw [List.length_append];simp only [ln];omega,xs++cs,iR,dl (fun x cs h=>oV _ _ _ _ bG h) bq⟩⟩
def IM {α:Type}{M:aR}{pb gf:Nat}{aX:List Tk}{lv:Value}{en op:Int}{fa fc:List Value}{g:List Tk ->Rs α}{r:aR ->α ->List Value ->Prop}{enc:α ->Value ->aR ->Prop}{C:aR ->Prop}(most:Nat)
 (HV:∀ (M:aR) (t:List Tk) (lv:Value) (T:Tm),eS M ->C M ->RS M gQ 3 t lv ->g t≠ .out ->bU Tryz.prog gf (fa++fc) T M (pL pb lv en op) [] (fR pb en op enc (g t)) (gN pb en (g t)))
 (hE:∀ x v M,enc x v M ->∃ cs,v.cells.toList=cs/\r M x cs) (ed:∀ M x cs,r M x cs ->cs.length=1) (dB:∀ M x cs,r M x cs ->∀ u∈cs,u.oneCell'=true) (oV:∀ M M' x cs,bm M M' ->r M x cs ->r M' x cs)
 (hC:∀ M M',bm M M' ->C M ->C M') (Lh:C M) (LB:most<=400) (hg:eS M) (hl:RS M gQ 3 aX lv) (cm:dC en g most aX≠ .out) (T:Tm):
 bU Tryz.prog 45 [.pointer (some ⟨pb,0,none⟩),.int .i64 (most:Int),.func (.func gf) ⟨fa⟩ ⟨fc⟩] T M (pL pb lv en op) [] (fR pb en op (fun l v M=>RS M (r M) 1 l v) (dC en g most aX)) (gN pb en (dC en g most aX)):=by
 refine az F45 rfl rfl ?_
 intro bj _
 simp only [aK] at bj
 simp +contextual only [go_sem,aD,sevalprocAttr]
 refine gM (fun m e ds h=>ds=[]/\e 0=.pointer (some ⟨pb,0,none⟩)/\e 1=.int .i64 (most:Int)/\e 2=.func (.func gf) ⟨fa⟩ ⟨fc⟩/\
  ∃ M' t' lv' acc,m+acc.length=most/\bm M M'/\M' pb=none/\RS M' gQ 3 t' lv'/\dC en g most aX=(dC en g m t').bind (fun l t=> .ok (acc++l) t)/\
   ((acc=[]/\e 7=.slice none 0 0/\h=⟨T,M',pL pb lv' en op,[]⟩)\/∃ ra rc xs,e 7=.slice ra acc.length rc/\RL (r M') acc xs/\h=⟨T,M',pL pb lv' en op,[(.slice ra acc.length rc,29,1,xs)]⟩))
  ⟨most,rfl,by simp only [go_sem,sevalprocAttr],by simp only [go_sem,sevalprocAttr],by simp only [go_sem,sevalprocAttr],M,aX,lv,[],by simp,bm.rfl',bj,hl,by cases dC en g most aX<;>rfl,.inl ⟨rfl,by simp only [go_sem,sevalprocAttr],rfl⟩⟩ ?_
 rintro m e ds h ⟨rfl,e0,e1,e2,M1,t1,lv1,acc,hm,aW,np,gZ,am,kq⟩
 have lM:=hg.ext aW
 cases m with
 | zero=>
  have bu:(acc.length:Int)=(most:Int):=by omega
  have lL:dC en g most aX=.err 5 (pm en t1):=am
  rcases kq with ⟨rfl,e7,rfl⟩ | ⟨ra,rc,xs,e7,fq,rfl⟩
  ·have bu:(0:Int)=(most:Int):=by simpa using bu
   simp +contextual only [go_sem,aD,sevalprocAttr,e0,e1,e7,bu]
   refine l4 [] gZ ?_
   simp +contextual only [go_sem,sevalprocAttr]
   exact fI [] aG.rfl' lL
  ·simp +contextual only [go_sem,aD,sevalprocAttr,e0,e1,e7,bu]
   refine l4 [] gZ ?_
   simp +contextual only [go_sem,sevalprocAttr]
   exact fI [] aG.rfl' lL
 | succ m=>
  have bu:¬ (acc.length:Int)=(most:Int):=by omega
  simp only [dC,Rs.bind_assoc] at am
  rcases kq with ⟨rfl,e7,rfl⟩ | ⟨ra,rc,xs,e7,fq,rfl⟩
  ·have bu:¬ (0:Int)=(most:Int):=by simpa using bu
   simp +contextual only [go_sem,aD,sevalprocAttr,e1,e2,e7,bu]
   refine cy [] aG.rfl' am cm (fun h=>HV M1 t1 lv1 T lM (hC _ _ aW Lh) gZ h) ?_
   rintro v M2 a t2 lv2 bh aZ am fD hv
   obtain ⟨cs,gC,hr⟩:=hE _ _ _ hv
   have cK:=ed _ _ _ hr
   simp only [nn,aK] at aZ
   have jE:=gC
   simp only [Value.cells] at jE
   simp +contextual only [go_sem,sevalprocAttr,jE,cK]
   intro b hb ui
   refine mO G6 GC (.slice _ 1 _ _ _ Tryz.underlying24 (cF [] hb trivial (by rw [cK])) (dB _ _ _ hr)) (by rw [cK];decide) ?_
   intro ra rm rc jl
   have jm:rm=1:=by rw [cK] at jl;omega
   subst jm
   simp +contextual only [go_sem,sevalprocAttr,e0]
   refine iS [(b,_)] kM fD (fun hs lv3 fP=> ?_) (fun hs lv3 fP=> ?_)
   ·rw [if_pos hs,Rs.bind_assoc] at am
    simp +contextual only [go_sem,aD,sevalprocAttr]
    rw [eL]
    refine al (aC ⟨m,by omega,rfl,?_,?_,?_,M2,t2.tail,lv3,[a],by simp only [ln] at hm ⊢;omega,aW.trans bh,aZ,fP,am,.inr ⟨ra,rc,cs,?_,dm hr,rfl⟩⟩)
    all_goals simp only [e0,e1,e2,go_sem,sevalprocAttr]
   ·rw [if_neg (by simp [hs])] at am
    simp +contextual only [go_sem,aD,sevalprocAttr]
    refine al (cP fun M3 bG bC iR=>aQ aG.rfl' rfl rfl ?_)
    exact ⟨[a],t2,lv3,am,rfl,aH bG (fun _ _ h=>h) fP,rfl,⟨by simp,cs,iR,dm (oV _ _ _ _ bG hr)⟩⟩
  ·simp +contextual only [go_sem,aD,sevalprocAttr,e1,e2,e7,bu]
   refine cy [] aG.rfl' am cm (fun h=>HV M1 t1 lv1 T lM (hC _ _ aW Lh) gZ h) ?_
   rintro v M2 a t2 lv2 bh aZ am fD hv
   obtain ⟨cs,gC,hr⟩:=hE _ _ _ hv
   have cK:=ed _ _ _ hr
   have iY:=eJ (ed M1) fq
   have DU:RL (r M2) acc xs:=dl (fun x cs h=>oV _ _ _ _ bh h) fq
   simp only [nn,aK] at aZ
   have jE:=gC
   simp only [Value.cells] at jE
   simp +contextual only [go_sem,sevalprocAttr,jE,cK]
   intro b hb ui
   refine gX G6 GC (.slice _ 1 _ _ _ Tryz.underlying24 (cF [] hb trivial (by rw [cK])) (dB _ _ _ hr)) (by rw [cK,iY];omega) ?_
   intro ra' rm rc' jl
   have jm:rm=(acc++[a]).length:=by
    rw [cK,iY] at jl
    rw [List.length_append,List.length_cons,List.length_nil]
    omega
   subst jm
   have bq:=cS DU (dm hr)
   simp +contextual only [go_sem,sevalprocAttr,e0]
   refine iS [(b,_)] kM fD (fun hs lv3 fP=> ?_) (fun hs lv3 fP=> ?_)
   ·rw [if_pos hs,Rs.bind_assoc] at am
    simp +contextual only [go_sem,aD,sevalprocAttr]
    rw [eL]
    refine al (aC ⟨m,by omega,rfl,?_,?_,?_,M2,t2.tail,lv3,acc++[a],by rw [List.length_append];simp only [ln];omega,aW.trans bh,aZ,fP,?_,.inr ⟨ra',rc',xs++cs,?_,bq,rfl⟩⟩)
    ·simp only [e0,go_sem,sevalprocAttr]
    ·simp only [e1,go_sem,sevalprocAttr]
    ·simp only [e2,go_sem,sevalprocAttr]
    ·rw [am]
     congr 1
     funext l t
     simp [Rs.bind]
    ·simp only [oF,go_sem,sevalprocAttr]
   ·rw [if_neg (by simp [hs])] at am
    simp +contextual only [go_sem,aD,sevalprocAttr]
    refine al (cP fun M3 bG bC iR=>aQ aG.rfl' rfl rfl ?_)
    exact ⟨acc++[a],t2,lv3,am,rfl,aH bG (fun _ _ h=>h) fP,rfl,⟨by rw [List.length_append];simp only [ln];omega,xs++cs,iR,dl (fun x cs h=>oV _ _ _ _ bG h) bq⟩⟩
def NX {α:Type}{M:aR}{pb gf:Nat}{aX:List Tk}{lv:Value}{en op:Int}{fa fc:List Value}{g:List Tk ->Rs α}{r:aR ->α ->List Value ->Prop}{enc:α ->Value ->aR ->Prop}{C:aR ->Prop}(most:Nat)
 (HV:∀ (M:aR) (t:List Tk) (lv:Value) (T:Tm),eS M ->C M ->RS M gQ 3 t lv ->g t≠ .out ->bU Tryz.prog gf (fa++fc) T M (pL pb lv en op) [] (fR pb en op enc (g t)) (gN pb en (g t)))
 (hE:∀ x v M,enc x v M ->∃ cs,v.cells.toList=cs/\r M x cs) (ed:∀ M x cs,r M x cs ->cs.length=3) (dB:∀ M x cs,r M x cs ->∀ u∈cs,u.oneCell'=true) (oV:∀ M M' x cs,bm M M' ->r M x cs ->r M' x cs)
 (hC:∀ M M',bm M M' ->C M ->C M') (Lh:C M) (LB:most<=400) (hg:eS M) (hl:RS M gQ 3 aX lv) (cm:dC en g most aX≠ .out) (T:Tm):
 bU Tryz.prog 79 [.pointer (some ⟨pb,0,none⟩),.int .i64 (most:Int),.func (.func gf) ⟨fa⟩ ⟨fc⟩] T M (pL pb lv en op) [] (fR pb en op (fun l v M=>RS M (r M) 3 l v) (dC en g most aX)) (gN pb en (dC en g most aX)):=by
 refine az F79 rfl rfl ?_
 intro bj _
 simp only [aK] at bj
 simp +contextual only [go_sem,aD,sevalprocAttr]
 refine gM (fun m e ds h=>ds=[]/\e 0=.pointer (some ⟨pb,0,none⟩)/\e 1=.int .i64 (most:Int)/\e 2=.func (.func gf) ⟨fa⟩ ⟨fc⟩/\
  ∃ M' t' lv' acc,m+acc.length=most/\bm M M'/\M' pb=none/\RS M' gQ 3 t' lv'/\dC en g most aX=(dC en g m t').bind (fun l t=> .ok (acc++l) t)/\
   ((acc=[]/\e 7=.slice none 0 0/\h=⟨T,M',pL pb lv' en op,[]⟩)\/∃ ra rc xs,e 7=.slice ra acc.length rc/\RL (r M') acc xs/\h=⟨T,M',pL pb lv' en op,[(.slice ra acc.length rc,27,3,xs)]⟩))
  ⟨most,rfl,by simp only [go_sem,sevalprocAttr],by simp only [go_sem,sevalprocAttr],by simp only [go_sem,sevalprocAttr],M,aX,lv,[],by simp,bm.rfl',bj,hl,by cases dC en g most aX<;>rfl,.inl ⟨rfl,by simp only [go_sem,sevalprocAttr],rfl⟩⟩ ?_
 rintro m e ds h ⟨rfl,e0,e1,e2,M1,t1,lv1,acc,hm,aW,np,gZ,am,kq⟩
 have lM:=hg.ext aW
 cases m with
 | zero=>
  have bu:(acc.length:Int)=(most:Int):=by omega
  have lL:dC en g most aX=.err 5 (pm en t1):=am
  rcases kq with ⟨rfl,e7,rfl⟩ | ⟨ra,rc,xs,e7,fq,rfl⟩
  ·have bu:(0:Int)=(most:Int):=by simpa using bu
   simp +contextual only [go_sem,aD,sevalprocAttr,e0,e1,e7,bu]
   refine l4 [] gZ ?_
   simp +contextual only [go_sem,sevalprocAttr]
   exact fI [] aG.rfl' lL
  ·simp +contextual only [go_sem,aD,sevalprocAttr,e0,e1,e7,bu]
   refine l4 [] gZ ?_
   simp +contextual only [go_sem,sevalprocAttr]
   exact fI [] aG.rfl' lL
 | succ m=>
  have bu:¬ (acc.length:Int)=(most:Int):=by omega
  simp only [dC,Rs.bind_assoc] at am
  rcases kq with ⟨rfl,e7,rfl⟩ | ⟨ra,rc,xs,e7,fq,rfl⟩
  ·have bu:¬ (0:Int)=(most:Int):=by simpa using bu
   simp +contextual only [go_sem,aD,sevalprocAttr,e1,e2,e7,bu]
   refine cy [] aG.rfl' am cm (fun h=>HV M1 t1 lv1 T lM (hC _ _ aW Lh) gZ h) ?_
   rintro v M2 a t2 lv2 bh aZ am fD hv
   obtain ⟨cs,gC,hr⟩:=hE _ _ _ hv
   have cK:=ed _ _ _ hr
   simp only [nn,aK] at aZ
   have jE:=gC
   simp only [Value.cells] at jE
   simp +contextual only [go_sem,sevalprocAttr,jE,cK]
   intro b hb ui
   refine mO Ao zY (.slice _ 1 _ _ _ Tryz.underlying29 (cF [] hb trivial (by rw [cK])) (dB _ _ _ hr)) (by rw [cK];decide) ?_
   intro ra rm rc jl
   have jm:rm=1:=by rw [cK] at jl;omega
   subst jm
   simp +contextual only [go_sem,sevalprocAttr,e0]
   refine iS [(b,_)] kM fD (fun hs lv3 fP=> ?_) (fun hs lv3 fP=> ?_)
   ·rw [if_pos hs,Rs.bind_assoc] at am
    simp +contextual only [go_sem,aD,sevalprocAttr]
    rw [eL]
    refine al (aC ⟨m,by omega,rfl,?_,?_,?_,M2,t2.tail,lv3,[a],by simp only [ln] at hm ⊢;omega,aW.trans bh,aZ,fP,am,.inr ⟨ra,rc,cs,?_,dm hr,rfl⟩⟩)
    all_goals simp only [e0,e1,e2,go_sem,sevalprocAttr]
   ·rw [if_neg (by simp [hs])] at am
    simp +contextual only [go_sem,aD,sevalprocAttr]
    refine al (cP fun M3 bG bC iR=>aQ aG.rfl' rfl rfl ?_)
    exact ⟨[a],t2,lv3,am,rfl,aH bG (fun _ _ h=>h) fP,rfl,⟨by simp,cs,iR,dm (oV _ _ _ _ bG hr)⟩⟩
  ·simp +contextual only [go_sem,aD,sevalprocAttr,e1,e2,e7,bu]
   refine cy [] aG.rfl' am cm (fun h=>HV M1 t1 lv1 T lM (hC _ _ aW Lh) gZ h) ?_
   rintro v M2 a t2 lv2 bh aZ am fD hv
   obtain ⟨cs,gC,hr⟩:=hE _ _ _ hv
   have cK:=ed _ _ _ hr
   have iY:=eJ (ed M1) fq
   have DU:RL (r M2) acc xs:=dl (fun x cs h=>oV _ _ _ _ bh h) fq
   simp only [nn,aK] at aZ
   have jE:=gC
   simp only [Value.cells] at jE
   simp +contextual only [go_sem,sevalprocAttr,jE,cK]
   intro b hb ui
   refine gX Ao zY (.slice _ 1 _ _ _ Tryz.underlying29 (cF [] hb trivial (by rw [cK])) (dB _ _ _ hr)) (by rw [cK,iY];omega) ?_
   intro ra' rm rc' jl
   have jm:rm=(acc++[a]).length:=by
    rw [cK,iY] at jl
    rw [List.length_append,List.length_cons,List.length_nil]
    omega
   subst jm
   have bq:=cS DU (dm hr)
   simp +contextual only [go_sem,sevalprocAttr,e0]
   refine iS [(b,_)] kM fD (fun hs lv3 fP=> ?_) (fun hs lv3 fP=> ?_)
   ·rw [if_pos hs,Rs.bind_assoc] at am
    simp +contextual only [go_sem,aD,sevalprocAttr]
    rw [eL]
    refine al (aC ⟨m,by omega,rfl,?_,?_,?_,M2,t2.tail,lv3,acc++[a],by rw [List.length_append];simp only [ln];omega,aW.trans bh,aZ,fP,?_,.inr ⟨ra',rc',xs++cs,?_,bq,rfl⟩⟩)
    ·simp only [e0,go_sem,sevalprocAttr]
    ·simp only [e1,go_sem,sevalprocAttr]
    ·simp only [e2,go_sem,sevalprocAttr]
    ·rw [am]
     congr 1
     funext l t
     simp [Rs.bind]
    ·simp only [oF,go_sem,sevalprocAttr]
   ·rw [if_neg (by simp [hs])] at am
    simp +contextual only [go_sem,aD,sevalprocAttr]
    refine al (cP fun M3 bG bC iR=>aQ aG.rfl' rfl rfl ?_)
    exact ⟨acc++[a],t2,lv3,am,rfl,aH bG (fun _ _ h=>h) fP,rfl,⟨by rw [List.length_append];simp only [ln];omega,xs++cs,iR,dl (fun x cs h=>oV _ _ _ _ bG h) bq⟩⟩
def IL {α:Type}{M:aR}{pb gf:Nat}{aX:List Tk}{lv:Value}{en op:Int}{fa fc:List Value}{g:List Tk ->Rs α}{r:aR ->α ->List Value ->Prop}{enc:α ->Value ->aR ->Prop}{C:aR ->Prop}(most:Nat)
 (HV:∀ (M:aR) (t:List Tk) (lv:Value) (T:Tm),eS M ->C M ->RS M gQ 3 t lv ->g t≠ .out ->bU Tryz.prog gf (fa++fc) T M (pL pb lv en op) [] (fR pb en op enc (g t)) (gN pb en (g t)))
 (hE:∀ x v M,enc x v M ->∃ cs,v.cells.toList=cs/\r M x cs) (ed:∀ M x cs,r M x cs ->cs.length=8) (dB:∀ M x cs,r M x cs ->∀ u∈cs,u.oneCell'=true) (oV:∀ M M' x cs,bm M M' ->r M x cs ->r M' x cs)
 (hC:∀ M M',bm M M' ->C M ->C M') (Lh:C M) (LB:most<=400) (hg:eS M) (hl:RS M gQ 3 aX lv) (cm:dC en g most aX≠ .out) (T:Tm):
 bU Tryz.prog 119 [.pointer (some ⟨pb,0,none⟩),.int .i64 (most:Int),.func (.func gf) ⟨fa⟩ ⟨fc⟩] T M (pL pb lv en op) [] (fR pb en op (fun l v M=>RS M (r M) 8 l v) (dC en g most aX)) (gN pb en (dC en g most aX)):=by
 refine az ah4 rfl rfl ?_
 intro bj _
 simp only [aK] at bj
 simp +contextual only [go_sem,aD,sevalprocAttr]
 refine gM (fun m e ds h=>ds=[]/\e 0=.pointer (some ⟨pb,0,none⟩)/\e 1=.int .i64 (most:Int)/\e 2=.func (.func gf) ⟨fa⟩ ⟨fc⟩/\
  ∃ M' t' lv' acc,m+acc.length=most/\bm M M'/\M' pb=none/\RS M' gQ 3 t' lv'/\dC en g most aX=(dC en g m t').bind (fun l t=> .ok (acc++l) t)/\
   ((acc=[]/\e 7=.slice none 0 0/\h=⟨T,M',pL pb lv' en op,[]⟩)\/∃ ra rc xs,e 7=.slice ra acc.length rc/\RL (r M') acc xs/\h=⟨T,M',pL pb lv' en op,[(.slice ra acc.length rc,215,8,xs)]⟩))
  ⟨most,rfl,by simp only [go_sem,sevalprocAttr],by simp only [go_sem,sevalprocAttr],by simp only [go_sem,sevalprocAttr],M,aX,lv,[],by simp,bm.rfl',bj,hl,by cases dC en g most aX<;>rfl,.inl ⟨rfl,by simp only [go_sem,sevalprocAttr],rfl⟩⟩ ?_
 rintro m e ds h ⟨rfl,e0,e1,e2,M1,t1,lv1,acc,hm,aW,np,gZ,am,kq⟩
 have lM:=hg.ext aW
 cases m with
 | zero=>
  have bu:(acc.length:Int)=(most:Int):=by omega
  have lL:dC en g most aX=.err 5 (pm en t1):=am
  rcases kq with ⟨rfl,e7,rfl⟩ | ⟨ra,rc,xs,e7,fq,rfl⟩
  ·have bu:(0:Int)=(most:Int):=by simpa using bu
   simp +contextual only [go_sem,aD,sevalprocAttr,e0,e1,e7,bu]
   refine l4 [] gZ ?_
   simp +contextual only [go_sem,sevalprocAttr]
   exact fI [] aG.rfl' lL
  ·simp +contextual only [go_sem,aD,sevalprocAttr,e0,e1,e7,bu]
   refine l4 [] gZ ?_
   simp +contextual only [go_sem,sevalprocAttr]
   exact fI [] aG.rfl' lL
 | succ m=>
  have bu:¬ (acc.length:Int)=(most:Int):=by omega
  simp only [dC,Rs.bind_assoc] at am
  rcases kq with ⟨rfl,e7,rfl⟩ | ⟨ra,rc,xs,e7,fq,rfl⟩
  ·have bu:¬ (0:Int)=(most:Int):=by simpa using bu
   simp +contextual only [go_sem,aD,sevalprocAttr,e1,e2,e7,bu]
   refine cy [] aG.rfl' am cm (fun h=>HV M1 t1 lv1 T lM (hC _ _ aW Lh) gZ h) ?_
   rintro v M2 a t2 lv2 bh aZ am fD hv
   obtain ⟨cs,gC,hr⟩:=hE _ _ _ hv
   have cK:=ed _ _ _ hr
   simp only [nn,aK] at aZ
   have jE:=gC
   simp only [Value.cells] at jE
   simp +contextual only [go_sem,sevalprocAttr,jE,cK]
   intro b hb ui
   refine mO Kb JS (.slice _ 1 _ _ _ Tryz.underlying152 (cF [] hb trivial (by rw [cK])) (dB _ _ _ hr)) (by rw [cK];decide) ?_
   intro ra rm rc jl
   have jm:rm=1:=by rw [cK] at jl;omega
   subst jm
   simp +contextual only [go_sem,sevalprocAttr,e0]
   refine iS [(b,_)] kM fD (fun hs lv3 fP=> ?_) (fun hs lv3 fP=> ?_)
   ·rw [if_pos hs,Rs.bind_assoc] at am
    simp +contextual only [go_sem,aD,sevalprocAttr]
    rw [eL]
    refine al (aC ⟨m,by omega,rfl,?_,?_,?_,M2,t2.tail,lv3,[a],by simp only [ln] at hm ⊢;omega,aW.trans bh,aZ,fP,am,.inr ⟨ra,rc,cs,?_,dm hr,rfl⟩⟩)
    all_goals simp only [e0,e1,e2,go_sem,sevalprocAttr]
   ·rw [if_neg (by simp [hs])] at am
    simp +contextual only [go_sem,aD,sevalprocAttr]
    refine al (cP fun M3 bG bC iR=>aQ aG.rfl' rfl rfl ?_)
    exact ⟨[a],t2,lv3,am,rfl,aH bG (fun _ _ h=>h) fP,rfl,⟨by simp,cs,iR,dm (oV _ _ _ _ bG hr)⟩⟩
  ·simp +contextual only [go_sem,aD,sevalprocAttr,e1,e2,e7,bu]
   refine cy [] aG.rfl' am cm (fun h=>HV M1 t1 lv1 T lM (hC _ _ aW Lh) gZ h) ?_
   rintro v M2 a t2 lv2 bh aZ am fD hv
   obtain ⟨cs,gC,hr⟩:=hE _ _ _ hv
   have cK:=ed _ _ _ hr
   have iY:=eJ (ed M1) fq
   have DU:RL (r M2) acc xs:=dl (fun x cs h=>oV _ _ _ _ bh h) fq
   simp only [nn,aK] at aZ
   have jE:=gC
   simp only [Value.cells] at jE
   simp +contextual only [go_sem,sevalprocAttr,jE,cK]
   intro b hb ui
   refine gX Kb JS (.slice _ 1 _ _ _ Tryz.underlying152 (cF [] hb trivial (by rw [cK])) (dB _ _ _ hr)) (by rw [cK,iY];omega) ?_
   intro ra' rm rc' jl
   have jm:rm=(acc++[a]).length:=by
    rw [cK,iY] at jl
    rw [List.length_append,List.length_cons,List.length_nil]
    omega
   subst jm
   have bq:=cS DU (dm hr)
   simp +contextual only [go_sem,sevalprocAttr,e0]
   refine iS [(b,_)] kM fD (fun hs lv3 fP=> ?_) (fun hs lv3 fP=> ?_)
   ·rw [if_pos hs,Rs.bind_assoc] at am
    simp +contextual only [go_sem,aD,sevalprocAttr]
    rw [eL]
    refine al (aC ⟨m,by omega,rfl,?_,?_,?_,M2,t2.tail,lv3,acc++[a],by rw [List.length_append];simp only [ln];omega,aW.trans bh,aZ,fP,?_,.inr ⟨ra',rc',xs++cs,?_,bq,rfl⟩⟩)
    ·simp only [e0,go_sem,sevalprocAttr]
    ·simp only [e1,go_sem,sevalprocAttr]
    ·simp only [e2,go_sem,sevalprocAttr]
    ·rw [am]
     congr 1
     funext l t
     simp [Rs.bind]
    ·simp only [oF,go_sem,sevalprocAttr]
   ·rw [if_neg (by simp [hs])] at am
    simp +contextual only [go_sem,aD,sevalprocAttr]
    refine al (cP fun M3 bG bC iR=>aQ aG.rfl' rfl rfl ?_)
    exact ⟨acc++[a],t2,lv3,am,rfl,aH bG (fun _ _ h=>h) fP,rfl,⟨by rw [List.length_append];simp only [ln];omega,xs++cs,iR,dl (fun x cs h=>oV _ _ _ _ bG h) bq⟩⟩
def Vn (en:Int)(t:List Tk):Rs V:=(jI en t).bind fun o t=>match o with
 | some v=> .ok v t
 | none=> .err 2 (pm en t)
def LO {en:Int}{t:List Tk}:xp en t≠ .out:=by
 unfold xp
 generalize (if bH li t=true then t.tail else t)=u
 cases u with
 | nil=>simp [rI]
 | cons t r=>
  simp only [rI]
  split
  ·split<;>simp
  ·simp
def CZ {en:Int}{t:List Tk}:jI en t≠ .out:=by
 unfold jI
 repeat' split
 all_goals first | simp | skip
 intro h
 cases hn:xp en t with
 | out=>exact LO hn
 | ok a r=>rw [hn] at h;cases h
 | err e a=>rw [hn] at h;cases h
def ME {en:Int}{t:List Tk}:Vn en t≠ .out:=by
 unfold Vn
 cases hn:jI en t with
 | out=>exact (CZ hn).elim
 | ok a r=>simp only [Rs.bind];split<;>simp
 | err e a=>simp [Rs.bind]
def Sc (x:V)(v:Value)(_:aR):Prop:=v=.agg ⟨x.cs⟩
def W2 {M:aR}{pb bc:Nat}{aX:List Tk}{lv:Value}{en op:Int}(hc:M bc=some [.pointer (some ⟨pb,0,none⟩)])(hl:RS M gQ 3 aX lv)(T:Tm):
 bU Tryz.prog 80 [.pointer (some ⟨bc,0,none⟩)] T M (pL pb lv en op) [] (fR pb en op Sc (Vn en aX)) (gN pb en (Vn en aX)):=by
 refine az F80 rfl rfl ?_
 intro bj _
 simp only [aK] at bj
 simp +contextual only [go_sem,sevalprocAttr,bg hc]
 intro b2 T2 dO fz dA ef
 refine cy [(b2,_)] dA rfl ME (fun _=>yP hl T2) ?_
 rintro v M1 o t lv1 aW bD am gZ hv
 have Ls:=aW _ _ hc
 simp only [nn,aJ,aK] at bD
 cases o with
 | some x=>
  simp only [Sb] at hv;subst hv
  simp +contextual only [go_sem,aD,sevalprocAttr,bD,V.cs]
  intro b3 T3 gK cZ fU gB
  refine al (al (aQ (dA.trans fU) rfl rfl ?_))
  exact ⟨x,t,lv1,am,rfl,gZ,rfl,rfl⟩
 | none=>
  simp only [Sb] at hv;subst hv
  simp +contextual only [go_sem,aD,sevalprocAttr,V.cs,bg Ls]
  intro b3 T3 gK cZ fU gB
  refine l4 [(b3,_),(b2,_)] gZ ?_
  simp +contextual only [go_sem,sevalprocAttr]
  exact fI [(b3,_),(b2,_)] (dA.trans fU) am
def Uo (en:Int)(t:List Tk):Rs (List V):=(cj en [sk] t).bind fun _ t=>(dC en (Vn en) 8 t).bind fun l t=>(cj en [kL] t).bind fun _ t=> .ok l t
def bB {α β:Type}{g:Rs α}{f:α ->List Tk ->Rs β}(hg:g≠ .out)(hf:∀ a t,f a t≠ .out):g.bind f≠ .out:=by
 cases g with
 | out=>exact (hg rfl).elim
 | ok a t=>exact hf a t
 | err e a=>simp [Rs.bind]
def oB {α:Type}{en:Int}{g:List Tk ->Rs α}(hg:∀ t,g t≠ .out):∀ {n t},dC en g n t≠ .out:=by
 intro n
 induction n with
 | zero=>intro t;simp [dC]
 | succ n ih=>
  intro t
  refine bB (hg t) fun a t=> ?_
  split
  ·exact bB ih fun _ _=>by simp
  ·simp
def Mn {en:Int}{t:List Tk}:Uo en t≠ .out:=bB ei fun _ _=>bB (oB fun _=>ME) fun _ _=>bB ei fun _ _=>by simp
def Sa (l:List V)(v:Value)(M:aR):Prop:=RS M RV 3 l v
theorem eK {v:V}{cs}(h:RV v cs):cs.length=3:=by unfold RV at h;subst h;rfl
def aaY {M:aR}{pb:Nat}{aX:List Tk}{lv:Value}{en op:Int}(hg:eS M)(hl:RS M gQ 3 aX lv)(T:Tm):
 bU Tryz.prog 46 [.pointer (some ⟨pb,0,none⟩)] T M (pL pb lv en op) [] (fR pb en op Sa (Uo en aX)) (gN pb en (Uo en aX)):=by
 refine az F46 rfl rfl ?_
 intro bj _
 simp only [aK] at bj
 simp +contextual only [go_sem,sevalprocAttr]
 intro b1 T1 fO vy cY gu b5 jz eg
 refine dU [(b1,_)] cY rfl hl ?_
 intro M2 lv2 bh aZ am fD
 simp only [nn,aJ,aK] at aZ
 simp +contextual only [go_sem,sevalprocAttr,aZ]
 refine dh F79.bd fun M3 bG gK bC=> ?_
 have fP:=aH bG (fun _ _ h=>h) fD
 have cm:=Mn (en:=en) (t:=aX)
 refine cy [] cY am cm (fun h=>NX (fa:=[]) (fc:=[.pointer (some ⟨b1,0,none⟩)]) (C:=fun M=>M b1=some [.pointer (some ⟨pb,0,none⟩)]) (r:=fun _=>RV) 8
  (fun M t lv T _ hc hl _=>W2 hc hl T) (fun x v M h=>⟨x.cs,by unfold Sc at h;subst h;rfl,rfl⟩) (fun _ _ _ h=>eK h) (fun _ x _ h=>by unfold RV at h;subst h;intro u hu;simp only [V.cs,mn] at hu;rcases hu with rfl | rfl | rfl<;>rfl)
  (fun _ _ _ _ _ h=>h) (fun M M' he h=>he _ _ h) gK (by decide) ((hg.ext bh).ext bG) fP h T1) ?_
 rintro v M4 l t lv4 dz de am kx hv
 have hc4:=dz _ _ gK
 simp only [nn,aK] at de
 simp +contextual only [go_sem,sevalprocAttr,bg hc4]
 intro b6 pA gR
 refine dU [] cY am kx ?_
 intro M5 lv5 dN bS am iq
 simp +contextual only [go_sem,sevalprocAttr]
 refine aQ cY rfl rfl ?_
 exact ⟨l,_,lv5,am,rfl,iq,rfl,aH dN (fun _ _ h=>h) hv⟩
abbrev YT:Bs:=[115,101,108,101,99,116]
abbrev jS:Bs:=[100,105,115,116,105,110,99,116]
abbrev Z6:Bs:=[102,114,111,109]
abbrev tq:Bs:=[119,104,101,114,101]
abbrev Kt:Bs:=[103,114,111,117,112]
abbrev wBy:Bs:=[98,121]
abbrev yb:Bs:=[104,97,118,105,110,103]
abbrev Ku:Bs:=[111,114,100,101,114]
abbrev adg:Bs:=[108,105,109,105,116]
abbrev MG:Bs:=[99,114,101,97,116,101]
abbrev Z9:Bs:=[118,105,101,119]
abbrev adh:Bs:=[116,97,98,108,101]
abbrev MI:Bs:=[105,110,115,101,114,116]
abbrev agW:Bs:=[105,110,116,111]
abbrev YU:Bs:=[118,97,108,117,101,115]
abbrev MH:Bs:=[100,101,108,101,116,101]
abbrev ag0:Bs:=[115,104,111,119]
def zK (en:Int)(ex:List Tk ->Rs X):Nat ->List Tk ->Rs (List So)
 | lR,t=>(uw en t).bind fun k t=>if 0<k then (match lR with
  | 0=> .err 5 (pm en t)
  | r+1=>(mZ en ex k t).bind fun s t=>(zK en ex r t).bind fun l t=> .ok (s::l) t) else .ok [] t
def vJ (en:Int)(ex:List Tk ->Rs X)(lR:Nat)(k:Int)(t:List Tk):Rs (List So):=if 0<k then (match lR with
 | 0=> .err 5 (pm en t)
 | r+1=>(mZ en ex k t).bind fun s t=>(zK en ex r t).bind fun l t=> .ok (s::l) t) else .ok [] t
theorem re (en:Int)(ex:List Tk ->Rs X)(lR:Nat)(t:List Tk):zK en ex lR t=(uw en t).bind (vJ en ex lR):=by
 cases lR<;>rfl
def tl (b:Bool)(t:List Tk):List Tk:=if b=true then t.tail else t
def D7 (ex:List Tk ->Rs X)(w:Bs)(t:List Tk):Rs X:=if bH w t=true then ex t.tail else .ok lq t
def acO (en:Int)(ex:List Tk ->Rs X)(t:List Tk):Rs (List X):=if bH Kt t=true then (cj en [wBy] t.tail).bind fun _ t=>dC en ex 8 t else .ok [] t
def UA (ex:List Tk ->Rs X)(d s:Bool)(items:List It)(src:List So)(w:Bool)(wh:X)(group:List X)(t:List Tk):Rs Se:=
 (D7 ex yb t).bind fun hv t'=> .ok ⟨d,s,items,src,w,bH yb t,wh,hv,group⟩ t'
def Uz (en:Int)(ex:List Tk ->Rs X)(d s:Bool)(items:List It)(src:List So)(w:Bool)(wh:X)(t:List Tk):Rs Se:=
 (acO en ex t).bind fun group t=>UA ex d s items src w wh group t
def Ms (en:Int)(ex:List Tk ->Rs X)(d s:Bool)(items:List It)(src:List So)(t:List Tk):Rs Se:=
 (D7 ex tq t).bind fun wh t'=>Uz en ex d s items src (bH tq t) wh t'
def ZX (en:Int)(ex:List Tk ->Rs X)(d s:Bool)(items:List It)(t:List Tk):Rs Se:=
 (cj en [Z6] t).bind fun _ t=>(mZ en ex 1 t).bind fun s0 t=>(zK en ex 3 t).bind fun src t=>Ms en ex d s items (s0::src) t
def xt (en:Int)(ex:List Tk ->Rs X)(t:List Tk):Rs Se:=
 (cj en [YT] t).bind fun _ t0=>
 (if bH As (tl (bH jS t0) t0)=true then .ok [] (tl (bH jS t0) t0).tail else dC en (Cg en ex) 8 (tl (bH jS t0) t0)).bind fun items t=>
 ZX en ex (bH jS t0) (bH As (tl (bH jS t0) t0)) items t
def aeL (i:Se)(v:Value)(M:aR):Prop:=∃ cs,v=.agg ⟨cs⟩/\HS M i cs
theorem Qh {M:aR}{x:It}{cs:List Value}(h:AP M x cs):∀ u∈cs,u.oneCell'=true:=by
 obtain ⟨c,hx,rfl⟩:=h
 intro u hu
 rcases xY hu with hu | hu
 ·exact lG hx u hu
 ·simp only [List.mem_singleton] at hu;subst hu;rfl
def ES {M:aR}{x:So}{cs:List Value}(h:EQ M x cs):∀ u∈cs,u.oneCell'=true:=by
 obtain ⟨c,hx,rfl⟩:=h
 intro u hu
 rcases xY hu with hu | hu
 ·simp only [mn] at hu
  rcases hu with rfl | rfl | rfl<;>rfl
 ·exact lG hx u hu
theorem dy {α:Type}{r:α ->List Value ->Prop}{sz:Nat}{M:aR}{l:List α}{v:Value}(h:RS M r sz l v):v.oneCell'=true/\v.cells.toList=[v]:=by
 obtain ⟨_,_,h2,_⟩:=h
 rcases h2 with ⟨_,_,rfl,_⟩ | ⟨b,o,n,c,rfl,_⟩<;>exact ⟨rfl,rfl⟩
theorem bz {α:Type}{r:α ->List Value ->Prop}{sz:Nat}{M:aR}:RS M r sz [] (.slice none 0 0):=⟨by simp,[],.inl ⟨_,_,rfl,rfl,fun _=>rfl⟩,rfl⟩
theorem ER {M:aR}{x:So}{cs:List Value}(h:EQ M x cs):∃ a1 a2 a3 a4 a5 a6 a7,cs=[.int .i64 x.k,st x.name,st x.as,a1,a2,a3,a4,a5,a6,a7]:=by
 obtain ⟨c,hx,rfl⟩:=h
 obtain ⟨a1,a2,a3,a4,a5,a6,a7,rfl⟩:=Dp (dX hx)
 exact ⟨a1,a2,a3,a4,a5,a6,a7,rfl⟩
def oH (M:aR)(R:RR)(fv:Value)(acc:List So):Prop:=
 (∃ bF xs,R=[]/\fv=.slice (some ⟨bF,0,none⟩) 1 1/\acc.length=1/\M bF=some xs/\RL (EQ M) acc xs)\/
 (∃ ra rc xs,R=[(.slice ra acc.length rc,218,10,xs)]/\fv=.slice ra acc.length rc/\RL (EQ M) acc xs)
theorem wk {M:aR}{R:RR}{fv:Value}{acc:List So}(h:oH M R fv acc):∃ a c,fv=.slice a acc.length c:=by
 rcases h with ⟨bF,xs,_,rfl,h,_⟩ | ⟨ra,rc,xs,_,rfl,_⟩
 ·exact ⟨_,_,by rw [h]⟩
 ·exact ⟨_,_,rfl⟩
def sB {M M':aR}{R:RR}{fv:Value}{acc:List So}(hM:bm M M')(h:oH M R fv acc):oH M' R fv acc:=by
 rcases h with ⟨bF,xs,h1,h2,h3,h4,h5⟩ | ⟨ra,rc,xs,h1,h2,h3⟩
 ·exact .inl ⟨bF,xs,h1,h2,h3,hM _ _ h4,dl (fun x cs h=>qL hM _ _ h) h5⟩
 ·exact .inr ⟨ra,rc,xs,h1,h2,dl (fun x cs h=>qL hM _ _ h) h3⟩
def H7 {N M L R fv acc}{k:Sh ->Prop}(h:oH M R fv acc)(hb:acc.length<=400)(hk:∀ M',bm M M' ->aJ M' L ->RS M' (EQ M') 10 acc fv ->cq ⟨N,M',L,[]⟩ k)(bj:aJ M L):cq ⟨N,M,L,R⟩ k:=by
 rcases h with ⟨bF,xs,rfl,rfl,h3,h4,h5⟩ | ⟨ra,rc,xs,rfl,rfl,h3⟩
 ·exact hk M bm.rfl' bj (dE (fun _ _=>oK) h4 h5 h3 (by decide))
 ·exact cP fun M' hM ut iR=>hk M' hM ut ⟨by omega,xs,iR,dl (fun x cs h=>qL hM _ _ h) h3⟩
def QH {F:Fi}{s:List Vc.Item}{e:dx}{ds:List Deferred}{dd:Option Nat}{T:Tm}{M:aR}{L:LL}{R:RR}{b a n c}{acc:List So}{x:So}{cs:List Value}(hf:oH M R (.slice a n c) acc)(hx:EQ M x cs)(hb:M b=none)(bu:acc.length<=400)
 (k:∀ a' c' R',oH M R' (.slice a' (acc.length+1) c') (acc++[x]) ->cA Tryz.prog F s (cI e dd (.slice a' (acc.length+1) c')) ds ⟨T,M,(b,cs)::L,R'⟩ ⟨⟩):
 om Tryz.prog F 153 153 (.slice a n c) (.slice (some ⟨b,0,none⟩) 1 1) dd s e ds ⟨T,M,(b,cs)::L,R⟩ ⟨⟩:=by
 have cK:=oK hx
 rcases hf with ⟨bF,xs,rfl,h2,h3,h4,h5⟩ | ⟨ra,rc,xs,rfl,h2,h3⟩
 ·injection h2 with h2 I6 I7;subst h2 I6 I7
  have iY:=eJ (fun _ _=>oK) h5
  rw [h3] at iY
  refine ld Kc JT (.slice _ 1 _ _ _ Tryz.underlying153 (cF [] hb trivial (by rw [cK])) (ES hx)) (xs:=xs) ?_ (by rw [cK];decide) (by rw [cK,iY];decide) ?_
  ·have:=yB (h:=⟨T,M,(b,cs)::L,[]⟩) (b:=bF) (cs:=xs) (fun o v hv=>by
    have:aN M ⟨bF,o,none⟩=some v:=by rw [bg h4];exact hv
    simp only [Sh.cell,this]) 10 0 (by omega)
   simpa using this
  ·intro ra rm rc jl
   have:rm=acc.length+1:=by rw [cK,iY] at jl;omega
   subst this
   exact k _ _ _ (.inr ⟨_,_,_,by rw [List.length_append];rfl,by rw [List.length_append];rfl,cS h5 (dm hx)⟩)
 ·injection h2 with h2 I6 I7;subst h2 I6 I7
  have iY:=eJ (fun _ _=>oK) h3
  refine gX Kc JT (.slice _ 1 _ _ _ Tryz.underlying153 (cF [] hb trivial (by rw [cK])) (ES hx)) (by rw [cK,iY];omega) ?_
  intro ra rm rc jl
  have:rm=acc.length+1:=by rw [cK,iY] at jl;omega
  subst this
  exact k _ _ _ (.inr ⟨_,_,_,by rw [List.length_append];rfl,by rw [List.length_append];rfl,cS h3 (dm hx)⟩)
theorem Ry {M:aR}{pb:Nat}{aX:List Tk}{lv:Value}{en op:Int}{ex:List Tk ->Rs X}(hg:eS M)(hl:RS M gQ 3 aX lv)(iL:Y5 en pb ex op)(cm:xt en ex aX≠ .out)(T:Tm):
 bU Tryz.prog 75 [.pointer (some ⟨pb,0,none⟩)] T M (pL pb lv en op) [] (fR pb en op aeL (xt en ex aX)) (gN pb en (xt en ex aX)):=by
 refine az F75 rfl rfl ?_
 intro bj _
 simp only [aK] at bj
 simp +contextual only [go_sem,sevalprocAttr]
 intro b2 T2 dO fz dA ef b5 jz eg
 refine dU [(b2,_)] dA rfl hl ?_
 intro M1 lv1 aW bD am gZ
 simp only [nn,aJ,aK] at bD
 simp +contextual only [go_sem,sevalprocAttr]
 refine Gh [(b2,_)] jS gZ ?_
 intro lv2 fD
 change RS M1 gQ 3 (tl (bH jS aX.tail) aX.tail) lv2 at fD
 simp +contextual only [go_sem,sevalprocAttr]
 intro b3 T3 gK cZ fU gB
 have hT:=dA.trans fU
 generalize bH jS aX.tail=d at am fD ⊢
 generalize tl d aX.tail=t0 at am fD ⊢
 refine Gh [(b3,_),(b2,_)] As fD ?_
 intro lv3 fP
 generalize bH As t0=sb at am fP ⊢
 simp +contextual only [go_sem,sevalprocAttr,gK]
 refine fg (fun e ds h=>ds=[]/\e 0=.pointer (some ⟨pb,0,none⟩)/\e 2=.pointer (some ⟨b2,0,none⟩)/\e 3=.pointer (some ⟨b3,0,none⟩)/\
  ∃ M' t lv' items iv,bm M1 M'/\M' b3=none/\M' b2=none/\M' pb=none/\RS M' gQ 3 t lv'/\RS M' (AP M') 8 items iv/\xt en ex aX=ZX en ex d sb items t/\
   h=⟨T3,M',(b3,[.bool d,.bool sb,iv,.slice none 0 0,.bool false,.bool false,.int .i64 0,.int .i64 0,.int .i64 0,st [],st [],st [],.slice none 0 0,.int .i64 0,.int .i64 0,.int .i64 0,st [],st [],st [],.slice none 0 0,.slice none 0 0])::(b2,[.bool false,.bool false,.slice none 0 0,.slice none 0 0,.bool false,.bool false,.int .i64 0,.int .i64 0,.int .i64 0,st [],st [],st [],.slice none 0 0,.int .i64 0,.int .i64 0,.int .i64 0,st [],st [],st [],.slice none 0 0,.slice none 0 0])::pL pb lv' en op,[]⟩) (fun S' fh=> ?_) ?_
 ·cases sb with
  | true=>
   simp only [if_true] at am fP
   simp +contextual only [go_sem,aD,sevalprocAttr]
   refine fh _ _ _ ⟨rfl,?_,?_,?_,M1,_,lv3,[],_,bm.rfl',gK,bD.1,bD.2,fP,bz,am,rfl⟩
   all_goals simp only [go_sem,sevalprocAttr]
  | false=>
   simp only [if_false,Bool.false_eq_true] at am fP
   simp +contextual only [go_sem,aD,sevalprocAttr]
   refine cy [(b3,_),(b2,_)] hT am cm (fun h=>IL (fa:=[.pointer (some ⟨pb,0,none⟩)]) (fc:=[]) (C:=fun _=>True) (r:=AP) (enc:=Zb) (g:=Cg en ex) 8
    (fun M t lv T hg _ hl cm=>WY hg hl iL cm T) (fun x v M h=>by obtain ⟨cs,rfl,h⟩:=h;exact ⟨cs,rfl,h⟩) (fun _ _ _ h=>kU h) (fun _ _ _ h=>Qh h) (fun _ _ _ _ he h=>jU he _ _ h)
    (fun _ _ _ h=>h) trivial (by decide) (hg.ext aW) fP h T3) ?_
   rintro v M2 items t lv4 bh aZ am kx hv
   obtain ⟨j3,nu⟩:=dy hv
   have H0:=nu
   simp only [Value.cells] at H0
   simp only [nn,aJ,aK] at aZ
   simp +contextual only [go_sem,sevalprocAttr,j3,H0]
   refine fh _ _ _ ⟨rfl,?_,?_,?_,M2,_,lv4,items,_,bh,aZ.1,aZ.2.1,aZ.2.2,kx,hv,am,rfl⟩
   all_goals simp only [go_sem,sevalprocAttr]
 clear am gZ fD fP
 rintro e ds h ⟨rfl,e0,e2,e3,M2,t,lv4,items,iv,bh,n3,n2,np,kx,hiv,am,rfl⟩
 simp +contextual only [go_sem,sevalprocAttr,e0]
 intro b4 eH em
 refine dU [(b3,_),(b2,_)] hT am kx ?_
 intro M3 lv5 bG bC am iq
 simp +contextual only [go_sem,sevalprocAttr,e0]
 have hg3:=(hg.ext aW).ext (bh.trans bG)
 refine cy [(b3,_),(b2,_)] hT am cm (fun h=>yQ hg3 iq iL h T3) ?_
 rintro v M4 s0 t4 lv6 dz de am mH ⟨cs,rfl,hso⟩
 obtain ⟨a1,a2,a3,a4,a5,a6,a7,rfl⟩:=ER hso
 simp only [nn,aJ,aK] at de
 simp +contextual only [go_sem,sevalprocAttr,e0,e3]
 intro bF hbF apk
 refine dh adZ.bd fun M5 dN aku bS=> ?_
 simp only [aJ,aK] at bS
 rw [re,Rs.bind_assoc] at am
 refine cy [(b3,_),(b2,_)] hT am cm (fun _=>K1 (aH dN (fun _ _ h=>h) mH) T3) ?_
 rintro v M6 k t5 lv7 eO bW am pg rfl
 simp only [nn,aJ,aK] at bW
 have rU:oH M6 [] (.slice (some ⟨bF,0,none⟩) 1 1) [s0]:=.inl ⟨bF,_,rfl,rfl,rfl,eO _ _ aku,dm (qL (dN.trans eO) _ _ hso)⟩
 simp +contextual only [go_sem,sevalprocAttr]
 refine lS (fun e ds h=>ds=[]/\e 0=.pointer (some ⟨pb,0,none⟩)/\e 2=.pointer (some ⟨b2,0,none⟩)/\e 3=.pointer (some ⟨b3,0,none⟩)/\
  ∃ M' t lv' src fv R,bm M2 M'/\M' b3=none/\M' b2=none/\M' pb=none/\RS M' gQ 3 t lv'/\src.length<=4/\oH M' R fv src/\xt en ex aX=Ms en ex d sb items src t/\
   h=⟨T3,M',(b3,[.bool d,.bool sb,iv,fv,.bool false,.bool false,.int .i64 0,.int .i64 0,.int .i64 0,st [],st [],st [],.slice none 0 0,.int .i64 0,.int .i64 0,.int .i64 0,st [],st [],st [],.slice none 0 0,.slice none 0 0])::(b2,[.bool false,.bool false,.slice none 0 0,.slice none 0 0,.bool false,.bool false,.int .i64 0,.int .i64 0,.int .i64 0,st [],st [],st [],.slice none 0 0,.int .i64 0,.int .i64 0,.int .i64 0,st [],st [],st [],.slice none 0 0,.slice none 0 0])::pL pb lv' en op,R⟩) (fun S' fh=> ?_) ?_
 ·clear iq mH kx
  simp +contextual only [go_sem,aD,sevalprocAttr]
  refine gM (fun m e ds h=>ds=[]/\e 0=.pointer (some ⟨pb,0,none⟩)/\e 2=.pointer (some ⟨b2,0,none⟩)/\e 3=.pointer (some ⟨b3,0,none⟩)/\
   ∃ M' t lv' k src fv R,e 4=.int .i64 k/\m+src.length=4/\bm M6 M'/\M' b3=none/\M' b2=none/\M' pb=none/\RS M' gQ 3 t lv'/\oH M' R fv src/\
    xt en ex aX=(vJ en ex m k t).bind (fun l t=>Ms en ex d sb items (src++l) t)/\
    h=⟨T3,M',(b3,[.bool d,.bool sb,iv,fv,.bool false,.bool false,.int .i64 0,.int .i64 0,.int .i64 0,st [],st [],st [],.slice none 0 0,.int .i64 0,.int .i64 0,.int .i64 0,st [],st [],st [],.slice none 0 0,.slice none 0 0])::(b2,[.bool false,.bool false,.slice none 0 0,.slice none 0 0,.bool false,.bool false,.int .i64 0,.int .i64 0,.int .i64 0,st [],st [],st [],.slice none 0 0,.int .i64 0,.int .i64 0,.int .i64 0,st [],st [],st [],.slice none 0 0,.slice none 0 0])::pL pb lv' en op,R⟩)
   ⟨3,rfl,?_,?_,?_,M6,t5,lv7,k,[s0],_,[],?_,rfl,bm.rfl',bW.1,bW.2.1,bW.2.2,pg,rU,am,rfl⟩ ?_
  all_goals first | (simp only [e0,e2,e3,go_sem,sevalprocAttr];done) | skip
  clear am e0 e2 e3 pg rU
  rintro m e ds h ⟨rfl,e0,e2,e3,M7,t7,lv8,k,src,fv,R,e4,hm,qX,n3,n2,np,sU,rU,am,rfl⟩
  by_cases hk:0<k
  ·obtain ⟨fa,fc,rfl⟩:=wk rU
   unfold vJ at am
   rw [if_pos hk] at am
   cases m with
   | zero=>
    have bu:(src.length:Int)=4:=by omega
    simp +contextual only [go_sem,aD,sevalprocAttr,e0,e3,e4,hk,n3,bu]
    refine l4 [(b3,_),(b2,_)] sU ?_
    simp +contextual only [go_sem,sevalprocAttr]
    exact fI [(b3,_),(b2,_)] hT am
   | succ m=>
    have bu:¬ (src.length:Int)=4:=by omega
    simp only [Rs.bind_assoc] at am
    simp +contextual only [go_sem,aD,sevalprocAttr,e3,e4,hk,n3,bu]
    refine eG ⟨T,fun _=>none,[(b3,_)],[]⟩ (gH n3) ?_
    simp +contextual only [go_sem,sevalprocAttr,e0,e3,e4]
    have hg7:=(hg.ext aW).ext ((((bh.trans bG).trans dz).trans dN).trans (eO.trans qX))
    refine cy [(b3,_),(b2,_)] hT am cm (fun h=>yQ hg7 sU iL h T3) ?_
    rintro v M8 so t8 lv9 vx oW am Oz ⟨cs,rfl,hso⟩
    obtain ⟨a1,a2,a3,a4,a5,a6,a7,rfl⟩:=ER hso
    simp only [nn,aJ,aK] at oW
    simp +contextual only [go_sem,sevalprocAttr]
    refine ⟨gH oW.1,?_⟩
    intro b8 pp eC
    refine ⟨tM oW.1 (fun h=>eC.1.2 h),?_⟩
    refine QH (sB vx rU) hso pp (by omega) ?_
    intro fa' fc' R' abP
    simp +contextual only [go_sem,sevalprocAttr,eC,e0,e3]
    rw [re,Rs.bind_assoc] at am
    refine cy [(b8,_),(b3,_),(b2,_)] hT am cm (fun _=>K1 Oz T3) ?_
    rintro v M9 k' t9 lva Ol rG am hla rfl
    simp only [nn,aJ,aK] at rG
    simp +contextual only [go_sem,sevalprocAttr]
    rw [eL]
    refine al (aC ⟨m,by omega,rfl,?_,?_,?_,M9,t9,lva,k',src++[so],_,R',?_,?_,(qX.trans vx).trans Ol,rG.2.1,rG.2.2.1,rG.2.2.2,hla,sB Ol abP,?_,rfl⟩)
    ·simp only [e0,go_sem,sevalprocAttr]
    ·simp only [e2,go_sem,sevalprocAttr]
    ·simp only [e3,go_sem,sevalprocAttr]
    ·simp only [go_sem,sevalprocAttr]
    ·rw [List.length_append];simp only [ln];omega
    ·rw [am];congr 1;funext l t;simp [Rs.bind]
  ·unfold vJ at am
   rw [if_neg hk] at am
   simp +contextual only [go_sem,aD,sevalprocAttr,e4,hk]
   refine fh _ _ _ ⟨rfl,?_,?_,?_,M7,_,lv8,src,fv,R,?_,n3,n2,np,sU,by omega,rU,?_,rfl⟩
   ·simp only [e0,go_sem,sevalprocAttr]
   ·simp only [e2,go_sem,sevalprocAttr]
   ·simp only [e3,go_sem,sevalprocAttr]
   ·exact ((bG.trans dz).trans dN).trans (eO.trans qX)
   ·rw [am];simp [Rs.bind]
 clear am bW pg rU e0 e2 e3 kx iq mH hso de bC
 rintro e ds h ⟨rfl,e0,e2,e3,M3,t,lv4,src,fv,R,bG,n3,n2,np,kx,iR,rU,am,rfl⟩
 simp +contextual only [go_sem,sevalprocAttr,e0]
 refine Gh [(b3,_),(b2,_)] tq kx ?_
 intro lv5 iq
 unfold Ms D7 at am
 generalize bH tq t=hw at am iq ⊢
 simp +contextual only [go_sem,sevalprocAttr,n3,e3]
 have hg3:=(hg.ext aW).ext (bh.trans bG)
 refine fg (fun e ds h=>ds=[]/\e 0=.pointer (some ⟨pb,0,none⟩)/\e 2=.pointer (some ⟨b2,0,none⟩)/\e 3=.pointer (some ⟨b3,0,none⟩)/\
  ∃ M' t lv' hw wh w1 w2 w3 w4 w5 w6 w7,bm M3 M'/\M' b3=none/\M' b2=none/\M' pb=none/\RS M' gQ 3 t lv'/\RX M' wh [w1,w2,w3,w4,w5,w6,w7]/\xt en ex aX=Uz en ex d sb items src hw wh t/\
   h=⟨T3,M',(b3,[.bool d,.bool sb,iv,fv,.bool hw,.bool false,w1,w2,w3,w4,w5,w6,w7,.int .i64 0,.int .i64 0,.int .i64 0,st [],st [],st [],.slice none 0 0,.slice none 0 0])::(b2,[.bool false,.bool false,.slice none 0 0,.slice none 0 0,.bool false,.bool false,.int .i64 0,.int .i64 0,.int .i64 0,st [],st [],st [],.slice none 0 0,.int .i64 0,.int .i64 0,.int .i64 0,st [],st [],st [],.slice none 0 0,.slice none 0 0])::pL pb lv' en op,R⟩) (fun S' fh=> ?_) ?_
 ·cases hw with
  | false=>
   simp only [if_false,Bool.false_eq_true] at am iq
   simp +contextual only [go_sem,aD,sevalprocAttr]
   refine fh _ _ _ ⟨rfl,?_,?_,?_,M3,_,lv5,_,_,_,_,_,_,_,_,_,bm.rfl',n3,n2,np,iq,kX,am,rfl⟩
   all_goals simp only [e0,e2,e3,go_sem,sevalprocAttr]
  | true=>
   simp only [if_true] at am iq
   simp +contextual only [go_sem,aD,sevalprocAttr,e0]
   refine cy [(b3,_),(b2,_)] hT am cm (fun h=>iL M3 _ lv5 T3 hg3 iq h) ?_
   rintro v M4 x t2 lv6 dz de am mH ⟨cs,rfl,hx⟩
   obtain ⟨s,rfl,h1,_⟩:=bZ hx
   simp only [nn,aJ,aK] at de
   simp +contextual only [go_sem,sevalprocAttr,h1,e3]
   refine fh _ _ _ ⟨rfl,?_,?_,?_,M4,_,lv6,_,_,_,_,_,_,_,_,_,dz,de.1,de.2.1,de.2.2,mH,hx,am,rfl⟩
   all_goals simp only [e0,e2,e3,go_sem,sevalprocAttr]
 clear am n3 n2 np kx iq e0 e2 e3
 rintro e ds h ⟨rfl,e0,e2,e3,M4,t,lv4,hw,wh,w1,w2,w3,w4,w5,w6,w7,dz,n3,n2,np,kx,hwh,am,rfl⟩
 simp +contextual only [go_sem,sevalprocAttr,e0]
 refine Gh [(b3,_),(b2,_)] Kt kx ?_
 intro lv5 iq
 unfold Uz acO at am
 generalize bH Kt t=gw at am iq ⊢
 simp +contextual only [go_sem,sevalprocAttr]
 refine fg (fun e ds h=>ds=[]/\e 0=.pointer (some ⟨pb,0,none⟩)/\e 2=.pointer (some ⟨b2,0,none⟩)/\e 3=.pointer (some ⟨b3,0,none⟩)/\
  ∃ M' t lv' group gv,bm M4 M'/\M' b3=none/\M' b2=none/\M' pb=none/\RS M' gQ 3 t lv'/\RS M' (RX M') 7 group gv/\xt en ex aX=UA ex d sb items src hw wh group t/\
   h=⟨T3,M',(b3,[.bool d,.bool sb,iv,fv,.bool hw,.bool false,w1,w2,w3,w4,w5,w6,w7,.int .i64 0,.int .i64 0,.int .i64 0,st [],st [],st [],.slice none 0 0,gv])::(b2,[.bool false,.bool false,.slice none 0 0,.slice none 0 0,.bool false,.bool false,.int .i64 0,.int .i64 0,.int .i64 0,st [],st [],st [],.slice none 0 0,.int .i64 0,.int .i64 0,.int .i64 0,st [],st [],st [],.slice none 0 0,.slice none 0 0])::pL pb lv' en op,R⟩) (fun S' fh=> ?_) ?_
 ·cases gw with
  | false=>
   simp only [if_false,Bool.false_eq_true] at am iq
   simp +contextual only [go_sem,aD,sevalprocAttr]
   refine fh _ _ _ ⟨rfl,?_,?_,?_,M4,_,lv5,[],_,bm.rfl',n3,n2,np,iq,bz,am,rfl⟩
   all_goals simp only [e0,e2,e3,go_sem,sevalprocAttr]
  | true=>
   simp only [if_true,Rs.bind_assoc] at am iq
   simp +contextual only [go_sem,aD,sevalprocAttr,e0]
   intro b5 jz eg
   refine dU [(b3,_),(b2,_)] hT am iq ?_
   intro M5 lv6 dN bS am mH
   simp +contextual only [go_sem,sevalprocAttr,e0]
   refine cy [(b3,_),(b2,_)] hT am cm (fun h=>BJ (fa:=[.pointer (some ⟨pb,0,none⟩)]) (fc:=[]) (C:=fun _=>True) (r:=RX) (enc:=IU) (g:=ex) 8
    (fun M t lv T hg _ hl cm=>iL M t lv T hg hl cm) (fun x v M h=>by obtain ⟨cs,rfl,h⟩:=h;exact ⟨cs,rfl,h⟩) (fun _ _ _ h=>dX h) (fun _ _ _ h=>lG h) (fun _ _ _ _ he h=>bL he _ _ h)
    (fun _ _ _ h=>h) trivial (by decide) (hg3.ext (dz.trans dN)) mH h T3) ?_
   rintro v M6 group t2 lv7 eO bW am pg hv
   obtain ⟨j3,nu⟩:=dy hv
   have H0:=nu
   simp only [Value.cells] at H0
   simp only [nn,aJ,aK] at bW
   simp +contextual only [go_sem,sevalprocAttr,j3,H0,e3]
   refine fh _ _ _ ⟨rfl,?_,?_,?_,M6,_,lv7,group,_,dN.trans eO,bW.1,bW.2.1,bW.2.2,pg,hv,am,rfl⟩
   all_goals simp only [e0,e2,e3,go_sem,sevalprocAttr]
 clear am n3 n2 np kx iq e0 e2 e3
 rintro e ds h ⟨rfl,e0,e2,e3,M5,t,lv4,group,gv,dN,n3,n2,np,kx,hgv,am,rfl⟩
 simp +contextual only [go_sem,sevalprocAttr,e0]
 refine Gh [(b3,_),(b2,_)] yb kx ?_
 intro lv5 iq
 unfold UA D7 at am
 generalize bH yb t=hh at am iq ⊢
 simp +contextual only [go_sem,sevalprocAttr,n3,e3]
 refine fg (fun e ds h=>ds=[]/\e 0=.pointer (some ⟨pb,0,none⟩)/\e 2=.pointer (some ⟨b2,0,none⟩)/\e 3=.pointer (some ⟨b3,0,none⟩)/\
  ∃ M' t lv' hh hv v1 v2 v3 v4 v5 v6 v7,bm M5 M'/\M' b3=none/\M' b2=none/\M' pb=none/\RS M' gQ 3 t lv'/\RX M' hv [v1,v2,v3,v4,v5,v6,v7]/\xt en ex aX=.ok ⟨d,sb,items,src,hw,hh,wh,hv,group⟩ t/\
   h=⟨T3,M',(b3,[.bool d,.bool sb,iv,fv,.bool hw,.bool hh,w1,w2,w3,w4,w5,w6,w7,v1,v2,v3,v4,v5,v6,v7,gv])::(b2,[.bool false,.bool false,.slice none 0 0,.slice none 0 0,.bool false,.bool false,.int .i64 0,.int .i64 0,.int .i64 0,st [],st [],st [],.slice none 0 0,.int .i64 0,.int .i64 0,.int .i64 0,st [],st [],st [],.slice none 0 0,.slice none 0 0])::pL pb lv' en op,R⟩) (fun S' fh=> ?_) ?_
 ·cases hh with
  | false=>
   simp only [if_false,Bool.false_eq_true] at am iq
   simp +contextual only [go_sem,aD,sevalprocAttr]
   refine fh _ _ _ ⟨rfl,?_,?_,?_,M5,_,lv5,_,_,_,_,_,_,_,_,_,bm.rfl',n3,n2,np,iq,kX,am,rfl⟩
   all_goals simp only [e0,e2,e3,go_sem,sevalprocAttr]
  | true=>
   simp only [if_true] at am iq
   simp +contextual only [go_sem,aD,sevalprocAttr,e0]
   refine cy [(b3,_),(b2,_)] hT am cm (fun h=>iL M5 _ lv5 T3 (hg3.ext (dz.trans dN)) iq h) ?_
   rintro v M6 x t2 lv6 eO bW am mH ⟨cs,rfl,hx⟩
   obtain ⟨s,rfl,h1,_⟩:=bZ hx
   simp only [nn,aJ,aK] at bW
   simp +contextual only [go_sem,sevalprocAttr,h1,e3]
   refine fh _ _ _ ⟨rfl,?_,?_,?_,M6,_,lv6,_,_,_,_,_,_,_,_,_,eO,bW.1,bW.2.1,bW.2.2,mH,hx,am,rfl⟩
   all_goals simp only [e0,e2,e3,go_sem,sevalprocAttr]
 clear am n3 n2 np kx iq e0 e2 e3
 rintro e ds h ⟨rfl,e0,e2,e3,M6,t,lv4,hh,hv,v1,v2,v3,v4,v5,v6,v7,eO,n3,n2,np,kx,hhv,am,rfl⟩
 have o1:=dy hiv
 have ae0:=(dz.trans dN).trans eO
 obtain ⟨fa,fc,rfl⟩:=wk rU
 have o3:=dy hgv
 obtain ⟨sw,hsw,ow,_⟩:=bZ hwh
 obtain ⟨sh,hsh,oh,_⟩:=bZ hhv
 simp only [List.cons.injEq,and_true] at hsw hsh
 obtain ⟨rfl,rfl,rfl,rfl,rfl,rfl,rfl⟩:=hsw
 obtain ⟨rfl,rfl,rfl,rfl,rfl,rfl,rfl⟩:=hsh
 simp +contextual only [go_sem,sevalprocAttr,e2,e3,n3,n2,cZ,o1,o3,ow,oh]
 refine al (al (H7 (sB ae0 rU) (by omega) (fun M7 qX mI cH=>aQ hT rfl rfl ?_) (by simpa only [aK] using np)))
 have h17:=bG.trans (ae0.trans qX)
 exact ⟨_,t,lv4,am,rfl,aH qX (fun _ _ h=>h) kx,rfl,_,rfl,⟨iv,_,_,_,gv,aH h17 (jU h17) hiv,cH,bL ((dN.trans eO).trans qX) _ _ hwh,bL qX _ _ hhv,aH (eO.trans qX) (bL (eO.trans qX)) hgv,rfl⟩⟩
def wY (en:Int)(ex:List Tk ->Rs X):Nat ->Int ->List Tk ->Rs (List Int×List Se)
 | lR,k,t=>if 0<k then (match lR with
  | 0=> .err 5 (pm en t)
  | r+1=>(xt en ex t).bind fun s t=>(Ek t).bind fun k' t=>(wY en ex r k' t).bind fun l t=> .ok (k::l.1,s::l.2) t) else .ok ([],[]) t
def acB (en:Int)(t:List Tk):Rs Int:=(xp en t).bind fun n t'=>if n<0\/50<n then .err 3 (pm en t) else .ok n t'
def JV (en:Int)(ex:List Tk ->Rs X)(t:List Tk):Rs (List X×Int):=
 if bH Ku t=true then (cj en [wBy] t.tail).bind fun _ t=>(dC en ex 8 t).bind fun l t=>(cj en [adg] t).bind fun _ t=>(acB en t).bind fun n t=> .ok (l,n) t else .ok ([], -1) t
def Ed (en:Int)(ex:List Tk ->Rs X)(parts:List Se)(ops:List Int)(t:List Tk):Rs Q:=(JV en ex t).bind fun o t=> .ok ⟨parts,ops,o.1,o.2⟩ t
def o8 (en:Int)(ex:List Tk ->Rs X)(t:List Tk):Rs Q:=(xt en ex t).bind fun s t=>(Ek t).bind fun k t=>(wY en ex 3 k t).bind fun l t=>Ed en ex (s::l.2) l.1 t
def ajH (q:Q)(v:Value)(M:aR):Prop:=∃ cs,v=.agg ⟨cs⟩/\RQ M q cs
def Qm {M:aR}{x:Se}{cs:List Value}(h:HS M x cs):∀ u∈cs,u.oneCell'=true:=by
 obtain ⟨i,f,w,hh,g,h1,h2,h3,h4,h5,rfl⟩:=h
 intro u hu
 simp only [nn,List.mem_cons,List.mem_append,List.not_mem_nil,or_false] at hu
 rcases hu with rfl | rfl | rfl | rfl | rfl | rfl | hu | hu | rfl
 ·rfl
 ·rfl
 ·exact (dy h1).1
 ·exact (dy h2).1
 ·rfl
 ·rfl
 ·exact lG h3 u hu
 ·exact lG h4 u hu
 ·exact (dy h5).1
def Kz (M:aR)(R:RR)(ov pv:Value)(parts:List Se)(ops:List Int):Prop:=
 ∃ oa oc pa pc xs ys,ov=.slice oa ops.length oc/\pv=.slice pa parts.length pc/\R=[(pv,155,21,xs),(ov,3,1,ys)]/\RL (HS M) parts xs/\RL RI ops ys
def Da (M:aR)(R:RR)(ov pv:Value)(parts:List Se)(ops:List Int):Prop:=
 (∃ bF xs,ops=[]/\ov=.slice none 0 0/\R=[]/\pv=.slice (some ⟨bF,0,none⟩) 1 1/\parts.length=1/\M bF=some xs/\RL (HS M) parts xs)\/Kz M R ov pv parts ops
def Ky (M:aR)(R:RR)(ov pv:Value)(parts:List Se)(ops:List Int):Prop:=
 (∃ bF xs oa oc ys,ov=.slice oa ops.length oc/\R=[(ov,3,1,ys)]/\RL RI ops ys/\pv=.slice (some ⟨bF,0,none⟩) 1 1/\parts.length=1/\M bF=some xs/\RL (HS M) parts xs)\/Kz M R ov pv parts ops
def Bl {M M':aR}{R ov pv parts ops}(hM:bm M M')(h:Kz M R ov pv parts ops):Kz M' R ov pv parts ops:=by
 obtain ⟨oa,oc,pa,pc,xs,ys,h1,h2,h3,h4,h5⟩:=h
 exact ⟨oa,oc,pa,pc,xs,ys,h1,h2,h3,dl (fun x cs h=>lE hM _ _ h) h4,h5⟩
def EG {M M':aR}{R ov pv parts ops}(hM:bm M M')(h:Da M R ov pv parts ops):Da M' R ov pv parts ops:=by
 rcases h with ⟨bF,xs,h1,h2,h3,h4,h5,h6,h7⟩ | h
 ·exact .inl ⟨bF,xs,h1,h2,h3,h4,h5,hM _ _ h6,dl (fun x cs h=>lE hM _ _ h) h7⟩
 ·exact .inr (Bl hM h)
def MX {M M':aR}{R ov pv parts ops}(hM:bm M M')(h:Ky M R ov pv parts ops):Ky M' R ov pv parts ops:=by
 rcases h with ⟨bF,xs,oa,oc,ys,h1,h2,h3,h4,h5,h6,h7⟩ | h
 ·exact .inl ⟨bF,xs,oa,oc,ys,h1,h2,h3,h4,h5,hM _ _ h6,dl (fun x cs h=>lE hM _ _ h) h7⟩
 ·exact .inr (Bl hM h)
theorem Bk {M R ov pv parts ops}(h:Da M R ov pv parts ops):(∃ a c,ov=.slice a ops.length c)/\∃ a c,pv=.slice a parts.length c:=by
 rcases h with ⟨bF,xs,rfl,rfl,rfl,rfl,h,_⟩ | ⟨oa,oc,pa,pc,xs,ys,rfl,rfl,_⟩
 ·exact ⟨⟨_,_,rfl⟩,⟨_,_,by rw [h]⟩⟩
 ·exact ⟨⟨_,_,rfl⟩,⟨_,_,rfl⟩⟩
theorem cE {n:Int}{cs}(h:RI n cs):cs.length=1:=by unfold RI at h;subst h;rfl
theorem Ww {F:Fi}{s:List Vc.Item}{e:dx}{ds:List Deferred}{dd:Option Nat}{T:Tm}{M:aR}{L:LL}{R:RR}{b a n c pv}{parts:List Se}{ops:List Int}{k:Int}(hf:Da M R (.slice a n c) pv parts ops)(hb:M b=none)(bu:ops.length<=400)
 (kk:∀ a' c' R',Ky M R' (.slice a' (ops.length+1) c') pv parts (ops++[k]) ->cA Tryz.prog F s (cI e dd (.slice a' (ops.length+1) c')) ds ⟨T,M,(b,[.int .i64 k])::L,R'⟩ ⟨⟩):
 om Tryz.prog F 53 53 (.slice a n c) (.slice (some ⟨b,0,none⟩) 1 1) dd s e ds ⟨T,M,(b,[.int .i64 k])::L,R⟩ ⟨⟩:=by
 have xl:∀ R,Srcs Tryz.prog 53 1 ⟨T,M,(b,[.int .i64 k])::L,R⟩ (.slice (some ⟨b,0,none⟩) 1 1) [.int .i64 k]:=fun R=>
  .slice _ 1 _ _ _ Tryz.underlying53 (cF [] hb trivial rfl) (by intro u hu;simp only [List.mem_singleton] at hu;subst hu;rfl)
 rcases hf with ⟨bF,xs,rfl,h2,rfl,h4,h5,h6,h7⟩ | ⟨oa,oc,pa,pc,xs,ys,h1,h2,rfl,h3,h4⟩
 ·injection h2 with h2 I6 I7;subst h2 I6 I7
  refine mO kB kA (xl []) (Nat.le_of_ble_eq_true rfl) ?_
  intro ra rm rc jl
  have:rm=1:=by simpa using jl
  subst this
  exact kk _ _ _ (.inl ⟨bF,xs,ra,rc,_,rfl,rfl,dm rfl,h4,h5,h6,h7⟩)
 ·injection h1 with h1 qW Xi;subst h1 qW Xi
  have iY:=eJ (fun _ _=>cE) h4
  refine .inr ⟨_,_,_,_,kB,kA,xl _,.inl ⟨1,ys,rfl,by rw [iY];simp only [ln];omega,?_⟩⟩
  intro ra rm rc jl
  have:rm=ops.length+1:=by rw [iY] at jl;simp only [ln] at jl;omega
  subst this
  exact kk _ _ _ (.inr ⟨_,_,_,_,_,_,by rw [List.length_append];rfl,h2,rfl,h3,cS h4 (dm rfl)⟩)
def Np {F:Fi}{s:List Vc.Item}{e:dx}{ds:List Deferred}{dd:Option Nat}{T:Tm}{M:aR}{L:LL}{R:RR}{b a n c ov}{parts:List Se}{ops:List Int}{x:Se}{cs:List Value}(hf:Ky M R ov (.slice a n c) parts ops)(hx:HS M x cs)(hb:M b=none)(bu:parts.length<=400)
 (kk:∀ a' c' R',Da M R' ov (.slice a' (parts.length+1) c') (parts++[x]) ops ->cA Tryz.prog F s (cI e dd (.slice a' (parts.length+1) c')) ds ⟨T,M,(b,cs)::L,R'⟩ ⟨⟩):
 om Tryz.prog F 52 52 (.slice a n c) (.slice (some ⟨b,0,none⟩) 1 1) dd s e ds ⟨T,M,(b,cs)::L,R⟩ ⟨⟩:=by
 have cK:=lF hx
 have xl:∀ R,Srcs Tryz.prog 52 21 ⟨T,M,(b,cs)::L,R⟩ (.slice (some ⟨b,0,none⟩) 1 1) cs:=fun R=>
  .slice _ 1 _ _ _ Tryz.underlying52 (cF [] hb trivial (by rw [cK])) (Qm hx)
 rcases hf with ⟨bF,xs,oa,oc,ys,h1,rfl,h3,h4,h5,h6,h7⟩ | ⟨oa,oc,pa,pc,xs,ys,h1,h2,rfl,h3,h4⟩
 ·injection h4 with h4 Xj ajM;subst h4 Xj ajM
  have iY:=eJ (fun _ _=>lF) h7
  rw [h5] at iY
  refine ld Un TJ (xl _) (xs:=xs) ?_ (by rw [cK];decide) (by rw [cK,iY];decide) ?_
  ·have:=yB (h:=⟨T,M,(b,cs)::L,[(ov,3,1,ys)]⟩) (b:=bF) (cs:=xs) (fun o v hv=>by
    have:aN M ⟨bF,o,none⟩=some v:=by rw [bg h6];exact hv
    simp only [Sh.cell,this]) 21 0 (by omega)
   simpa using this
  ·intro ra rm rc jl
   have:rm=parts.length+1:=by rw [cK,iY] at jl;omega
   subst this
   exact kk _ _ _ (.inr ⟨_,_,_,_,_,_,h1,by rw [List.length_append];rfl,rfl,cS h7 (dm hx),h3⟩)
 ·injection h2 with h2 I6 I7;subst h2 I6 I7
  have iY:=eJ (fun _ _=>lF) h3
  refine gX Un TJ (xl _) (by rw [cK,iY];omega) ?_
  intro ra rm rc jl
  have:rm=parts.length+1:=by rw [cK,iY] at jl;omega
  subst this
  exact kk _ _ _ (.inr ⟨_,_,_,_,_,_,h1,by rw [List.length_append];rfl,rfl,cS h3 (dm hx),h4⟩)
def P5 {N M L R ov pv parts ops}{k:Sh ->Prop}(h:Da M R ov pv parts ops)(h1:parts.length<=400)(h2:ops.length<=400)(hk:∀ M',bm M M' ->aJ M' L ->RS M' (HS M') 21 parts pv ->RS M' RI 1 ops ov ->cq ⟨N,M',L,[]⟩ k)(bj:aJ M L):cq ⟨N,M,L,R⟩ k:=by
 rcases h with ⟨bF,xs,rfl,rfl,rfl,rfl,h3,h4,h5⟩ | ⟨oa,oc,pa,pc,xs,ys,rfl,rfl,rfl,h3,h4⟩
 ·exact hk M bm.rfl' bj (dE (fun _ _=>lF) h4 h5 h3 (by decide)) bz
 ·exact cP fun M' hM ut iR=>cP fun M'' mG ZG alK=>hk M'' (hM.trans mG) ZG ⟨by omega,xs,iR.ext mG,dl (fun x cs h=>lE (hM.trans mG) _ _ h) h3⟩ ⟨by omega,ys,alK,h4⟩
def Af {P:Program}{F:Fi}{f:FuncId}{args:List Value}{dd:Option Nat}{s:List Vc.Item}{e:dx}{ds:List Deferred}{N:Tm}{M:aR}{b b':Nat}{cs cs':List Value}{L:LL}{R:RR}(hb:du P f=true)
 (h:∀ M',bm M M' ->M' b=some cs ->aJ M' ((b',cs')::L) ->dp P F f args dd s e ds ⟨N,M',(b',cs')::L,R⟩ ⟨⟩):dp P F f args dd s e ds ⟨N,M,(b',cs')::(b,cs)::L,R⟩ ⟨⟩:=
 cD (k:=fun h'=>∃ M',bm M M'/\M' b=some cs/\aJ M' ((b',cs')::L)/\h'=⟨N,M',(b',cs')::L,R⟩) (dk (List.Perm.swap _ _ _) (aU fun he h1 h2=>aC ⟨_,he,h1,h2,rfl⟩))
  (by rintro h' ⟨M',he,h1,h2,rfl⟩;exact h M' he h1 h2) hb
theorem Fz {M:aR}{pb:Nat}{aX:List Tk}{lv:Value}{en op:Int}{ex:List Tk ->Rs X}(hg:eS M)(hl:RS M gQ 3 aX lv)(iL:Y5 en pb ex op)(cm:o8 en ex aX≠ .out)(T:Tm):
 bU Tryz.prog 42 [.pointer (some ⟨pb,0,none⟩)] T M (pL pb lv en op) [] (fR pb en op ajH (o8 en ex aX)) (gN pb en (o8 en ex aX)):=by
 refine az F42 rfl rfl ?_
 intro bj _
 simp only [aK] at bj
 simp +contextual only [go_sem,sevalprocAttr]
 intro b2 T2 dO fz dA ef
 refine cy [(b2,_)] dA rfl cm (fun h=>Ry hg hl iL h T2) ?_
 rintro v M1 s0 t lv1 aW bD am gZ ⟨cs,rfl,tB⟩
 have cK:=lF tB
 simp only [nn,aJ,aK] at bD
 simp +contextual only [go_sem,sevalprocAttr,cK]
 intro b7 mU jD b3 T3 gK cZ fU gB
 have hT:=dA.trans fU
 refine Af F76.bd fun M2 bh abC aZ=> ?_
 simp only [aJ,aK] at aZ
 refine cy [(b3,_),(b2,_)] hT am cm (fun _=>Rz (aH bh (fun _ _ h=>h) gZ) T3) ?_
 rintro v M3 k t2 lv2 bG bC am fD rfl
 simp only [nn,aJ,aK] at bC
 have LD:Da M3 [] (.slice none 0 0) (.slice (some ⟨b7,0,none⟩) 1 1) [s0] []:=.inl ⟨b7,cs,rfl,rfl,rfl,rfl,rfl,bG _ _ abC,dm (lE (bh.trans bG) _ _ tB)⟩
 simp +contextual only [go_sem,sevalprocAttr]
 refine lS (fun e ds h=>ds=[]/\e 0=.pointer (some ⟨pb,0,none⟩)/\e 2=.pointer (some ⟨b2,0,none⟩)/\e 3=.pointer (some ⟨b3,0,none⟩)/\
  ∃ M' t lv' parts ops pv ov R,bm M3 M'/\M' b3=none/\M' b2=none/\M' pb=none/\RS M' gQ 3 t lv'/\parts.length<=4/\ops.length<=4/\Da M' R ov pv parts ops/\o8 en ex aX=Ed en ex parts ops t/\
   h=⟨T3,M',(b3,[pv,ov,.slice none 0 0,.int .i64 (-1)])::(b2,[.slice none 0 0,.slice none 0 0,.slice none 0 0,.int .i64 0])::pL pb lv' en op,R⟩) (fun S' fh=> ?_) ?_
 ·simp +contextual only [go_sem,aD,sevalprocAttr]
  refine gM (fun m e ds h=>ds=[]/\e 0=.pointer (some ⟨pb,0,none⟩)/\e 2=.pointer (some ⟨b2,0,none⟩)/\e 3=.pointer (some ⟨b3,0,none⟩)/\
   ∃ M' t lv' k parts ops pv ov R,e 4=.int .i64 k/\m+parts.length=4/\ops.length+1=parts.length/\bm M3 M'/\M' b3=none/\M' b2=none/\M' pb=none/\RS M' gQ 3 t lv'/\Da M' R ov pv parts ops/\
    o8 en ex aX=(wY en ex m k t).bind (fun l t=>Ed en ex (parts++l.2) (ops++l.1) t)/\
    h=⟨T3,M',(b3,[pv,ov,.slice none 0 0,.int .i64 (-1)])::(b2,[.slice none 0 0,.slice none 0 0,.slice none 0 0,.int .i64 0])::pL pb lv' en op,R⟩)
   ⟨3,rfl,?_,?_,?_,M3,t2,lv2,k,[s0],[],_,_,[],?_,rfl,rfl,bm.rfl',bC.1,bC.2.1,bC.2.2,fD,LD,am,rfl⟩ ?_
  all_goals first | (simp only [go_sem,sevalprocAttr];done) | skip
  clear am fD LD
  rintro m e ds h ⟨rfl,e0,e2,e3,M4,t4,lv4,k,parts,ops,pv,ov,R,e4,hm,hpo,dz,n3,n2,np,kx,LD,am,rfl⟩
  by_cases hk:0<k
  ·obtain ⟨⟨oa,oc,rfl⟩,pa,pc,rfl⟩:=Bk LD
   unfold wY at am
   rw [if_pos hk] at am
   cases m with
   | zero=>
    have bu:(parts.length:Int)=4:=by omega
    simp +contextual only [go_sem,aD,sevalprocAttr,e0,e3,e4,hk,n3,bu]
    refine l4 [(b3,_),(b2,_)] kx ?_
    simp +contextual only [go_sem,sevalprocAttr]
    exact fI [(b3,_),(b2,_)] hT am
   | succ m=>
    have bu:¬ (parts.length:Int)=4:=by omega
    simp only [Rs.bind_assoc] at am
    simp +contextual only [go_sem,aD,sevalprocAttr,e3,e4,hk,n3,bu]
    refine eG ⟨T,fun _=>none,[(b3,_)],[]⟩ (gH n3) ?_
    simp +contextual only [go_sem,sevalprocAttr,e0,e3,e4]
    intro b8 pp eC
    refine ⟨tM n3 (fun h=>eC.1.2 h),?_⟩
    refine Ww LD pp (by omega) ?_
    intro oa' oc' R1 SQ
    simp +contextual only [go_sem,sevalprocAttr,e3]
    refine ⟨tM n3 (fun h=>eC.1.2 h),?_⟩
    have hg4:=(hg.ext aW).ext ((bh.trans bG).trans dz)
    refine cy [(b8,_),(b3,_),(b2,_)] hT am cm (fun h=>Ry hg4 kx iL h T3) ?_
    rintro v M5 s1 t5 lv5 dN bS am iq ⟨cs1,rfl,iQ⟩
    have akC:=lF iQ
    simp only [nn,aJ,aK] at bS
    simp +contextual only [go_sem,sevalprocAttr,akC]
    refine ⟨jX [(b8,_)] bS.2.1 ⟨⟨eC.1.2,eC.1.1⟩,trivial⟩,?_⟩
    intro b9 qY gY
    refine ⟨jX [(b9,_),(b8,_)] bS.2.1 ⟨⟨gY.2.1.2,gY.2.1.1⟩,⟨eC.1.2,eC.1.1⟩,trivial⟩,?_⟩
    refine Np (MX dN SQ) iQ qY (by omega) ?_
    intro pa' pc' R2 alx
    simp +contextual only [go_sem,sevalprocAttr,eC,gY,e0,e3]
    refine ⟨jX [(b9,_),(b8,_)] bS.2.1 ⟨⟨gY.2.1.2,gY.2.1.1⟩,⟨eC.1.2,eC.1.1⟩,trivial⟩,?_⟩
    refine cy [(b9,_),(b8,_),(b3,_),(b2,_)] hT am cm (fun _=>Rz iq T3) ?_
    rintro v M6 k' t6 lv6 eO bW am mH rfl
    simp only [nn,aJ,aK] at bW
    simp +contextual only [go_sem,sevalprocAttr]
    rw [eL]
    refine al (al (aC ⟨m,by omega,rfl,?_,?_,?_,M6,t6,lv6,k',parts++[s1],ops++[k],_,_,R2,?_,?_,?_,(dz.trans dN).trans eO,bW.2.2.1,bW.2.2.2.1,bW.2.2.2.2,mH,EG eO alx,?_,rfl⟩))
    ·simp only [e0,go_sem,sevalprocAttr]
    ·simp only [e2,go_sem,sevalprocAttr]
    ·simp only [e3,go_sem,sevalprocAttr]
    ·simp only [go_sem,sevalprocAttr]
    ·rw [List.length_append];simp only [ln];omega
    ·rw [List.length_append,List.length_append];simp only [ln];omega
    ·rw [am];congr 1;funext l t;simp [Rs.bind]
  ·unfold wY at am
   rw [if_neg hk] at am
   simp +contextual only [go_sem,aD,sevalprocAttr,e4,hk]
   refine fh _ _ _ ⟨rfl,?_,?_,?_,M4,_,lv4,parts,ops,pv,ov,R,dz,n3,n2,np,kx,by omega,by omega,LD,?_,rfl⟩
   ·simp only [e0,go_sem,sevalprocAttr]
   ·simp only [e2,go_sem,sevalprocAttr]
   ·simp only [e3,go_sem,sevalprocAttr]
   ·rw [am];simp [Rs.bind]
 clear am bC fD LD aZ bD
 rintro e ds h ⟨rfl,e0,e2,e3,M4,t,lv4,parts,ops,pv,ov,R,dz,n3,n2,np,kx,tA,hol,LD,am,rfl⟩
 simp +contextual only [go_sem,sevalprocAttr,e0]
 refine Gh [(b3,_),(b2,_)] Ku kx ?_
 intro lv5 iq
 unfold Ed JV at am
 generalize bH Ku t=gw at am iq ⊢
 simp +contextual only [go_sem,sevalprocAttr]
 have hg4:=(hg.ext aW).ext ((bh.trans bG).trans dz)
 refine fg (fun e ds h=>ds=[]/\e 0=.pointer (some ⟨pb,0,none⟩)/\e 2=.pointer (some ⟨b2,0,none⟩)/\e 3=.pointer (some ⟨b3,0,none⟩)/\
  ∃ M' t lv' ord rv lim,bm M4 M'/\M' b3=none/\M' b2=none/\M' pb=none/\RS M' gQ 3 t lv'/\RS M' (RX M') 7 ord rv/\o8 en ex aX=.ok ⟨parts,ops,ord,lim⟩ t/\
   h=⟨T3,M',(b3,[pv,ov,rv,.int .i64 lim])::(b2,[.slice none 0 0,.slice none 0 0,.slice none 0 0,.int .i64 0])::pL pb lv' en op,R⟩) (fun S' fh=> ?_) ?_
 ·cases gw with
  | false=>
   simp only [if_false,Bool.false_eq_true] at am iq
   simp +contextual only [go_sem,aD,sevalprocAttr]
   refine fh _ _ _ ⟨rfl,?_,?_,?_,M4,_,lv5,[],_,_,bm.rfl',n3,n2,np,iq,bz,am,rfl⟩
   all_goals simp only [e0,e2,e3,go_sem,sevalprocAttr]
  | true=>
   simp only [if_true,Rs.bind_assoc] at am iq
   simp +contextual only [go_sem,aD,sevalprocAttr,e0]
   intro b5 jz eg
   refine dU [(b3,_),(b2,_)] hT am iq ?_
   intro M5 lv6 dN bS am mH
   simp +contextual only [go_sem,sevalprocAttr,e0]
   refine cy [(b3,_),(b2,_)] hT am cm (fun h=>BJ (fa:=[.pointer (some ⟨pb,0,none⟩)]) (fc:=[]) (C:=fun _=>True) (r:=RX) (enc:=IU) (g:=ex) 8
    (fun M t lv T hg _ hl cm=>iL M t lv T hg hl cm) (fun x v M h=>by obtain ⟨cs,rfl,h⟩:=h;exact ⟨cs,rfl,h⟩) (fun _ _ _ h=>dX h) (fun _ _ _ h=>lG h) (fun _ _ _ _ he h=>bL he _ _ h)
    (fun _ _ _ h=>h) trivial (by decide) (hg4.ext dN) mH h T3) ?_
   rintro v M6 ord t2 lv7 eO bW am pg hv
   obtain ⟨j3,nu⟩:=dy hv
   have Ge:=nu
   simp only [Value.cells] at Ge
   simp only [nn,aJ,aK] at bW
   simp +contextual only [go_sem,sevalprocAttr,j3,Ge,e0,e3]
   intro b6 pA gR
   refine dU [(b3,_),(b2,_)] hT am pg ?_
   intro M7 lv8 qX mI am sU
   simp +contextual only [go_sem,sevalprocAttr,e0]
   refine l4 [(b3,_),(b2,_)] sU ?_
   unfold acB at am
   rw [Rs.bind_assoc] at am
   simp +contextual only [go_sem,sevalprocAttr,e0]
   refine cy [(b3,_),(b2,_)] hT am cm (fun _=>Fy sU T3) ?_
   rintro v M8 n t3 lv9 vx oW am Oz rfl
   simp only [nn,aJ,aK] at oW
   by_cases hn:n<0
   ·rw [if_pos (.inl hn)] at am
    simp +contextual only [go_sem,aD,sevalprocAttr,hn]
    exact fI [(b3,_),(b2,_)] hT am
   ·by_cases pt:50<n
    ·rw [if_pos (.inr pt)] at am
     simp +contextual only [go_sem,aD,sevalprocAttr,hn,pt]
     exact fI [(b3,_),(b2,_)] hT am
    ·rw [if_neg (by omega)] at am
     simp +contextual only [go_sem,aD,sevalprocAttr,e3,hn,pt]
     refine fh _ _ _ ⟨rfl,?_,?_,?_,M8,_,lv9,ord,_,n,((dN.trans eO).trans qX).trans vx,oW.1,oW.2.1,oW.2.2,Oz,aH (qX.trans vx) (bL (qX.trans vx)) hv,am,rfl⟩
     all_goals simp only [e0,e2,e3,go_sem,sevalprocAttr]
 clear am n3 n2 np kx iq e0 e2 e3
 rintro e ds h ⟨rfl,e0,e2,e3,M5,t,lv4,ord,rv,lim,dN,n3,n2,np,kx,ns,am,rfl⟩
 obtain ⟨⟨oa,oc,rfl⟩,pa,pc,rfl⟩:=Bk LD
 have o3:=dy ns
 simp +contextual only [go_sem,sevalprocAttr,e2,e3,n3,n2,cZ,o3]
 refine al (al (P5 (EG dN LD) (by omega) (by omega) (fun M6 eO bW cH hos=>aQ hT rfl rfl ?_) (by simpa only [aK] using np)))
 exact ⟨_,t,lv4,am,rfl,aH eO (fun _ _ h=>h) kx,rfl,_,rfl,⟨_,_,_,cH,hos,aH eO (bL eO) ns,rfl⟩⟩
def MU:Q:=⟨[],[],[],0⟩
def aa2 (q:Stm)(v:Value)(M:aR):Prop:=∃ cs,v=.agg ⟨cs⟩/\mD M q cs
theorem xF {M:aR}:RQ M MU [.slice none 0 0,.slice none 0 0,.slice none 0 0,.int .i64 0]:=⟨_,_,_,bz,bz,bz,rfl⟩
def KI {M:aR}{q:Q}{cs:List Value}(h:RQ M q cs):∃ p o r,cs=[p,o,r,.int .i64 q.limit]/\p.oneCell'=true/\o.oneCell'=true/\r.oneCell'=true:=by
 obtain ⟨p,o,r,h1,h2,h3,rfl⟩:=h
 exact ⟨p,o,r,rfl,(dy h1).1,(dy h2).1,(dy h3).1⟩
def Z2 (en:Int)(ex:List Tk ->Rs X)(t:List Tk):Rs Stm:=(iV en t).bind fun n t=>(cj en [wAs] t).bind fun _ t=>(o8 en ex t).bind fun q t=> .ok ⟨2,n,[],q,[],false,lq⟩ t
def UQ (en:Int)(t:List Tk):Rs Stm:=(cj en [adh] t).bind fun _ t=>(iV en t).bind fun n t=>(cj en [sk] t).bind fun _ t=>(dC en (qR en) 8 t).bind fun c t=>(cj en [kL] t).bind fun _ t=> .ok ⟨1,n,c,MU,[],false,lq⟩ t
def LN (en:Int)(t:List Tk):Rs Stm:=(cj en [agW] t).bind fun _ t=>(iV en t).bind fun n t=>(cj en [YU] t).bind fun _ t=>(dC en (Uo en) 400 t).bind fun r t=> .ok ⟨3,n,[],MU,r,false,lq⟩ t
def K9 (en:Int)(ex:List Tk ->Rs X)(t:List Tk):Rs Stm:=(cj en [Z6] t).bind fun _ t=>(iV en t).bind fun n t=>(D7 ex tq t).bind fun wh t'=> .ok ⟨4,n,[],MU,[],bH tq t,wh⟩ t'
def ZY (en:Int)(ex:List Tk ->Rs X)(t:List Tk):Rs Stm:=(cj en [ag0] t).bind fun _ t=>(o8 en ex t).bind fun q t=> .ok ⟨5,[],[],q,[],false,lq⟩ t
def qA (en:Int)(ex:List Tk ->Rs X)(t:List Tk):Rs Stm:=
 if bH MG t=true then (if bH Z9 t.tail=true then Z2 en ex t.tail.tail else UQ en t.tail)
 else if bH MI t=true then LN en t.tail
 else if bH MH t=true then K9 en ex t.tail
 else ZY en ex t
theorem W7 {M:aR}{pb:Nat}{aX:List Tk}{lv:Value}{en op:Int}{ex:List Tk ->Rs X}(hg:eS M)(hl:RS M gQ 3 aX lv)(iL:Y5 en pb ex op)(cm:qA en ex aX≠ .out)(T:Tm):
 bU Tryz.prog 25 [.pointer (some ⟨pb,0,none⟩)] T M (pL pb lv en op) [] (fR pb en op aa2 (qA en ex aX)) (gN pb en (qA en ex aX)):=by
 refine az F25 rfl rfl ?_
 intro bj _
 simp only [aK] at bj
 simp +contextual only [go_sem,aD,sevalprocAttr]
 intro b2 T2 dO fz dA ef
 have am:qA en ex aX=qA en ex aX:=rfl
 generalize hS:qA en ex aX=S at cm ⊢
 unfold qA at hS
 replace am:=hS.symm
 refine iS [(b2,_)] MG hl (fun hs lv1 gZ=> ?_) (fun hs lv1 gZ=> ?_)
 ·rw [if_pos hs] at am
  simp +contextual only [go_sem,aD,sevalprocAttr]
  refine iS [(b2,_)] Z9 gZ (fun hs lv2 fD=> ?_) (fun hs lv2 fD=> ?_)
  ·rw [if_pos hs] at am
   unfold Z2 at am
   simp +contextual only [go_sem,aD,sevalprocAttr]
   refine cy [(b2,_)] dA am cm (fun _=>iA hg fD T2) ?_
   rintro v M1 n t lv3 aW bD am fP rfl
   simp only [nn,aJ,aK] at bD
   simp +contextual only [go_sem,sevalprocAttr]
   intro b3 T3 gK cZ fU gB b4 eH em
   have hT:=dA.trans fU
   refine dU [(b3,_),(b2,_)] hT am fP ?_
   intro M2 lv4 bh aZ am kx
   simp +contextual only [go_sem,sevalprocAttr]
   refine cy [(b3,_),(b2,_)] hT am cm (fun h=>Fz ((hg.ext aW).ext bh) kx iL h T3) ?_
   rintro v M3 q t2 lv5 bG bC am iq ⟨cs,rfl,hq⟩
   obtain ⟨p,o,r,rfl,h1,h2,h3⟩:=KI hq
   simp only [nn,aJ,aK] at bC
   simp +contextual only [go_sem,sevalprocAttr,bC,cZ,h1,h2,h3]
   refine al (al (aQ hT rfl rfl ?_))
   exact ⟨_,_,lv5,am,rfl,iq,rfl,_,rfl,_,_,_,_,bz,hq,bz,kX,rfl⟩
  ·rw [if_neg (by simp [hs])] at am
   unfold UQ at am
   simp +contextual only [go_sem,aD,sevalprocAttr]
   intro b4 eH em
   refine dU [(b2,_)] dA am fD ?_
   intro M1 lv3 aW bD am fP
   simp +contextual only [go_sem,sevalprocAttr]
   refine cy [(b2,_)] dA am cm (fun _=>iA (hg.ext aW) fP T2) ?_
   rintro v M2 n t lv4 bh aZ am kx rfl
   simp only [nn,aJ,aK] at aZ
   simp +contextual only [go_sem,sevalprocAttr]
   intro b3 T3 gK cZ fU gB b5 jz eg
   have hT:=dA.trans fU
   refine dU [(b3,_),(b2,_)] hT am kx ?_
   intro M3 lv5 bG bC am iq
   simp +contextual only [go_sem,sevalprocAttr]
   refine cy [(b3,_),(b2,_)] hT am cm (fun h=>IK (fa:=[.pointer (some ⟨pb,0,none⟩)]) (fc:=[]) (C:=fun _=>True) (r:=fun _=>tF) (enc:=Za) (g:=qR en) 8
    (fun M t lv T hg _ hl cm=>NP hg hl T) (fun x v M h=>by obtain ⟨cs,rfl,h⟩:=h;exact ⟨cs,rfl,h⟩) (fun _ _ _ h=>by unfold tF at h;subst h;rfl) (fun _ _ _ h=>by unfold tF at h;subst h;intro u hu;simp only [mn] at hu;rcases hu with rfl | rfl<;>rfl) (fun _ _ _ _ he h=>h)
    (fun _ _ _ h=>h) trivial (by decide) (((hg.ext aW).ext bh).ext bG) iq h T3) ?_
   rintro v M4 cols t2 lv6 dz de am mH hv
   obtain ⟨j3,nu⟩:=dy hv
   have Ge:=nu
   simp only [Value.cells] at Ge
   simp only [nn,aJ,aK] at de
   simp +contextual only [go_sem,sevalprocAttr,j3,Ge]
   intro b6 pA gR
   refine dU [(b3,_),(b2,_)] hT am mH ?_
   intro M5 lv7 dN bS am pg
   simp only [nn,aJ,aK] at bS
   simp +contextual only [go_sem,sevalprocAttr,bS,cZ,j3]
   refine al (al (aQ hT rfl rfl ?_))
   exact ⟨_,_,lv7,am,rfl,pg,rfl,_,rfl,_,_,_,_,aH dN (fun _ _ h=>h) hv,xF,bz,kX,rfl⟩
 rw [if_neg (by simp [hs])] at am
 clear hs
 simp +contextual only [go_sem,aD,sevalprocAttr]
 refine iS [(b2,_)] MI gZ (fun hs lv2 fD=> ?_) (fun hs lv2 fD=> ?_)
 ·rw [if_pos hs] at am
  unfold LN at am
  simp +contextual only [go_sem,aD,sevalprocAttr]
  intro b4 eH em
  refine dU [(b2,_)] dA am fD ?_
  intro M1 lv3 aW bD am fP
  simp +contextual only [go_sem,sevalprocAttr]
  refine cy [(b2,_)] dA am cm (fun _=>iA (hg.ext aW) fP T2) ?_
  rintro v M2 n t lv4 bh aZ am kx rfl
  simp only [nn,aJ,aK] at aZ
  simp +contextual only [go_sem,sevalprocAttr]
  intro b3 T3 gK cZ fU gB b5 jz eg
  have hT:=dA.trans fU
  refine dU [(b3,_),(b2,_)] hT am kx ?_
  intro M3 lv5 bG bC am iq
  simp +contextual only [go_sem,sevalprocAttr]
  refine cy [(b3,_),(b2,_)] hT am cm (fun h=>IM (fa:=[.pointer (some ⟨pb,0,none⟩)]) (fc:=[]) (C:=fun _=>True) (r:=MZ) (enc:=Sa) (g:=Uo en) 400
   (fun M t lv T hg _ hl cm=>aaY hg hl T) (fun x v M h=>⟨_,(dy h).2,_,h,rfl⟩) (fun _ _ _ h=>by obtain ⟨_,_,rfl⟩:=h;rfl) (fun _ _ _ h=>by obtain ⟨_,h,rfl⟩:=h;intro u hu;simp only [List.mem_singleton] at hu;subst hu;exact (dy h).1) (fun _ _ _ _ he h=>mN he _ _ h)
   (fun _ _ _ h=>h) trivial (by decide) (((hg.ext aW).ext bh).ext bG) iq h T3) ?_
  rintro v M4 rows t2 lv6 dz de am mH hv
  obtain ⟨j3,nu⟩:=dy hv
  have Ge:=nu
  simp only [Value.cells] at Ge
  simp only [nn,aJ,aK] at de
  simp +contextual only [go_sem,sevalprocAttr,de,cZ,j3,Ge]
  refine al (al (aQ hT rfl rfl ?_))
  exact ⟨_,_,lv6,am,rfl,mH,rfl,_,rfl,_,_,_,_,bz,xF,hv,kX,rfl⟩
 rw [if_neg (by simp [hs])] at am
 clear hs
 simp +contextual only [go_sem,aD,sevalprocAttr]
 refine iS [(b2,_)] MH fD (fun hs lv3 fP=> ?_) (fun hs lv3 fP=> ?_)
 ·rw [if_pos hs] at am
  unfold K9 at am
  simp +contextual only [go_sem,aD,sevalprocAttr]
  intro b4 eH em
  refine dU [(b2,_)] dA am fP ?_
  intro M1 lv4 aW bD am kx
  simp +contextual only [go_sem,sevalprocAttr]
  refine cy [(b2,_)] dA am cm (fun _=>iA (hg.ext aW) kx T2) ?_
  rintro v M2 n t lv5 bh aZ am iq rfl
  simp only [nn,aJ,aK] at aZ
  simp +contextual only [go_sem,sevalprocAttr]
  intro b3 T3 gK cZ fU gB
  have hT:=dA.trans fU
  refine iS [(b3,_),(b2,_)] tq iq (fun hs lv6 mH=> ?_) (fun hs lv6 mH=> ?_)
  ·unfold D7 at am
   rw [if_pos hs,hs] at am
   simp +contextual only [go_sem,aD,sevalprocAttr,gK]
   refine cy [(b3,_),(b2,_)] hT am cm (fun h=>iL M2 _ lv6 T3 ((hg.ext aW).ext bh) mH h) ?_
   rintro v M3 x t2 lv7 bG bC am pg ⟨cs,rfl,hx⟩
   obtain ⟨s,rfl,h1,_⟩:=bZ hx
   simp only [nn,aJ,aK] at bC
   simp +contextual only [go_sem,sevalprocAttr,bC,cZ,h1]
   refine al (al (aQ hT rfl rfl ?_))
   exact ⟨_,_,lv7,am,rfl,pg,rfl,_,rfl,_,_,_,_,bz,xF,bz,hx,rfl⟩
  ·unfold D7 at am
   rw [if_neg (by simp [hs]),hs] at am
   simp +contextual only [go_sem,aD,sevalprocAttr,aZ,gK,cZ]
   refine al (al (aQ hT rfl rfl ?_))
   exact ⟨_,_,lv6,am,rfl,mH,rfl,_,rfl,_,_,_,_,bz,xF,bz,kX,rfl⟩
 rw [if_neg (by simp [hs])] at am
 clear hs
 unfold ZY at am
 simp +contextual only [go_sem,aD,sevalprocAttr]
 intro b4 eH em
 refine dU [(b2,_)] dA am fP ?_
 intro M1 lv4 aW bD am kx
 simp +contextual only [go_sem,sevalprocAttr]
 refine cy [(b2,_)] dA am cm (fun h=>Fz (hg.ext aW) kx iL h T2) ?_
 rintro v M2 q t2 lv5 bh aZ am iq ⟨cs,rfl,hq⟩
 obtain ⟨p,o,r,rfl,h1,h2,h3⟩:=KI hq
 simp only [nn,aJ,aK] at aZ
 simp +contextual only [go_sem,sevalprocAttr,aZ,h1,h2,h3]
 refine al (aQ dA rfl rfl ?_)
 exact ⟨_,_,lv5,am,rfl,iq,rfl,_,rfl,_,_,_,_,bz,hq,bz,kX,rfl⟩
def oA (p:UInt8 ->Bool)(s:Bs):Nat:=(s.takeWhile p).length
def yO {gf:Nat}{p:UInt8 ->Bool}(hp:∀ (c:UInt8) (M:aR),Ct Tryz.prog gf [.int .u8 (c.toNat:Int)] M [] [] (fun r _ _ _=>r=.bool (p c)) aM)(s:Bs)(hs:s.length<=4000)(M:aR):
 Ct Tryz.prog 66 [st s,.func (.func gf) ⟨[]⟩ ⟨[]⟩] M [] [] (fun r _ _ _=>r=.int .i64 (oA p s)) aM:=by
 intro T
 refine az F66 rfl rfl ?_
 intro bj _
 simp +contextual only [go_sem,aD,sevalprocAttr]
 refine aO s.length 5 [(0,st s),(1,.func (.func gf) ⟨[]⟩ ⟨[]⟩)] (fun i e h=>∃ M',h=⟨T,M',[],[]⟩/\oA p s=i+oA p (s.drop i)) 0 (by omega) (by simp only [aE,go_sem,sevalprocAttr]) (by simp only [go_sem,sevalprocAttr]) ⟨M,rfl,by simp⟩ ?_
 rintro i e h hi aI ht ⟨M1,rfl,am⟩
 simp only [aE,st] at aI
 by_cases aL:i<s.length
 ·have hx:=kD aL
  have bK:s.drop i=s[i]::s.drop (i+1):=dq aL
  rw [bK] at am
  simp +contextual only [go_sem,sevalprocAttr,aI,ht,aL,hx]
  refine aF (hp s[i] M1 T) ?_
  rintro v M2 bh _ rfl
  by_cases hk:p s[i]=true
  ·simp +contextual only [go_sem,aD,sevalprocAttr,ht,hk]
   refine bT aL ?_ ?_ ⟨M2,rfl,?_⟩
   ·simp only [aE,aI,go_sem,sevalprocAttr]
   ·simp only [go_sem,sevalprocAttr,aA i (by omega)]
   ·rw [am];simp only [oA,List.takeWhile_cons,hk,if_true,List.length_cons];omega
  ·simp +contextual only [go_sem,aD,sevalprocAttr,ht,hk]
   refine ak aG.rfl' ?_
   rw [am]
   simp only [oA,List.takeWhile_cons,hk,if_false,Bool.false_eq_true,List.length_nil,Nat.add_zero]
 ·have:i=s.length:=by omega
  subst this
  simp +contextual only [go_sem,aD,sevalprocAttr,aI,ht,aL]
  refine ak aG.rfl' ?_
  rw [am]
  simp [oA]
def II (s x:Bs)(M:aR):Ct Tryz.prog 116 [st s,st x] M [] [] (fun r _ _ _=>r=.bool (x.isPrefixOf s)) aM:=by
 intro T
 refine az ah2 rfl rfl ?_
 intro bj _
 by_cases hl:x.length<=s.length
 ·simp +contextual only [go_sem,sevalprocAttr,hl]
  refine ak aG.rfl' ?_
  rw [List.drop_zero]
  congr 1
  rw [Bool.eq_iff_iff,List.isPrefixOf_iff_prefix,List.prefix_iff_eq_take,decide_eq_true_eq]
  exact eq_comm
 ·simp +contextual only [go_sem,sevalprocAttr,hl]
  refine ak aG.rfl' ?_
  have:x.isPrefixOf s=false:=by
   rw [Bool.eq_false_iff];intro h;exact hl (List.isPrefixOf_iff_prefix.1 h).length_le
  rw [this]
theorem NV (s x:Bs)(M:aR):Ct Tryz.prog 72 [st s,st x] M [] [] (fun r _ _ _=>r=.bool (x.isPrefixOf s)) aM:=by
 intro T
 refine az F72 rfl rfl ?_
 intro bj _
 simp +contextual only [go_sem,sevalprocAttr]
 refine aF (II s x M T) ?_
 rintro v M2 bh _ rfl
 simp +contextual only [go_sem,sevalprocAttr]
 exact ak aG.rfl' rfl
open Go Vc Go.RowKit Go.Shelf
theorem TG:Tryz.f115.ntmps=20:=by kernel_rfl
theorem wN:(Tryz.prog.info? 147).map (·.size)=some 2:=by kernel_rfl
theorem Gn:liesAt Tryz.prog Tryz.prog.depth 147 (2 / Tryz.prog.cellsOf 147) 0 147 1=true:=by kernel_rfl
set_option maxHeartbeats 1000000 in
set_option maxRecDepth 100000 in
theorem wi (b:Nat)(w:World)(h0:w.cell? ⟨b,0,none⟩=some (.pointer (some ⟨b,0,none⟩))):
 Calls Tryz.prog 115 #[.pointer (some ⟨b,0,none⟩)] w fun e w'=>e=.returned (.tuple #[])/\w'=w:=by
 obtain ⟨j,hj,_⟩:=Option.map_eq_some_iff.1 wN
 have mixed:=mx
 go_enter Tryz.func115,TG
 go_wp2
 rw [Lib.run_neq_ptr_same w _ Tryz.underlying144 hj]
 go_wp2
 go_end0
 exact ⟨rfl,rfl⟩
set_option maxHeartbeats 1000000 in
set_option maxRecDepth 100000 in
theorem uO (b:Nat)(w:World)(h0:w.cell? ⟨b,0,none⟩=some (.pointer none))(hsh:w.shape? b=some (147,2))(VP:w.frozen? ⟨b,0,none⟩=false):
 Calls Tryz.prog 115 #[.pointer (some ⟨b,0,none⟩)] w fun e w'=>e=.returned (.tuple #[])/\w'=w.setCell ⟨b,0,none⟩ (.pointer (some ⟨b,0,none⟩)):=by
 obtain ⟨j,hj,hjs⟩:=Option.map_eq_some_iff.1 wN
 have mixed:=mx
 have t95:=Tryz.underlying147
 have t93:=Tryz.underlying144
 go_enter Tryz.func115,TG
 go_wp2
 rw [Lib.run_to_unsafe w ⟨b,0,none⟩ Tryz.underlying144 Tryz.underlying285 hj (by rw [hjs];decide) hsh (Nat.zero_lt_succ 1)]
 simp only [Result.andThen]
 rw [Oper.upon_value]
 go_wp2
 rw [run_callFunc_extern Tryz.func181 (by kernel_rfl) (by kernel_rfl) (by kernel_rfl) (e:=Extern.AbiNoEscape.same) (by kernel_rfl)]
 rw [Lib.run_noEscape]
 simp only [Result.andThen]
 rw [Oper.upon_value]
 go_wp2
 rw [Lib.run_from_unsafe w ⟨b,0,none⟩ Tryz.underlying285 Tryz.underlying144 hj hsh Gn]
 simp only [Result.andThen]
 rw [Oper.upon_value]
 go_wp2
 go_end0
 exact ⟨rfl,rfl⟩
theorem ZQ:Tryz.f71.ntmps=14:=by kernel_rfl
theorem Ns:Tryz.prog.cellsOf 5=1:=by kernel_rfl
set_option maxHeartbeats 1000000 in
set_option maxRecDepth 100000 in
theorem Vr {tid:TypeId}(b g cap:Nat)(p:Value)(cur:Array Value)(l:List UInt8)(w:World)(h0:l≠[])(fp:w.heap[b]?=some (.cells #[p,.slice (some ⟨g,0,none⟩) l.length cap] tid (0,0)))
 (hg:w.heap[g]?=some (.cells cur 5 (0,0))) (hnc:l.length<=cap) (gC:cur.size=cap) (hcm:l.length<=4294967296) (agl:cur.toList.take l.length=Lib.byteCells l):
 Calls Tryz.prog 71 #[.pointer (some ⟨b,0,none⟩)] w fun e w'=>e=.returned (.string ⟨l.toArray⟩)/\w'=w.drew.freeze ⟨g,0,none⟩ l.length:=by
 have un:l.length≠0:=by simpa using h0
 have c1:w.drew.cell? ⟨b,1,none⟩=some (.slice (some ⟨g,0,none⟩) l.length cap):=by
  have:w.drew.heap[b]?=some (.cells #[p,.slice (some ⟨g,0,none⟩) l.length cap] tid (0,0)):=fp
  rw [Lib.cell_of_heap this];rfl
 have hSD:(Builtin.unsafeSliceData_ #[145] 210 #[.slice (some ⟨g,0,none⟩) l.length cap]).run Tryz.prog w.drew=.ok (.pointer (some ⟨g,0,none⟩)) w.drew:=
  Lib.run_unsafeSliceData_row _ _ _ _ _ _ (by omega)
 have hUS:(Builtin.unsafeString_ #[210,3] 9 #[.pointer (some ⟨g,0,none⟩),.int .i64 l.length]).run Tryz.prog w.drew=.ok (.string ⟨l.toArray⟩) (w.drew.freeze ⟨g,0,none⟩ l.length):=by
  refine Lib.run_unsafeString_row w.drew 210 3 9 5 Tryz.underlying210 Ns g cur.size (by have XH:w.drew.heap[g]?=some (.cells cur 5 (0,0)):=hg;simp [World.shape?,XH]) l h0 (by omega) (by omega) ?_
  intro j x hx
  have XH:w.drew.heap[g]?=some (.cells cur 5 (0,0)):=hg
  have hj:j<l.length:=(List.getElem?_eq_some_iff.1 hx).1
  have h2:(cur.toList.take l.length)[j]?=some (.int .u8 x.toNat):=by rw [agl];simp [Lib.byteCells,hx]
  rw [List.getElem?_take_of_lt hj] at h2
  rw [Addr.add_lit,Nat.zero_add,Lib.cell_of_heap XH]
  simpa using h2
 have mixed:=mx
 have t95:=Tryz.underlying147
 have t93:=Tryz.underlying144
 have t37:=Tryz.underlying145
 have t137:=Tryz.underlying210
 go_enter Tryz.func71,ZQ
 go_wp2
 go_region_o
 all_goals (go_wp2;go_ret;exact ⟨rfl,rfl⟩)
theorem Et {tid:TypeId}(b:Nat)(p:Value)(w:World)(fp:w.heap[b]?=some (.cells #[p,.slice none 0 0] tid (0,0))):
 Calls Tryz.prog 71 #[.pointer (some ⟨b,0,none⟩)] w fun e w'=>e=.returned (.string ⟨#[]⟩)/\w'=w.drew:=by
 have hUS:∀ W q,(Builtin.unsafeString_ #[210,3] 9 #[.pointer q,.int .i64 0]).run Tryz.prog W=.ok (.string .empty) W:=fun W q=>Lib.run_unsafeString_none W _ _ _ q
 have c1:w.drew.cell? ⟨b,1,none⟩=some (.slice none 0 0):=by
  have:w.drew.heap[b]?=some (.cells #[p,.slice none 0 0] tid (0,0)):=fp
  rw [Lib.cell_of_heap this];rfl
 have hSD:(Builtin.unsafeSliceData_ #[145] 210 #[.slice none 0 0]).run Tryz.prog w.drew=.ok (.pointer none) w.drew:=rfl
 have mixed:=mx
 have t95:=Tryz.underlying147
 have t93:=Tryz.underlying144
 have t37:=Tryz.underlying145
 have t137:=Tryz.underlying210
 go_enter Tryz.func71,ZQ
 go_wp2
 go_region_o
 all_goals (go_wp2;go_ret;exact ⟨rfl,rfl⟩)
theorem aaj.bd':du Tryz.prog 115=true:=by kernel_rfl
theorem F48.bd':du Tryz.prog 71=true:=by kernel_rfl
theorem DA {T:Tm}{M:aR}{b:Nat}{p v:Value}(hT:T b=some 147)(hp:p=.pointer none\/p=.pointer (some ⟨b,0,none⟩)):
 bU Tryz.prog 115 [.pointer (some ⟨b,0,none⟩)] T M [(b,[p,v])] [] (fun r M' L' R'=>r=.tuple #[]/\M'=M/\L'=[(b,[.pointer (some ⟨b,0,none⟩),v])]/\R'=[]) aM:=by
 refine ⟨aaj.bd',fun w U hw=> ?_⟩
 obtain ⟨bs,rfl,hi⟩:=hw
 have fp:w.heap[b]?=some (.cells #[p,v] 147 (0,0)):=hi.typed hT (List.mem_singleton.2 rfl)
 have c0:w.cell? ⟨b,0,none⟩=some p:=by rw [Lib.cell_of_heap fp];rfl
 rcases hp with rfl | rfl
 ·refine Calls.mono (uO b w c0 (by simp [World.shape?,fp]) (Lib.frozen_of_heap fp 0)) ?_
  rintro e w' ⟨rfl,rfl⟩
  have h2:=hi.store (k:=b) (i:=0) (v:=.pointer (some ⟨b,0,none⟩)) (by simp)
  have h3:sX [(b,[.pointer none,v])] b 0 (.pointer (some ⟨b,0,none⟩))=[(b,[.pointer (some ⟨b,0,none⟩),v])]:=by simp [sX]
  rw [h3] at h2
  exact ⟨M,_,[],⟨⟨bs,h2⟩,rfl,rfl⟩,rfl,rfl,rfl,rfl⟩
 ·refine Calls.mono (wi b w c0) ?_
  rintro e w' ⟨rfl,rfl⟩
  exact ⟨M,_,[],⟨⟨bs,hi⟩,rfl,rfl⟩,rfl,rfl,rfl,rfl⟩
theorem RW {w:World}{g n b:Nat}(h:b≠g):(w.drew.freeze ⟨g,0,none⟩ n).heap[b]?=w.heap[b]?:=by
 rw [ud h];rfl
theorem Of {w:World}{g n:Nat}:(w.drew.freeze ⟨g,0,none⟩ n).heap.size=w.heap.size:=by
 unfold World.freeze
 split
 ·rfl
 ·show (Array.modify _ _ _).size=_
  rw [Array.size_modify];rfl
theorem NI {tid:TypeId}{T:Tm}{M:aR}{b:Nat}{p v:Value}{l:Bs}(hT:T b=some tid)(hl:l.length<=1000000000)(us:l=[] ->v=.slice none 0 0):
 bU Tryz.prog 71 [.pointer (some ⟨b,0,none⟩)] T M [(b,[p,v])] [(v,5,1,Lib.byteCells l)] (fun r M' L' R'=>r=st l/\M'=M/\(∃ v',L'=[(b,[p,v'])])/\R'=[(.slice none 0 0,5,1,[])]) aM:=by
 refine ⟨F48.bd',fun w U hw=> ?_⟩
 obtain ⟨bs,rfl,hi⟩:=hw
 have fp:w.heap[b]?=some (.cells #[p,v] tid (0,0)):=hi.typed hT (List.mem_singleton.2 rfl)
 obtain ⟨bu,bN⟩:=hi.rows
 obtain ⟨o,rfl⟩:∃ o,bs=[o]:=by
  cases bs with
  | nil=>simp at bu
  | cons o bs=>cases bs with
   | nil=>exact ⟨o,rfl⟩
   | cons _ _=>simp at bu
 have hr:=bN 0 _ _ _ _ o rfl rfl
 rcases hr with ⟨rfl,hx,rfl⟩ | ⟨g,n,cap,junk,rfl,hg,hn,hc,cX,rfl⟩ | ⟨h0,_⟩ | ⟨h0,_⟩
 rotate_left 2
 ·exact absurd h0 (by decide)
 ·exact absurd h0 (by decide)
 ·have un:l=[]:=by simpa [Lib.byteCells] using hx
  subst un
  refine Calls.mono (Et b p w fp) ?_
  rintro e w' ⟨rfl,rfl⟩
  exact ⟨M,_,_,⟨⟨[none],hi.keeps ⟨rfl,rfl,rfl,Nat.le_refl _,fun _ _=>rfl⟩⟩,rfl,rfl⟩,rfl,rfl,⟨_,rfl⟩,rfl⟩
 ·have Lq:(Lib.byteCells l).length=l.length:=by simp [Lib.byteCells]
  have zu:n=l.length:=by omega
  subst zu
  have HU:=hi.apart g (by simp)
  have Ly:g∉[(b,[p,.slice (some ⟨g,0,none⟩) l.length cap])].map (·.1):=by
   have:=hi.nodup
   simp at this
   simp
   exact fun h=>this h.symm
  obtain ⟨bs',DO⟩:=hi.dropR
  have hbs:bs'=[]:=by simpa using DO.rows.1.symm
  subst hbs
  by_cases h0:l=[]
  ·have:=us h0;injection this with h;cases h
  ·refine Calls.mono (Vr b g cap p _ l w h0 fp hg cX (by simpa using hc) (by omega) ?_) ?_
   ·rw [<- Lq];simp
   ·rintro e w' ⟨rfl,rfl⟩
    have h2:=DO.keepsBut (g:=g) (w':=w.drew.freeze ⟨g,0,none⟩ l.length) HU.2 HU.1 Ly (by simp) (by unfold World.freeze;split<;>rfl) (by unfold World.freeze;split<;>rfl) (by unfold World.freeze;split<;>rfl) (by rw [Of];exact Nat.le_refl _) (fun k hk _=>RW hk)
    exact ⟨M,_,_,⟨⟨_,h2.addNil⟩,rfl,rfl⟩,rfl,rfl,⟨_,rfl⟩,rfl⟩
theorem aaO {M:aR}{b n c:Nat}{a:Option Addr}{p:Value}:Ct Tryz.prog 70 [.pointer (some ⟨b,0,none⟩)] M [(b,[p,.slice a n c])] [] (fun r M' L' R'=>r=.int .i64 n/\M'=M/\L'=[(b,[p,.slice a n c])]/\R'=[]) aM:=by
 intro T
 refine az F70 rfl rfl ?_
 intro bj _
 simp only [aJ,and_true] at bj
 simp +contextual only [go_sem,sevalprocAttr,bj]
 exact aQ aG.rfl' rfl rfl ⟨rfl,rfl,rfl,rfl⟩
theorem tR {T:Tm}{M:aR}{b:Nat}{a:Option Addr}{n c:Nat}{p:Value}{xs:List Value}{ch:Int}(hT:T b=some 147)(hp:p=.pointer none\/p=.pointer (some ⟨b,0,none⟩))(hn:xs.length=n)(hl:n<=4000):
 bU Tryz.prog 69 [.pointer (some ⟨b,0,none⟩),.int .u8 ch] T M [(b,[p,.slice a n c])] [(.slice a n c,5,1,xs)] (fun r M' L' R'=>r=.nilIface/\M'=M/\∃ a' c',L'=[(b,[.pointer (some ⟨b,0,none⟩),.slice a' (n+1) c'])]/\R'=[(.slice a' (n+1) c',5,1,xs++[.int .u8 ch])]) aM:=by
 refine az F69 rfl rfl ?_
 intro bj _
 simp only [aJ,and_true] at bj
 simp +contextual only [go_sem,sevalprocAttr]
 refine dF [] (DA hT hp) ?_ (fun _ _ _ _ _ _ h=>h.elim)
 rintro v M' L' _ _ ut ⟨rfl,rfl,rfl, -⟩
 simp +contextual only [go_sem,sevalprocAttr,bj]
 intro b1 fO vy
 refine gX Um TI (.slice _ 1 _ _ _ Tryz.underlying145 (cF [] fO trivial rfl) (by intro u hu;simp only [List.mem_singleton] at hu;subst hu;rfl)) (by rw [hn];simp only [ln];omega) ?_
 intro a' m c' hm
 have:m=n+1:=by rw [hn] at hm;simp only [ln] at hm;omega
 subst this
 simp +contextual only [go_sem,sevalprocAttr,vy]
 exact al (aQ aG.rfl' rfl rfl ⟨rfl,rfl,_,_,rfl,rfl⟩)
def MK (c:UInt8):Bool:=lP c.toNat || jC c.toNat
def yS (c:UInt8):Bool:=jC c.toNat
def kO:List Bs:=[[60,62],[60,61],[62,61],[124,124],[60],[62],[61],[43],[45],[42],[40],[41],[44],[46],[59]]
def ll:Bs ->Option (Bs×Nat)
 | []=>none
 | [c]=>if c=39 then some ([],1) else none
 | c::d::l=>if c=39 then (if d=39 then (ll l).map fun x=>(39::x.1,x.2+2) else some ([],1)) else (ll (d::l)).map fun x=>(c::x.1,x.2+1)
def GF (at_:Int):Bs ->Except (Int×Int) (Tk×Nat)
 | []=> .error (2,at_)
 | c::l=>
  if lP c.toNat=true then .ok (⟨1,(c::l).take (oA MK (c::l)),at_⟩,oA MK (c::l))
  else if jC c.toNat=true then (if 16<oA yS (c::l) then .error (3,at_) else .ok (⟨2,(c::l).take (oA yS (c::l)),at_⟩,oA yS (c::l)))
  else if c=39 then (match ll l with | none=> .error (2,at_) | some x=>if 60<x.1.length then .error (4,at_) else .ok (⟨3,x.1,at_⟩,x.2+1))
  else match kO.find? (·.isPrefixOf (c::l)) with | none=> .error (2,at_) | some x=> .ok (⟨4,x,at_⟩,x.length)
def tkV (t:Tk):Value:=.agg ⟨[.int .i64 t.k,st t.s,.int .i64 t.at_]⟩
theorem aaW {M:aR}{s:Bs}{at_:Int}(h0:s≠[])(hs:s.length<=4000):
 Ct Tryz.prog 39 [st s,.int .i64 at_] M [] [] (fun r _ _ _=>∃ t n,GF at_ s=.ok (t,n)/\r=.tuple ⟨[tkV t,.int .i64 (n:Int)]⟩) (fun ch _ _ _=>∃ e a,GF at_ s=.error (e,a)/\ch=sf e a):=by
 intro T
 obtain ⟨c,l,cK⟩:∃ c l,s=c::l:=by
  cases s with
  | nil=>exact (h0 rfl).elim
  | cons c l=>exact ⟨c,l,rfl⟩
 have hx:sE (bs s) 0=c:=by rw [kD (by rw [cK];simp)];simp [cK]
 have dK:(0:Int)<(s.length:Int):=by rw [cK];simp only [List.length_cons];omega
 obtain ⟨S,dB⟩:∃ S,S=GF at_ s:=⟨_,rfl⟩
 rw [<- dB]
 rw [cK] at dB
 simp only [GF] at dB
 rw [<- cK] at dB
 have runle:∀ p,oA p s<=s.length:=fun p=>(List.takeWhile_sublist p).length_le
 refine az F39 rfl rfl ?_
 intro bj _
 simp +contextual only [go_sem,aD,sevalprocAttr,hx,dK]
 intro b4 T4 eH fE iJ
 refine aF (rP c.toNat M T4) ?_
 rintro v M1 aW bD rfl
 by_cases SO:lP c.toNat=true
 ·rw [if_pos SO] at dB
  simp +contextual only [go_sem,aD,sevalprocAttr,SO]
  refine aF (yO (p:=MK) (fun c M=>WZ c.toNat M) s hs M1 T4) ?_
  rintro v M2 bh aZ rfl
  simp only [aJ,and_true] at aZ
  simp +contextual only [go_sem,sevalprocAttr,SO,aZ,runle]
  refine ak (fE) ?_
  exact ⟨_,_,dB,by simp [tkV,st]⟩
 rw [if_neg SO] at dB
 simp +contextual only [go_sem,aD,sevalprocAttr,SO]
 refine aF (oP c.toNat M1 T4) ?_
 rintro v M2 bh aZ rfl
 by_cases Ow:jC c.toNat=true
 ·rw [if_pos Ow] at dB
  simp +contextual only [go_sem,aD,sevalprocAttr,Ow]
  refine aF (yO (p:=yS) (fun c M=>oP c.toNat M) s hs M2 T4) ?_
  rintro v M3 bG bC rfl
  simp only [aJ,and_true] at bC
  by_cases xQ:16<oA yS s
  ·rw [if_pos xQ] at dB
   have I5:(16:Int)<(oA yS s:Int):=by omega
   simp +contextual only [go_sem,aD,sevalprocAttr,Ow,I5]
   refine bX (gU 3 at_ M3 T4) (fun _ _ _ _ h=>h.elim) ?_
   rintro ch M4 dz de rfl
   rw [l9,j5]
   exact ak fE ⟨_,_,dB,rfl⟩
  ·rw [if_neg xQ] at dB
   have I5:¬ (16:Int)<(oA yS s:Int):=by omega
   simp +contextual only [go_sem,aD,sevalprocAttr,Ow,I5,bC,runle]
   refine ak fE ?_
   exact ⟨_,_,dB,by simp [tkV,st]⟩
 rw [if_neg Ow] at dB
 simp +contextual only [go_sem,aD,sevalprocAttr,Ow]
 by_cases hq:c=39
 ·have hq':((c.toNat:Nat):Int)=39:=by rw [hq];rfl
  rw [if_pos hq] at dB
  simp +contextual only [go_sem,sevalprocAttr,hq']
  intro b9 T9 qY gY uR pY
  refine ⟨fun m e ds h=>ds=[]/\e 0=st s/\e 1=.int .i64 at_/\e 4=.pointer (some ⟨b4,0,none⟩)/\e 9=.pointer (some ⟨b9,0,none⟩)/\
   ∃ M' i acc a c p,e 10=.int .i64 (i:Nat)/\m+i=s.length+1/\1<=i/\i<=s.length/\M' b9=none/\M' b4=none/\acc.length<=i/\(p=.pointer none\/p=.pointer (some ⟨b9,0,none⟩))/\(acc=[] ->a=none/\c=0)/\
    ll l=(ll (s.drop i)).map (fun x=>(acc++x.1,(i - 1)+x.2))/\
    h=⟨T9,M',[(b9,[p,.slice a acc.length c]),(b4,[.int .i64 0,.string (bs []),.int .i64 0])],[(.slice a acc.length c,5,1,Lib.byteCells acc)]⟩,
   eF (aC ⟨s.length,rfl,?_,?_,?_,?_,M2,1,[],none,0,.pointer none,?_,rfl,Nat.le_refl _,by omega,qY,?_,by simp,.inl rfl,fun _=>⟨rfl,rfl⟩,?_,rfl⟩),?_⟩
  ·simp only [go_sem,sevalprocAttr]
  ·simp only [go_sem,sevalprocAttr]
  ·simp only [go_sem,sevalprocAttr]
  ·simp only [go_sem,sevalprocAttr]
  ·simp only [go_sem,sevalprocAttr]
  ·simpa [aJ] using aZ
  ·rw [cK];simp
  rintro m e ds h ⟨rfl,e0,e1,e4,e9,M3,i,acc,a,cc,p,e10,hm,h1,hi,n9,n4,bq,hp,us,ZM,rfl⟩
  by_cases aL:i<s.length
  ·have zA:=kD aL
   have bK:s.drop i=s[i]::s.drop (i+1):=dq aL
   have OH:=aA i (by omega)
   by_cases h39:s[i]=39
   ·have Sm:((s[i].toNat:Nat):Int)=39:=by rw [h39];rfl
    by_cases hd:i+1<s.length/\s[i+1]?=some 39
    ·obtain ⟨pB,XG⟩:=hd
     have zB:=kD pB
     have hv:s[i+1]=39:=by rw [gq pB] at XG;injection XG
     have Ji:s.drop (i+1)=s[i+1]::s.drop (i+1+1):=dq pB
     have aeS:((s[i+1].toNat:Nat):Int)=39:=by rw [hv];rfl
     have al1:=aA (i+1) (by omega)
     simp +contextual only [go_sem,aD,sevalprocAttr,e0,e9,e10,aL,zA,Sm,OH,pB,zB,aeS]
     refine gO [] [(b9,_)] [(b4,_)] [] [_] [] (tR pY hp (by simp [Lib.byteCells]) (by omega)) ?_ (fun _ _ _ _ _ _ _ _ h=>h.elim)
     rintro v M4 L' R' _ _ _ de ⟨rfl,rfl,a',c',rfl,rfl⟩
     simp +contextual only [go_sem,sevalprocAttr,al1]
     rw [eL]
     refine aC ⟨m - 2,by omega,rfl,?_,?_,?_,?_,M4,i+2,acc++[39],a',c',_,?_,by omega,by omega,by omega,n9,n4,by rw [List.length_append];simp only [ln];omega,.inr rfl,by simp,?_,?_⟩
     ·simp only [e0,go_sem,sevalprocAttr]
     ·simp only [e1,go_sem,sevalprocAttr]
     ·simp only [e4,go_sem,sevalprocAttr]
     ·simp only [e9,go_sem,sevalprocAttr]
     ·simp only [go_sem,sevalprocAttr]
     ·rw [ZM,bK,Ji,h39,hv]
      simp only [ll,if_true]
      rw [Option.map_map]
      congr 1
      funext x
      simp only [Function.comp,List.append_assoc,nn,Prod.mk.injEq,true_and]
      omega
     ·rw [List.length_append];simp [Lib.byteCells]
    ·have alS:ll (s.drop i)=some ([],1):=by
      rw [bK,h39]
      cases B6:s.drop (i+1) with
      | nil=>simp [ll]
      | cons d r=>
       have pB:i+1<s.length:=by
        have:=congrArg List.length B6
        simp only [List.length_drop,List.length_cons] at this
        omega
       have hdd:d≠39:=by
        rintro rfl
        apply hd
        refine ⟨pB,?_⟩
        rw [dq pB] at B6
        injection B6 with h1 h2
        rw [gq pB,h1]
       simp [ll,hdd]
     rw [alS] at ZM
     simp only [Option.map_some,List.append_nil] at ZM
     rw [ZM] at dB
     simp only at dB
     have afR:∀ pB:i+1<s.length,¬ ((s[i+1].toNat:Nat):Int)=39:=by
      intro pB h
      have h2:s[i+1].toNat=39:=by omega
      exact hd ⟨pB,by rw [gq pB];exact congrArg some (UInt8.toNat_inj.1 h2)⟩
     by_cases pB:i+1<s.length
     have zB:=kD pB
     have fD:=afR pB
     simp +contextual only [go_sem,aD,sevalprocAttr,e0,e9,e10,aL,zA,Sm,OH,pB,zB,fD]
     rotate_left
     simp +contextual only [go_sem,aD,sevalprocAttr,e0,e9,e10,aL,zA,Sm,OH,pB]
     all_goals
      refine gO [] [(b9,_)] [(b4,_)] [] [] [_] (aaO T9) ?_ (fun _ _ _ _ _ _ _ _ h=>h.elim)
      rintro v M4 L' R' _ _ _ de ⟨rfl,rfl,rfl,rfl⟩
      by_cases h60:60<acc.length
      ·rw [if_pos h60] at dB
       have abf:(60:Int)<(acc.length:Int):=by omega
       simp +contextual only [go_sem,aD,sevalprocAttr,e1,abf]
       refine bX (gU 4 at_ M4 T9) (fun _ _ _ _ h=>h.elim) ?_
       rintro ch M5 dN bS rfl
       rw [l9,j5]
       exact ak (fE.trans uR) ⟨_,_,dB,rfl⟩
      ·rw [if_neg h60] at dB
       have abf:¬ (60:Int)<(acc.length:Int):=by omega
       simp +contextual only [go_sem,aD,sevalprocAttr,e9,abf]
       refine gO [] [(b9,_)] [(b4,_)] [] [_] [] (NI (l:=acc) pY (by omega) (fun h=>by obtain ⟨rfl,rfl⟩:=us h;rw [h];rfl)) ?_ (fun _ _ _ _ _ _ _ _ h=>h.elim)
       rintro v M5 L' R' _ _ _ bS ⟨rfl,rfl,⟨v',rfl⟩,rfl⟩
       simp only [nn,aJ,and_true] at bS
       simp +contextual only [go_sem,sevalprocAttr,e1,e4,e10,bS,gY,OH]
       refine ak (fE.trans uR) ⟨_,_,dB,?_⟩
       simp only [tkV,st]
       congr 4
       have:i+1=i - 1+1+1:=by omega
       rw [<- this]
   ·have Sm:¬ ((s[i].toNat:Nat):Int)=39:=by
     intro h
     have h2:s[i].toNat=39:=by omega
     exact h39 (UInt8.toNat_inj.1 h2)
    simp +contextual only [go_sem,aD,sevalprocAttr,e0,e9,e10,aL,zA,Sm]
    refine gO [] [(b9,_)] [(b4,_)] [] [_] [] (tR pY hp (by simp [Lib.byteCells]) (by omega)) ?_ (fun _ _ _ _ _ _ _ _ h=>h.elim)
    rintro v M4 L' R' _ _ _ de ⟨rfl,rfl,a',c',rfl,rfl⟩
    simp +contextual only [go_sem,sevalprocAttr,e10,OH]
    rw [eL]
    refine aC ⟨m - 1,by omega,rfl,?_,?_,?_,?_,M4,i+1,acc++[s[i]],a',c',_,?_,by omega,by omega,by omega,n9,n4,by rw [List.length_append];simp only [ln];omega,.inr rfl,by simp,?_,?_⟩
    ·simp only [e0,go_sem,sevalprocAttr]
    ·simp only [e1,go_sem,sevalprocAttr]
    ·simp only [e4,go_sem,sevalprocAttr]
    ·simp only [e9,go_sem,sevalprocAttr]
    ·simp only [go_sem,sevalprocAttr]
    ·have:ll (s.drop i)=(ll (s.drop (i+1))).map fun x=>(s[i]::x.1,x.2+1):=by
      rw [bK]
      cases s.drop (i+1) with
      | nil=>simp [ll,h39]
      | cons d r=>simp [ll,h39]
     rw [ZM,this,Option.map_map]
     congr 1
     funext x
     simp only [Function.comp,List.append_assoc,nn,Prod.mk.injEq,true_and]
     omega
    ·rw [List.length_append];simp [Lib.byteCells]
  ·have:i=s.length:=by omega
   subst this
   rw [List.drop_length] at ZM
   simp only [ll,Option.map_none] at ZM
   rw [ZM] at dB
   simp +contextual only [go_sem,aD,sevalprocAttr,e0,e1,e10,aL]
   refine bX (gU 2 at_ M3 T9) (fun _ _ _ _ h=>h.elim) ?_
   rintro ch M4 dz de rfl
   rw [l9,j5]
   exact ak (fE.trans uR) ⟨_,_,dB,rfl⟩
 ·have hq':¬ ((c.toNat:Nat):Int)=39:=by
   intro h
   have h2:c.toNat=39:=by omega
   exact hq (UInt8.toNat_inj.1 h2)
  rw [if_neg hq] at dB
  simp +contextual only [go_sem,sevalprocAttr,hq']
  intro b84 apv amU
  refine bR 15 86 [(0,st s),(1,.int .i64 at_),(4,.pointer (some ⟨b4,0,none⟩)),(84,.slice (some ⟨b84,0,none⟩) 15 15),(85,.int .i64 ((15:Nat):Int))]
   (fun i e h=>(∃ M',h=⟨T4,M',[(b4,[.int .i64 0,.string (bs []),.int .i64 0])],[]⟩/\M' b84=some (kO.map st)/\M' b4=none)/\kO.find? (fun x=>x.isPrefixOf s)=(kO.drop i).find? (fun x=>x.isPrefixOf s))
   0 (by omega) (by simp only [aE,go_sem,sevalprocAttr]) (by simp only [go_sem,sevalprocAttr]) (aU fun he hb bj=>aC ⟨⟨_,rfl,hb,bj.1⟩,rfl⟩) ?_
  rintro i e h hi aI ht ⟨⟨M3,rfl,hw,hn4⟩,B8⟩
  simp only [aE,st] at aI
  by_cases aL:i<15
  ·have lN:i<kO.length:=aL
   have bK:kO.drop i=kO[i]::kO.drop (i+1):=dq lN
   rw [bK] at B8
   have hx:aN M3 ⟨b84,i,none⟩=some (st kO[i]):=by
    rw [bg hw,List.getElem?_map,gq lN]
    rfl
   have SK:(i:Int)<15:=by omega
   simp +contextual only [go_sem,aD,sevalprocAttr,aI,ht,SK,hx]
   refine aF (NV s kO[i] M3 T4) ?_
   rintro v M4 dz de rfl
   simp only [aJ,and_true] at de
   by_cases hp:kO[i].isPrefixOf s=true
   ·simp only [List.find?_cons,hp] at B8
    rw [B8] at dB
    simp +contextual only [go_sem,aD,sevalprocAttr,aI,hp,de]
    exact ak fE ⟨_,_,dB,by simp [tkV,st]⟩
   ·simp only [Bool.not_eq_true] at hp
    simp only [List.find?_cons,hp] at B8
    simp +contextual only [go_sem,aD,sevalprocAttr,ht,hp]
    refine bT aL ?_ ?_ ⟨⟨M4,rfl,dz _ _ hw,de⟩,B8⟩
    ·simp only [aE,aI,go_sem,sevalprocAttr]
    ·simp only [go_sem,sevalprocAttr,aA i (by omega)]
  ·have:i=15:=by omega
   subst this
   have hf2:kO.find? (fun x=>x.isPrefixOf s)=none:=B8
   rw [hf2] at dB
   have h33:¬ ((15:Nat):Int)<15:=by omega
   simp +contextual only [go_sem,aD,sevalprocAttr,aI,ht]
   refine bX (gU 2 at_ M3 T4) (fun _ _ _ _ h=>h.elim) ?_
   rintro ch M4 dz de rfl
   rw [l9,j5]
   exact ak fE ⟨_,_,dB,rfl⟩
def El (c:UInt8):Bool:=decide (c=32) || decide (c=9) || decide (c=10)
def ph:Nat ->Int ->Bs ->Except (Int×Int) (List Tk)
 | 0,_,_=> .ok []
 | _+1,_,[]=> .ok []
 | f+1,at_,c::l=>if El c=true then ph f (at_+1) l else match GF at_ (c::l) with
  | .error x=> .error x
  | .ok (t,n)=>match ph f (at_+n) ((c::l).drop n) with
   | .error x=> .error x
   | .ok ts=> .ok (t::ts)
def ru (s:Bs):Except (Int×Int) (List Tk):=if 4000<s.length then .error (4,0) else ph (s.length+1) 0 s
def Eg (p:UInt8 ->Bool)(s:Bs):oA p s<=s.length:=(List.takeWhile_sublist p).length_le
def Aq {p:UInt8 ->Bool}{c:UInt8}{l:Bs}(h:p c=true):1<=oA p (c::l):=by simp [oA,h]
def Pp (p:UInt8 ->Bool)(s:Bs):s.take (oA p s)=s.takeWhile p:=by
 unfold oA
 induction s with
 | nil=>rfl
 | cons c l ih=>
  rw [List.takeWhile_cons]
  split
  ·simp [ih]
  ·simp
def US:∀ (n:Nat) (l:Bs),l.length<=n ->∀ x,ll l=some x ->x.2<=l.length/\1<=x.2:=by
 intro n
 induction n with
 | zero=>
  intro l hl x hx
  cases l with
  | nil=>cases hx
  | cons c l=>simp at hl
 | succ n ih=>
  intro l hl x hx
  match l,hl,hx with
  | [],_,hx=>cases hx
  | [c],_,hx=>
   simp only [ll] at hx
   split at hx
   ·injection hx with hx;subst hx;simp
   ·cases hx
  | c::d::l,hl,hx=>
   simp only [List.length_cons] at hl
   simp only [ll] at hx
   split at hx
   ·split at hx
    ·obtain ⟨y,hy,rfl⟩:=Option.map_eq_some_iff.1 hx
     have:=ih l (by omega) y hy
     simp only [List.length_cons];omega
    ·injection hx with hx;subst hx;simp
   ·obtain ⟨y,hy,rfl⟩:=Option.map_eq_some_iff.1 hx
    have:=ih (d::l) (by simp only [List.length_cons];omega) y hy
    simp only [List.length_cons] at this ⊢;omega
def Ma {at_:Int}{s:Bs}{t:Tk}{n:Nat}(h:GF at_ s=.ok (t,n)):1<=n/\n<=s.length/\(t.k=2 ->wQ t.s=true):=by
 cases s with
 | nil=>cases h
 | cons c l=>
  simp only [GF] at h
  split at h
  ·rename_i hc
   injection h with h;injection h with h1 h2;subst h1 h2
   exact ⟨Aq (by simp [MK,hc]),Eg _ _,fun h=>by cases h⟩
  ·split at h
   ·rename_i hc
    split at h
    ·cases h
    ·rename_i xQ
     injection h with h;injection h with h1 h2;subst h1 h2
     refine ⟨Aq hc,Eg _ _,fun _=> ?_⟩
     have hp:=Aq (p:=yS) (l:=l) hc
     have cX:=Eg yS (c::l)
     simp only [wQ,Bool.and_eq_true,decide_eq_true_eq,List.length_take]
     refine ⟨by omega,?_⟩
     rw [Pp]
     show (List.takeWhile yS (c::l)).all yS=true
     exact List.all_takeWhile
   ·split at h
    ·split at h
     ·cases h
     ·rename_i x hx
      split at h
      ·cases h
      ·injection h with h;injection h with h1 h2;subst h1 h2
       have:=US _ l (Nat.le_refl _) x hx
       refine ⟨by omega,by simp only [List.length_cons];omega,fun h=>by cases h⟩
    ·split at h
     ·cases h
     ·rename_i x hx
      injection h with h;injection h with h1 h2;subst h1 h2
      have h1:=List.find?_some hx
      have h2:=List.mem_of_find?_eq_some hx
      have h3:∀ x∈kO,1<=x.length:=by decide
      exact ⟨h3 _ h2,(List.isPrefixOf_iff_prefix.1 h1).length_le,fun h=>by cases h⟩
def Kk:∀ (f g:Nat) (at_:Int) (s:Bs),s.length<f ->s.length<g ->ph f at_ s=ph g at_ s:=by
 intro f
 induction f with
 | zero=>intro g at_ s h;omega
 | succ f ih=>
  intro g at_ s hf hg
  obtain ⟨g,rfl⟩:∃ k,g=k+1:=⟨g - 1,by omega⟩
  cases s with
  | nil=>rfl
  | cons c l=>
   simp only [List.length_cons] at hf hg
   simp only [ph]
   split
   ·exact ih g _ l (by omega) (by omega)
   ·cases ho:GF at_ (c::l) with
    | error x=>rfl
    | ok x=>
     obtain ⟨t,n⟩:=x
     obtain ⟨h1,h2,_⟩:=Ma ho
     simp only
     rw [ih g _ ((c::l).drop n) (by simp only [List.length_drop,List.length_cons];omega) (by simp only [List.length_drop,List.length_cons];omega)]
def LQ (c:UInt8):(0<=Lib.indexByte [32,9,10] c.toNat.toUInt8) ↔ El c=true:=by
 have h1:c.toNat.toUInt8=c:=by simp
 rw [h1]
 have:=c.toNat_lt
 simp only [Lib.indexByte,El,Bool.or_eq_true,decide_eq_true_eq]
 by_cases h32:c=32
 ·subst h32;decide
 ·by_cases h9:c=9
  ·subst h9;decide
  ·by_cases I4:c=10
   ·subst I4;decide
   ·have e1:(32==c)=false:=by simp;exact fun h=>h32 h.symm
    have e2:(9==c)=false:=by simp;exact fun h=>h9 h.symm
    have e3:(10==c)=false:=by simp;exact fun h=>I4 h.symm
    simp [e1,e2,e3,h32,h9,I4]
def Dx (l:Bs)(c:Int)(M:aR):Ct Tryz.prog 38 [st l,.int .u8 c] M [] [] (fun r M' _ _=>r=.int .i64 (Lib.indexByte l c.toNat.toUInt8)/\M'=M) aM:=
 xM (by kernel_rfl) fun w hw=>Calls.mono (Tryz.strings_IndexByte (bs l) c w) fun e w' h=>⟨by rw [h.1];rfl,by rw [h.2];exact kh.rfl'⟩
def N8 {M:aR}(s:Bs):Ct Tryz.prog 22 [st s] M [] [] (fun r M' _ _=>∃ ts,ru s=.ok ts/\RS M' gQ 3 ts r) (fun ch _ _ _=>∃ e a,ru s=.error (e,a)/\ch=sf e a):=by
 intro T
 refine az F22 rfl rfl ?_
 intro bj _
 unfold ru
 by_cases h4:4000<s.length
 ·have Xj:(4000:Int)<(s.length:Int):=by omega
  simp +contextual only [go_sem,aD,sevalprocAttr,Xj]
  refine bX (gU 4 0 M T) (fun _ _ _ _ h=>h.elim) ?_
  rintro ch M4 dz de rfl
  rw [l9,j5]
  exact ak aG.rfl' ⟨_,_,if_pos h4,rfl⟩
 ·rw [if_neg h4]
  have Xj:¬ (4000:Int)<(s.length:Int):=by omega
  simp +contextual only [go_sem,aD,sevalprocAttr,Xj]
  refine ⟨fun m e ds h=>ds=[]/\e 0=st s/\
   ∃ N M' i acc a c xs,aG T N/\e 4=.int .i64 (i:Nat)/\e 3=.slice a acc.length c/\m+i=s.length+1/\i<=s.length/\acc.length<=i/\RL gQ acc xs/\
    ph (s.length+1) 0 s=(match ph m (i:Int) (s.drop i) with | .error x=> .error x | .ok ts=> .ok (acc++ts))/\
    h=⟨N,M',[],[(.slice a acc.length c,101,3,xs)]⟩,
   eF (aC ⟨s.length+1,rfl,?_,T,M,0,[],none,0,[],aG.rfl',?_,?_,rfl,by omega,by simp,rfl,?_,rfl⟩),?_⟩
  ·simp only [go_sem,sevalprocAttr]
  ·simp only [go_sem,sevalprocAttr]
  ·simp only [go_sem,sevalprocAttr]
  ·rw [List.drop_zero];cases ph (s.length+1) 0 s<;>simp
  rintro m e ds h ⟨rfl,e0,N,M1,i,acc,a,cc,xs,hN,e4,e3,hm,hi,bq,fq,am,rfl⟩
  by_cases aL:i<s.length
  ·have hx:=kD aL
   have bK:s.drop i=s[i]::s.drop (i+1):=dq aL
   obtain ⟨m,rfl⟩:∃ k,m=k+1:=⟨m - 1,by omega⟩
   simp +contextual only [go_sem,aD,sevalprocAttr,e0,e4,aL,hx]
   refine aF (Dx [32,9,10] (s[i].toNat:Int) M1 N) ?_
   rintro v M2 bh aZ ⟨rfl,rfl⟩
   rw [bK] at am
   simp only [ph] at am
   by_cases ED:El s[i]=true
   ·rw [if_pos ED] at am
    have acn:=(LQ s[i]).2 ED
    simp +contextual only [go_sem,aD,sevalprocAttr,e4,acn,aA i (by omega)]
    rw [eL]
    refine aC ⟨m,by omega,rfl,?_,N,M2,i+1,acc,a,cc,xs,hN,?_,?_,by omega,by omega,by omega,fq,?_,rfl⟩
    ·simp only [e0,go_sem,sevalprocAttr]
    ·simp only [go_sem,sevalprocAttr]
    ·simp only [e3,go_sem,sevalprocAttr]
    ·exact am
   ·rw [if_neg ED] at am
    have acn:¬ (0<=Lib.indexByte [32,9,10] s[i].toNat.toUInt8):=fun h=>ED ((LQ s[i]).1 h)
    have xg:(s.drop i).take (s.length - i)=s.drop i:=List.take_of_length_le (by simp)
    simp +contextual only [go_sem,aD,sevalprocAttr,e0,e4,acn,hi,xg]
    rw [<- bK] at am
    refine bX (aaW (s:=s.drop i) (at_:=(i:Int)) (by intro h;rw [bK] at h;cases h) (by simp;omega) N) ?_ ?_
    ·rintro v M3 bG bC ⟨t,n,ce,rfl⟩
     obtain ⟨h1,h2,h3⟩:=Ma ce
     rw [List.length_drop] at h2
     rw [ce] at am
     simp only [List.drop_drop] at am
     simp +contextual only [go_sem,sevalprocAttr,e3,tkV]
     intro b5 T5 jz ko nq b6 pA gR
     have iY:=eJ (fun _ _=>qM) fq
     refine gX ZW ZS (.slice _ 1 _ _ _ Tryz.underlying76 (cF [] pA trivial rfl) (by intro u hu;simp only [mn] at hu;rcases hu with rfl | rfl | rfl<;>rfl)) (by rw [iY];simp only [ln];omega) ?_
     intro ra rm rc jl
     have jm:rm=(acc++[t]).length:=by
      rw [iY] at jl
      rw [List.length_append]
      simp only [ln] at jl ⊢
      omega
     subst jm
     have fB:=cS fq (dm (r:=gQ) (x:=t) ⟨rfl,h3⟩)
     have OH:IntKind.i64.wrap ((i:Int)+(n:Int))=((i+n:Nat):Int):=by rw [bJ (by omega) (by omega)];omega
     simp +contextual only [go_sem,sevalprocAttr,e4,OH]
     rw [eL]
     refine al (al (aC ⟨m+1 - n,by omega,rfl,?_,T5,M3,i+n,acc++[t],ra,rc,_,hN.trans ko,?_,?_,by omega,by omega,by rw [List.length_append];simp only [ln];omega,fB,?_,rfl⟩))
     ·simp only [e0,go_sem,sevalprocAttr]
     ·simp only [go_sem,sevalprocAttr]
     ·simp only [go_sem,sevalprocAttr]
     ·rw [am,Kk m (m+1 - n) _ _ (by rw [List.length_drop];omega) (by rw [List.length_drop];omega)]
      rw [show ((i+n:Nat):Int)=(i:Int)+(n:Int) from by omega]
      cases ph (m+1 - n) ((i:Int)+(n:Int)) (s.drop (i+n))<;>simp
    ·rintro ch M3 bG bC ⟨er,a,lL,rfl⟩
     rw [lL] at am
     rw [l9,j5]
     exact ak hN ⟨_,_,am,rfl⟩
  ·have ku:i=s.length:=by omega
   subst ku
   obtain ⟨m,rfl⟩:∃ k,m=k+1:=⟨m - 1,by omega⟩
   rw [List.drop_length] at am
   simp only [ph,List.append_nil] at am
   simp +contextual only [go_sem,aD,sevalprocAttr,e0,e3,e4,aL]
   exact cP fun M2 bh aZ iR=>aQ hN rfl rfl ⟨acc,am,by omega,xs,iR,fq⟩
open Go Vc Go.RowKit
def Eu (p q:Addr)(w:World):
 CallsD Tryz.prog 21 #[.pointer (some p),.pointer (some q)] .returning w fun e u' w'=>e=.returned (.tuple #[])/\u'=.returning/\w'=w:=by
 have mixed:=mx
 refine callsD_of_wpS Tryz.func21 rfl fun c₀ cs hu=> ?_
 apply wpS_seq
 apply wpS_region
 simp [wpOpsS,go_sem,recoverD,hu,Exit.thenS]
 refine wpS_of_wp ?_
 go_wp2
 cases c₀
 simp_all [bodyPostS,results]
def Kr {F:Fi}{c:Code}{e:dx}{ds:List Deferred}{h:Sh}(hr:cA Tryz.prog F [.code c] e ds h ⟨⟩):VW Tryz.prog F.dr c F.k e ds h:=hr
def Cm (e a:Int)(r:Bool):PanicEntry:={v:=.iface 74 (.agg #[.int .i64 e,.int .i64 a]),recovered:=r}
set_option maxHeartbeats 4000000 in
def HK {w:World}{U:List Nat}{T:Tm}{M:aR}{bs:List (Option Nat)}{b2 b3:Nat}{er a:Int}{v1 v2 v3:Value}(hi:Hp ⟨w,M,U⟩ ⟨T,M,[(b2,[v1]),(b3,[v2,v3])],[]⟩ w bs):
 CallsD Tryz.prog 21 #[.pointer (some ⟨b2,0,none⟩),.pointer (some ⟨b3,0,none⟩)] (.panicking [Cm er a false]) w fun e u' w'=>e=.returned (.tuple #[])/\u'=.panicking [Cm er a true]/\
  AU w U T M [b2,b3] 0 M [(b2,[.slice none 0 0]),(b3,[.int .i64 er,.int .i64 a])] [] w':=by
 have mixed:=mx
 have hTA:∀ (v:Array Value) (w:World),(Instr.typeAssert (.iface 74 (.agg v)) 20 74 true).run Tryz.prog w=.ok (.tuple #[.agg v,.bool true]) w:=fun _ _=>by kernel_rfl
 refine callsD_of_wpS Tryz.func21 rfl fun c₀ cs hu=> ?_
 unfold Cm at hu
 apply wpS_seq
 apply wpS_region
 simp [wpOpsS,go_sem,recoverD,hu,Exit.thenS]
 refine wpS_of_wp ?_
 go_wp2
 have h2:=hi.alloc (t:=74) [.int .i64 er,.int .i64 a]
 have iC:=h2.apart
 have jo:=h2.nodup
 have hns:M w.heap.size=none:=(iC _ (by simp)).1
 have pt:M b2=none:=(iC _ (by simp)).1
 have Jo:M b3=none:=(iC _ (by simp)).1
 have hp:(¬ w.heap.size=b2/\¬ w.heap.size=b3/\¬ b2=b3)/\(¬ b2=w.heap.size/\¬ b3=w.heap.size/\¬ b3=b2):=by
  simp at jo
  obtain ⟨⟨h1,h2,_⟩,⟨h3,_⟩,_⟩:=jo
  exact ⟨⟨h1,h2,h3⟩,fun h=>h1 h.symm,fun h=>h2 h.symm,fun h=>h3 h.symm⟩
 refine wp_mono (jR (c₀:=⟨w,M,U⟩) (n:=13) (dr:=[(7,.take 0<| .take 1<| .eff 2 false (.eff 3 true (.done)<| .no)<| .no)]) mx _ (Fi.k ⟨[(7,.take 0<| .take 1<| .eff 2 false (.eff 3 true (.done)<| .no)<| .no)],fun _ ds h=>ds=[]/\cq h (vt T [b2,b3] 0 (fun _ M' L' R'=>M'=M/\L'=[(b2,[.slice none 0 0]),(b3,[.int .i64 er,.int .i64 a])]/\R'=[]) undef),fun _ _ _ _=>False⟩)
  (fun t=>Array.getD _ t undef) [] _ _ _ (by kernel_rfl) ⟨?_,rfl,fun _=>rfl⟩ ⟨_,h2⟩ ?_) ?_
 ·simp
 ·refine Kr (F:=⟨[(7,.take 0<| .take 1<| .eff 2 false (.eff 3 true (.done)<| .no)<| .no)],_,_⟩) ?_
  generalize hE:(fun t=>Array.getD _ t undef)=env
  have e0:env 0=.pointer (some ⟨b2,0,none⟩):=by rw [<- hE];simp
  have e1:env 1=.pointer (some ⟨b3,0,none⟩):=by rw [<- hE];simp
  have e3:env 3=.pointer (some ⟨w.heap.size,0,none⟩):=by rw [<- hE];simp
  clear hE
  have hT:aG T (T.add w.heap.size 74):=hi.extT
  generalize w.heap.size=bx at*
  simp +contextual only [go_sem,sevalprocAttr]
  refine ⟨fun _ _ _ _ _ _ _ _ _ h=>h,?_⟩
  refine eG ⟨T,fun _=>none,[(bx,_)],[]⟩ (gH hns) ?_
  simp +contextual only [go_sem,sevalprocAttr,e0,e1,e3,hp]
  refine ⟨gH hns,?_⟩
  exact al (aQ hT rfl rfl ⟨rfl,rfl,rfl⟩)
 ·rintro ex act w' hq
  cases ex with
  | normal=>
   obtain ⟨e,ds,h,ha,hw,rfl,cK⟩:=hq
   obtain ⟨h',gn,hT,hk,hR,hM,hL,Om⟩:=cK _ _ hw
   have iP:=kF hT gn hk hR
   rw [hM,hL,Om] at iP
   have uS:=ha.2.1
   simp only [Exit.inBlock]
   cases c₀
   exact ⟨uS,_,rfl,.tuple #[],results_none rfl _ _ _,rfl,rfl,iP⟩
  | ret=>
   obtain ⟨e,ds,h,ha,hw,rfl,cK⟩:=hq
   obtain ⟨h',gn,hT,hk,hR,hM,hL,Om⟩:=cK _ _ hw
   have iP:=kF hT gn hk hR
   rw [hM,hL,Om] at iP
   have uS:=ha.2.1
   simp only [Exit.inBlock]
   cases c₀
   exact ⟨uS,_,rfl,.tuple #[],results_none rfl _ _ _,rfl,rfl,iP⟩
  | panic ch=>obtain ⟨_,_,_,_,_,h⟩:=hq;exact h.elim
  | exit id=>obtain ⟨_,_,_,_,_,h⟩:=hq;exact h.elim
  | goto l=>exact hq.elim
  | outgrown=>exact hq.elim
def rdD (b2 b3:Nat)(ag:Array Value):Deferred:={target:=.fn (.func 21) ⟨[.pointer (some ⟨b2,0,none⟩),.pointer (some ⟨b3,0,none⟩)]⟩,args:=ag}
def Uh (T:Tm)(ts:List ResultVar)(post:ep)(e:dx)(ds:List Deferred)(h:Sh):Prop:=
 ∃ b2 b3 ag,ds=[rdD b2 b3 ag]/\ag.toList=[]/\ea (mu Tryz.prog e h ts) fun vs=>cq h (vt T [] 0 post (uM vs))
def Mg (T:Tm)(post:ep)(ch:List PanicEntry)(e:dx)(ds:List Deferred)(h:Sh):Prop:=
 ∃ b2 b3 ag er a,ds=[rdD b2 b3 ag]/\ag.toList=[]/\e 2=.pointer (some ⟨b2,0,none⟩)/\e 3=.pointer (some ⟨b3,0,none⟩)/\ch=[Cm er a false]/\
  cq h fun h'=>aG T h'.N/\h'.R=[]/\(∃ v1 v2 v3,h'.L=[(b2,[v1]),(b3,[v2,v3])])/\post (.tuple ⟨[.slice none 0 0,Xg er a]⟩) h'.M [] []
def Pe (T:Tm)(dr:List (Nat×Sched))(ts:List ResultVar)(post:ep):Fi:=⟨dr,Uh T ts post,Mg T post⟩
def Yr {b2 b3:Nat}{ag:Array Value}(h:ag.toList=[]):ag++(⟨[.pointer (some ⟨b2,0,none⟩),.pointer (some ⟨b3,0,none⟩)]⟩:Array Value)= #[.pointer (some ⟨b2,0,none⟩),.pointer (some ⟨b3,0,none⟩)]:=by
 apply Array.toList_inj.1
 simp [h]
theorem CB {a:Array Value}{R:Ending ->World ->Prop}{w:World}{b2 b3:Nat}{ag:Array Value}{u:FrameMode}{fn:Func}(h:ag.toList=[])(hu:u≠ .run)
 (hc:CallsD Tryz.prog 21 #[.pointer (some ⟨b2,0,none⟩),.pointer (some ⟨b3,0,none⟩)] u w fun
  | .returned _,u',w'=>Leaves Tryz.prog fn a R [] (settle u') w'
  | .panicked chain,u',w'=>Leaves Tryz.prog fn a R [] (raised u' chain) w'
  | .outgrown,_,w'=>R .outgrown w'):Leaves Tryz.prog fn a R [rdD b2 b3 ag] u w:=by
 refine leaves_cons (f:=21) (args:= #[.pointer (some ⟨b2,0,none⟩),.pointer (some ⟨b3,0,none⟩)]) hu ?_ hc
 show (invoke (.fn (.func 21) _) ag).run Tryz.prog w=_
 have SH:=Tryz.func21
 simp only [invoke,callFunc,Sem.run_bind,Result.andThen_ok,run_program,SH]
 rw [Yr h]
 rfl
def Ir {fn:Func}{T:Tm}{dr U M post}(hr:fn.results.toList=[.cell 2 42,.cell 3 44]){w0:World}{ex:Exit}{a:Act}{w:World}{n:Nat}
 (hq:KontL.toQ ⟨w0,M,U⟩ n (Pe T dr fn.results.toList post).k ex a w):bodyPostD Tryz.prog fn (PO U T M [] 0 post aM w0) ex a w:=by
 have F0:∀ {e ds h},Fr n a e ds ->Is ⟨w0,M,U⟩ h w ->Uh T fn.results.toList post e ds h ->Leaves Tryz.prog fn a.tmps (PO U T M [] 0 post aM w0) a.defers .returning w:=by
  rintro e ds h ha hw ⟨b2,b3,ag,rfl,PU,hd⟩
  rw [ha.2.1]
  refine CB PU (by simp) ?_
  refine (Eu _ _ w).mono ?_
  rintro en u' w' ⟨rfl,rfl,rfl⟩
  obtain ⟨vs,H1,cK⟩:=cJ hd
  obtain ⟨h',gn,hT,hk,hR,hp⟩:=cK _ _ hw
  exact ⟨_,j8 hw H1 ha.2.2,h'.M,h'.L,h'.R,kF hT gn hk hR,hp⟩
 cases ex with
 | normal=>obtain ⟨e,ds,h,ha,hw,hd⟩:=hq;exact F0 ha hw hd
 | ret=>obtain ⟨e,ds,h,ha,hw,hd⟩:=hq;exact F0 ha hw hd
 | panic ch=>
  obtain ⟨e,ds,h,ha,hw,b2,b3,ag,er,ar,rfl,PU,e2,e3,rfl,cK⟩:=hq
  show Leaves Tryz.prog fn a.tmps _ a.defers (.panicking _) w
  rw [ha.2.1]
  obtain ⟨⟨N,M',L',R'⟩,⟨bs,hi⟩,hT,hR,⟨v1,v2,v3,hL⟩,hp⟩:=cK _ _ hw
  simp only at hT hR hL hp
  subst hR hL
  have hbs:bs=[]:=by simpa using hi.rows.1.symm
  subst hbs
  have ku:Hp ⟨w0,M,U⟩ ⟨N,M',[]++[(b2,[v1]),(b3,[v2,v3])]++[],[]++[]++[]⟩ w ([]++[]++[]):=by simpa using hi
  have zm:=ku.enter rfl rfl
  refine CB PU (by simp) ?_
  refine (HK (er:=er) (a:=ar) zm).mono ?_
  rintro en u' w' ⟨rfl,rfl,⟨⟨bp',sT⟩,hk,hRl⟩⟩
  have Zm:bp'=[]:=by simpa using sT.rows.1.symm
  subst Zm
  have nF:=ku.frame (b1:=[]) (bp:=[]) (b2:=[]) rfl rfl rfl sT hk hRl
  have vD:Hp ⟨w0,M,U⟩ ⟨N,M',[(b2,[.slice none 0 0]),(b3,[.int .i64 er,.int .i64 ar])],[]⟩ w' []:=by simpa using nF
  have hIs:Is ⟨w0,M,U⟩ ⟨N,M',[(b2,[.slice none 0 0]),(b3,[.int .i64 er,.int .i64 ar])],[]⟩ w':=⟨[],vD⟩
  have pt:M' b2=none:=(vD.apart _ (by simp)).1
  have Jo:M' b3=none:=(vD.apart _ (by simp)).1
  have cm:¬ b2=b3/\¬ b3=b2:=by
   have:=vD.nodup
   simp at this
   exact ⟨this,fun h=>this h.symm⟩
  have am:mu Tryz.prog e ⟨N,M',[(b2,[.slice none 0 0]),(b3,[.int .i64 er,.int .i64 ar])],[]⟩ fn.results.toList=some [.slice none 0 0,Xg er ar]:=by
   rw [hr]
   simp +contextual only [go_sem,sevalprocAttr,e2,e3,pt,Jo,cm]
   rfl
  have S0:settle (.panicking [Cm er ar true])=.returning:=rfl
  show Leaves Tryz.prog fn a.tmps _ [] (settle (.panicking [Cm er ar true])) w'
  rw [S0]
  obtain ⟨h',gn,hT',Oy,Om,EC⟩:=(ak (T:=T) (R:=[]) (L:=[(b2,[.slice none 0 0]),(b3,[.int .i64 er,.int .i64 ar])]) (post:=post) (v:=.tuple ⟨[.slice none 0 0,Xg er ar]⟩) hT hp) _ _ hIs
  exact ⟨_,j8 hIs am ha.2.2,h'.M,h'.L,h'.R,kF hT' gn Oy Om,EC⟩
 | exit id=>obtain ⟨_,_,_,_,_,h⟩:=hq;exact h.elim
 | goto l=>exact hq.elim
 | outgrown=>exact hq.elim
def W6 {f:FuncId}{fn:Func}{c:Code}{args:List Value}{dr}{T:Tm}{M post}(xS:du Tryz.prog f=true)
 (hf:Tryz.prog.funcs[f]?=some fn) (hb:fn.body=some c) (hn:args.length<=fn.ntmps) (hc:eu Tryz.prog fn.ntmps dr c=true) (hr:fn.results.toList=[.cell 2 42,.cell 3 44])
 (h:cA Tryz.prog (Pe T dr fn.results.toList post) [.code c] (mE args) [] ⟨T,M,[],[]⟩ ⟨⟩):bU Tryz.prog f args T M [] [] post aM:=by
 refine ⟨xS,fun w U hw=>calls_of_wp_defers hf hb ?_⟩
 obtain ⟨h1,h2,h3⟩:=hw.facts
 have:=jR (c₀:=⟨w,M,U⟩) mx c (Pe T dr fn.results.toList post).k (mE args) [] ⟨T,M,[],[]⟩ w _ hc (fr0 args.toArray fn.ntmps (by simpa using hn)) h3 h
 exact wp_mono this fun ex a w' hq=>Ir hr hq
def hX (l:List Bs):Int:=if l.all kI=true then 0 else 7
def tS {M:aR}{l:List Bs}{sv:Value}(hg:eS M)(hs:RS M rC 1 l sv):Ct Tryz.prog 85 [sv] M [] [] (fun r _ _ _=>r=.int .i64 (hX l)) aM:=by
 intro T
 obtain ⟨hb,a,c,rfl,cX,_,gl⟩:=ax (by decide) (fun _ _=>fu) hs
 refine az F85 rfl rfl ?_
 intro bj _
 simp +contextual only [go_sem,aD,sevalprocAttr]
 refine aO l.length 7 [(5,.slice a l.length c),(6,.int .i64 l.length)] (fun i e h=>(∃ M',bm M M'/\h=⟨T,M',[],[]⟩)/\hX l=hX (l.drop i)) 0 (by omega) (by simp only [aE,go_sem,sevalprocAttr]) (by simp only [go_sem,sevalprocAttr]) ⟨⟨M,bm.rfl',rfl⟩,rfl⟩ ?_
 rintro i e h hi aI ht ⟨⟨M1,aW,rfl⟩,am⟩
 simp only [aE] at aI
 by_cases aL:i<l.length
 ·obtain ⟨b,o,cs,rfl,bP,cH⟩:=gl i l[i] (gq aL)
  unfold rC at cH;subst cH
  have hx:=ay aW bP.1
  rw [Nat.mul_one] at hx
  have bK:l.drop i=l[i]::l.drop (i+1):=dq aL
  rw [bK] at am
  simp +contextual only [go_sem,aD,sevalprocAttr,aI,ht,aL,hx]
  refine aF (tQ (hg.ext aW) l[i] T) ?_
  rintro v M2 bh _ rfl
  by_cases hn:kI l[i]=true
  ·simp +contextual only [go_sem,aD,sevalprocAttr,ht,hn]
   refine bT aL ?_ ?_ ⟨⟨M2,aW.trans bh,rfl⟩,?_⟩
   ·simp only [aE,aI,go_sem,sevalprocAttr]
   ·simp only [go_sem,sevalprocAttr,aA i (by omega)]
   ·rw [am];simp only [hX,List.all_cons,hn,Bool.true_and]
  ·simp +contextual only [go_sem,aD,sevalprocAttr,hn]
   refine ak aG.rfl' ?_
   simp only [Bool.not_eq_true] at hn
   rw [am];simp only [hX,List.all_cons,hn,Bool.false_and,if_false,Bool.false_eq_true]
 ·have:i=l.length:=by omega
  subst this
  simp +contextual only [go_sem,aD,sevalprocAttr,aI,ht,aL]
  refine ak aG.rfl' ?_
  rw [am];simp [hX]
def j1 (s:Bs):Int:=if s=[] then 0 else hX [s]
def Fw {M:aR}(s:Bs)(hg:eS M):Ct Tryz.prog 189 [st s] M [] [] (fun r _ _ _=>r=.int .i64 (j1 s)) aM:=by
 intro T
 refine az aiN rfl rfl ?_
 intro bj _
 by_cases hs:s=[]
 ·simp +contextual only [go_sem,aD,sevalprocAttr,hs]
  exact ak aG.rfl' (by simp [j1])
 ·simp +contextual only [go_sem,aD,sevalprocAttr,hs]
  intro b hb
  refine dh F85.bd fun M1 aW fO bD=> ?_
  have hl:RS M1 rC 1 [s] (.slice (some ⟨b,0,none⟩) 1 1):=dE (fun _ _=>fu) fO (kV [s]) rfl (by decide)
  refine aF (tS (hg.ext aW) hl T) ?_
  rintro v M2 bh _ rfl
  simp +contextual only [go_sem,sevalprocAttr]
  exact ak aG.rfl' (by simp [j1,hs])
mutual
def kN (bI n:Nat):X ->Int×Nat
 | .mk k v tab name kids=>if 200<n+1\/20<bI then (4,n+1) else if rZ k<0 then (1,n+1) else if (kids.length:Int)≠rZ k then (5,n+1)
  else if k=1 then (eR v,n+1) else if k=2/\(kI name=false\/(tab≠[]/\kI tab=false)) then (7,n+1) else mz (bI+1) (n+1) kids
def mz (bI n:Nat):List X ->Int×Nat
 | []=>(0,n)
 | x::l=>if (kN bI n x).1≠0 then kN bI n x else mz bI (kN bI n x).2 l
end
mutual
theorem CF (bI n:Nat):∀ x,n<=200 ->(kN bI n x).2<=201/\((kN bI n x).1=0 ->(kN bI n x).2<=200)
 | .mk k v tab name kids,hn=>by
  rw [kN]
  by_cases h:200<n+1\/20<bI
  ·rw [if_pos h];exact ⟨by show n+1<=201;omega,fun h=>by cases h⟩
  ·have ih:=CE (bI+1) (n+1) kids (by omega)
   rw [if_neg h]
   repeat' split
   all_goals first | exact ih | exact ⟨by show n+1<=201;omega,fun _=>by show n+1<=200;omega⟩
theorem CE (bI n:Nat):∀ l,n<=200 ->(mz bI n l).2<=201/\((mz bI n l).1=0 ->(mz bI n l).2<=200)
 | [],hn=>by rw [mz];exact ⟨by show n<=201;omega,fun _=>hn⟩
 | x::l,hn=>by
  rw [mz]
  have hx:=CF bI n x hn
  split
  ·exact hx
  ·rename_i h0
   exact CE bI _ l (hx.2 (Classical.not_not.1 h0))
end
def wq {M:aR}{b o:Nat}{x:X}{cs:List Value}(h:RX M x cs)(ha:At M b o cs):∃ s,RS M (RX M) 7 x.kids s/\aN M ⟨b,o,none⟩=some (.int .i64 x.k)/\aN M ⟨b,o+1,none⟩=some (.int .i64 x.v.k)/\aN M ⟨b,o+2,none⟩=some (.int .i64 x.v.n)/\aN M ⟨b,o+3,none⟩=some (st x.v.t)/\
 aN M ⟨b,o+4,none⟩=some (st x.tab)/\aN M ⟨b,o+5,none⟩=some (st x.name)/\aN M ⟨b,o+6,none⟩=some s:=by
 obtain ⟨s,rfl,_,hs⟩:=bZ h
 exact ⟨s,hs,ha.1,ha.2.1,ha.2.2.1,ha.2.2.2.1,ha.2.2.2.2.1,ha.2.2.2.2.2.1,ha.2.2.2.2.2.2.1⟩
theorem RA:∀ (sz:Nat) (x:X),SizeOf.sizeOf x<=sz ->∀ (M:aR) (T:Tm) (b o hb bI n:Nat) (cs:List Value),eS M ->At M b o cs ->RX M x cs ->n<=200 ->bI<=21 ->
 bU Tryz.prog 131 [.pointer (some ⟨hb,0,none⟩),.pointer (some ⟨b,o,none⟩),.int .i64 (bI:Int)] T M [(hb,[.int .i64 (n:Int)])] [] (fun r M' L' R'=>r=.int .i64 (kN bI n x).1/\L'=[(hb,[.int .i64 ((kN bI n x).2:Int)])]/\R'=[]) aM:=by
 intro sz
 induction sz with
 | zero=>intro x hx;cases x;simp at hx
 | succ sz ih=>
  intro x ed M T b o hb bI n cs hg ha hx hn Zs
  obtain ⟨s,hs,m0,m1,m2,m3,m4,m5,m6⟩:=wq hx ha
  obtain ⟨fp,a,c,rfl,cX,_,gl⟩:=ax (by decide) (fun _ _=>dX) hs
  refine az ad0 rfl rfl ?_
  intro bj _
  simp only [aJ,and_true] at bj
  have hwn:=aA n (by omega)
  have ZO:=aA bI (by omega)
  cases x with | mk k v tab name kids=>
  simp only [X.k,X.v,X.tab,X.name,X.kids] at m0 m1 m2 m3 m4 m5 m6 gl cX hs fp
  obtain ⟨S,hS⟩:∃ S,S=kN bI n (.mk k v tab name kids):=⟨_,rfl⟩
  rw [<- hS]
  rw [kN] at hS
  simp +contextual only [go_sem,aD,sevalprocAttr,bj,hwn,m0]
  by_cases wK:200<n+1\/20<bI
  ·rw [if_pos wK] at hS
   rw [if_pos (by omega)]
   exact aQ aG.rfl' rfl rfl ⟨by rw [hS],by rw [hS],rfl⟩
  rw [if_neg wK] at hS
  rw [if_neg (by omega)]
  refine aF (FC k M T) ?_
  rintro r M1 aW bD rfl
  simp only [aJ,and_true] at bD
  have lM:=hg.ext aW
  replace m0:=ay aW m0
  replace m1:=ay aW m1
  replace m2:=ay aW m2
  replace m3:=ay aW m3
  replace m4:=ay aW m4
  replace m5:=ay aW m5
  replace m6:=ay aW m6
  simp +contextual only [go_sem,sevalprocAttr]
  refine lS (fun e ds h=>ds=[]/\e 0=.pointer (some ⟨hb,0,none⟩)/\e 1=.pointer (some ⟨b,o,none⟩)/\e 2=.int .i64 (bI:Int)/\S=mz (bI+1) (n+1) kids/\∃ M',bm M1 M'/\M' hb=none/\h=⟨T,M',[(hb,[.int .i64 ((n+1:Nat):Int)])],[]⟩) (fun S' fh=> ?_) ?_
  ·by_cases nU:rZ k<0
   ·rw [if_pos nU] at hS
    simp +contextual only [go_sem,aD,sevalprocAttr,nU]
    exact aQ aG.rfl' rfl rfl ⟨by rw [hS],by rw [hS],rfl⟩
   rw [if_neg nU] at hS
   by_cases rV:(kids.length:Int)=rZ k
   ·rw [if_neg (fun h=>h rV)] at hS
    by_cases h1:k=1
    ·subst h1
     rw [if_pos rfl] at hS
     simp +contextual only [go_sem,aD,sevalprocAttr,nU,rV,m0,m1,m2,m3,m6]
     refine aF (jq v M1 T) ?_
     rintro r M2 bh aZ rfl
     simp +contextual only [go_sem,sevalprocAttr]
     exact aQ aG.rfl' rfl rfl ⟨by rw [hS],by rw [hS],rfl⟩
    rw [if_neg h1] at hS
    by_cases h2:k=2
    ·subst h2
     simp +contextual only [go_sem,aD,sevalprocAttr,nU,rV,m0,m5,m6]
     refine aF (tQ lM name T) ?_
     rintro r M2 bh aZ rfl
     simp only [aJ,and_true] at aZ
     replace m4:=ay bh m4
     by_cases A3:kI name=true
     ·by_cases htb:tab=[]
      ·rw [if_neg (by rintro ⟨_,h | ⟨h,_⟩⟩;rw [A3] at h;cases h;exact h htb)] at hS
       subst htb
       simp +contextual only [go_sem,aD,sevalprocAttr,A3,m4]
       refine fh _ _ _ ⟨rfl,?_,?_,?_,hS,M2,bh,aZ,rfl⟩
       all_goals simp only [go_sem,sevalprocAttr]
      ·simp +contextual only [go_sem,sevalprocAttr,A3,m4,htb]
       refine aF (tQ (lM.ext bh) tab T) ?_
       rintro r M3 bG bC rfl
       simp only [aJ,and_true] at bC
       by_cases pt:kI tab=true
       ·rw [if_neg (by rintro ⟨_,h | ⟨_,h⟩⟩;rw [A3] at h;cases h;rw [pt] at h;cases h)] at hS
        simp +contextual only [go_sem,aD,sevalprocAttr,A3,pt]
        refine fh _ _ _ ⟨rfl,?_,?_,?_,hS,M3,bh.trans bG,bC,rfl⟩
        all_goals simp only [go_sem,sevalprocAttr]
       ·rw [if_pos ⟨rfl,.inr ⟨htb,by simpa using pt⟩⟩] at hS
        simp +contextual only [go_sem,aD,sevalprocAttr,A3,pt]
        exact aQ aG.rfl' rfl rfl ⟨by rw [hS],by rw [hS],rfl⟩
     ·rw [if_pos ⟨rfl,.inl (by simpa using A3)⟩] at hS
      simp +contextual only [go_sem,aD,sevalprocAttr,A3]
      exact aQ aG.rfl' rfl rfl ⟨by rw [hS],by rw [hS],rfl⟩
    ·rw [if_neg (fun h=>h2 h.1)] at hS
     simp +contextual only [go_sem,aD,sevalprocAttr,nU,rV,h1,h2,m0,m6]
     refine fh _ _ _ ⟨rfl,?_,?_,?_,hS,M1,bm.rfl',bD,rfl⟩
     all_goals simp only [go_sem,sevalprocAttr]
   ·rw [if_pos rV] at hS
    simp +contextual only [go_sem,aD,sevalprocAttr,nU,rV,m6]
    exact aQ aG.rfl' rfl rfl ⟨by rw [hS],by rw [hS],rfl⟩
  ·clear hS
   rintro e ds h ⟨rfl,e0,e1,e2,hS,M2,bh,n2,rfl⟩
   replace m6:=ay bh m6
   simp +contextual only [go_sem,aD,sevalprocAttr,e1,m6]
   refine aO kids.length 87 [(0,.pointer (some ⟨hb,0,none⟩)),(1,.pointer (some ⟨b,o,none⟩)),(2,.int .i64 (bI:Int)),(86,.int .i64 (kids.length:Int))] (fun i e h=>∃ (M':aR) (n':Nat),bm M2 M'/\M' hb=none/\n'<=200/\h=⟨T,M',[(hb,[.int .i64 (n':Int)])],[]⟩/\S=mz (bI+1) n' (kids.drop i))
    0 (by omega) (by simp only [aE,e0,e1,e2,go_sem,sevalprocAttr]) (by simp only [go_sem,sevalprocAttr]) ⟨M2,n+1,bm.rfl',n2,by omega,rfl,hS⟩ ?_
   clear hS e0 e1 e2
   rintro i e h hi aI ht ⟨M3,n',bG,n3,VT,rfl,hS⟩
   simp only [aE] at aI
   replace m6:=ay bG m6
   by_cases aL:i<kids.length
   ·obtain ⟨b',o',cs',rfl,bP,eh⟩:=gl i kids[i] (gq aL)
    have tw:=(aW.trans bh).trans bG
    have bK:kids.drop i=kids[i]::kids.drop (i+1):=dq aL
    rw [bK,mz] at hS
    have Jt:SizeOf.sizeOf kids[i]<=sz:=by
     have h1:=List.sizeOf_lt_of_mem (gm aL)
     simp only [X.mk.sizeOf_spec] at ed
     omega
    have pq:=CF (bI+1) n' kids[i] VT
    simp +contextual only [go_sem,aD,sevalprocAttr,aI,ht,aL,m6,ZO]
    refine dF [] (ih kids[i] Jt M3 T b' _ hb (bI+1) n' cs' (hg.ext tw) (bP.ext tw) (bL tw _ _ eh) VT (by omega)) ?_ (fun _ _ _ _ _ _ h=>h.elim)
    rintro r M4 L' dz hk4 de ⟨rfl,rfl, -⟩
    simp only [List.nil_append,aJ,and_true] at de
    by_cases hr:(kN (bI+1) n' kids[i]).1=0
    ·rw [if_neg (fun h=>h hr)] at hS
     simp +contextual only [go_sem,aD,sevalprocAttr,ht,hr]
     refine bT aL ?_ ?_ ⟨M4,_,bG.trans dz,de,pq.2 hr,rfl,hS⟩
     ·simp only [aE,aI,go_sem,sevalprocAttr]
     ·simp only [go_sem,sevalprocAttr,aA i (by omega)]
    ·rw [if_pos hr] at hS
     simp +contextual only [go_sem,aD,sevalprocAttr,hr]
     exact aQ aG.rfl' rfl rfl ⟨by rw [hS],by rw [hS],rfl⟩
   ·have:i=kids.length:=by omega
    subst this
    rw [List.drop_length,mz] at hS
    simp +contextual only [go_sem,aD,sevalprocAttr,aI,ht,aL]
    exact aQ aG.rfl' rfl rfl ⟨by rw [hS],by rw [hS],rfl⟩
def jh {F:Fi}{f:FuncId}{args:List Value}{dd:Option Nat}{s:List Vc.Item}{e:dx}{ds:List Deferred}{N:Tm}{M:aR}{L:LL}{R:RR}(hb:du Tryz.prog f=true)
 (h:∀ M',bm M M' ->mj M' L ->dp Tryz.prog F f args dd s e ds ⟨N,M',[],R⟩ ⟨⟩):dp Tryz.prog F f args dd s e ds ⟨N,M,L,R⟩ ⟨⟩:=
 cD (k:=fun h'=>∃ M',bm M M'/\mj M' L/\h'=⟨N,M',[],R⟩) (lD fun M' he hL=>aC ⟨M',he,hL,rfl⟩) (by rintro h' ⟨M',he,hL,rfl⟩;exact h M' he hL) hb
def mR (x:X):Int:=(kN 1 0 x).1
theorem oO {M:aR}{x:X}{cs:List Value}(hg:eS M)(hx:RX M x cs):Ct Tryz.prog 87 [.agg ⟨cs⟩] M [] [] (fun r _ _ _=>r=.int .i64 (mR x)) aM:=by
 intro T
 obtain ⟨s,rfl,h1,_⟩:=bZ hx
 refine az F87 rfl rfl ?_
 intro bj _
 simp +contextual only [go_sem,sevalprocAttr]
 intro b1 T1 fO cY gu b4 T4 eH em fE iJ
 refine Af ad0.bd fun M1 aW aby bD=> ?_
 have ha:At M1 b1 0 [.int .i64 x.k,.int .i64 x.v.k,.int .i64 x.v.n,st x.v.t,st x.tab,st x.name,s]:=jJ aby _ 0 (fun i v h=>by rw [Nat.zero_add];exact h)
 refine dF [] (RA _ x (Nat.le_refl _) M1 T4 b1 0 b4 1 0 _ (hg.ext aW) ha (bL aW _ _ hx) (by omega) (by omega)) ?_ (fun _ _ _ _ _ _ h=>h.elim)
 rintro r M2 L' bh lr aZ ⟨rfl,rfl, -⟩
 simp +contextual only [go_sem,sevalprocAttr]
 exact ak (cY.trans fE) rfl
def wT (a b:Int):Int:=if a≠0 then a else b
def me:List Int ->Int | []=>0 | a::l=>wT a (me l)
abbrev RFn (f:Nat×List Value×Int)(cs:List Value):Prop:=cs=[.func (.func f.1) ⟨[]⟩ ⟨f.2.1⟩]
def Fu {M:aR}{fs:List (Nat×List Value×Int)}{sv:Value}{es:List Int}(he:(fs.map fun f=>f.2.2)=es)(hs:RS M RFn 1 fs sv)
 (hf:∀ f∈fs,∀ M' T,bm M M' ->bU Tryz.prog f.1 f.2.1 T M' [] [] (fun r _ _ _=>r=.int .i64 f.2.2) aM):Ct Tryz.prog 186 [sv] M [] [] (fun r _ _ _=>r=.int .i64 (me es)) aM:=by
 intro T
 subst he
 obtain ⟨hb,a,c,rfl,cX,_,gl⟩:=ax (by decide) (fun _ _ h=>by unfold RFn at h;subst h;rfl) hs
 refine az aan rfl rfl ?_
 intro bj _
 simp +contextual only [go_sem,aD,sevalprocAttr]
 refine aO fs.length 8 [(6,.slice a fs.length c),(7,.int .i64 fs.length)] (fun i e h=>(∃ M',bm M M'/\h=⟨T,M',[],[]⟩)/\me (fs.map fun f=>f.2.2)=me ((fs.drop i).map fun f=>f.2.2)) 0 (by omega) (by simp only [aE,go_sem,sevalprocAttr]) (by simp only [go_sem,sevalprocAttr]) ⟨⟨M,bm.rfl',rfl⟩,rfl⟩ ?_
 rintro i e h hi aI ht ⟨⟨M1,aW,rfl⟩,am⟩
 simp only [aE] at aI
 by_cases aL:i<fs.length
 ·obtain ⟨b,o,cs,rfl,bP,cH⟩:=gl i fs[i] (gq aL)
  unfold RFn at cH;subst cH
  have hx:=ay aW bP.1
  rw [Nat.mul_one] at hx
  have bK:fs.drop i=fs[i]::fs.drop (i+1):=dq aL
  rw [bK] at am
  simp +contextual only [go_sem,aD,sevalprocAttr,aI,ht,aL,hx]
  refine aF (hf fs[i] (gm aL) M1 T aW) ?_
  rintro v M2 bh _ rfl
  simp only [List.map_cons,me,wT] at am
  by_cases hn:fs[i].2.2=0
  ·rw [if_neg (fun h=>h hn)] at am
   simp +contextual only [go_sem,aD,sevalprocAttr,ht,hn]
   refine bT aL ?_ ?_ ⟨⟨M2,aW.trans bh,rfl⟩,am⟩
   ·simp only [aE,aI,go_sem,sevalprocAttr]
   ·simp only [go_sem,sevalprocAttr,aA i (by omega)]
  ·rw [if_pos hn] at am
   simp +contextual only [go_sem,aD,sevalprocAttr,hn]
   refine ak aG.rfl' ?_
   rw [am]
 ·have:i=fs.length:=by omega
  subst this
  simp +contextual only [go_sem,aD,sevalprocAttr,aI,ht,aL]
  refine ak aG.rfl' ?_
  rw [am];simp [me]
def sC {M:aR}{b o:Nat}{x:X}{cs:List Value}(h:RX M x cs)(ha:At M b o cs):∃ s,cs=[.int .i64 x.k,.int .i64 x.v.k,.int .i64 x.v.n,st x.v.t,st x.tab,st x.name,s]/\s.oneCell'=true/\aN M ⟨b,o,none⟩=some (.int .i64 x.k)/\aN M ⟨b,o+1,none⟩=some (.int .i64 x.v.k)/\aN M ⟨b,o+2,none⟩=some (.int .i64 x.v.n)/\aN M ⟨b,o+3,none⟩=some (st x.v.t)/\
 aN M ⟨b,o+4,none⟩=some (st x.tab)/\aN M ⟨b,o+5,none⟩=some (st x.name)/\aN M ⟨b,o+6,none⟩=some s:=by
 obtain ⟨s,rfl,h1,hs⟩:=bZ h
 exact ⟨s,rfl,h1,ha.1,ha.2.1,ha.2.2.1,ha.2.2.2.1,ha.2.2.2.2.1,ha.2.2.2.2.2.1,ha.2.2.2.2.2.2.1⟩
def aax {M:aR}{b o:Nat}{x:So}{cs:List Value}(h:EQ M x cs)(ha:At M b o cs):aN M ⟨b,o,none⟩=some (.int .i64 x.k)/\aN M ⟨b,o+1,none⟩=some (st x.name)/\aN M ⟨b,o+2,none⟩=some (st x.as)/\∃ c,RX M x.on c/\At M b (o+3) c:=by
 obtain ⟨c,hx,rfl⟩:=h
 rw [fF] at ha
 exact ⟨ha.1.1,ha.1.2.1,ha.1.2.2.1,c,hx,ha.2⟩
def uI (i:Nat)(s:So):Int:=
 if (¬ (decide (s.k=1)==decide ((i:Int)=0))=true\/s.k<1)\/5<s.k then 1 else
 if me [hX [s.name],j1 s.as]≠0\/i=0 then me [hX [s.name],j1 s.as] else mR s.on
theorem IN {M:aR}{p b o:Nat}{n:Bs}(hg:eS M)(hp:M p=some [.pointer (some ⟨b,o,none⟩)])(hn:aN M ⟨b,o+1,none⟩=some (st n)):Ct Tryz.prog 228 [.pointer (some ⟨p,0,none⟩)] M [] [] (fun r _ _ _=>r=.int .i64 (hX [n])) aM:=by
 intro T
 refine az ajb rfl rfl ?_
 intro bj _
 simp +contextual only [go_sem,sevalprocAttr,bg hp,hn]
 intro b1 fO
 refine dh F85.bd fun M1 aW fO bD=> ?_
 have hl:RS M1 rC 1 [n] (.slice (some ⟨b1,0,none⟩) 1 1):=dE (fun _ _=>fu) fO (kV [n]) rfl (by decide)
 refine aF (tS (hg.ext aW) hl T) ?_
 rintro v M2 bh _ rfl
 simp +contextual only [go_sem,sevalprocAttr]
 exact ak aG.rfl' rfl
theorem IP {M:aR}{p b o:Nat}{n:Bs}(hg:eS M)(hp:M p=some [.pointer (some ⟨b,o,none⟩)])(hn:aN M ⟨b,o+2,none⟩=some (st n)):Ct Tryz.prog 229 [.pointer (some ⟨p,0,none⟩)] M [] [] (fun r _ _ _=>r=.int .i64 (j1 n)) aM:=by
 intro T
 refine az ajc rfl rfl ?_
 intro bj _
 simp +contextual only [go_sem,sevalprocAttr,bg hp,hn]
 refine aF (Fw n hg T) ?_
 rintro v M2 bh _ rfl
 simp +contextual only [go_sem,sevalprocAttr]
 exact ak aG.rfl' rfl
def IT {M:aR}{b o:Nat}{x:So}{cs:List Value}(i:Nat)(hg:eS M)(hx:EQ M x cs)(ha:At M b o cs):Ct Tryz.prog 190 [.int .i64 (i:Int),.pointer (some ⟨b,o,none⟩)] M [] [] (fun r _ _ _=>r=.int .i64 (uI i x)) aM:=by
 intro T
 obtain ⟨m0,m1,m2,c,hc,wH⟩:=aax hx ha
 obtain ⟨s,rfl,ho,m3,m4,m5,m6,m7,m8,m9⟩:=sC hc wH
 refine az aiO rfl rfl ?_
 intro bj _
 obtain ⟨S,hS⟩:∃ S,S=uI i x:=⟨_,rfl⟩
 rw [<- hS]
 unfold uI at hS
 simp +contextual only [go_sem,aD,sevalprocAttr,m0]
 intro b1 T1 fO cY gu
 by_cases hk:(¬ (decide (x.k=1)==decide ((i:Int)=0))=true\/x.k<1)\/5<x.k
 ·rw [if_pos hk] at hS ⊢
  exact ak cY (by rw [hS])
 rw [if_neg hk] at hS ⊢
 intro b2 dO fz
 refine jh aan.bd fun M1 aW hL1=> ?_
 obtain ⟨hf2,mJ, -⟩:=hL1
 have lM:=hg.ext aW
 have SI:RS M1 RFn 1 [(228,[.pointer (some ⟨b1,0,none⟩)],hX [x.name]),(229,[.pointer (some ⟨b1,0,none⟩)],j1 x.as)] (.slice (some ⟨b2,0,none⟩) 2 2):=
  dE (fun _ _ h=>by unfold RFn at h;subst h;rfl) hf2 ⟨_,_,rfl,rfl,_,_,rfl,rfl,rfl⟩ rfl (by decide)
 refine aF (Fu (es:=[hX [x.name],j1 x.as]) rfl SI (fun f hf M' T mG=> ?_) T1) ?_
 ·simp only [mn] at hf
  rcases hf with rfl | rfl
  ·exact IN (lM.ext mG) (mG _ _ mJ) (ay (aW.trans mG) m1) T
  ·exact IP (lM.ext mG) (mG _ _ mJ) (ay (aW.trans mG) m2) T
 rintro v M2 bh _ rfl
 generalize me [hX [x.name],j1 x.as]=E at hS ⊢
 have eb:=aW.trans bh
 replace m3:=ay eb m3
 replace m4:=ay eb m4
 replace m5:=ay eb m5
 replace m6:=ay eb m6
 replace m7:=ay eb m7
 replace m8:=ay eb m8
 replace m9:=ay eb m9
 have XP:=bh _ _ mJ
 by_cases hE:E=0
 ·by_cases vE:i=0
  ·rw [if_pos (.inr vE)] at hS
   subst vE
   simp +contextual only [go_sem,aD,sevalprocAttr,hE]
   exact ak cY (by rw [hS,hE])
  ·rw [if_neg (by rintro (h | h);exact h hE;exact vE h)] at hS
   have abT:¬ (i:Int)=0:=by omega
   simp +contextual only [go_sem,aD,sevalprocAttr,hE,abT,bg XP,m3,m4,m5,m6,m7,m8,m9]
   refine aF (oO (hg.ext eb) (bL eb _ _ hc) T1) ?_
   rintro v M3 bG _ rfl
   simp +contextual only [go_sem,sevalprocAttr]
   exact ak cY (by rw [hS])
 ·rw [if_pos (.inl hE)] at hS
  simp +contextual only [go_sem,aD,sevalprocAttr,hE]
  exact ak cY (by rw [hS])
def qN {T0 T:Tm}{M M':aR}{L:LL}{R:RR}(h:bm M M'):fW ⟨T0,M,[],[]⟩ ⟨T,M',L,R⟩:=by
 intro a v hv
 simp only [Sh.cell] at hv ⊢
 cases hm:aN M a with
 | some u=>
  rw [hm] at hv
  injection hv with hv;subst hv
  rw [ay h hm]
 | none=>
  rw [hm] at hv
  simp [eE] at hv
def Qg {M:aR}{b o:Nat}{x:It}{cs:List Value}(h:AP M x cs)(ha:At M b o cs):aN M ⟨b,o+7,none⟩=some (st x.as)/\∃ c,RX M x.x c/\At M b o c:=by
 obtain ⟨c,hx,rfl⟩:=h
 rw [fF,dX hx] at ha
 exact ⟨ha.2.1,c,hx,ha.1⟩
theorem RM {M:aR}{p q b o i:Nat}{items:List It}{iv:Value}(hg:eS M)(hp:M p=some [.pointer (some ⟨b,o,none⟩)])(hq:M q=some [.int .i64 (i:Int)])(hn:aN M ⟨b,o+2,none⟩=some iv)(hi:RS M (AP M) 8 items iv)(aL:i<items.length):
 Ct Tryz.prog 187 [.pointer (some ⟨p,0,none⟩),.pointer (some ⟨q,0,none⟩)] M [] [] (fun r _ _ _=>r=.int .i64 (mR items[i].x)) aM:=by
 intro T
 obtain ⟨hb,a,c,rfl,cX,_,gl⟩:=ax (by decide) (fun _ _=>kU) hi
 obtain ⟨b',o',cs,rfl,bP,cH⟩:=gl i items[i] (gq aL)
 obtain ⟨m7,c',hx,wH⟩:=Qg cH bP
 obtain ⟨s,rfl,ho,m0,m1,m2,m3,m4,m5,m6⟩:=sC hx wH
 refine az aiL rfl rfl ?_
 intro bj _
 simp +contextual only [go_sem,sevalprocAttr]
 refine aT ?_
 simp +contextual only [go_sem,sevalprocAttr,bg hp,bg hq,hn,aL,m0,m1,m2,m3,m4,m5,m6]
 refine aF (oO hg hx T) ?_
 rintro v M3 bG _ rfl
 simp +contextual only [go_sem,sevalprocAttr]
 exact ⟨qN bG,ak aG.rfl' rfl⟩
theorem RN {M:aR}{p q b o i:Nat}{items:List It}{iv:Value}(hg:eS M)(hp:M p=some [.pointer (some ⟨b,o,none⟩)])(hq:M q=some [.int .i64 (i:Int)])(hn:aN M ⟨b,o+2,none⟩=some iv)(hi:RS M (AP M) 8 items iv)(aL:i<items.length):
 Ct Tryz.prog 188 [.pointer (some ⟨p,0,none⟩),.pointer (some ⟨q,0,none⟩)] M [] [] (fun r _ _ _=>r=.int .i64 (j1 items[i].as)) aM:=by
 intro T
 obtain ⟨hb,a,c,rfl,cX,_,gl⟩:=ax (by decide) (fun _ _=>kU) hi
 obtain ⟨b',o',cs,rfl,bP,cH⟩:=gl i items[i] (gq aL)
 obtain ⟨m7,c',hx,wH⟩:=Qg cH bP
 refine az aiM rfl rfl ?_
 intro bj _
 simp +contextual only [go_sem,sevalprocAttr]
 refine aT ?_
 simp +contextual only [go_sem,sevalprocAttr,bg hp,bg hq,hn,aL,m7]
 refine aF (Fw items[i].as hg T) ?_
 rintro v M3 bG _ rfl
 simp +contextual only [go_sem,sevalprocAttr]
 exact ⟨qN bG,ak aG.rfl' rfl⟩
def aaw {M:aR}{b o:Nat}{x:Se}{cs:List Value}(h:HS M x cs)(ha:At M b o cs):∃ i f g,RS M (AP M) 8 x.items i/\RS M (EQ M) 10 x.src f/\RS M (RX M) 7 x.group g/\
 aN M ⟨b,o+1,none⟩=some (.bool x.star)/\aN M ⟨b,o+2,none⟩=some i/\aN M ⟨b,o+3,none⟩=some f/\aN M ⟨b,o+4,none⟩=some (.bool x.hasW)/\aN M ⟨b,o+5,none⟩=some (.bool x.hasH)/\
 (∃ c,RX M x.wh c/\At M b (o+6) c)/\(∃ c,RX M x.hv c/\At M b (o+13) c)/\aN M ⟨b,o+20,none⟩=some g:=by
 obtain ⟨i,f,w,hh,g,h1,h2,h3,h4,h5,rfl⟩:=h
 rw [fF,fF,fF,dX h3,dX h4] at ha
 obtain ⟨⟨_,a1,a2,a3,a4,a5,_⟩,aw,ah,ag,_⟩:=ha
 exact ⟨i,f,g,h1,h2,h5,a1,a2,a3,a4,a5,⟨w,h3,aw⟩,⟨hh,h4,ah⟩,ag⟩
def DX:List It ->Int | []=>0 | x::l=>wT (me [mR x.x,j1 x.as]) (DX l)
def qy:Nat ->List So ->Int | _,[]=>0 | i,x::l=>wT (uI i x) (qy (i+1) l)
def oR:List X ->Int | []=>0 | x::l=>wT (mR x) (oR l)
def Ej (x:Se):Bool:=decide (((x.src.length:Int)<1\/4<(x.src.length:Int))\/8<(x.group.length:Int)) || !x.star && (decide ((x.items.length:Int)<1) || decide (8<(x.items.length:Int)))
def Mv (x:Se):Int:=if x.hasH=true then mR x.hv else 0
def UB (x:Se):Int:=wT (oR x.group) (Mv x)
def Mu (x:Se):Int:=wT (if x.hasW=true then mR x.wh else 0) (UB x)
def Mt (x:Se):Int:=wT (qy 0 x.src) (Mu x)
def Kf (x:Se):Int:=if Ej x=true then 5 else wT (if x.star=true then 0 else DX x.items) (Mt x)
def fM {a b:Int}(h:a≠0):wT a b=a:=if_pos h
theorem s9 (b:Int):wT 0 b=b:=if_neg (fun h'=>h' rfl)
def TO {a b:Int}(h:a=0):wT a b=b:=if_neg (fun h'=>h' h)
def K7 {M:aR}{b o:Nat}{x:Se}{cs:List Value}(hg:eS M)(hx:HS M x cs)(ha:At M b o cs):Ct Tryz.prog 130 [.pointer (some ⟨b,o,none⟩)] M [] [] (fun r _ _ _=>r=.int .i64 (Kf x)) aM:=by
 intro T
 obtain ⟨iv,fv,gv,hi,hf,ul,m1,m2,m3,m4,m5,⟨wc,hw,haw⟩,⟨vc,hv,hav⟩,m20⟩:=aaw hx ha
 have vE:=hi
 obtain ⟨hib,ia,ic,rfl,Jl,_,am9⟩:=ax (by decide) (fun _ _=>kU) hi
 obtain ⟨hfb,fa,fc,rfl,Jk,_,SG⟩:=ax (by decide) (fun _ _=>oK) hf
 obtain ⟨hgb,ga,gc,rfl,VQ,_,SJ⟩:=ax (by decide) (fun _ _=>dX) ul
 obtain ⟨sw,rfl,ow,w0,w1,w2,w3,w4,w5,w6⟩:=sC hw haw
 obtain ⟨sv,rfl,ov,v0,v1,v2,v3,v4,v5,v6⟩:=sC hv hav
 obtain ⟨S,hS⟩:∃ S,S=Kf x:=⟨_,rfl⟩
 rw [<- hS]
 unfold Kf at hS
 refine az aie rfl rfl ?_
 intro bj _
 simp +contextual only [go_sem,sevalprocAttr,m1,m2,m3,m20]
 intro b1 T1 fO cY gu
 show Ak _ _ (.bool (Ej x)) _ _ _ _ _ _ _
 cases hmy:Ej x with
 | true=>
  rw [if_pos hmy] at hS
  simp +contextual only [go_sem,aD,sevalprocAttr]
  exact ak cY (by rw [hS])
 | false=>
 rw [if_neg (by rw [hmy];exact Bool.false_ne_true)] at hS
 rw [dM,if_neg Bool.false_ne_true]
 simp +contextual only [go_sem,sevalprocAttr,fO,m2]
 refine lS (fun e ds h=>ds=[]/\e 1=.pointer (some ⟨b1,0,none⟩)/\S=Mt x/\∃ N M' L,aG T N/\bm M M'/\M' b1=some [.pointer (some ⟨b,o,none⟩)]/\h=⟨N,M',L,[]⟩) (fun S' fh=> ?_) ?_
 ·simp +contextual only [go_sem,aD,sevalprocAttr]
  refine bR x.items.length 61 [(1,.pointer (some ⟨b1,0,none⟩)),(60,.int .i64 (x.items.length:Int))]
   (fun i e h=>∃ N M',aG T N/\bm M M'/\M' b1=some [.pointer (some ⟨b,o,none⟩)]/\h=⟨N,M',[],[]⟩/\S=wT (if x.star=true then 0 else DX (x.items.drop i)) (Mt x))
   0 (by omega) (by simp only [aE,go_sem,sevalprocAttr]) (by simp only [go_sem,sevalprocAttr]) (aU fun he hb bj=>aC ⟨T1,_,cY,he,hb,rfl,hS⟩) ?_
  clear hS
  rintro i e h hi aI ht ⟨N,M1,hN,aW,mJ,rfl,hS⟩
  simp only [aE] at aI
  have n1:=ay aW m1
  by_cases aL:i<x.items.length
  ·cases qZ:x.star with
   | true=>
    rw [if_pos qZ,TO rfl] at hS
    simp +contextual only [go_sem,aD,sevalprocAttr,aI,ht,aL,bg mJ,n1,qZ]
    intro b3 N3 gK hN3 gB
    refine fh _ _ _ ⟨rfl,?_,hS,N3,M1,_,hN.trans hN3,aW,mJ,rfl⟩
    simp only [aI,go_sem,sevalprocAttr]
   | false=>
    have bK:x.items.drop i=x.items[i]::x.items.drop (i+1):=dq aL
    rw [if_neg (by rw [qZ];exact Bool.false_ne_true),bK,DX] at hS
    simp +contextual only [go_sem,aD,sevalprocAttr,aI,ht,aL,bg mJ,n1,qZ]
    intro b3 N3 gK hN3 gB b70 apr amS
    refine jh aan.bd fun M2 bh hL2=> ?_
    obtain ⟨hf2,hq2, -⟩:=hL2
    have eb:=aW.trans bh
    have xh:=hg.ext eb
    have XP:=bh _ _ mJ
    have ku:=aH eb (jU eb) vE
    have SI:RS M2 RFn 1 [(187,[.pointer (some ⟨b1,0,none⟩),.pointer (some ⟨b3,0,none⟩)],mR x.items[i].x),(188,[.pointer (some ⟨b1,0,none⟩),.pointer (some ⟨b3,0,none⟩)],j1 x.items[i].as)] (.slice (some ⟨b70,0,none⟩) 2 2):=
     dE (fun _ _ h=>by unfold RFn at h;subst h;rfl) hf2 ⟨_,_,rfl,rfl,_,_,rfl,rfl,rfl⟩ rfl (by decide)
    refine aF (Fu (es:=[mR x.items[i].x,j1 x.items[i].as]) rfl SI (fun f hf M' T mG=> ?_) N3) ?_
    ·simp only [mn] at hf
     rcases hf with rfl | rfl
     ·exact RM (xh.ext mG) (mG _ _ XP) (mG _ _ hq2) (ay (eb.trans mG) m2) (aH mG (jU mG) ku) aL T
     ·exact RN (xh.ext mG) (mG _ _ XP) (mG _ _ hq2) (ay (eb.trans mG) m2) (aH mG (jU mG) ku) aL T
    rintro v M3 bG _ rfl
    generalize me [mR x.items[i].x,j1 x.items[i].as]=E at hS ⊢
    by_cases hE:E=0
    ·rw [hE,s9] at hS
     simp +contextual only [go_sem,aD,sevalprocAttr,ht,hE]
     refine bT aL ?_ ?_ ⟨N3,M3,hN.trans hN3,eb.trans bG,bG _ _ XP,rfl,?_⟩
     ·simp only [aE,aI,go_sem,sevalprocAttr]
     ·simp only [go_sem,sevalprocAttr,aA i (by omega)]
     ·exact hS
    ·rw [fM hE,fM hE] at hS
     simp +contextual only [go_sem,aD,sevalprocAttr,hE]
     exact ak (hN.trans hN3) (by rw [hS])
  ·have:i=x.items.length:=by omega
   subst this
   rw [List.drop_length] at hS
   have hS2:S=Mt x:=by rw [hS];cases x.star<;>rfl
   simp +contextual only [go_sem,aD,sevalprocAttr,aI,ht,aL]
   refine fh _ _ _ ⟨rfl,?_,hS2,N,M1,[],hN,aW,mJ,rfl⟩
   simp only [aI,go_sem,sevalprocAttr]
 clear hS
 rintro e ds h ⟨rfl,e1,hS,N,M1,L1,hN,aW,mJ,rfl⟩
 simp +contextual only [go_sem,sevalprocAttr,e1,bg mJ,ay aW m3]
 refine lS (fun e ds h=>ds=[]/\e 1=.pointer (some ⟨b1,0,none⟩)/\S=Mu x/\∃ N M',aG T N/\bm M M'/\M' b1=some [.pointer (some ⟨b,o,none⟩)]/\h=⟨N,M',[],[]⟩) (fun S' fh=> ?_) ?_
 ·simp +contextual only [go_sem,aD,sevalprocAttr]
  refine bR x.src.length 81 [(1,.pointer (some ⟨b1,0,none⟩)),(80,.int .i64 (x.src.length:Int))]
   (fun i e h=>∃ M',bm M M'/\M' b1=some [.pointer (some ⟨b,o,none⟩)]/\h=⟨N,M',[],[]⟩/\S=wT (qy i (x.src.drop i)) (Mu x))
   0 (by omega) (by simp only [aE,e1,go_sem,sevalprocAttr]) (by simp only [go_sem,sevalprocAttr]) (bM (aC ⟨M1,aW,mJ,rfl,hS⟩)) ?_
  clear hS e1 mJ aW
  rintro i e h hi aI ht ⟨M1,aW,mJ,rfl,hS⟩
  simp only [aE] at aI
  by_cases aL:i<x.src.length
  ·obtain ⟨b',o',cs',rfl,bP,cH⟩:=SG i x.src[i] (gq aL)
   have bK:x.src.drop i=x.src[i]::x.src.drop (i+1):=dq aL
   rw [bK,qy] at hS
   simp +contextual only [go_sem,aD,sevalprocAttr,aI,ht,aL,bg mJ,ay aW m3]
   refine aF (IT i (hg.ext aW) (qL aW _ _ cH) (bP.ext aW) N) ?_
   rintro v M2 bh _ rfl
   by_cases hE:uI i x.src[i]=0
   ·rw [hE,s9] at hS
    simp +contextual only [go_sem,aD,sevalprocAttr,ht,hE]
    refine bT aL ?_ ?_ ⟨M2,aW.trans bh,bh _ _ mJ,rfl,hS⟩
    ·simp only [aE,aI,go_sem,sevalprocAttr]
    ·simp only [go_sem,sevalprocAttr,aA i (by omega)]
   ·rw [fM hE,fM hE] at hS
    simp +contextual only [go_sem,aD,sevalprocAttr,hE]
    exact ak hN (by rw [hS])
  ·have:i=x.src.length:=by omega
   subst this
   rw [List.drop_length,qy,s9] at hS
   simp +contextual only [go_sem,aD,sevalprocAttr,aI,ht,aL]
   refine fh _ _ _ ⟨rfl,?_,hS,N,M1,hN,aW,mJ,rfl⟩
   simp only [aI,go_sem,sevalprocAttr]
 clear hS e1 mJ aW hN
 rintro e ds h ⟨rfl,e1,hS,N,M1,hN,aW,mJ,rfl⟩
 unfold Mu at hS
 simp +contextual only [go_sem,sevalprocAttr,e1,bg mJ,ay aW m4]
 refine fg (fun e ds h=>ds=[]/\e 1=.pointer (some ⟨b1,0,none⟩)/\S=UB x/\∃ M',bm M M'/\M' b1=some [.pointer (some ⟨b,o,none⟩)]/\h=⟨N,M',[],[]⟩) (fun S' fh=> ?_) ?_
 ·cases hW:x.hasW with
  | false=>
   rw [if_neg (by rw [hW];exact Bool.false_ne_true),s9] at hS
   simp +contextual only [go_sem,aD,sevalprocAttr]
   refine fh _ _ _ ⟨rfl,?_,hS,M1,aW,mJ,rfl⟩
   simp only [e1,go_sem,sevalprocAttr]
  | true=>
   rw [if_pos hW] at hS
   simp +contextual only [go_sem,aD,sevalprocAttr,e1,bg mJ,ay aW w0,ay aW w1,ay aW w2,ay aW w3,ay aW w4,ay aW w5,ay aW w6]
   refine aF (oO (hg.ext aW) (bL aW _ _ hw) N) ?_
   rintro v M2 bh _ rfl
   by_cases hE:mR x.wh=0
   ·rw [hE,s9] at hS
    simp +contextual only [go_sem,aD,sevalprocAttr,hE]
    refine fh _ _ _ ⟨rfl,?_,hS,M2,aW.trans bh,bh _ _ mJ,rfl⟩
    simp only [e1,go_sem,sevalprocAttr]
   ·rw [fM hE] at hS
    simp +contextual only [go_sem,aD,sevalprocAttr,hE]
    exact ak hN (by rw [hS])
 clear hS e1 mJ aW
 rintro e ds h ⟨rfl,e1,hS,M1,aW,mJ,rfl⟩
 unfold UB at hS
 simp +contextual only [go_sem,sevalprocAttr,e1,bg mJ,ay aW m20]
 refine lS (fun e ds h=>ds=[]/\e 1=.pointer (some ⟨b1,0,none⟩)/\S=Mv x/\∃ N M',aG T N/\bm M M'/\M' b1=some [.pointer (some ⟨b,o,none⟩)]/\h=⟨N,M',[],[]⟩) (fun S' fh=> ?_) ?_
 ·simp +contextual only [go_sem,aD,sevalprocAttr]
  refine aO x.group.length 113 [(1,.pointer (some ⟨b1,0,none⟩)),(111,.slice ga x.group.length gc),(112,.int .i64 (x.group.length:Int))]
   (fun i e h=>∃ N M',aG T N/\bm M M'/\M' b1=some [.pointer (some ⟨b,o,none⟩)]/\h=⟨N,M',[],[]⟩/\S=wT (oR (x.group.drop i)) (Mv x))
   0 (by omega) (by simp only [aE,e1,go_sem,sevalprocAttr]) (by simp only [go_sem,sevalprocAttr]) ⟨N,M1,hN,aW,mJ,rfl,hS⟩ ?_
  clear hS e1 mJ aW hN
  rintro i e h hi aI ht ⟨N,M1,hN,aW,mJ,rfl,hS⟩
  simp only [aE] at aI
  by_cases aL:i<x.group.length
  ·obtain ⟨b',o',cs',rfl,bP,cH⟩:=SJ i x.group[i] (gq aL)
   obtain ⟨sg,rfl,og,g0,g1,g2,g3,g4,g5,g6⟩:=sC cH bP
   have bK:x.group.drop i=x.group[i]::x.group.drop (i+1):=dq aL
   rw [bK,oR] at hS
   simp +contextual only [go_sem,aD,sevalprocAttr,aI,ht,aL,ay aW g0,ay aW g1,ay aW g2,ay aW g3,ay aW g4,ay aW g5,ay aW g6,og]
   intro b9 N9 qY VN pY
   refine aF (oO (hg.ext aW) (bL aW _ _ cH) N9) ?_
   rintro v M2 bh _ rfl
   by_cases hE:mR x.group[i]=0
   ·rw [hE,s9] at hS
    simp +contextual only [go_sem,aD,sevalprocAttr,ht,hE]
    rw [eL]
    refine al (aC ⟨x.group.length - (i+1),by omega,rfl,i+1,by omega,rfl,?_,?_,N9,M2,hN.trans VN,aW.trans bh,bh _ _ mJ,rfl,hS⟩)
    ·simp only [aE,aI,go_sem,sevalprocAttr]
    ·simp only [go_sem,sevalprocAttr,aA i (by omega)]
   ·rw [fM hE,fM hE] at hS
    simp +contextual only [go_sem,aD,sevalprocAttr,hE]
    exact ak (hN.trans VN) (by rw [hS])
  ·have:i=x.group.length:=by omega
   subst this
   rw [List.drop_length,oR,s9] at hS
   simp +contextual only [go_sem,aD,sevalprocAttr,aI,ht,aL]
   refine fh _ _ _ ⟨rfl,?_,hS,N,M1,hN,aW,mJ,rfl⟩
   simp only [aI,go_sem,sevalprocAttr]
 clear hS e1 mJ aW hN
 rintro e ds h ⟨rfl,e1,hS,N,M1,hN,aW,mJ,rfl⟩
 unfold Mv at hS
 cases hH:x.hasH with
 | false=>
  rw [if_neg (by rw [hH];exact Bool.false_ne_true)] at hS
  rw [hH] at m5
  simp +contextual only [go_sem,aD,sevalprocAttr,e1,bg mJ,ay aW m5]
  exact ak hN (by rw [hS])
 | true=>
  rw [if_pos hH] at hS
  rw [hH] at m5
  simp +contextual only [go_sem,aD,sevalprocAttr,e1,bg mJ,ay aW m5,ay aW v0,ay aW v1,ay aW v2,ay aW v3,ay aW v4,ay aW v5,ay aW v6]
  refine aF (oO (hg.ext aW) (bL aW _ _ hv) N) ?_
  rintro v M2 bh _ rfl
  simp +contextual only [go_sem,sevalprocAttr]
  exact ak hN (by rw [hS])
def aeu {M:aR}{b o:Nat}{x:Q}{cs:List Value}(h:RQ M x cs)(ha:At M b o cs):∃ p f g,RS M (HS M) 21 x.parts p/\RS M RI 1 x.ops f/\RS M (RX M) 7 x.order g/\
 aN M ⟨b,o,none⟩=some p/\aN M ⟨b,o+1,none⟩=some f/\aN M ⟨b,o+2,none⟩=some g/\aN M ⟨b,o+3,none⟩=some (.int .i64 x.limit):=by
 obtain ⟨p,f,g,h1,h2,h3,rfl⟩:=h
 exact ⟨p,f,g,h1,h2,h3,ha.1,ha.2.1,ha.2.2.1,ha.2.2.2.1⟩
def vO (ops:List Int):Nat ->List Se ->Int
 | _,[]=>0
 | i,s::l=>if 0<i/\(ops.getD (i - 1) 0<1\/4<ops.getD (i - 1) 0) then 1 else wT (Kf s) (vO ops (i+1) l)
def uC (q:Q):Int:=if q.limit<0 then 0 else oR q.order
def jg (q:Q):Bool:=decide ((((q.parts.length:Int)<1\/4<(q.parts.length:Int))\/(q.ops.length:Int)≠(q.parts.length:Int) - 1)\/(0<=q.limit/\((q.order.length:Int)<1\/8<(q.order.length:Int))))
def Ae (q:Q):Int:=if jg q=true then 5 else if 50<q.limit then 3 else wT (vO q.ops 0 q.parts) (uC q)
def BM {M:aR}{b o:Nat}{x:Q}{cs:List Value}(hg:eS M)(hx:RQ M x cs)(ha:At M b o cs):Ct Tryz.prog 84 [.pointer (some ⟨b,o,none⟩)] M [] [] (fun r _ _ _=>r=.int .i64 (Ae x)) aM:=by
 intro T
 obtain ⟨pv,fv,gv,hp,hf,ul,m0,m1,m2,m3⟩:=aeu hx ha
 obtain ⟨hpb,pa,pc,rfl,tA,_,aga⟩:=ax (by decide) (fun _ _=>lF) hp
 obtain ⟨hfb,fa,fc,rfl,Jk,_,SG⟩:=ax (by decide) (fun _ _=>cE) hf
 obtain ⟨hgb,ga,gc,rfl,VQ,_,SJ⟩:=ax (by decide) (fun _ _=>dX) ul
 have EF:IntKind.i64.wrap ((x.parts.length:Int) - 1)=(x.parts.length:Int) - 1:=bJ (by omega) (by omega)
 obtain ⟨S,hS⟩:∃ S,S=Ae x:=⟨_,rfl⟩
 rw [<- hS]
 unfold Ae at hS
 refine az F84 rfl rfl ?_
 intro bj _
 simp +contextual only [go_sem,sevalprocAttr]
 refine l8 (fun e ds h=>ds=[]/\e 0=.pointer (some ⟨b,o,none⟩)/\e 58=.bool (jg x)/\h=⟨T,M,[],[]⟩) (fun S' fh=> ?_) ?_
 ·have fin:∀ {e:dx} {t:Bool},e 0=.pointer (some ⟨b,o,none⟩) ->e 58=.bool t ->t=jg x ->cA Tryz.prog (fi Tryz.prog T [(1,.take 0<| .take 1<| .take 2<| .take 3<| .take 4<| .take 5<| .take 6<| .take 7<| .take 8<| .take 9<| .take 10<| .take 11<| .take 12<| .take 13<| .take 14<| .take 15<| .take 16<| .take 17<| .take 20<| .take 21<| .take 22<| .take 18<| .take 19<| .take 23<| .take 24<| .take 25<| .take 26<| .take 27<| .take 28<| .take 29<| .take 30<| .take 31<| .take 32<| .take 33<| .take 34<| .take 35<| .take 36<| .take 37<| .take 38<| .take 39<| .take 40<| .take 41<| .take 42<| .take 43<| .take 44<| .take 45<| .take 46<| .take 47<| .take 48<| .take 49<| .take 50<| .done)] [ResultVar.tmp 2] (aV []) 0 (fun r x x_1 x_2=>r=Value.int IntKind.i64 S) aM) S' e [] ⟨T,M,[],[]⟩ ⟨⟩:=by
   intro e t h0 h1 h2
   exact fh _ _ _ ⟨rfl,h0,by rw [h1,h2],rfl⟩
  refine aT ?_
  by_cases c1:(x.parts.length:Int)<1
  ·simp +contextual only [go_sem,sevalprocAttr,m0,c1]
   refine fin (t:=true) ?_ ?_ ?_
   ·simp only [go_sem,sevalprocAttr]
   ·simp only [go_sem,sevalprocAttr]
   ·simp [jg,c1]
  by_cases c2:4<(x.parts.length:Int)
  ·simp +contextual only [go_sem,sevalprocAttr,m0,c1,c2]
   refine fin (t:=true) ?_ ?_ ?_
   ·simp only [go_sem,sevalprocAttr]
   ·simp only [go_sem,sevalprocAttr]
   ·simp [jg,c2]
  by_cases c3:(x.ops.length:Int)=(x.parts.length:Int) - 1
  ·by_cases c4:0<=x.limit
   ·by_cases c5:(x.order.length:Int)<1
    ·simp +contextual only [go_sem,sevalprocAttr,m0,m1,m2,m3,EF,c1,c2,c3,c4,c5]
     refine fin (t:=true) ?_ ?_ ?_
     ·simp only [go_sem,sevalprocAttr]
     ·simp only [go_sem,sevalprocAttr]
     ·simp [jg,c4,c5]
    ·by_cases c6:8<(x.order.length:Int)
     ·simp +contextual only [go_sem,sevalprocAttr,m0,m1,m2,m3,EF,c1,c2,c3,c4,c5,c6]
      refine fin (t:=true) ?_ ?_ ?_
      ·simp only [go_sem,sevalprocAttr]
      ·simp only [go_sem,sevalprocAttr]
      ·simp [jg,c4,c6]
     ·simp +contextual only [go_sem,sevalprocAttr,m0,m1,m2,m3,EF,c1,c2,c3,c4,c5,c6]
      refine fin (t:=false) ?_ ?_ ?_
      ·simp only [go_sem,sevalprocAttr]
      ·simp only [go_sem,sevalprocAttr]
      ·exact (decide_eq_false (by omega)).symm
   ·simp +contextual only [go_sem,sevalprocAttr,m0,m1,m3,EF,c1,c2,c3,c4]
    refine fin (t:=false) ?_ ?_ ?_
    ·simp only [go_sem,sevalprocAttr]
    ·simp only [go_sem,sevalprocAttr]
    ·exact (decide_eq_false (by omega)).symm
  ·simp +contextual only [go_sem,sevalprocAttr,m0,m1,EF,c1,c2,c3]
   refine fin (t:=true) ?_ ?_ ?_
   ·simp only [go_sem,sevalprocAttr]
   ·simp only [go_sem,sevalprocAttr]
   ·simp [jg,c3]
 rintro e ds h ⟨rfl,e0,e58,rfl⟩
 cases hm:jg x with
 | true=>
  rw [hm] at e58
  rw [if_pos hm] at hS
  simp +contextual only [go_sem,aD,sevalprocAttr,e58]
  exact ak aG.rfl' (by rw [hS])
 | false=>
 rw [hm] at e58
 rw [if_neg (by rw [hm];exact Bool.false_ne_true)] at hS
 have sV:x.ops.length+1=x.parts.length:=by
  have:=of_decide_eq_false hm
  omega
 by_cases h50:50<x.limit
 ·rw [if_pos h50] at hS
  simp +contextual only [go_sem,aD,sevalprocAttr,e0,e58,m3,h50]
  exact ak aG.rfl' (by rw [hS])
 rw [if_neg h50] at hS
 simp +contextual only [go_sem,sevalprocAttr,e58]
 rw [dM,if_neg Bool.false_ne_true]
 simp +contextual only [go_sem,sevalprocAttr,e0,m3,h50]
 rw [dM,if_neg Bool.false_ne_true]
 simp +contextual only [go_sem,sevalprocAttr,e0,m0]
 refine lS (fun e ds h=>ds=[]/\e 0=.pointer (some ⟨b,o,none⟩)/\S=uC x/\∃ M',bm M M'/\h=⟨T,M',[],[]⟩) (fun S' fh=> ?_) ?_
 ·simp +contextual only [go_sem,aD,sevalprocAttr]
  refine aO x.parts.length 69 [(0,.pointer (some ⟨b,o,none⟩)),(68,.int .i64 (x.parts.length:Int))]
   (fun i e h=>∃ M',bm M M'/\h=⟨T,M',[],[]⟩/\S=wT (vO x.ops i (x.parts.drop i)) (uC x))
   0 (by omega) (by simp only [aE,e0,go_sem,sevalprocAttr]) (by simp only [go_sem,sevalprocAttr]) ⟨M,bm.rfl',rfl,hS⟩ ?_
  clear hS e0 e58
  rintro i e h hi aI ht ⟨M1,aW,rfl,hS⟩
  simp only [aE] at aI
  have n0:=ay aW m0
  have n1:=ay aW m1
  by_cases aL:i<x.parts.length
  ·obtain ⟨b',o',cs',rfl,bP,cH⟩:=aga i x.parts[i] (gq aL)
   have bK:x.parts.drop i=x.parts[i]::x.parts.drop (i+1):=dq aL
   rw [bK,vO] at hS
   have key:¬ (0<i/\(x.ops.getD (i - 1) 0<1\/4<x.ops.getD (i - 1) 0)) ->S=wT (wT (Kf x.parts[i]) (vO x.ops (i+1) (x.parts.drop (i+1)))) (uC x):=fun h=>by rw [hS,if_neg h]
   by_cases hz:i=0
   ·have hz':¬ (0:Int)<(i:Int):=by omega
    replace hS:=key (fun h=>by omega)
    clear key
    simp +contextual only [go_sem,aD,sevalprocAttr,aI,ht,aL,hz',n0]
    refine aF (K7 (hg.ext aW) (lE aW _ _ cH) (bP.ext aW) T) ?_
    rintro v M2 bh _ rfl
    by_cases hE:Kf x.parts[i]=0
    ·rw [hE,s9] at hS
     simp +contextual only [go_sem,aD,sevalprocAttr,ht,hE]
     refine bT aL ?_ ?_ ⟨M2,aW.trans bh,rfl,hS⟩
     ·simp only [aE,aI,go_sem,sevalprocAttr]
     ·simp only [go_sem,sevalprocAttr,aA i (by omega)]
    ·rw [fM hE,fM hE] at hS
     simp +contextual only [go_sem,aD,sevalprocAttr,hE]
     exact ak aG.rfl' (by rw [hS])
   ·have hz':(0:Int)<(i:Int):=by omega
    have Jl:i - 1<x.ops.length:=by omega
    obtain ⟨bo,oo,co,rfl,ake,hro⟩:=SG (i - 1) x.ops[i - 1] (gq Jl)
    unfold RI at hro;subst hro
    have hx:=ay aW ake.1
    rw [Nat.mul_one] at hx
    have XI:x.ops.getD (i - 1) 0=x.ops[i - 1]:=by simp [List.getD,gq Jl]
    have hwi:IntKind.i64.wrap ((i:Int) - 1)=((i - 1:Nat):Int):=by rw [bJ (by omega) (by omega)];omega
    rw [XI] at hS key
    by_cases c1:x.ops[i - 1]<1
    ·rw [if_pos ⟨by omega,.inl c1⟩,fM (by decide)] at hS
     simp +contextual only [go_sem,aD,sevalprocAttr,aI,ht,aL,hz',n1,hwi,Jl,hx,c1]
     exact ak aG.rfl' (by rw [hS])
    ·by_cases c2:4<x.ops[i - 1]
     ·rw [if_pos ⟨by omega,.inr c2⟩,fM (by decide)] at hS
      simp +contextual only [go_sem,aD,sevalprocAttr,aI,ht,aL,hz',n1,hwi,Jl,hx,c1,c2]
      exact ak aG.rfl' (by rw [hS])
     ·replace hS:=key (fun h=>by rcases h.2 with h | h;exact c1 h;exact c2 h)
      clear key
      simp +contextual only [go_sem,aD,sevalprocAttr,aI,ht,aL,hz',n0,n1,hwi,Jl,hx,c1,c2]
      refine aF (K7 (hg.ext aW) (lE aW _ _ cH) (bP.ext aW) T) ?_
      rintro v M2 bh _ rfl
      by_cases hE:Kf x.parts[i]=0
      ·rw [hE,s9] at hS
       simp +contextual only [go_sem,aD,sevalprocAttr,ht,hE]
       refine bT aL ?_ ?_ ⟨M2,aW.trans bh,rfl,hS⟩
       ·simp only [aE,aI,go_sem,sevalprocAttr]
       ·simp only [go_sem,sevalprocAttr,aA i (by omega)]
      ·rw [fM hE,fM hE] at hS
       simp +contextual only [go_sem,aD,sevalprocAttr,hE]
       exact ak aG.rfl' (by rw [hS])
  ·have:i=x.parts.length:=by omega
   subst this
   rw [List.drop_length,vO,s9] at hS
   simp +contextual only [go_sem,aD,sevalprocAttr,aI,ht,aL]
   refine fh _ _ _ ⟨rfl,?_,hS,M1,aW,rfl⟩
   simp only [aI,go_sem,sevalprocAttr]
 clear hS e0 e58
 rintro e ds h ⟨rfl,e0,hS,M1,aW,rfl⟩
 unfold uC at hS
 simp +contextual only [go_sem,sevalprocAttr,e0,ay aW m2]
 refine lS (fun e ds h=>ds=[]/\S=0/\∃ N M' L,aG T N/\h=⟨N,M',L,[]⟩) (fun S' fh=> ?_) ?_
 ·simp +contextual only [go_sem,aD,sevalprocAttr]
  refine aO x.order.length 112 [(0,.pointer (some ⟨b,o,none⟩)),(110,.slice ga x.order.length gc),(111,.int .i64 (x.order.length:Int))]
   (fun i e h=>∃ N M',aG T N/\bm M M'/\h=⟨N,M',[],[]⟩/\S=(if x.limit<0 then 0 else oR (x.order.drop i)))
   0 (by omega) (by simp only [aE,e0,go_sem,sevalprocAttr]) (by simp only [go_sem,sevalprocAttr]) ⟨T,M1,aG.rfl',aW,rfl,hS⟩ ?_
  clear hS e0 aW
  rintro i e h hi aI ht ⟨N,M1,hN,aW,rfl,hS⟩
  simp only [aE] at aI
  by_cases aL:i<x.order.length
  ·obtain ⟨b',o',cs',rfl,bP,cH⟩:=SJ i x.order[i] (gq aL)
   obtain ⟨sg,rfl,og,g0,g1,g2,g3,g4,g5,g6⟩:=sC cH bP
   have bK:x.order.drop i=x.order[i]::x.order.drop (i+1):=dq aL
   by_cases SP:x.limit<0
   ·rw [if_pos SP] at hS
    simp +contextual only [go_sem,aD,sevalprocAttr,aI,ht,aL,ay aW m3,ay aW g0,ay aW g1,ay aW g2,ay aW g3,ay aW g4,ay aW g5,ay aW g6,og,SP]
    intro b9 N9 qY VN pY
    exact fh _ _ _ ⟨rfl,hS,N9,M1,_,hN.trans VN,rfl⟩
   rw [if_neg SP,bK,oR] at hS
   simp +contextual only [go_sem,aD,sevalprocAttr,aI,ht,aL,ay aW m3,ay aW g0,ay aW g1,ay aW g2,ay aW g3,ay aW g4,ay aW g5,ay aW g6,og,SP]
   intro b9 N9 qY VN pY
   refine aF (oO (hg.ext aW) (bL aW _ _ cH) N9) ?_
   rintro v M2 bh _ rfl
   by_cases hE:mR x.order[i]=0
   ·rw [hE,s9] at hS
    simp +contextual only [go_sem,aD,sevalprocAttr,ht,hE]
    rw [eL]
    refine al (aC ⟨x.order.length - (i+1),by omega,rfl,i+1,by omega,rfl,?_,?_,N9,M2,hN.trans VN,aW.trans bh,rfl,by rw [if_neg SP];exact hS⟩)
    ·simp only [aE,aI,go_sem,sevalprocAttr]
    ·simp only [go_sem,sevalprocAttr,aA i (by omega)]
   ·rw [fM hE] at hS
    simp +contextual only [go_sem,aD,sevalprocAttr,hE]
    exact ak (hN.trans VN) (by rw [hS])
  ·have:i=x.order.length:=by omega
   subst this
   rw [List.drop_length,oR,ite_self] at hS
   simp +contextual only [go_sem,aD,sevalprocAttr,aI,ht,aL]
   exact fh _ _ _ ⟨rfl,hS,N,M1,[],hN,rfl⟩
 rintro e ds h ⟨rfl,hS,N,M2,L,hN,rfl⟩
 simp +contextual only [go_sem,sevalprocAttr]
 exact ak hN (by rw [hS])
def Wa {M:aR}{b o:Nat}{x:Stm}{cs:List Value}(h:mD M x cs)(ha:At M b o cs):∃ c r,RS M tF 2 x.cols c/\RS M (MZ M) 1 x.rows r/\
 aN M ⟨b,o,none⟩=some (.int .i64 x.k)/\aN M ⟨b,o+1,none⟩=some (st x.name)/\aN M ⟨b,o+2,none⟩=some c/\(∃ q,RQ M x.q q/\At M b (o+3) q)/\
 aN M ⟨b,o+7,none⟩=some r/\aN M ⟨b,o+8,none⟩=some (.bool x.hasW)/\∃ w,RX M x.wh w/\At M b (o+9) w:=by
 obtain ⟨c,q,r,w,h1,h2,h3,h4,rfl⟩:=h
 rw [fF,fF,fF,Qk h2] at ha
 obtain ⟨⟨a0,a1,a2,_⟩,aq,⟨a7,a8,_⟩,aw⟩:=ha
 exact ⟨c,r,h1,h3,a0,a1,a2,⟨q,h2,aq⟩,a7,a8,w,h4,aw⟩
def Fb:List Co ->Int | []=>0 | c::l=>wT (hX [c.name]) (if c.ty<2\/4<c.ty then 1 else Fb l)
def CY:List V ->Int | []=>0 | v::l=>wT (eR v) (CY l)
def si:List (List V) ->Int | []=>0 | r::l=>if (r.length:Int)<1\/8<(r.length:Int) then 5 else wT (CY r) (si l)
def mA (s:Stm):Int:=
 if s.k<1\/5<s.k then 1 else if s.k=5 then Ae s.q else wT (hX [s.name]) (
  if s.k=2 then Ae s.q
  else if s.k=1 then (if (s.cols.length:Int)<1\/8<(s.cols.length:Int) then 5 else Fb s.cols)
  else if s.k=3 then (if (s.rows.length:Int)<1\/400<(s.rows.length:Int) then 5 else si s.rows)
  else if s.k=4 then (if s.hasW=true then mR s.wh else 0) else 0)
def RO {M:aR}{b o:Nat}{x:Stm}{cs:List Value}(hg:eS M)(hx:mD M x cs)(ha:At M b o cs):Ct Tryz.prog 48 [.pointer (some ⟨b,o,none⟩)] M [] [] (fun r _ _ _=>r=.int .i64 (mA x)) aM:=by
 intro T
 obtain ⟨cv,rv,hc,hr,m0,m1,m2,⟨qc,hq,haq⟩,m7,m8,wc,hw,haw⟩:=Wa hx ha
 obtain ⟨hcb,ca,cc,rfl,cK,_,afu⟩:=ax (by decide) (fun _ _ h=>by unfold tF at h;subst h;rfl) hc
 obtain ⟨hrb,ra,rc,rfl,zy,_,age⟩:=ax (by decide) (fun _ _ h=>by obtain ⟨_,_,rfl⟩:=h;rfl) hr
 obtain ⟨sw,rfl,ow,w0,w1,w2,w3,w4,w5,w6⟩:=sC hw haw
 obtain ⟨S,hS⟩:∃ S,S=mA x:=⟨_,rfl⟩
 rw [<- hS]
 unfold mA at hS
 refine az F48 rfl rfl ?_
 intro bj _
 by_cases k0:x.k<1\/5<x.k
 ·rw [if_pos k0] at hS
  simp +contextual only [go_sem,sevalprocAttr,m0]
  rw [dM]
  by_cases k1:x.k<1
  ·simp +contextual only [go_sem,sevalprocAttr,k1]
   exact ak aG.rfl' (by rw [hS])
  ·have k2:5<x.k:=by omega
   simp +contextual only [go_sem,sevalprocAttr,k1,k2]
   exact ak aG.rfl' (by rw [hS])
 rw [if_neg k0] at hS
 have k1:¬ x.k<1:=fun h=>k0 (.inl h)
 have k2:¬ 5<x.k:=fun h=>k0 (.inr h)
 by_cases k5:x.k=5
 ·rw [if_pos k5] at hS
  simp +contextual only [go_sem,aD,sevalprocAttr,m0,k5]
  refine aF (BM hg hq haq T) ?_
  rintro v M2 bh _ rfl
  simp +contextual only [go_sem,sevalprocAttr]
  exact ak aG.rfl' (by rw [hS])
 rw [if_neg k5] at hS
 simp +contextual only [go_sem,aD,sevalprocAttr,m0,m1,k1,k2,k5]
 intro b1 fO
 refine dh F85.bd fun M1 aW aby bD=> ?_
 have hl:RS M1 rC 1 [x.name] (.slice (some ⟨b1,0,none⟩) 1 1):=dE (fun _ _=>fu) aby (kV [x.name]) rfl (by decide)
 refine aF (tS (hg.ext aW) hl T) ?_
 rintro v M2 bh _ rfl
 have eb:=aW.trans bh
 by_cases hE:hX [x.name]=0
 ·rw [hE,s9] at hS
  have n0:=ay eb m0
  by_cases c2:x.k=2
  ·rw [if_pos c2] at hS
   simp +contextual only [go_sem,aD,sevalprocAttr,hE,n0,c2]
   refine aF (BM (hg.ext eb) (Ia eb _ _ hq) (haq.ext eb) T) ?_
   rintro v M3 bG _ rfl
   simp +contextual only [go_sem,sevalprocAttr]
   exact ak aG.rfl' (by rw [hS])
  rw [if_neg c2] at hS
  by_cases c1:x.k=1
  ·rw [if_pos c1] at hS
   have n2:=ay eb m2
   by_cases cl:(x.cols.length:Int)<1\/8<(x.cols.length:Int)
   ·rw [if_pos cl] at hS
    by_cases cl1:(x.cols.length:Int)<1
    ·simp +contextual only [go_sem,aD,sevalprocAttr,hE,n0,c1,n2,cl1]
     exact ak aG.rfl' (by rw [hS])
    ·have cl2:8<(x.cols.length:Int):=by omega
     simp +contextual only [go_sem,aD,sevalprocAttr,hE,n0,c1,n2,cl1,cl2]
     exact ak aG.rfl' (by rw [hS])
   rw [if_neg cl] at hS
   have cl1:¬ (x.cols.length:Int)<1:=fun h=>cl (.inl h)
   have cl2:¬ 8<(x.cols.length:Int):=fun h=>cl (.inr h)
   simp +contextual only [go_sem,aD,sevalprocAttr,hE,n0,c1,n2,cl1,cl2]
   refine aO x.cols.length 73 [(71,.slice ca x.cols.length cc),(72,.int .i64 (x.cols.length:Int))]
    (fun i e h=>∃ N M',aG T N/\bm M M'/\h=⟨N,M',[],[]⟩/\S=Fb (x.cols.drop i))
    0 (by omega) (by simp only [aE,go_sem,sevalprocAttr]) (by simp only [go_sem,sevalprocAttr]) ⟨T,M2,aG.rfl',eb,rfl,hS⟩ ?_
   clear hS
   rintro i e h hi aI ht ⟨N,M3,hN,bG,rfl,hS⟩
   simp only [aE] at aI
   by_cases aL:i<x.cols.length
   ·obtain ⟨b',o',cs',rfl,bP,cH⟩:=afu i x.cols[i] (gq aL)
    unfold tF at cH;subst cH
    have bK:x.cols.drop i=x.cols[i]::x.cols.drop (i+1):=dq aL
    have q0:=ay bG bP.1
    have q1:=ay bG bP.2.1
    rw [bK,Fb] at hS
    simp +contextual only [go_sem,aD,sevalprocAttr,aI,ht,aL,q0,q1]
    intro b5 N5 jz sO nq b7 mU jD
    refine dh F85.bd fun M4 dz abC de=> ?_
    have hl:RS M4 rC 1 [x.cols[i].name] (.slice (some ⟨b7,0,none⟩) 1 1):=dE (fun _ _=>fu) abC (kV [x.cols[i].name]) rfl (by decide)
    refine aF (tS (hg.ext (bG.trans dz)) hl N5) ?_
    rintro v M5 dN bS rfl
    simp only [aJ,and_true] at bS
    by_cases vw:hX [x.cols[i].name]=0
    ·rw [vw,s9] at hS
     by_cases t1:x.cols[i].ty<2
     ·rw [if_pos (.inl t1)] at hS
      simp +contextual only [go_sem,aD,sevalprocAttr,vw,bS,t1]
      exact ak (hN.trans sO) (by rw [hS])
     ·by_cases t2:4<x.cols[i].ty
      ·rw [if_pos (.inr t2)] at hS
       simp +contextual only [go_sem,aD,sevalprocAttr,vw,bS,t1,t2]
       exact ak (hN.trans sO) (by rw [hS])
      ·rw [if_neg (by omega)] at hS
       simp +contextual only [go_sem,aD,sevalprocAttr,ht,vw,bS,t1,t2]
       rw [eL]
       refine al (aC ⟨x.cols.length - (i+1),by omega,rfl,i+1,by omega,rfl,?_,?_,N5,M5,hN.trans sO,(bG.trans dz).trans dN,rfl,hS⟩)
       ·simp only [aE,aI,go_sem,sevalprocAttr]
       ·simp only [go_sem,sevalprocAttr,aA i (by omega)]
    ·rw [fM vw] at hS
     simp +contextual only [go_sem,aD,sevalprocAttr,vw]
     exact ak (hN.trans sO) (by rw [hS])
   ·have:i=x.cols.length:=by omega
    subst this
    rw [List.drop_length,Fb] at hS
    simp +contextual only [go_sem,aD,sevalprocAttr,aI,ht,aL]
    exact ak hN (by rw [hS])
  rw [if_neg c1] at hS
  by_cases c3:x.k=3
  ·rw [if_pos c3] at hS
   have n7:=ay eb m7
   by_cases cl:(x.rows.length:Int)<1\/400<(x.rows.length:Int)
   ·rw [if_pos cl] at hS
    by_cases cl1:(x.rows.length:Int)<1
    ·simp +contextual only [go_sem,aD,sevalprocAttr,hE,n0,c3,n7,cl1]
     exact ak aG.rfl' (by rw [hS])
    ·have cl2:400<(x.rows.length:Int):=by omega
     simp +contextual only [go_sem,aD,sevalprocAttr,hE,n0,c3,n7,cl1,cl2]
     exact ak aG.rfl' (by rw [hS])
   rw [if_neg cl] at hS
   have cl1:¬ (x.rows.length:Int)<1:=fun h=>cl (.inl h)
   have cl2:¬ 400<(x.rows.length:Int):=fun h=>cl (.inr h)
   simp +contextual only [go_sem,aD,sevalprocAttr,hE,n0,c3,n7,cl1,cl2]
   refine aO x.rows.length 114 [(112,.slice ra x.rows.length rc),(113,.int .i64 (x.rows.length:Int))]
    (fun i e h=>∃ N M',aG T N/\bm M M'/\h=⟨N,M',[],[]⟩/\S=si (x.rows.drop i))
    0 (by omega) (by simp only [aE,go_sem,sevalprocAttr]) (by simp only [go_sem,sevalprocAttr]) ⟨T,M2,aG.rfl',eb,rfl,hS⟩ ?_
   clear hS
   rintro i e h hi aI ht ⟨N,M3,hN,bG,rfl,hS⟩
   simp only [aE] at aI
   by_cases aL:i<x.rows.length
   ·obtain ⟨b',o',cs',rfl,bP,sv,sW,rfl⟩:=age i x.rows[i] (gq aL)
    have bK:x.rows.drop i=x.rows[i]::x.rows.drop (i+1):=dq aL
    have q0:=ay bG bP.1
    rw [Nat.mul_one] at q0
    rw [bK,si] at hS
    obtain ⟨hvb,va,vc,rfl,hvl,_,agn⟩:=ax (by decide) (fun _ _ h=>eK h) sW
    by_cases rl:(x.rows[i].length:Int)<1\/8<(x.rows[i].length:Int)
    ·rw [if_pos rl] at hS
     by_cases rl1:(x.rows[i].length:Int)<1
     ·simp +contextual only [go_sem,aD,sevalprocAttr,aI,ht,aL,q0,rl1]
      exact ak hN (by rw [hS])
     ·have rl2:8<(x.rows[i].length:Int):=by omega
      simp +contextual only [go_sem,aD,sevalprocAttr,aI,ht,aL,q0,rl1,rl2]
      exact ak hN (by rw [hS])
    rw [if_neg rl] at hS
    have rl1:¬ (x.rows[i].length:Int)<1:=fun h=>rl (.inl h)
    have rl2:¬ 8<(x.rows[i].length:Int):=fun h=>rl (.inr h)
    simp +contextual only [go_sem,aD,sevalprocAttr,aI,ht,aL,q0,rl1,rl2]
    refine aO x.rows[i].length 128 [(112,.slice (some ⟨b',o',none⟩) x.rows.length rc),(113,.int .i64 (x.rows.length:Int)),(114,.int .i64 (i:Int)),(126,.slice va x.rows[i].length vc),(127,.int .i64 (x.rows[i].length:Int))]
     (fun j e h=>∃ N M',aG T N/\bm M M'/\h=⟨N,M',[],[]⟩/\S=wT (CY (x.rows[i].drop j)) (si (x.rows.drop (i+1))))
     0 (by omega) (by simp only [aE,aI,ht,go_sem,sevalprocAttr]) (by simp only [go_sem,sevalprocAttr]) ⟨N,M3,hN,bG,rfl,hS⟩ ?_
    clear hS aI ht e hN bG q0
    rintro j e h hj aI htj ⟨N,M4,hN,dz,rfl,hS⟩
    simp only [aE] at aI
    by_cases xV:j<x.rows[i].length
    ·obtain ⟨bv,ov,cv',rfl,abw,ns⟩:=agn j x.rows[i][j] (gq xV)
     unfold RV V.cs at ns;subst ns
     have abM:x.rows[i].drop j=x.rows[i][j]::x.rows[i].drop (j+1):=dq xV
     have q0:=ay dz abw.1
     have q1:=ay dz abw.2.1
     have q2:=ay dz abw.2.2.1
     rw [abM,CY] at hS
     simp +contextual only [go_sem,aD,sevalprocAttr,aI,htj,xV,q0,q1,q2]
     intro b10 N10 abz ae1 Zi
     refine aF (jq x.rows[i][j] M4 N10) ?_
     rintro v M5 dN bS rfl
     by_cases vw:eR x.rows[i][j]=0
     ·rw [vw,s9] at hS
      simp +contextual only [go_sem,aD,sevalprocAttr,htj,vw]
      rw [eL]
      refine al (aC ⟨x.rows[i].length - (j+1),by omega,rfl,j+1,by omega,rfl,?_,?_,N10,M5,hN.trans ae1,dz.trans dN,rfl,hS⟩)
      ·simp only [aE,aI,go_sem,sevalprocAttr]
      ·simp only [go_sem,sevalprocAttr,aA j (by omega)]
     ·rw [fM vw,fM vw] at hS
      simp +contextual only [go_sem,aD,sevalprocAttr,vw]
      exact ak (hN.trans ae1) (by rw [hS])
    ·have:j=x.rows[i].length:=by omega
     subst this
     rw [List.drop_length,CY,s9] at hS
     simp +contextual only [go_sem,aD,sevalprocAttr,aI,htj,xV]
     refine bT aL ?_ ?_ ⟨N,M4,hN,dz,rfl,hS⟩
     ·simp only [aE,aI,go_sem,sevalprocAttr]
     ·simp only [go_sem,sevalprocAttr,aA i (by omega)]
   ·have:i=x.rows.length:=by omega
    subst this
    rw [List.drop_length,si] at hS
    simp +contextual only [go_sem,aD,sevalprocAttr,aI,ht,aL]
    exact ak hN (by rw [hS])
  rw [if_neg c3] at hS
  by_cases c4:x.k=4
  ·rw [if_pos c4] at hS
   cases hW:x.hasW with
   | true=>
    rw [if_pos hW] at hS
    rw [hW] at m8
    simp +contextual only [go_sem,aD,sevalprocAttr,hE,n0,c4,ay eb m8,ay eb w0,ay eb w1,ay eb w2,ay eb w3,ay eb w4,ay eb w5,ay eb w6]
    refine aF (oO (hg.ext eb) (bL eb _ _ hw) T) ?_
    rintro v M3 bG _ rfl
    simp +contextual only [go_sem,sevalprocAttr]
    exact ak aG.rfl' (by rw [hS])
   | false=>
    rw [if_neg (by rw [hW];exact Bool.false_ne_true)] at hS
    rw [hW] at m8
    simp +contextual only [go_sem,aD,sevalprocAttr,hE,n0,c4,ay eb m8]
    exact ak aG.rfl' (by rw [hS])
  ·rw [if_neg c4] at hS
   simp +contextual only [go_sem,aD,sevalprocAttr,hE,n0,c2,c1,c3,c4]
   exact ak aG.rfl' (by rw [hS])
 ·rw [fM hE] at hS
  simp +contextual only [go_sem,aD,sevalprocAttr,hE]
  exact ak aG.rfl' (by rw [hS])
def tu:Nat ->List Stm ->Int×Nat | _,[]=>(0,0) | i,s::l=>if mA s≠0 then (mA s,i) else tu (i+1) l
def kS (l:List Stm):Int×Nat:=if 60<(l.length:Int) then (5,0) else tu 0 l
theorem Fq {M:aR}{l:List Stm}{sv:Value}(hg:eS M)(hs:RS M (mD M) 16 l sv):Ct Tryz.prog 27 [sv] M [] [] (fun r _ _ _=>r=Xg (kS l).1 ((kS l).2:Int)) aM:=by
 intro T
 obtain ⟨hb,a,c,rfl,cX,_,gl⟩:=ax (by decide) (fun _ _=>gb) hs
 obtain ⟨S,hS⟩:∃ S,S=kS l:=⟨_,rfl⟩
 rw [<- hS]
 unfold kS at hS
 refine az F27 rfl rfl ?_
 intro bj _
 simp +contextual only [go_sem,aD,sevalprocAttr]
 intro b2 T2 dO dA ef
 by_cases h60:60<(l.length:Int)
 ·rw [if_pos h60] at hS
  simp +contextual only [go_sem,sevalprocAttr,h60]
  exact ak dA (by rw [hS];rfl)
 rw [if_neg h60] at hS
 simp +contextual only [go_sem,sevalprocAttr,h60]
 refine aO l.length 11 [(0,.slice a l.length c),(2,.pointer (some ⟨b2,0,none⟩)),(10,.int .i64 l.length)] (fun i e h=>∃ M',bm M M'/\M' b2=none/\h=⟨T2,M',[(b2,[.int .i64 0,.int .i64 0])],[]⟩/\S=tu i (l.drop i)) 0 (by omega) (by simp only [aE,go_sem,sevalprocAttr]) (by simp only [go_sem,sevalprocAttr]) ⟨M,bm.rfl',dO,rfl,hS⟩ ?_
 clear hS
 rintro i e h hi aI ht ⟨M1,aW,n2,rfl,hS⟩
 simp only [aE] at aI
 by_cases aL:i<l.length
 ·obtain ⟨b,o,cs,rfl,bP,cH⟩:=gl i l[i] (gq aL)
  have bK:l.drop i=l[i]::l.drop (i+1):=dq aL
  rw [bK,tu] at hS
  simp +contextual only [go_sem,aD,sevalprocAttr,aI,ht,aL]
  refine aF (RO (hg.ext aW) (eY aW _ _ cH) (bP.ext aW) T2) ?_
  rintro v M2 bh aZ rfl
  simp only [aJ,and_true] at aZ
  by_cases hE:mA l[i]=0
  ·rw [if_neg (fun h=>h hE)] at hS
   simp +contextual only [go_sem,aD,sevalprocAttr,ht,hE]
   refine bT aL ?_ ?_ ⟨M2,aW.trans bh,aZ,rfl,hS⟩
   ·simp only [aE,aI,go_sem,sevalprocAttr]
   ·simp only [go_sem,sevalprocAttr,aA i (by omega)]
  ·rw [if_pos hE] at hS
   simp +contextual only [go_sem,aD,sevalprocAttr,aI,hE,aZ]
   exact ak dA (by rw [hS];rfl)
 ·have:i=l.length:=by omega
  subst this
  rw [List.drop_length,tu] at hS
  simp +contextual only [go_sem,aD,sevalprocAttr,aI,ht,aL,n2]
  exact ak dA (by rw [hS];rfl)
end Go.Proofs.YtcpjbohndglclaaGreatDoor

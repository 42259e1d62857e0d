import Derived.Test.YtmccpbcbofhmlaaGreatDoorC
import Derived.Shelf.Strings.Builder1
import Derived.Test.YtmccpbcbofhmlaaGreatDoorB
import Derived.Recover
import Derived.Laws.Pointers
set_option linter.all false
namespace Go.Proofs.YtmccpbcbofhmlaaGreatDoor
open Go Vc
set_option maxRecDepth 10000
def fd (n:Nat):Lvl:=fo.getD n ⟨[],0,false⟩
def i8 (g:List Tk ->Rs X)(l:Lvl):Nat ->X ->List Tk ->Rs X
 | 0,_,_=> .out
 | k+1,x,t=>match bJ l.signs t with
  | none=> .ok x t
  | some j=>(g t.tail).bind fun y t'=>if l.once=true then .ok (nB (l.kind+j) [x,y]) t' else i8 g l k (nB (l.kind+j) [x,y]) t'
def Zf (en:Int)(x:X)(t:List Tk):Rs X:=(bY en [kP] (if bg lm t.tail=true then t.tail.tail else t.tail)).bind fun _ t'=> .ok (if bg lm t.tail=true then nB 3 [nB 16 [x]] else nB 16 [x]) t'
def ei (en:Int):Nat ->Nat ->Int ->List Tk ->Rs X
 | 0,_,_,_=> .out
 | f+1,n,op,t=>
  if n=7 then gN en (fun t=>if op+1>100 then .err 4 (pF en t) else ei en f 0 (op+1) t) t
  else if n=2 then
   if bg lm t=true then (if op+1>100 then .err 4 (pF en t.tail) else (ei en f 2 (op+1) t.tail).bind fun x t=> .ok (nB 3 [x]) t)
   else ei en f 3 op t
  else (ei en f (n+1) op t).bind fun x t=>
   if n=3/\bg NW t=true then Zf en x t
   else i8 (ei en f (n+1) op) (fd n) (t.length+1) x t
def uK (en:Int)(f:Nat)(op:Int)(t:List Tk):Rs X:=if op+1>100 then .err 4 (pF en t) else ei en f 0 (op+1) t
def agB (en:Int)(pb:Nat)(f:Nat):Prop:=∀ (n:Nat) (op:Int) (M:aV) (t:List Tk) (lv:Value) (T:Tm),n<=7 ->0<=op ->op<=100 ->fO M ->RS M gT 3 t lv ->ei en f n op t≠ .out ->
 ep Tryz.prog 153 [.pointer (some ⟨pb,0,none⟩),.int .i64 (n:Int)] T M (pL pb lv en op) [] (fP pb en op Ht (ei en f n op t)) (gM pb en (ei en f n op t))
theorem rf {M:aV}{N:Tm}{R:RR}{pb b:Nat}{lv:Value}{en op:Int}(L1:LL)(hb:M b=some [.pointer (some ⟨pb,0,none⟩)]){args:Array Value}(ha:args.toList=[]){k:Sh ->Prop}(hk:k ⟨N,M,L1++pL pb lv en (IntKind.i64.wrap (op - 1)),R⟩):
 yo Tryz.prog [{target:=.fn (.func 189) ⟨[.pointer (some ⟨b,0,none⟩)]⟩,args:=args}] ⟨N,M,L1++pL pb lv en op,R⟩ k:=by
 have hd:dFn {target:=.fn (.func 189) ⟨[.pointer (some ⟨b,0,none⟩)]⟩,args:=args}=some (189,[.pointer (some ⟨b,0,none⟩)]):=by simp [dFn,ha]
 unfold yo
 rw [hd]
 refine P3 L1 (Om hb N) fun v M' L' hM vA bN h=> ?_
 obtain ⟨rfl,rfl⟩:=h
 exact hk
theorem CC {op:Int}(h0:0<=op)(h1:op<=1000):IntKind.i64.wrap (op+1 - 1)=op:=by
 rw [show op+1 - 1=op from by omega]
 exact eZ (by omega) (by omega)
theorem rh (e a:Int):Xp (se e a)=true:=rfl
theorem KY {en:Int}{pb f:Nat}{op:Int}(hb:agB en pb f)(h0:0<=op)(h1:op<=100):Zq en pb (uK en f op) op:=by
 intro M aS lv T hg hl dh
 refine DP mx aeI Tryz.func101 rfl (by rw [anz];exact Nat.le_of_ble_eq_true rfl) (dr:=ZJ) (by kernel_rfl) agS ?_
 intro bN _
 simp only [aE] at bN
 simp +contextual only [go_sem,ak,sevalprocAttr]
 intro b2 T2 eG cr fu ju
 refine dU [(b2,_)] (Lq hl h0 (by omega) T2) ?_ ?_
 ·rintro v M1 L1 aP gB bL ⟨ea,rfl,b,rfl,Jn⟩
  have jb:uK en f op aS=ei en f 0 (op+1) aS:=by unfold uK;rw [if_neg (by omega)]
  rw [jb] at dh ⊢
  have gF:=aN aP (fun _ _ h=>h) hl
  simp only [List.cons_append,List.nil_append,aB,aE] at bL
  simp +contextual only [go_sem,ak,sevalprocAttr]
  refine dU [(b2,_)] (hb 0 (op+1) M1 aS lv T2 (by omega) (by omega) ea (hg.ext aP) gF dh) ?_ ?_
  ·rintro v M2 L2 aX jY aQ ⟨x,r,lv2,ay,rfl,ft, -,cs,rfl,hx⟩
   obtain ⟨s,rfl,pm,_⟩:=cb hx
   simp only [List.cons_append,List.nil_append,aB,aE] at aQ
   simp +contextual only [go_sem,ak,sevalprocAttr,aQ,cr,pm]
   refine rf [(b2,_)] (aX _ _ Jn) rfl ?_
   rw [CC h0 (by omega)]
   simp +contextual only [go_sem,ak,sevalprocAttr,aQ,cr,pm]
   refine al (aM fu rfl rfl ?_)
   exact ⟨x,r,lv2,ay,rfl,ft,rfl,_,rfl,hx⟩
  ·rintro ch M2 L2 aX jY aQ ⟨c,a,lv2,op2,ay,rfl,rfl, -⟩
   rw [xj]
   refine ⟨rh _ _,?_⟩
   refine rf [(b2,_)] (aX _ _ Jn) rfl ?_
   refine al (aM fu rfl rfl ?_)
   exact ⟨c,a,lv2,_,ay,rfl,rfl,rfl⟩
 ·rintro ch M1 L1 aP gB bL ⟨ea,rfl,op',rfl⟩
  have jb:uK en f op aS=.err 4 (pF en aS):=by unfold uK;rw [if_pos (by omega)]
  rw [jb]
  refine ⟨rh _ _,?_⟩
  refine al (aM fu rfl rfl ?_)
  exact ⟨4,_,lv,op',rfl,rfl,rfl,rfl⟩
theorem W0 {M:aV}{b o:Nat}{l:Lvl}{cs:List Value}(h:Vi M l cs)(ha:At M b o cs):∃ s,aL M ⟨b,o,none⟩=some s/\aL M ⟨b,o+1,none⟩=some (.int .i64 l.kind)/\aL M ⟨b,o+2,none⟩=some (.bool l.once)/\
 RS M pD 1 l.signs s/\(l.signs=[] ->s=.slice none 0 0)/\(l.signs≠[] ->∃ b n,s=.slice (some ⟨b,0,none⟩) n n):=by
 obtain ⟨s,h1,h2,h3,rfl⟩:=h
 exact ⟨s,ha.1,ha.2.1,ha.2.2.1,h1,h2,h3⟩
theorem Wx {n:Nat}(h:n<7):fo[n]?=some (fd n):=by
 have:n<fo.length:=h
 rw [List.getElem?_eq_getElem this]
 simp [fd,List.getD_eq_getElem?_getD,List.getElem?_eq_getElem this]
section
variable {α β:Type} {T N:Tm} {M:aV} {R:RR} {dr:List (Nat×Sched)} {ts:List ResultVar} {post:eP} {pb:Nat} {lv0 lv:Value} {en op0 op:Int} {d:Option Nat} {s:List Vc.Item} {e:dN} {aS:List Tk} {L1:LL}
theorem HU {res:Rs α}{c a:Int}(L1:LL)(hT:aH T N)(h:res=.err c a):(O8 Tryz.prog T dr ts (bd (pL pb lv0 en op0)) 0 post (gM pb en res)).pan (se c a) e [] ⟨N,M,L1++pL pb lv en op,R⟩:=by
 rw [xj]
 exact ⟨rh c a,gW L1 (cG (aM hT rfl rfl ⟨c,a,lv,op,h,rfl,rfl,rfl⟩))⟩
theorem uf {f:FuncId}{args:List Value}{enc:α ->Value ->aV ->Prop}{res:Rs β}{g:Rs α}{Fk:α ->List Tk ->Rs β}(L1:LL)(hT:aH T N)(hp:res=g.bind Fk)(dh:res≠ .out)
 (hc:g≠ .out ->ep Tryz.prog f args N M (pL pb lv en op) [] (fP pb en op enc g) (gM pb en g))
 (k:∀ v M' a r lv',bG M M' ->aB M' (L1++pL pb lv' en op) ->res=Fk a r ->RS M' gT 3 r lv' ->enc a v M' ->
  cB Tryz.prog (O8 Tryz.prog T dr ts (bd (pL pb lv0 en op0)) 0 post (gM pb en res)) s (cV e d v) [] ⟨N,M',L1++pL pb lv' en op,R⟩ ⟨⟩):
 dT Tryz.prog (O8 Tryz.prog T dr ts (bd (pL pb lv0 en op0)) 0 post (gM pb en res)) f args d s e [] ⟨N,M,L1++pL pb lv en op,R⟩ ⟨⟩:=by
 have hg:g≠ .out:=fun h=>dh (by rw [hp,h];rfl)
 refine sF L1 (hc hg) (fun v M' a r lv' hM bN ay hr he=>k v M' a r lv' hM bN (by rw [hp,ay];rfl) hr he) ?_
 intro c a M' lv' op' hM ay
 exact HU L1 hT (by rw [hp,ay];rfl)
theorem KI {res:Rs β}{Fk:Unit ->List Tk ->Rs β}(L1:LL){x:Bs}{b:Nat}(hT:aH T N)(hp:res=(bY en [x] aS).bind Fk)(hl:RS M gT 3 aS lv)
 (k:∀ M' lv',bG M M' ->aB M' (L1++pL pb lv' en op) ->res=Fk () aS.tail ->RS M' gT 3 aS.tail lv' ->
  cB Tryz.prog (O8 Tryz.prog T dr ts (bd (pL pb lv0 en op0)) 0 post (gM pb en res)) s (cV e d (.tuple #[])) [] ⟨N,M',L1++pL pb lv' en op,R⟩ ⟨⟩):
 dT Tryz.prog (O8 Tryz.prog T dr ts (bd (pL pb lv0 en op0)) 0 post (gM pb en res)) 51 [.pointer (some ⟨pb,0,none⟩),.slice (some ⟨b,0,none⟩) 1 1] d s e [] ⟨N,M,(b,[.string (bs x)])::(L1++pL pb lv en op),R⟩ ⟨⟩:=by
 refine aW JY fun M1 aP hb bL=> ?_
 have gF:=aN aP (fun _ _ h=>h) hl
 have hs:RS M1 pD 1 [x] (.slice (some ⟨b,0,none⟩) 1 1):=df (fun _ _=>cO) hb (eQ [x]) rfl (by decide)
 refine sF L1 (vz gF hs N) ?_ ?_
 ·rintro v M' a r lv' hM bN ay hr rfl
  have Aj:r=aS.tail:=by
   simp only [bY] at ay
   split at ay
   ·injection ay with _ h;exact h.symm
   ·cases ay
  subst Aj
  exact k M' lv' (aP.trans hM) bN (by rw [hp,ay];rfl) hr
 ·intro c a M' lv' op' hM ay
  exact HU L1 hT (by rw [hp,ay];rfl)
end
theorem Rs.bind_ok {α:Type}(g:Rs α):g=g.bind fun a t=> .ok a t:=by cases g<;>rfl
theorem zC {l:List Bs}{t:List Tk}:∀ {j:Nat},bJ l t=some j ->j<l.length:=by
 induction l with
 | nil=>intro j h;cases h
 | cons s l ih=>
  intro j h
  simp only [bJ] at h
  split at h
  ·injection h with h;subst h;simp
  ·obtain ⟨k,hk,rfl⟩:=Option.map_eq_some_iff.1 h
   have:=ih hk
   simp only [List.length_cons];omega
theorem MX:∀ n,n<7 ->0<=(fd n).kind/\(fd n).kind<=15/\(fd n).signs.length<=6/\((fd n).once=decide (n=3))/\(n≠2 ->(fd n).signs≠[]):=by decide
theorem LJ {en:Int}{pb:Nat}:∀ f,agB en pb f:=by
 intro f
 induction f with
 | zero=>intro n op M t lv T hn h0 h1 hg hl dh;exact (dh rfl).elim
 | succ f ih=>
  intro n op M t lv T hn h0 h1 hg hl dh
  refine DP mx adO Tryz.func153 rfl (by rw [aiU];exact Nat.le_of_ble_eq_true rfl) (dr:=X2) (by kernel_rfl) ag8 ?_
  intro bN _
  simp only [aE] at bN
  simp +contextual only [go_sem,ak,sevalprocAttr]
  intro b4 T4 iR cN j6 pp
  refine am (AW T4) ?_ (fun _ _ _ _ h=>h.elim)
  rintro v M1 aP bL aD
  have gF:=aN aP (fun _ _ h=>h) hl
  have mC:=hg.ext aP
  simp only [List.cons_append,List.nil_append,aB,aE] at bL
  obtain ⟨_,la,lc,rfl,hlc,_,eE⟩:=aI (by decide) (fun _ _ h=>yA h) aD
  have ag4:fo.length=7:=rfl
  simp +contextual only [go_sem,ak,sevalprocAttr,ag4]
  by_cases hn7:n=7
  ·subst hn7
   simp +contextual only [go_sem,ak,sevalprocAttr]
   have vy:ei en (f+1) 7 op t=gN en (uK en f op) t:=rfl
   refine uf [(b4,_)] j6 (vy.trans (Rs.bind_ok _)) dh (fun h=>QU mC gF (KY ih h0 h1) h T4) ?_
   rintro v M2 x r lv2 aX aQ ay ft ⟨cs,rfl,hx⟩
   obtain ⟨s,rfl,pm,_⟩:=cb hx
   simp only [List.cons_append,List.nil_append,aB,aE] at aQ
   simp +contextual only [go_sem,ak,sevalprocAttr,aQ,cN,pm]
   refine al (aM j6 rfl rfl ?_)
   exact ⟨x,r,lv2,ay,rfl,ft,rfl,_,rfl,hx⟩
  have aom:n<7:=by omega
  obtain ⟨lb,lo,cs,rfl,cC,hrl⟩:=eE n _ (Wx aom)
  obtain ⟨sg,g0,g1,g2,hsg,rP,aoL⟩:=W0 hrl cC
  have apR:¬ (n:Int)=7:=by omega
  have ij:(n:Int)<7:=by omega
  by_cases nJ:n=2
  ·subst nJ
   have Ar:=rP rfl
   subst Ar
   simp +contextual only [go_sem,ak,sevalprocAttr,bL,cN,g0,g1,g2]
   have vy:ei en (f+1) 2 op t=if bg lm t=true then (if op+1>100 then .err 4 (pF en t.tail) else (ei en f 2 (op+1) t.tail).bind fun x t=> .ok (nB 3 [x]) t) else ei en f 3 op t:=rfl
   refine jd [(b4,_)] lm gF (fun hs lv2 ft=> ?_) (fun hs lv2 ft=> ?_)
   ·rw [if_pos hs] at vy
    simp +contextual only [go_sem,ak,sevalprocAttr]
    refine dU [(b4,_)] (Lq ft h0 (by omega) T4) ?_ ?_
    ·rintro v M2 L2 aX jY aQ ⟨ea,rfl,b,rfl,Jn⟩
     rw [if_neg (by omega)] at vy
     have fV:=aN aX (fun _ _ h=>h) ft
     simp only [List.cons_append,List.nil_append,aB,aE] at aQ
     simp +contextual only [go_sem,ak,sevalprocAttr]
     have Jj:ei en f 2 (op+1) t.tail≠ .out:=fun h=>dh (by rw [vy,h];rfl)
     refine dU [(b4,_)] (ih 2 (op+1) M2 t.tail lv2 T4 (by omega) (by omega) ea (mC.ext aX) fV Jj) ?_ ?_
     ·rintro v M3 L3 bD V9 aZ ⟨x,r,lv3,ay,rfl,fV, -,cs3,rfl,hx⟩
      simp +contextual only [go_sem,ak,sevalprocAttr]
      refine am (BG 3 hx T4) ?_ (fun _ _ _ _ h=>h.elim)
      rintro v M5 dy bE ⟨cs',rfl,Hj⟩
      obtain ⟨s,rfl,pm,_⟩:=cb Hj
      simp only [List.cons_append,List.nil_append,aB,aE] at bE
      simp +contextual only [go_sem,ak,sevalprocAttr,bE,cN,pm]
      refine rf [(b4,_)] ((bD.trans dy) _ _ Jn) rfl ?_
      rw [CC h0 (by omega)]
      simp +contextual only [go_sem,ak,sevalprocAttr,bE,cN,pm]
      refine al (aM j6 rfl rfl ?_)
      exact ⟨_,r,lv3,by rw [vy,ay];rfl,rfl,aN dy (fun _ _ h=>h) fV,rfl,_,rfl,Hj⟩
     ·rintro ch M3 L3 bD V9 aZ ⟨c,a,lv3,op3,ay,rfl,rfl, -⟩
      rw [xj]
      refine ⟨rh _ _,?_⟩
      refine rf [(b4,_)] (bD _ _ Jn) rfl ?_
      refine al (aM j6 rfl rfl ?_)
      exact ⟨c,a,lv3,_,by rw [vy,ay];rfl,rfl,rfl,rfl⟩
    ·rintro ch M2 L2 aX jY aQ ⟨ea,rfl,op',rfl⟩
     rw [if_pos (by omega)] at vy
     exact HU [(b4,_)] j6 vy
   ·rw [if_neg (by simp [hs])] at vy
    simp +contextual only [go_sem,ak,sevalprocAttr]
    refine uf [(b4,_)] j6 (vy.trans (Rs.bind_ok _)) dh (fun h=>ih 3 op M1 t lv2 T4 (by omega) h0 h1 mC ft h) ?_
    rintro v M2 x r lv2 aX aQ ay ft ⟨cs,rfl,hx⟩
    obtain ⟨s,rfl,pm,_⟩:=cb hx
    simp only [List.cons_append,List.nil_append,aB,aE] at aQ
    simp +contextual only [go_sem,ak,sevalprocAttr,aQ,cN,pm]
    refine al (aM j6 rfl rfl ?_)
    exact ⟨x,r,lv2,ay,rfl,ft,rfl,_,rfl,hx⟩
  ·obtain ⟨oI,awV,j7,akK,atw⟩:=MX n aom
   obtain ⟨sb,sn,rfl⟩:=aoL (atw nJ)
   have vy:ei en (f+1) n op t=(ei en f (n+1) op t).bind fun x t=>if n=3/\bg NW t=true then Zf en x t else i8 (ei en f (n+1) op) (fd n) (t.length+1) x t:=by
    conv=>lhs;unfold ei
    rw [if_neg hn7,if_neg nJ]
   simp +contextual only [go_sem,ak,sevalprocAttr,bL,cN,g0,g1,g2,apR,ij,aC n (by omega)]
   refine uf [(b4,_)] j6 vy dh (fun h=>ih (n+1) op M1 t lv T4 (by omega) h0 h1 mC gF h) ?_
   rintro v M2 x r lv2 aX aQ ay ft ⟨cs2,rfl,hx⟩
   obtain ⟨s,rfl,pm,_⟩:=cb hx
   have g2':=ax aX g2
   simp only [List.cons_append,List.nil_append,aB,aE] at aQ
   simp +contextual only [go_sem,ak,sevalprocAttr,aQ,cN,pm,ij,g2']
   intro b6 T6 mB de u6 AC
   have AM:=j6.trans u6
   rw [akK]
   by_cases AL:n=3
   ·subst AL
    simp +contextual only [go_sem,ak,sevalprocAttr]
    refine jd [(b6,_),(b4,_)] NW ft (fun hs lv3 fV=> ?_) (fun hs lv3 fV=> ?_)
    ·rw [if_pos ⟨rfl,hs⟩] at ay
     unfold Zf at ay
     simp +contextual only [go_sem,ak,sevalprocAttr]
     refine jd [(b6,_),(b4,_)] lm fV (fun mU lv4 jJ=> ?_) (fun mU lv4 jJ=> ?_)
     ·rw [if_pos mU] at ay
      simp +contextual only [go_sem,ak,sevalprocAttr]
      intro b7 km dj
      refine KI [(b6,_),(b4,_)] AM ay jJ ?_
      intro M3 lv5 bD aZ ay gj
      simp only [List.cons_append,List.nil_append,aB,aE] at aZ
      simp +contextual only [go_sem,ak,sevalprocAttr,aZ,cN,de,pm]
      refine am (BG 16 (br bD _ _ hx) T6) ?_ (fun _ _ _ _ h=>h.elim)
      rintro v M5 dy bE ⟨cs5,rfl,Hj⟩
      obtain ⟨s5,rfl,yx,_⟩:=cb Hj
      simp only [List.cons_append,List.nil_append,aB,aE] at bE
      simp +contextual only [go_sem,ak,sevalprocAttr,bE,cN,de,yx]
      refine am (BG 3 Hj T6) ?_ (fun _ _ _ _ h=>h.elim)
      rintro v M6 dM bP ⟨cs6,rfl,hx6⟩
      obtain ⟨s6,rfl,us,_⟩:=cb hx6
      simp only [List.cons_append,List.nil_append,aB,aE] at bP
      simp +contextual only [go_sem,ak,sevalprocAttr,bP,cN,de,us]
      refine al (al (aM AM rfl rfl ?_))
      exact ⟨_,_,lv5,ay,rfl,aN (dy.trans dM) (fun _ _ h=>h) gj,rfl,_,rfl,by rw [if_pos mU];exact hx6⟩
     ·rw [if_neg (by simp [mU])] at ay
      simp +contextual only [go_sem,ak,sevalprocAttr]
      intro b7 km dj
      refine KI [(b6,_),(b4,_)] AM ay jJ ?_
      intro M3 lv5 bD aZ ay gj
      simp only [List.cons_append,List.nil_append,aB,aE] at aZ
      simp +contextual only [go_sem,ak,sevalprocAttr,aZ,cN,de,pm]
      refine am (BG 16 (br bD _ _ hx) T6) ?_ (fun _ _ _ _ h=>h.elim)
      rintro v M5 dy bE ⟨cs5,rfl,Hj⟩
      obtain ⟨s5,rfl,yx,_⟩:=cb Hj
      simp only [List.cons_append,List.nil_append,aB,aE] at bE
      simp +contextual only [go_sem,ak,sevalprocAttr,bE,cN,de,yx]
      refine al (al (aM AM rfl rfl ?_))
      exact ⟨_,_,lv5,ay,rfl,aN dy (fun _ _ h=>h) gj,rfl,_,rfl,by rw [if_neg (by simp [mU])];exact Hj⟩
    ·rw [if_neg (by simp [hs])] at ay
     simp +contextual only [go_sem,ak,sevalprocAttr]
     refine iL (fun m e ds h=>ds=[]/\e 0=.pointer (some ⟨pb,0,none⟩)/\e 1=.int .i64 ((3:Nat):Int)/\e 4=.pointer (some ⟨b4,0,none⟩)/\e 5=.slice (some ⟨lb,lo,none⟩) 7 lc/\e 6=.pointer (some ⟨b6,0,none⟩)/\
      ∃ M' x' t' lv' c6 c4,bG M2 M'/\h=⟨T6,M',(b6,c6)::(b4,c4)::pL pb lv' en op,[]⟩/\c4.length=7/\RX M' x' c6/\RS M' gT 3 t' lv'/\M' b6=none/\M' b4=none/\M' pb=none/\ei en (f+1) 3 op t=i8 (ei en f (3+1) op) (fd 3) m x' t')
      ⟨r.length+1,rfl,by simp only [go_sem,ak,sevalprocAttr],by simp only [go_sem,ak,sevalprocAttr],by simp only [go_sem,ak,sevalprocAttr],by simp only [go_sem,ak,sevalprocAttr],by simp only [go_sem,ak,sevalprocAttr],M2,x,r,lv3,_,_,bG.rfl',rfl,rfl,hx,fV,mB,aQ.1,aQ.2,ay⟩ ?_
     rintro m e ds h ⟨rfl,e0,e1,e4,e5,e6,M3,x',t',lv',c6,c4,bD,rfl,CA,xl,ns,n6,n4,np,ay⟩
     obtain ⟨s',rfl,pm,_⟩:=cb xl
     obtain ⟨q0,q1,q2,q3,q4,q5,q6,rfl⟩:=DH CA
     have k0:=ax (aX.trans bD) g0
     have k1:=ax (aX.trans bD) g1
     have k2:=ax (aX.trans bD) g2
     have acg:=aN (aX.trans bD) (fun _ _ h=>h) hsg
     cases m with
     | zero=>exact (dh (ay.trans rfl)).elim
     | succ m=>
      simp only [i8] at ay
      simp +contextual only [go_sem,ak,sevalprocAttr,e0,e1,e4,e5,e6,ij,k0,k1,k2,n6,n4,np,cN,de,pm]
      refine dU [(b6,_),(b4,_)] (up ns acg T6) ?_ (fun _ _ _ _ _ _ h=>h.elim)
      rintro v M4 L4 ce Q0 bH ⟨rfl,rfl,lv5,rfl,gj⟩
      cases hj:bJ (fd 3).signs t' with
      | none=>
       rw [hj] at ay gj
       simp only [yN,E0] at ay gj ⊢
       simp +contextual only [go_sem,ak,sevalprocAttr,e0,e1,e4,e5,e6,ij,k0,k1,k2,n6,n4,np,cN,de,pm,yN]
       refine al (al (aM AM rfl rfl ?_))
       exact ⟨x',t',lv5,ay,rfl,gj,rfl,_,rfl,xl⟩
      | some j=>
       rw [hj] at ay gj
       simp only [yN,E0] at ay gj ⊢
       have lL:=zC hj
       have G8:¬ (j:Int)<0:=by omega
       have hwk:IntKind.i64.wrap ((fd 3).kind+(j:Int))=(fd 3).kind+(j:Int):=eZ (by omega) (by omega)
       simp +contextual only [go_sem,ak,sevalprocAttr,e0,e1,e4,e5,e6,ij,k0,k1,k2,n6,n4,np,cN,de,pm,G8]
       refine eR ⟨T,M4,[(b6,_)],[]⟩ (fE [] bG.rfl' n6 trivial) ?_
       simp +contextual only [go_sem,ak,sevalprocAttr,e0,e1,e4,e5,e6,ij,k0,k1,k2,n6,n4,np,cN,de,pm,G8,hwk,aC 3 (by omega)]
       refine uf [(b6,_),(b4,_)] AM ay dh (fun h=>ih (3+1) op M4 t'.tail lv5 T6 (by omega) h0 h1 ((mC.ext aX).ext bD) gj h) ?_
       rintro v M5 y r5 lv6 dy bE ay gq ⟨cs5,rfl,hy⟩
       simp only [List.cons_append,List.nil_append,aB,aE] at bE
       simp +contextual only [go_sem,ak,sevalprocAttr]
       refine ⟨fE [] dy bE.1 trivial,?_⟩
       refine am (Jt ((fd 3).kind+(j:Int)) (br dy _ _ xl) hy T6) ?_ (fun _ _ _ _ h=>h.elim)
       rintro v M6 dM bP ⟨cs6,rfl,Uz⟩
       obtain ⟨s6,rfl,us,_⟩:=cb Uz
       simp only [List.cons_append,List.nil_append,aB,aE] at bP
       have k2':=ax (dy.trans dM) k2
       simp +contextual only [go_sem,ak,sevalprocAttr]
       refine ⟨fE [] (dy.trans dM) bP.1 trivial,?_⟩
       simp +contextual only [go_sem,ak,sevalprocAttr,e0,e1,e4,e5,e6,ij,bP,cN,de,us,k2']
       by_cases ho:(fd 3).once=true
       ·rw [if_pos ho] at ay
        simp +contextual only [go_sem,ak,sevalprocAttr,e0,e1,e4,e5,e6,ij,bP,cN,de,us,k2',ho]
        refine al (al (aM AM rfl rfl ?_))
        exact ⟨_,r5,lv6,ay,rfl,aN dM (fun _ _ h=>h) gq,rfl,_,rfl,Uz⟩
       ·rw [if_neg ho] at ay
        simp +contextual only [go_sem,ak,sevalprocAttr,e0,e1,e4,e5,e6,ij,bP,cN,de,us,k2',ho]
        rw [fq]
        refine aA ⟨m,by omega,rfl,?_,?_,?_,?_,?_,M6,_,r5,lv6,_,_,(bD.trans dy).trans dM,rfl,rfl,Uz,aN dM (fun _ _ h=>h) gq,bP.1,bP.2.1,bP.2.2,ay⟩
        all_goals simp only [e0,e1,e4,e5,e6,go_sem,ak,sevalprocAttr]
   ·rw [if_neg (fun h=>AL h.1)] at ay
    simp +contextual only [go_sem,ak,sevalprocAttr,AL]
    refine iL (fun m e ds h=>ds=[]/\e 0=.pointer (some ⟨pb,0,none⟩)/\e 1=.int .i64 (n:Int)/\e 4=.pointer (some ⟨b4,0,none⟩)/\e 5=.slice (some ⟨lb,lo,none⟩) 7 lc/\e 6=.pointer (some ⟨b6,0,none⟩)/\
     ∃ M' x' t' lv' c6 c4,bG M2 M'/\h=⟨T6,M',(b6,c6)::(b4,c4)::pL pb lv' en op,[]⟩/\c4.length=7/\RX M' x' c6/\RS M' gT 3 t' lv'/\M' b6=none/\M' b4=none/\M' pb=none/\ei en (f+1) n op t=i8 (ei en f (n+1) op) (fd n) m x' t')
     ⟨r.length+1,rfl,by simp only [go_sem,ak,sevalprocAttr],by simp only [go_sem,ak,sevalprocAttr],by simp only [go_sem,ak,sevalprocAttr],by simp only [go_sem,ak,sevalprocAttr],by simp only [go_sem,ak,sevalprocAttr],M2,x,r,lv2,_,_,bG.rfl',rfl,rfl,hx,ft,mB,aQ.1,aQ.2,ay⟩ ?_
    rintro m e ds h ⟨rfl,e0,e1,e4,e5,e6,M3,x',t',lv',c6,c4,bD,rfl,CA,xl,ns,n6,n4,np,ay⟩
    obtain ⟨s',rfl,pm,_⟩:=cb xl
    obtain ⟨q0,q1,q2,q3,q4,q5,q6,rfl⟩:=DH CA
    have k0:=ax (aX.trans bD) g0
    have k1:=ax (aX.trans bD) g1
    have k2:=ax (aX.trans bD) g2
    have acg:=aN (aX.trans bD) (fun _ _ h=>h) hsg
    cases m with
    | zero=>exact (dh (ay.trans rfl)).elim
    | succ m=>
     simp only [i8] at ay
     simp +contextual only [go_sem,ak,sevalprocAttr,e0,e1,e4,e5,e6,ij,k0,k1,k2,n6,n4,np,cN,de,pm]
     refine dU [(b6,_),(b4,_)] (up ns acg T6) ?_ (fun _ _ _ _ _ _ h=>h.elim)
     rintro v M4 L4 ce Q0 bH ⟨rfl,rfl,lv5,rfl,gj⟩
     cases hj:bJ (fd n).signs t' with
     | none=>
      rw [hj] at ay gj
      simp only [yN,E0] at ay gj ⊢
      simp +contextual only [go_sem,ak,sevalprocAttr,e0,e1,e4,e5,e6,ij,k0,k1,k2,n6,n4,np,cN,de,pm,yN]
      refine al (al (aM AM rfl rfl ?_))
      exact ⟨x',t',lv5,ay,rfl,gj,rfl,_,rfl,xl⟩
     | some j=>
      rw [hj] at ay gj
      simp only [yN,E0] at ay gj ⊢
      have lL:=zC hj
      have G8:¬ (j:Int)<0:=by omega
      have hwk:IntKind.i64.wrap ((fd n).kind+(j:Int))=(fd n).kind+(j:Int):=eZ (by omega) (by omega)
      simp +contextual only [go_sem,ak,sevalprocAttr,e0,e1,e4,e5,e6,ij,k0,k1,k2,n6,n4,np,cN,de,pm,G8]
      refine eR ⟨T,M4,[(b6,_)],[]⟩ (fE [] bG.rfl' n6 trivial) ?_
      simp +contextual only [go_sem,ak,sevalprocAttr,e0,e1,e4,e5,e6,ij,k0,k1,k2,n6,n4,np,cN,de,pm,G8,hwk,aC n (by omega)]
      refine uf [(b6,_),(b4,_)] AM ay dh (fun h=>ih (n+1) op M4 t'.tail lv5 T6 (by omega) h0 h1 ((mC.ext aX).ext bD) gj h) ?_
      rintro v M5 y r5 lv6 dy bE ay gq ⟨cs5,rfl,hy⟩
      simp only [List.cons_append,List.nil_append,aB,aE] at bE
      simp +contextual only [go_sem,ak,sevalprocAttr]
      refine ⟨fE [] dy bE.1 trivial,?_⟩
      refine am (Jt ((fd n).kind+(j:Int)) (br dy _ _ xl) hy T6) ?_ (fun _ _ _ _ h=>h.elim)
      rintro v M6 dM bP ⟨cs6,rfl,Uz⟩
      obtain ⟨s6,rfl,us,_⟩:=cb Uz
      simp only [List.cons_append,List.nil_append,aB,aE] at bP
      have k2':=ax (dy.trans dM) k2
      simp +contextual only [go_sem,ak,sevalprocAttr]
      refine ⟨fE [] (dy.trans dM) bP.1 trivial,?_⟩
      simp +contextual only [go_sem,ak,sevalprocAttr,e0,e1,e4,e5,e6,ij,bP,cN,de,us,k2']
      by_cases ho:(fd n).once=true
      ·rw [if_pos ho] at ay
       simp +contextual only [go_sem,ak,sevalprocAttr,e0,e1,e4,e5,e6,ij,bP,cN,de,us,k2',ho]
       refine al (al (aM AM rfl rfl ?_))
       exact ⟨_,r5,lv6,ay,rfl,aN dM (fun _ _ h=>h) gq,rfl,_,rfl,Uz⟩
      ·rw [if_neg ho] at ay
       simp +contextual only [go_sem,ak,sevalprocAttr,e0,e1,e4,e5,e6,ij,bP,cN,de,us,k2',ho]
       rw [fq]
       refine aA ⟨m,by omega,rfl,?_,?_,?_,?_,?_,M6,_,r5,lv6,_,_,(bD.trans dy).trans dM,rfl,rfl,Uz,aN dM (fun _ _ h=>h) gq,bP.1,bP.2.1,bP.2.2,ay⟩
       all_goals simp only [e0,e1,e4,e5,e6,go_sem,ak,sevalprocAttr]
abbrev xt:Bs:=[97,115]
abbrev NV:Bs:=[111,110]
abbrev hF:Bs:=[106,111,105,110]
abbrev Cp:Bs:=[115,101,109,105]
abbrev Bg:Bs:=[97,110,116,105]
abbrev B2:Bs:=[108,101,102,116]
abbrev l7:Bs:=[117,110,105,111,110]
abbrev jE:Bs:=[101,120,99,101,112,116]
abbrev qP:Bs:=[97,108,108]
abbrev JZ:Bs:=[98,111,111,108]
abbrev Vq:Bs:=[105,110,116]
abbrev Ky:Bs:=[116,101,120,116]
def jh:X:=nB 0 []
theorem lB {M:aV}:RX M jh [.int .i64 0,.int .i64 0,.int .i64 0,st [],st [],st [],.slice none 0 0]:=FC ⟨Nat.zero_le _,[],.inl ⟨_,_,rfl,rfl,fun _=>rfl⟩,rfl⟩
def asM (en:Int)(t:List Tk):Rs Bs:=if bg xt t=true then iE en t.tail else .ok [] t
def su (en:Int)(ex:List Tk ->Rs X)(t:List Tk):Rs It:=(ex t).bind fun x t=>if bg xt t=true then (iE en t.tail).bind fun n t=> .ok ⟨x,n⟩ t else .ok ⟨x,[]⟩ t
def YB (i:It)(v:Value)(M:aV):Prop:=∃ cs,v=.agg ⟨cs⟩/\xQ M i cs
theorem V5 {M:aV}{pb:Nat}{aS:List Tk}{lv:Value}{en op:Int}{ex:List Tk ->Rs X}(hg:fO M)(hl:RS M gT 3 aS lv)(jb:Zq en pb ex op)(dh:su en ex aS≠ .out)(T:Tm):
 ep Tryz.prog 185 [.pointer (some ⟨pb,0,none⟩)] T M (pL pb lv en op) [] (fP pb en op YB (su en ex aS)) (gM pb en (su en ex aS)):=by
 refine aT mx abO Tryz.func185 rfl (by rw [age];exact Nat.le_of_ble_eq_true rfl) (dr:=YS) (by kernel_rfl) ajS ?_
 intro bN _
 simp only [aE] at bN
 simp +contextual only [go_sem,ak,sevalprocAttr]
 intro b2 T2 eG cr fu ju
 refine cq [(b2,_)] fu rfl dh (fun h=>jb M _ lv T2 hg hl h) ?_
 rintro v M1 x t lv1 aP bL ay gF ⟨cs,rfl,hx⟩
 obtain ⟨s,rfl,h1,_⟩:=cb hx
 simp only [List.cons_append,List.nil_append,aB,aE] at bL
 simp +contextual only [go_sem,ak,sevalprocAttr,bL,cr,h1]
 intro b3 T3 fh bT fD ja
 have hT:=fu.trans fD
 refine jd [(b3,_),(b2,_)] xt gF (fun hs lv2 ft=> ?_) (fun hs lv2 ft=> ?_)
 ·rw [if_pos hs] at ay
  simp +contextual only [go_sem,ak,sevalprocAttr]
  refine cq [(b3,_),(b2,_)] hT ay dh (fun _=>iK (hg.ext aP) ft T3) ?_
  rintro v M2 n t2 lv3 aX aQ ay fV rfl
  simp only [List.cons_append,List.nil_append,aB,aE] at aQ
  simp +contextual only [go_sem,ak,sevalprocAttr,aQ,cr,bT,h1]
  refine al (al (aM hT rfl rfl ?_))
  exact ⟨_,_,lv3,ay,rfl,fV,rfl,_,rfl,_,br aX _ _ hx,rfl⟩
 ·rw [if_neg (by simp [hs])] at ay
  simp +contextual only [go_sem,ak,sevalprocAttr,bL,fh,cr,bT,h1]
  refine al (al (aM hT rfl rfl ?_))
  exact ⟨_,_,lv2,ay,rfl,ft,rfl,_,rfl,_,hx,rfl⟩
def jC (en:Int)(ex:List Tk ->Rs X)(k:Int)(t:List Tk):Rs So:=(iE en t).bind fun n t=>(asM en t).bind fun a t=>
 if k≠1 then (bY en [NV] t).bind fun _ t=>(ex t).bind fun x t=> .ok ⟨k,n,a,x⟩ t else .ok ⟨k,n,a,jh⟩ t
def afV (i:So)(v:Value)(M:aV):Prop:=∃ cs,v=.agg ⟨cs⟩/\D1 M i cs
theorem xH {M:aV}{pb:Nat}{aS:List Tk}{lv:Value}{en op k:Int}{ex:List Tk ->Rs X}(hg:fO M)(hl:RS M gT 3 aS lv)(jb:Zq en pb ex op)(dh:jC en ex k aS≠ .out)(T:Tm):
 ep Tryz.prog 186 [.pointer (some ⟨pb,0,none⟩),.int .i64 k] T M (pL pb lv en op) [] (fP pb en op afV (jC en ex k aS)) (gM pb en (jC en ex k aS)):=by
 refine aT mx abJ Tryz.func186 rfl (by rw [aib];exact Nat.le_of_ble_eq_true rfl) (dr:=ZV) (by kernel_rfl) aiW ?_
 intro bN _
 simp only [aE] at bN
 simp +contextual only [go_sem,ak,sevalprocAttr]
 intro b2 T2 eG cr fu ju
 refine cq [(b2,_)] fu rfl dh (fun _=>iK hg hl T2) ?_
 rintro v M1 n t lv1 aP bL ay gF rfl
 simp only [List.cons_append,List.nil_append,aB,aE] at bL
 simp +contextual only [go_sem,ak,sevalprocAttr,bL,cr]
 intro b3 T3 fh bT fD ja
 have hT:=fu.trans fD
 refine jd [(b3,_),(b2,_)] xt gF (fun hs lv2 ft=> ?_) (fun hs lv2 ft=> ?_)
 ·unfold asM at ay
  rw [if_pos hs] at ay
  simp +contextual only [go_sem,ak,sevalprocAttr]
  refine cq [(b3,_),(b2,_)] hT ay dh (fun _=>iK (hg.ext aP) ft T3) ?_
  rintro v M2 a t2 lv3 aX aQ ay fV rfl
  simp only [List.cons_append,List.nil_append,aB,aE] at aQ
  by_cases hk:k=1
  ·subst hk
   rw [if_neg (fun h=>h rfl)] at ay
   simp +contextual only [go_sem,ak,sevalprocAttr,aQ,cr,bT]
   refine al (al (aM hT rfl rfl ?_))
   exact ⟨_,_,lv3,ay,rfl,fV,rfl,_,rfl,_,lB,rfl⟩
  ·rw [if_pos hk] at ay
   simp +contextual only [go_sem,ak,sevalprocAttr,aQ,cr,bT,hk]
   intro b4 iR cN
   refine eg [(b3,_),(b2,_)] hT ay fV ?_
   intro M3 lv4 bD aZ ay jJ
   simp +contextual only [go_sem,ak,sevalprocAttr]
   refine cq [(b3,_),(b2,_)] hT ay dh (fun h=>jb M3 _ lv4 T3 (((hg.ext aP).ext aX).ext bD) jJ h) ?_
   rintro v M4 x t4 lv5 ce bH ay gj ⟨cs,rfl,hx⟩
   obtain ⟨s,rfl,h1,_⟩:=cb hx
   simp only [List.cons_append,List.nil_append,aB,aE] at bH
   simp +contextual only [go_sem,ak,sevalprocAttr,bH,cr,bT,h1]
   refine al (al (aM hT rfl rfl ?_))
   exact ⟨_,_,lv5,ay,rfl,gj,rfl,_,rfl,_,hx,rfl⟩
 ·unfold asM at ay
  rw [if_neg (by simp [hs])] at ay
  by_cases hk:k=1
  ·subst hk
   simp only [Rs.bind] at ay
   rw [if_neg (fun h=>h rfl)] at ay
   simp +contextual only [go_sem,ak,sevalprocAttr,bL,fh,cr,bT]
   refine al (al (aM hT rfl rfl ?_))
   exact ⟨_,_,lv2,ay,rfl,ft,rfl,_,rfl,_,lB,rfl⟩
  ·have ay:jC en ex k aS=(bY en [NV] t).bind fun _ t=>(ex t).bind fun x t=> .ok ⟨k,n,[],x⟩ t:=ay.trans (if_pos hk)
   simp +contextual only [go_sem,ak,sevalprocAttr,bL,fh,cr,bT,hk]
   intro b4 iR cN
   refine eg [(b3,_),(b2,_)] hT ay ft ?_
   intro M3 lv4 bD aZ ay jJ
   simp +contextual only [go_sem,ak,sevalprocAttr]
   refine cq [(b3,_),(b2,_)] hT ay dh (fun h=>jb M3 _ lv4 T3 ((hg.ext aP).ext bD) jJ h) ?_
   rintro v M4 x t4 lv5 ce bH ay gj ⟨cs,rfl,hx⟩
   obtain ⟨s,rfl,h1,_⟩:=cb hx
   simp only [List.cons_append,List.nil_append,aB,aE] at bH
   simp +contextual only [go_sem,ak,sevalprocAttr,bH,cr,bT,h1]
   refine al (al (aM hT rfl rfl ?_))
   exact ⟨_,_,lv5,ay,rfl,gj,rfl,_,rfl,_,hx,rfl⟩
def iF:List Bs:=[hF,Cp,Bg,B2]
def mg (en:Int)(t:List Tk):Rs Int:=match bJ iF t with
 | none=> .ok 0 t
 | some j=>if j=0 then .ok 2 t.tail else (bY en [hF] t.tail).bind fun _ t=> .ok (2+j) t
theorem eB {en:Int}{l:List Bs}{t:List Tk}:bY en l t≠ .out:=by
 induction l generalizing t with
 | nil=>simp [bY]
 | cons s l ih=>
  simp only [bY]
  split
  ·exact ih
  ·simp
theorem Fx {en:Int}{t:List Tk}:mg en t≠ .out:=by
 unfold mg
 split
 ·simp
 ·split
  ·simp
  ·intro h
   cases hn:bY en [hF] t.tail with
   | out=>exact eB hn
   | ok a r=>rw [hn] at h;cases h
   | err e a=>rw [hn] at h;cases h
theorem Kq {M:aV}{pb:Nat}{aS:List Tk}{lv:Value}{en op:Int}(hl:RS M gT 3 aS lv)(T:Tm):
 ep Tryz.prog 187 [.pointer (some ⟨pb,0,none⟩)] T M (pL pb lv en op) [] (fP pb en op (fun k v _=>v=.int .i64 k) (mg en aS)) (gM pb en (mg en aS)):=by
 refine aT mx Pk Tryz.func187 rfl (by rw [agr];exact Nat.le_of_ble_eq_true rfl) (dr:=Y5) (by kernel_rfl) akf ?_
 intro bN _
 simp only [aE] at bN
 simp +contextual only [go_sem,ak,sevalprocAttr]
 intro b4 iR cN
 refine bA 4 7 [(0,.pointer (some ⟨pb,0,none⟩)),(5,.slice (some ⟨b4,0,none⟩) 4 4),(6,.int .i64 4)]
  (fun i e h=>(∃ M' lv',bG M M'/\h=⟨T,M',pL pb lv' en op,[]⟩/\M' b4=some (iF.map st)/\RS M' gT 3 aS lv'/\M' pb=none)/\bJ iF aS=(bJ (iF.drop i) aS).map (·+i))
  0 (by omega) (by simp only [aG,go_sem,ak,sevalprocAttr]) (by simp only [go_sem,ak,sevalprocAttr]) (aJ fun he hb bN=>aA ⟨⟨_,lv,he,rfl,hb,aN he (fun _ _ h=>h) hl,by simpa only [aE] using bN⟩,by simp⟩) ?_
 rintro i e h hi aD ht ⟨⟨M2,lv6,aX,rfl,hw,gq,XZ⟩,ij⟩
 simp only [aG] at aD
 by_cases aF:i<4
 ·have pS:i<iF.length:=aF
  have bX:iF.drop i=iF[i]::iF.drop (i+1):=List.drop_eq_getElem_cons pS
  rw [bX] at ij
  have hx:aL M2 ⟨b4,i,none⟩=some (st iF[i]):=by
   rw [aY hw,List.getElem?_map,List.getElem?_eq_getElem pS]
   rfl
  have O6:(i:Int)<4:=by omega
  simp +contextual only [go_sem,ak,sevalprocAttr,aD,ht,aF,O6,hx]
  refine jd [] iF[i] gq (fun hs lv7 nN=> ?_) (fun hs lv7 nN=> ?_)
  ·have Hn:bJ iF aS=some i:=by rw [ij];simp [bJ,hs]
   have Jk:IntKind.i64.wrap (2+(i:Int))=2+(i:Int):=eZ (by omega) (by omega)
   have hj:mg en aS=if i=0 then .ok 2 aS.tail else (bY en [hF] aS.tail).bind fun _ t=> .ok (2+(i:Int)) t:=by unfold mg;rw [Hn]
   have hjw:(iF[i]=hF) ↔ i=0:=by
    have:∀ i (h:i<4),(iF[i]'h=hF) ↔ i=0:=by decide
    exact this i aF
   by_cases h0:i=0
   ·rw [if_pos h0] at hj
    have G8:=hjw.2 h0
    simp +contextual only [go_sem,ak,sevalprocAttr,aD,ht,G8,Jk]
    refine aM aH.rfl' rfl rfl ?_
    exact ⟨_,_,lv7,hj,rfl,nN,rfl,by simp [h0]⟩
   ·rw [if_neg h0] at hj
    have G8:¬ iF[i]=[106,111,105,110]:=fun h=>h0 (hjw.1 h)
    simp +contextual only [go_sem,ak,sevalprocAttr,aD,ht,G8,Jk]
    intro b5 jH eO
    refine eg [] aH.rfl' hj nN ?_
    intro M3 lv8 bD aZ ay r9
    simp +contextual only [go_sem,ak,sevalprocAttr,aD,ht,Jk]
    refine aM aH.rfl' rfl rfl ?_
    exact ⟨_,_,lv8,ay,rfl,r9,rfl,rfl⟩
  ·simp +contextual only [go_sem,ak,sevalprocAttr,aD,ht]
   refine bW aF ?_ ?_ ⟨⟨M2,lv7,aX,rfl,hw,nN,XZ⟩,?_⟩
   ·simp only [aG,aD,go_sem,ak,sevalprocAttr]
   ·simp only [ht,go_sem,ak,sevalprocAttr,aC i (by omega)]
   ·rw [ij]
    simp only [bJ,hs,Bool.false_eq_true,if_false,Option.map_map]
    congr 1
    funext n
    simp only [Function.comp];omega
 ·have:i=4:=by omega
  subst this
  have Hn:bJ iF aS=none:=by rw [ij];rfl
  have UX:¬ ((4:Nat):Int)<4:=by omega
  simp +contextual only [go_sem,ak,sevalprocAttr,aD,ht,UX]
  refine aM aH.rfl' rfl rfl ?_
  exact ⟨0,aS,lv6,by unfold mg;rw [Hn],rfl,gq,rfl,rfl⟩
def nX:List Bs:=[l7,jE]
def qi (t:List Tk):Rs Int:=match bJ nX t with
 | none=> .ok 0 t
 | some k=>if bg qP t.tail=true then .ok (2*k+1) t.tail.tail else .ok (2*k+2) t.tail
theorem KB {t:List Tk}:qi t≠ .out:=by
 unfold qi
 split
 ·simp
 ·split<;>simp
theorem Qq {M:aV}{pb:Nat}{aS:List Tk}{lv:Value}{en op:Int}(hl:RS M gT 3 aS lv)(T:Tm):
 ep Tryz.prog 146 [.pointer (some ⟨pb,0,none⟩)] T M (pL pb lv en op) [] (fP pb en op (fun k v _=>v=.int .i64 k) (qi aS)) (gM pb en (qi aS)):=by
 refine aT mx Qm Tryz.func146 rfl (by rw [ahs];exact Nat.le_of_ble_eq_true rfl) (dr:=Zy) (by kernel_rfl) agR ?_
 intro bN _
 simp only [aE] at bN
 simp +contextual only [go_sem,ak,sevalprocAttr]
 intro b4 iR cN
 refine bA 2 7 [(0,.pointer (some ⟨pb,0,none⟩)),(5,.slice (some ⟨b4,0,none⟩) 2 2),(6,.int .i64 2)]
  (fun i e h=>(∃ M' lv',bG M M'/\h=⟨T,M',pL pb lv' en op,[]⟩/\M' b4=some (nX.map st)/\RS M' gT 3 aS lv'/\M' pb=none)/\bJ nX aS=(bJ (nX.drop i) aS).map (·+i))
  0 (by omega) (by simp only [aG,go_sem,ak,sevalprocAttr]) (by simp only [go_sem,ak,sevalprocAttr]) (aJ fun he hb bN=>aA ⟨⟨_,lv,he,rfl,hb,aN he (fun _ _ h=>h) hl,by simpa only [aE] using bN⟩,by simp⟩) ?_
 rintro i e h hi aD ht ⟨⟨M2,lv6,aX,rfl,hw,gq,XZ⟩,ij⟩
 simp only [aG] at aD
 by_cases aF:i<2
 ·have pS:i<nX.length:=aF
  have bX:nX.drop i=nX[i]::nX.drop (i+1):=List.drop_eq_getElem_cons pS
  rw [bX] at ij
  have hx:aL M2 ⟨b4,i,none⟩=some (st nX[i]):=by
   rw [aY hw,List.getElem?_map,List.getElem?_eq_getElem pS]
   rfl
  have O6:(i:Int)<2:=by omega
  simp +contextual only [go_sem,ak,sevalprocAttr,aD,ht,aF,O6,hx]
  refine jd [] nX[i] gq (fun hs lv7 nN=> ?_) (fun hs lv7 nN=> ?_)
  ·have Hn:bJ nX aS=some i:=by rw [ij];simp [bJ,hs]
   have xb:IntKind.i64.wrap (2*(i:Int))=2*(i:Int):=eZ (by omega) (by omega)
   have hw2:IntKind.i64.wrap (2*(i:Int)+1)=2*(i:Int)+1:=eZ (by omega) (by omega)
   have hw3:IntKind.i64.wrap (2*(i:Int)+2)=2*(i:Int)+2:=eZ (by omega) (by omega)
   have hj:qi aS=if bg qP aS.tail=true then .ok (2*(i:Int)+1) aS.tail.tail else .ok (2*(i:Int)+2) aS.tail:=by unfold qi;rw [Hn]
   simp +contextual only [go_sem,ak,sevalprocAttr,aD,ht]
   refine jd [] qP nN (fun mU lv8 r9=> ?_) (fun mU lv8 r9=> ?_)
   ·rw [if_pos mU] at hj
    simp +contextual only [go_sem,ak,sevalprocAttr,aD,ht,xb,hw2,hw3]
    refine aM aH.rfl' rfl rfl ?_
    exact ⟨_,_,lv8,hj,rfl,r9,rfl,rfl⟩
   ·rw [if_neg (by simp [mU])] at hj
    simp +contextual only [go_sem,ak,sevalprocAttr,aD,ht,xb,hw2,hw3]
    refine aM aH.rfl' rfl rfl ?_
    exact ⟨_,_,lv8,hj,rfl,r9,rfl,rfl⟩
  ·simp +contextual only [go_sem,ak,sevalprocAttr,aD,ht]
   refine bW aF ?_ ?_ ⟨⟨M2,lv7,aX,rfl,hw,nN,XZ⟩,?_⟩
   ·simp only [aG,aD,go_sem,ak,sevalprocAttr]
   ·simp only [ht,go_sem,ak,sevalprocAttr,aC i (by omega)]
   ·rw [ij]
    simp only [bJ,hs,Bool.false_eq_true,if_false,Option.map_map]
    congr 1
    funext n
    simp only [Function.comp];omega
 ·have:i=2:=by omega
  subst this
  have Hn:bJ nX aS=none:=by rw [ij];rfl
  have UX:¬ ((2:Nat):Int)<2:=by omega
  simp +contextual only [go_sem,ak,sevalprocAttr,aD,ht,UX]
  refine aM aH.rfl' rfl rfl ?_
  exact ⟨0,aS,lv6,by unfold qi;rw [Hn],rfl,gq,rfl,rfl⟩
def mE:List Bs:=[JZ,Vq,Ky]
def nh (en:Int)(t:List Tk):Rs Co:=(iE en t).bind fun n t=>match bJ mE t with
 | none=> .err 2 (pF en t)
 | some k=> .ok ⟨n,2+k⟩ t.tail
theorem jy {en:Int}{t:List Tk}:iE en t≠ .out:=by
 cases t with
 | nil=>simp [iE]
 | cons t r=>
  simp only [iE]
  split
  ·split<;>simp
  ·simp
theorem yP {en:Int}{t:List Tk}:nh en t≠ .out:=by
 unfold nh
 cases hn:iE en t with
 | out=>exact (jy hn).elim
 | ok a r=>simp only [Rs.bind];split<;>simp
 | err e a=>simp [Rs.bind]
def Y7 (i:Co)(v:Value)(M:aV):Prop:=∃ cs,v=.agg ⟨cs⟩/\uE i cs
theorem MA {M:aV}{pb:Nat}{aS:List Tk}{lv:Value}{en op:Int}(hg:fO M)(hl:RS M gT 3 aS lv)(T:Tm):
 ep Tryz.prog 98 [.pointer (some ⟨pb,0,none⟩)] T M (pL pb lv en op) [] (fP pb en op Y7 (nh en aS)) (gM pb en (nh en aS)):=by
 refine aT mx ag5 Tryz.func98 rfl (by rw [aq9];exact Nat.le_of_ble_eq_true rfl) (dr:=akz) (by kernel_rfl) aqt ?_
 intro bN _
 simp only [aE] at bN
 simp +contextual only [go_sem,ak,sevalprocAttr]
 intro b2 T2 eG cr fu ju
 refine cq [(b2,_)] fu rfl yP (fun _=>iK hg hl T2) ?_
 rintro v M1 n t lv1 aP bL ay gF rfl
 simp only [List.cons_append,List.nil_append,aB,aE] at bL
 simp +contextual only [go_sem,ak,sevalprocAttr,bL,cr]
 intro b3 T3 fh bT fD ja b4 iR cN
 have hT:=fu.trans fD
 refine bA 3 11 [(0,.pointer (some ⟨pb,0,none⟩)),(2,.pointer (some ⟨b2,0,none⟩)),(3,.pointer (some ⟨b3,0,none⟩)),(9,.slice (some ⟨b4,0,none⟩) 3 3),(10,.int .i64 3)]
  (fun i e h=>(∃ M' lv',bG M1 M'/\h=⟨T3,M',(b3,[.string (bs n),.int .i64 0])::(b2,[.string (bs []),.int .i64 0])::pL pb lv' en op,[]⟩/\M' b4=some (mE.map st)/\RS M' gT 3 t lv'/\M' b3=none/\M' b2=none/\M' pb=none)/\bJ mE t=(bJ (mE.drop i) t).map (·+i))
  0 (by omega) (by simp only [aG,go_sem,ak,sevalprocAttr]) (by simp only [go_sem,ak,sevalprocAttr]) (aJ fun he hb bN=>aA ⟨⟨_,lv1,he,rfl,hb,aN he (fun _ _ h=>h) gF,bN.1,bN.2.1,by simpa only [aE] using bN.2.2⟩,by simp⟩) ?_
 rintro i e h hi aD ht ⟨⟨M2,lv6,aX,rfl,hw,gq,AL,nJ,XZ⟩,ij⟩
 simp only [aG] at aD
 by_cases aF:i<3
 ·have pS:i<mE.length:=aF
  have bX:mE.drop i=mE[i]::mE.drop (i+1):=List.drop_eq_getElem_cons pS
  rw [bX] at ij
  have hx:aL M2 ⟨b4,i,none⟩=some (st mE[i]):=by
   rw [aY hw,List.getElem?_map,List.getElem?_eq_getElem pS]
   rfl
  have O6:(i:Int)<3:=by omega
  simp +contextual only [go_sem,ak,sevalprocAttr,aD,ht,aF,O6,hx]
  refine jd [(b3,_),(b2,_)] mE[i] gq (fun hs lv7 nN=> ?_) (fun hs lv7 nN=> ?_)
  ·have Hn:bJ mE t=some i:=by rw [ij];simp [bJ,hs]
   have Jk:IntKind.i64.wrap (2+(i:Int))=2+(i:Int):=eZ (by omega) (by omega)
   rw [Hn] at ay
   simp +contextual only [go_sem,ak,sevalprocAttr,aD,ht,Jk,AL,nJ,XZ,cr,bT]
   refine al (al (aM hT rfl rfl ?_))
   exact ⟨_,_,lv7,ay,rfl,nN,rfl,_,rfl,rfl⟩
  ·simp +contextual only [go_sem,ak,sevalprocAttr,aD,ht]
   refine bW aF ?_ ?_ ⟨⟨M2,lv7,aX,rfl,hw,nN,AL,nJ,XZ⟩,?_⟩
   ·simp only [aG,aD,go_sem,ak,sevalprocAttr]
   ·simp only [ht,go_sem,ak,sevalprocAttr,aC i (by omega)]
   ·rw [ij]
    simp only [bJ,hs,Bool.false_eq_true,if_false,Option.map_map]
    congr 1
    funext n
    simp only [Function.comp];omega
 ·have:i=3:=by omega
  subst this
  have Hn:bJ mE t=none:=by rw [ij];rfl
  rw [Hn] at ay
  have UX:¬ ((3:Nat):Int)<3:=by omega
  simp +contextual only [go_sem,ak,sevalprocAttr,aD,ht,UX]
  refine mL [(b3,_),(b2,_)] gq ?_
  simp +contextual only [go_sem,ak,sevalprocAttr]
  exact fJ [(b3,_),(b2,_)] hT ay
def dt {α:Type}(en:Int)(g:List Tk ->Rs α):Nat ->List Tk ->Rs (List α)
 | 0,t=> .err 5 (pF en t)
 | k+1,t=>(g t).bind fun a t=>if bg ct t=true then (dt en g k t.tail).bind fun l t=> .ok (a::l) t else .ok [a] t
theorem Rs.bind_assoc {α β γ:Type}(r:Rs α)(f:α ->List Tk ->Rs β)(g:β ->List Tk ->Rs γ):(r.bind f).bind g=r.bind fun a t=>(f a t).bind g:=by cases r<;>rfl
theorem B7 {α:Type}{M:aV}{pb gf:Nat}{aS:List Tk}{lv:Value}{en op:Int}{fa fc:List Value}{g:List Tk ->Rs α}{r:aV ->α ->List Value ->Prop}{enc:α ->Value ->aV ->Prop}{C:aV ->Prop}(most:Nat)
 (K5:∀ (M:aV) (t:List Tk) (lv:Value) (T:Tm),fO M ->C M ->RS M gT 3 t lv ->g t≠ .out ->ep Tryz.prog gf (fa++fc) T M (pL pb lv en op) [] (fP pb en op enc (g t)) (gM pb en (g t)))
 (hE:∀ x v M,enc x v M ->∃ cs,v.cells.toList=cs/\r M x cs) (eF:∀ M x cs,r M x cs ->cs.length=7) (fk:∀ M x cs,r M x cs ->∀ u∈cs,u.oneCell'=true) (pk:∀ M M' x cs,bG M M' ->r M x cs ->r M' x cs)
 (hC:∀ M M',bG M M' ->C M ->C M') (Kl:C M) (Kc:most<=400) (hg:fO M) (hl:RS M gT 3 aS lv) (dh:dt en g most aS≠ .out) (T:Tm):
 ep Tryz.prog 147 [.pointer (some ⟨pb,0,none⟩),.int .i64 (most:Int),.func (.func gf) ⟨fa⟩ ⟨fc⟩] T M (pL pb lv en op) [] (fP pb en op (fun l v M=>RS M (r M) 7 l v) (dt en g most aS)) (gM pb en (dt en g most aS)):=by
 refine aT mx aar Tryz.func147 rfl (by rw [ahu];exact Nat.le_of_ble_eq_true rfl) (dr:=ZR) (by kernel_rfl) afS ?_
 intro bN _
 simp only [aE] at bN
 simp +contextual only [go_sem,ak,sevalprocAttr]
 refine iL (fun m e ds h=>ds=[]/\e 0=.pointer (some ⟨pb,0,none⟩)/\e 1=.int .i64 (most:Int)/\e 2=.func (.func gf) ⟨fa⟩ ⟨fc⟩/\
  ∃ M' t' lv' aO,m+aO.length=most/\bG M M'/\M' pb=none/\RS M' gT 3 t' lv'/\dt en g most aS=(dt en g m t').bind (fun l t=> .ok (aO++l) t)/\
   ((aO=[]/\e 7=.slice none 0 0/\h=⟨T,M',pL pb lv' en op,[]⟩)\/∃ ra rc xs,e 7=.slice ra aO.length rc/\RL (r M') aO xs/\h=⟨T,M',pL pb lv' en op,[(.slice ra aO.length rc,31,7,xs)]⟩))
  ⟨most,rfl,by simp only [go_sem,ak,sevalprocAttr],by simp only [go_sem,ak,sevalprocAttr],by simp only [go_sem,ak,sevalprocAttr],M,aS,lv,[],by simp,bG.rfl',bN,hl,by cases dt en g most aS<;>rfl,.inl ⟨rfl,by simp only [go_sem,ak,sevalprocAttr],rfl⟩⟩ ?_
 rintro m e ds h ⟨rfl,e0,e1,e2,M1,t1,lv1,aO,hm,aP,np,gF,ay,kJ⟩
 have mC:=hg.ext aP
 cases m with
 | zero=>
  have bQ:(aO.length:Int)=(most:Int):=by omega
  have mo:dt en g most aS=.err 5 (pF en t1):=ay
  rcases kJ with ⟨rfl,e7,rfl⟩ | ⟨ra,rc,xs,e7,kD,rfl⟩
  ·have bQ:(0:Int)=(most:Int):=by simpa using bQ
   simp +contextual only [go_sem,ak,sevalprocAttr,e0,e1,e2,e7,bQ]
   refine mL [] gF ?_
   simp +contextual only [go_sem,ak,sevalprocAttr]
   exact fJ [] aH.rfl' mo
  ·simp +contextual only [go_sem,ak,sevalprocAttr,e0,e1,e2,e7,bQ]
   refine mL [] gF ?_
   simp +contextual only [go_sem,ak,sevalprocAttr]
   exact fJ [] aH.rfl' mo
 | succ m=>
  have bQ:¬ (aO.length:Int)=(most:Int):=by omega
  simp only [dt,Rs.bind_assoc] at ay
  rcases kJ with ⟨rfl,e7,rfl⟩ | ⟨ra,rc,xs,e7,kD,rfl⟩
  ·have bQ:¬ (0:Int)=(most:Int):=by simpa using bQ
   simp +contextual only [go_sem,ak,sevalprocAttr,e0,e1,e2,e7,bQ]
   refine cq [] aH.rfl' ay dh (fun h=>K5 M1 t1 lv1 T mC (hC _ _ aP Kl) gF h) ?_
   rintro v M2 a t2 lv2 aX aQ ay ft hv
   obtain ⟨cs,gU,hr⟩:=hE _ _ _ hv
   have dw:=eF _ _ _ hr
   simp only [List.cons_append,List.nil_append,aB,aE] at aQ
   have jR:=gU
   simp only [Value.cells] at jR
   simp +contextual only [go_sem,ak,sevalprocAttr,e0,e1,e2,e7,gU,jR,dw,aQ]
   intro b hb mP
   refine nb EP GU (.slice _ 1 _ _ _ Tryz.underlying25 (cT [] hb trivial (by rw [dw])) (fk _ _ _ hr)) (by rw [dw];decide) ?_
   intro ra rm rc ky
   have jO:rm=1:=by rw [dw] at ky;omega
   subst jO
   simp +contextual only [go_sem,ak,sevalprocAttr,e0,e1,e2]
   refine jd [(b,_)] ct ft (fun hs lv3 fV=> ?_) (fun hs lv3 fV=> ?_)
   ·rw [if_pos hs,Rs.bind_assoc] at ay
    simp +contextual only [go_sem,ak,sevalprocAttr,e0,e1,e2]
    rw [fq]
    refine al (aA ⟨m,by omega,rfl,?_,?_,?_,M2,t2.tail,lv3,[a],by simp only [List.length_cons,List.length_nil] at hm ⊢;omega,aP.trans aX,aQ,fV,ay,.inr ⟨ra,rc,cs,?_,cP hr,rfl⟩⟩)
    all_goals simp only [e0,e1,e2,go_sem,ak,sevalprocAttr]
   ·rw [if_neg (by simp [hs])] at ay
    simp +contextual only [go_sem,ak,sevalprocAttr,e0,e1,e2]
    refine al (dn fun M3 bD aZ j7=>aM aH.rfl' rfl rfl ?_)
    exact ⟨[a],t2,lv3,ay,rfl,aN bD (fun _ _ h=>h) fV,rfl,⟨by simp,cs,j7,cP (pk _ _ _ _ bD hr)⟩⟩
  ·simp +contextual only [go_sem,ak,sevalprocAttr,e0,e1,e2,e7,bQ]
   refine cq [] aH.rfl' ay dh (fun h=>K5 M1 t1 lv1 T mC (hC _ _ aP Kl) gF h) ?_
   rintro v M2 a t2 lv2 aX aQ ay ft hv
   obtain ⟨cs,gU,hr⟩:=hE _ _ _ hv
   have dw:=eF _ _ _ hr
   have nr:=fI (eF M1) kD
   have Dl:RL (r M2) aO xs:=dZ (fun x cs h=>pk _ _ _ _ aX h) kD
   simp only [List.cons_append,List.nil_append,aB,aE] at aQ
   have jR:=gU
   simp only [Value.cells] at jR
   simp +contextual only [go_sem,ak,sevalprocAttr,e0,e1,e2,e7,gU,jR,dw,aQ]
   intro b hb mP
   refine gi EP GU (.slice _ 1 _ _ _ Tryz.underlying25 (cT [] hb trivial (by rw [dw])) (fk _ _ _ hr)) (by rw [dw,nr];omega) ?_
   intro ra' rm rc' ky
   have jO:rm=(aO++[a]).length:=by
    rw [dw,nr] at ky
    rw [List.length_append,List.length_cons,List.length_nil]
    omega
   subst jO
   have cy:=dx Dl (cP hr)
   simp +contextual only [go_sem,ak,sevalprocAttr,e0,e1,e2]
   refine jd [(b,_)] ct ft (fun hs lv3 fV=> ?_) (fun hs lv3 fV=> ?_)
   ·rw [if_pos hs,Rs.bind_assoc] at ay
    simp +contextual only [go_sem,ak,sevalprocAttr,e0,e1,e2]
    rw [fq]
    refine al (aA ⟨m,by omega,rfl,?_,?_,?_,M2,t2.tail,lv3,aO++[a],by rw [List.length_append];simp only [List.length_cons,List.length_nil];omega,aP.trans aX,aQ,fV,?_,.inr ⟨ra',rc',xs++cs,?_,cy,rfl⟩⟩)
    ·simp only [e0,e1,e2,go_sem,ak,sevalprocAttr]
    ·simp only [e0,e1,e2,go_sem,ak,sevalprocAttr]
    ·simp only [e0,e1,e2,go_sem,ak,sevalprocAttr]
    ·rw [ay]
     congr 1
     funext l t
     simp [Rs.bind]
    ·simp only [nS,go_sem,ak,sevalprocAttr]
   ·rw [if_neg (by simp [hs])] at ay
    simp +contextual only [go_sem,ak,sevalprocAttr,e0,e1,e2]
    refine al (dn fun M3 bD aZ j7=>aM aH.rfl' rfl rfl ?_)
    exact ⟨aO++[a],t2,lv3,ay,rfl,aN bD (fun _ _ h=>h) fV,rfl,⟨by rw [List.length_append];simp only [List.length_cons,List.length_nil];omega,xs++cs,j7,dZ (fun x cs h=>pk _ _ _ _ bD h) cy⟩⟩
theorem Io {α:Type}{M:aV}{pb gf:Nat}{aS:List Tk}{lv:Value}{en op:Int}{fa fc:List Value}{g:List Tk ->Rs α}{r:aV ->α ->List Value ->Prop}{enc:α ->Value ->aV ->Prop}{C:aV ->Prop}(most:Nat)
 (K5:∀ (M:aV) (t:List Tk) (lv:Value) (T:Tm),fO M ->C M ->RS M gT 3 t lv ->g t≠ .out ->ep Tryz.prog gf (fa++fc) T M (pL pb lv en op) [] (fP pb en op enc (g t)) (gM pb en (g t)))
 (hE:∀ x v M,enc x v M ->∃ cs,v.cells.toList=cs/\r M x cs) (eF:∀ M x cs,r M x cs ->cs.length=2) (fk:∀ M x cs,r M x cs ->∀ u∈cs,u.oneCell'=true) (pk:∀ M M' x cs,bG M M' ->r M x cs ->r M' x cs)
 (hC:∀ M M',bG M M' ->C M ->C M') (Kl:C M) (Kc:most<=400) (hg:fO M) (hl:RS M gT 3 aS lv) (dh:dt en g most aS≠ .out) (T:Tm):
 ep Tryz.prog 97 [.pointer (some ⟨pb,0,none⟩),.int .i64 (most:Int),.func (.func gf) ⟨fa⟩ ⟨fc⟩] T M (pL pb lv en op) [] (fP pb en op (fun l v M=>RS M (r M) 2 l v) (dt en g most aS)) (gM pb en (dt en g most aS)):=by
 refine aT mx agG Tryz.func97 rfl (by rw [arE];exact Nat.le_of_ble_eq_true rfl) (dr:=aid) (by kernel_rfl) at8 ?_
 intro bN _
 simp only [aE] at bN
 simp +contextual only [go_sem,ak,sevalprocAttr]
 refine iL (fun m e ds h=>ds=[]/\e 0=.pointer (some ⟨pb,0,none⟩)/\e 1=.int .i64 (most:Int)/\e 2=.func (.func gf) ⟨fa⟩ ⟨fc⟩/\
  ∃ M' t' lv' aO,m+aO.length=most/\bG M M'/\M' pb=none/\RS M' gT 3 t' lv'/\dt en g most aS=(dt en g m t').bind (fun l t=> .ok (aO++l) t)/\
   ((aO=[]/\e 7=.slice none 0 0/\h=⟨T,M',pL pb lv' en op,[]⟩)\/∃ ra rc xs,e 7=.slice ra aO.length rc/\RL (r M') aO xs/\h=⟨T,M',pL pb lv' en op,[(.slice ra aO.length rc,48,2,xs)]⟩))
  ⟨most,rfl,by simp only [go_sem,ak,sevalprocAttr],by simp only [go_sem,ak,sevalprocAttr],by simp only [go_sem,ak,sevalprocAttr],M,aS,lv,[],by simp,bG.rfl',bN,hl,by cases dt en g most aS<;>rfl,.inl ⟨rfl,by simp only [go_sem,ak,sevalprocAttr],rfl⟩⟩ ?_
 rintro m e ds h ⟨rfl,e0,e1,e2,M1,t1,lv1,aO,hm,aP,np,gF,ay,kJ⟩
 have mC:=hg.ext aP
 cases m with
 | zero=>
  have bQ:(aO.length:Int)=(most:Int):=by omega
  have mo:dt en g most aS=.err 5 (pF en t1):=ay
  rcases kJ with ⟨rfl,e7,rfl⟩ | ⟨ra,rc,xs,e7,kD,rfl⟩
  ·have bQ:(0:Int)=(most:Int):=by simpa using bQ
   simp +contextual only [go_sem,ak,sevalprocAttr,e0,e1,e2,e7,bQ]
   refine mL [] gF ?_
   simp +contextual only [go_sem,ak,sevalprocAttr]
   exact fJ [] aH.rfl' mo
  ·simp +contextual only [go_sem,ak,sevalprocAttr,e0,e1,e2,e7,bQ]
   refine mL [] gF ?_
   simp +contextual only [go_sem,ak,sevalprocAttr]
   exact fJ [] aH.rfl' mo
 | succ m=>
  have bQ:¬ (aO.length:Int)=(most:Int):=by omega
  simp only [dt,Rs.bind_assoc] at ay
  rcases kJ with ⟨rfl,e7,rfl⟩ | ⟨ra,rc,xs,e7,kD,rfl⟩
  ·have bQ:¬ (0:Int)=(most:Int):=by simpa using bQ
   simp +contextual only [go_sem,ak,sevalprocAttr,e0,e1,e2,e7,bQ]
   refine cq [] aH.rfl' ay dh (fun h=>K5 M1 t1 lv1 T mC (hC _ _ aP Kl) gF h) ?_
   rintro v M2 a t2 lv2 aX aQ ay ft hv
   obtain ⟨cs,gU,hr⟩:=hE _ _ _ hv
   have dw:=eF _ _ _ hr
   simp only [List.cons_append,List.nil_append,aB,aE] at aQ
   have jR:=gU
   simp only [Value.cells] at jR
   simp +contextual only [go_sem,ak,sevalprocAttr,e0,e1,e2,e7,gU,jR,dw,aQ]
   intro b hb mP
   refine nb GA F0 (.slice _ 1 _ _ _ Tryz.underlying43 (cT [] hb trivial (by rw [dw])) (fk _ _ _ hr)) (by rw [dw];decide) ?_
   intro ra rm rc ky
   have jO:rm=1:=by rw [dw] at ky;omega
   subst jO
   simp +contextual only [go_sem,ak,sevalprocAttr,e0,e1,e2]
   refine jd [(b,_)] ct ft (fun hs lv3 fV=> ?_) (fun hs lv3 fV=> ?_)
   ·rw [if_pos hs,Rs.bind_assoc] at ay
    simp +contextual only [go_sem,ak,sevalprocAttr,e0,e1,e2]
    rw [fq]
    refine al (aA ⟨m,by omega,rfl,?_,?_,?_,M2,t2.tail,lv3,[a],by simp only [List.length_cons,List.length_nil] at hm ⊢;omega,aP.trans aX,aQ,fV,ay,.inr ⟨ra,rc,cs,?_,cP hr,rfl⟩⟩)
    all_goals simp only [e0,e1,e2,go_sem,ak,sevalprocAttr]
   ·rw [if_neg (by simp [hs])] at ay
    simp +contextual only [go_sem,ak,sevalprocAttr,e0,e1,e2]
    refine al (dn fun M3 bD aZ j7=>aM aH.rfl' rfl rfl ?_)
    exact ⟨[a],t2,lv3,ay,rfl,aN bD (fun _ _ h=>h) fV,rfl,⟨by simp,cs,j7,cP (pk _ _ _ _ bD hr)⟩⟩
  ·simp +contextual only [go_sem,ak,sevalprocAttr,e0,e1,e2,e7,bQ]
   refine cq [] aH.rfl' ay dh (fun h=>K5 M1 t1 lv1 T mC (hC _ _ aP Kl) gF h) ?_
   rintro v M2 a t2 lv2 aX aQ ay ft hv
   obtain ⟨cs,gU,hr⟩:=hE _ _ _ hv
   have dw:=eF _ _ _ hr
   have nr:=fI (eF M1) kD
   have Dl:RL (r M2) aO xs:=dZ (fun x cs h=>pk _ _ _ _ aX h) kD
   simp only [List.cons_append,List.nil_append,aB,aE] at aQ
   have jR:=gU
   simp only [Value.cells] at jR
   simp +contextual only [go_sem,ak,sevalprocAttr,e0,e1,e2,e7,gU,jR,dw,aQ]
   intro b hb mP
   refine gi GA F0 (.slice _ 1 _ _ _ Tryz.underlying43 (cT [] hb trivial (by rw [dw])) (fk _ _ _ hr)) (by rw [dw,nr];omega) ?_
   intro ra' rm rc' ky
   have jO:rm=(aO++[a]).length:=by
    rw [dw,nr] at ky
    rw [List.length_append,List.length_cons,List.length_nil]
    omega
   subst jO
   have cy:=dx Dl (cP hr)
   simp +contextual only [go_sem,ak,sevalprocAttr,e0,e1,e2]
   refine jd [(b,_)] ct ft (fun hs lv3 fV=> ?_) (fun hs lv3 fV=> ?_)
   ·rw [if_pos hs,Rs.bind_assoc] at ay
    simp +contextual only [go_sem,ak,sevalprocAttr,e0,e1,e2]
    rw [fq]
    refine al (aA ⟨m,by omega,rfl,?_,?_,?_,M2,t2.tail,lv3,aO++[a],by rw [List.length_append];simp only [List.length_cons,List.length_nil];omega,aP.trans aX,aQ,fV,?_,.inr ⟨ra',rc',xs++cs,?_,cy,rfl⟩⟩)
    ·simp only [e0,e1,e2,go_sem,ak,sevalprocAttr]
    ·simp only [e0,e1,e2,go_sem,ak,sevalprocAttr]
    ·simp only [e0,e1,e2,go_sem,ak,sevalprocAttr]
    ·rw [ay]
     congr 1
     funext l t
     simp [Rs.bind]
    ·simp only [nS,go_sem,ak,sevalprocAttr]
   ·rw [if_neg (by simp [hs])] at ay
    simp +contextual only [go_sem,ak,sevalprocAttr,e0,e1,e2]
    refine al (dn fun M3 bD aZ j7=>aM aH.rfl' rfl rfl ?_)
    exact ⟨aO++[a],t2,lv3,ay,rfl,aN bD (fun _ _ h=>h) fV,rfl,⟨by rw [List.length_append];simp only [List.length_cons,List.length_nil];omega,xs++cs,j7,dZ (fun x cs h=>pk _ _ _ _ bD h) cy⟩⟩
theorem H6 {α:Type}{M:aV}{pb gf:Nat}{aS:List Tk}{lv:Value}{en op:Int}{fa fc:List Value}{g:List Tk ->Rs α}{r:aV ->α ->List Value ->Prop}{enc:α ->Value ->aV ->Prop}{C:aV ->Prop}(most:Nat)
 (K5:∀ (M:aV) (t:List Tk) (lv:Value) (T:Tm),fO M ->C M ->RS M gT 3 t lv ->g t≠ .out ->ep Tryz.prog gf (fa++fc) T M (pL pb lv en op) [] (fP pb en op enc (g t)) (gM pb en (g t)))
 (hE:∀ x v M,enc x v M ->∃ cs,v.cells.toList=cs/\r M x cs) (eF:∀ M x cs,r M x cs ->cs.length=1) (fk:∀ M x cs,r M x cs ->∀ u∈cs,u.oneCell'=true) (pk:∀ M M' x cs,bG M M' ->r M x cs ->r M' x cs)
 (hC:∀ M M',bG M M' ->C M ->C M') (Kl:C M) (Kc:most<=400) (hg:fO M) (hl:RS M gT 3 aS lv) (dh:dt en g most aS≠ .out) (T:Tm):
 ep Tryz.prog 99 [.pointer (some ⟨pb,0,none⟩),.int .i64 (most:Int),.func (.func gf) ⟨fa⟩ ⟨fc⟩] T M (pL pb lv en op) [] (fP pb en op (fun l v M=>RS M (r M) 1 l v) (dt en g most aS)) (gM pb en (dt en g most aS)):=by
 refine aT mx aig Tryz.func99 rfl (by rw [ar7];exact Nat.le_of_ble_eq_true rfl) (dr:=amb) (by kernel_rfl) atJ ?_
 intro bN _
 simp only [aE] at bN
 simp +contextual only [go_sem,ak,sevalprocAttr]
 refine iL (fun m e ds h=>ds=[]/\e 0=.pointer (some ⟨pb,0,none⟩)/\e 1=.int .i64 (most:Int)/\e 2=.func (.func gf) ⟨fa⟩ ⟨fc⟩/\
  ∃ M' t' lv' aO,m+aO.length=most/\bG M M'/\M' pb=none/\RS M' gT 3 t' lv'/\dt en g most aS=(dt en g m t').bind (fun l t=> .ok (aO++l) t)/\
   ((aO=[]/\e 7=.slice none 0 0/\h=⟨T,M',pL pb lv' en op,[]⟩)\/∃ ra rc xs,e 7=.slice ra aO.length rc/\RL (r M') aO xs/\h=⟨T,M',pL pb lv' en op,[(.slice ra aO.length rc,157,1,xs)]⟩))
  ⟨most,rfl,by simp only [go_sem,ak,sevalprocAttr],by simp only [go_sem,ak,sevalprocAttr],by simp only [go_sem,ak,sevalprocAttr],M,aS,lv,[],by simp,bG.rfl',bN,hl,by cases dt en g most aS<;>rfl,.inl ⟨rfl,by simp only [go_sem,ak,sevalprocAttr],rfl⟩⟩ ?_
 rintro m e ds h ⟨rfl,e0,e1,e2,M1,t1,lv1,aO,hm,aP,np,gF,ay,kJ⟩
 have mC:=hg.ext aP
 cases m with
 | zero=>
  have bQ:(aO.length:Int)=(most:Int):=by omega
  have mo:dt en g most aS=.err 5 (pF en t1):=ay
  rcases kJ with ⟨rfl,e7,rfl⟩ | ⟨ra,rc,xs,e7,kD,rfl⟩
  ·have bQ:(0:Int)=(most:Int):=by simpa using bQ
   simp +contextual only [go_sem,ak,sevalprocAttr,e0,e1,e2,e7,bQ]
   refine mL [] gF ?_
   simp +contextual only [go_sem,ak,sevalprocAttr]
   exact fJ [] aH.rfl' mo
  ·simp +contextual only [go_sem,ak,sevalprocAttr,e0,e1,e2,e7,bQ]
   refine mL [] gF ?_
   simp +contextual only [go_sem,ak,sevalprocAttr]
   exact fJ [] aH.rfl' mo
 | succ m=>
  have bQ:¬ (aO.length:Int)=(most:Int):=by omega
  simp only [dt,Rs.bind_assoc] at ay
  rcases kJ with ⟨rfl,e7,rfl⟩ | ⟨ra,rc,xs,e7,kD,rfl⟩
  ·have bQ:¬ (0:Int)=(most:Int):=by simpa using bQ
   simp +contextual only [go_sem,ak,sevalprocAttr,e0,e1,e2,e7,bQ]
   refine cq [] aH.rfl' ay dh (fun h=>K5 M1 t1 lv1 T mC (hC _ _ aP Kl) gF h) ?_
   rintro v M2 a t2 lv2 aX aQ ay ft hv
   obtain ⟨cs,gU,hr⟩:=hE _ _ _ hv
   have dw:=eF _ _ _ hr
   simp only [List.cons_append,List.nil_append,aB,aE] at aQ
   have jR:=gU
   simp only [Value.cells] at jR
   simp +contextual only [go_sem,ak,sevalprocAttr,e0,e1,e2,e7,gU,jR,dw,aQ]
   intro b hb mP
   refine nb OU Ud (.slice _ 1 _ _ _ Tryz.underlying65 (cT [] hb trivial (by rw [dw])) (fk _ _ _ hr)) (by rw [dw];decide) ?_
   intro ra rm rc ky
   have jO:rm=1:=by rw [dw] at ky;omega
   subst jO
   simp +contextual only [go_sem,ak,sevalprocAttr,e0,e1,e2]
   refine jd [(b,_)] ct ft (fun hs lv3 fV=> ?_) (fun hs lv3 fV=> ?_)
   ·rw [if_pos hs,Rs.bind_assoc] at ay
    simp +contextual only [go_sem,ak,sevalprocAttr,e0,e1,e2]
    rw [fq]
    refine al (aA ⟨m,by omega,rfl,?_,?_,?_,M2,t2.tail,lv3,[a],by simp only [List.length_cons,List.length_nil] at hm ⊢;omega,aP.trans aX,aQ,fV,ay,.inr ⟨ra,rc,cs,?_,cP hr,rfl⟩⟩)
    all_goals simp only [e0,e1,e2,go_sem,ak,sevalprocAttr]
   ·rw [if_neg (by simp [hs])] at ay
    simp +contextual only [go_sem,ak,sevalprocAttr,e0,e1,e2]
    refine al (dn fun M3 bD aZ j7=>aM aH.rfl' rfl rfl ?_)
    exact ⟨[a],t2,lv3,ay,rfl,aN bD (fun _ _ h=>h) fV,rfl,⟨by simp,cs,j7,cP (pk _ _ _ _ bD hr)⟩⟩
  ·simp +contextual only [go_sem,ak,sevalprocAttr,e0,e1,e2,e7,bQ]
   refine cq [] aH.rfl' ay dh (fun h=>K5 M1 t1 lv1 T mC (hC _ _ aP Kl) gF h) ?_
   rintro v M2 a t2 lv2 aX aQ ay ft hv
   obtain ⟨cs,gU,hr⟩:=hE _ _ _ hv
   have dw:=eF _ _ _ hr
   have nr:=fI (eF M1) kD
   have Dl:RL (r M2) aO xs:=dZ (fun x cs h=>pk _ _ _ _ aX h) kD
   simp only [List.cons_append,List.nil_append,aB,aE] at aQ
   have jR:=gU
   simp only [Value.cells] at jR
   simp +contextual only [go_sem,ak,sevalprocAttr,e0,e1,e2,e7,gU,jR,dw,aQ]
   intro b hb mP
   refine gi OU Ud (.slice _ 1 _ _ _ Tryz.underlying65 (cT [] hb trivial (by rw [dw])) (fk _ _ _ hr)) (by rw [dw,nr];omega) ?_
   intro ra' rm rc' ky
   have jO:rm=(aO++[a]).length:=by
    rw [dw,nr] at ky
    rw [List.length_append,List.length_cons,List.length_nil]
    omega
   subst jO
   have cy:=dx Dl (cP hr)
   simp +contextual only [go_sem,ak,sevalprocAttr,e0,e1,e2]
   refine jd [(b,_)] ct ft (fun hs lv3 fV=> ?_) (fun hs lv3 fV=> ?_)
   ·rw [if_pos hs,Rs.bind_assoc] at ay
    simp +contextual only [go_sem,ak,sevalprocAttr,e0,e1,e2]
    rw [fq]
    refine al (aA ⟨m,by omega,rfl,?_,?_,?_,M2,t2.tail,lv3,aO++[a],by rw [List.length_append];simp only [List.length_cons,List.length_nil];omega,aP.trans aX,aQ,fV,?_,.inr ⟨ra',rc',xs++cs,?_,cy,rfl⟩⟩)
    ·simp only [e0,e1,e2,go_sem,ak,sevalprocAttr]
    ·simp only [e0,e1,e2,go_sem,ak,sevalprocAttr]
    ·simp only [e0,e1,e2,go_sem,ak,sevalprocAttr]
    ·rw [ay]
     congr 1
     funext l t
     simp [Rs.bind]
    ·simp only [nS,go_sem,ak,sevalprocAttr]
   ·rw [if_neg (by simp [hs])] at ay
    simp +contextual only [go_sem,ak,sevalprocAttr,e0,e1,e2]
    refine al (dn fun M3 bD aZ j7=>aM aH.rfl' rfl rfl ?_)
    exact ⟨aO++[a],t2,lv3,ay,rfl,aN bD (fun _ _ h=>h) fV,rfl,⟨by rw [List.length_append];simp only [List.length_cons,List.length_nil];omega,xs++cs,j7,dZ (fun x cs h=>pk _ _ _ _ bD h) cy⟩⟩
theorem Oj {α:Type}{M:aV}{pb gf:Nat}{aS:List Tk}{lv:Value}{en op:Int}{fa fc:List Value}{g:List Tk ->Rs α}{r:aV ->α ->List Value ->Prop}{enc:α ->Value ->aV ->Prop}{C:aV ->Prop}(most:Nat)
 (K5:∀ (M:aV) (t:List Tk) (lv:Value) (T:Tm),fO M ->C M ->RS M gT 3 t lv ->g t≠ .out ->ep Tryz.prog gf (fa++fc) T M (pL pb lv en op) [] (fP pb en op enc (g t)) (gM pb en (g t)))
 (hE:∀ x v M,enc x v M ->∃ cs,v.cells.toList=cs/\r M x cs) (eF:∀ M x cs,r M x cs ->cs.length=3) (fk:∀ M x cs,r M x cs ->∀ u∈cs,u.oneCell'=true) (pk:∀ M M' x cs,bG M M' ->r M x cs ->r M' x cs)
 (hC:∀ M M',bG M M' ->C M ->C M') (Kl:C M) (Kc:most<=400) (hg:fO M) (hl:RS M gT 3 aS lv) (dh:dt en g most aS≠ .out) (T:Tm):
 ep Tryz.prog 149 [.pointer (some ⟨pb,0,none⟩),.int .i64 (most:Int),.func (.func gf) ⟨fa⟩ ⟨fc⟩] T M (pL pb lv en op) [] (fP pb en op (fun l v M=>RS M (r M) 3 l v) (dt en g most aS)) (gM pb en (dt en g most aS)):=by
 refine aT mx S6 Tryz.func149 rfl (by rw [ak6];exact Nat.le_of_ble_eq_true rfl) (dr:=Yl) (by kernel_rfl) afE ?_
 intro bN _
 simp only [aE] at bN
 simp +contextual only [go_sem,ak,sevalprocAttr]
 refine iL (fun m e ds h=>ds=[]/\e 0=.pointer (some ⟨pb,0,none⟩)/\e 1=.int .i64 (most:Int)/\e 2=.func (.func gf) ⟨fa⟩ ⟨fc⟩/\
  ∃ M' t' lv' aO,m+aO.length=most/\bG M M'/\M' pb=none/\RS M' gT 3 t' lv'/\dt en g most aS=(dt en g m t').bind (fun l t=> .ok (aO++l) t)/\
   ((aO=[]/\e 7=.slice none 0 0/\h=⟨T,M',pL pb lv' en op,[]⟩)\/∃ ra rc xs,e 7=.slice ra aO.length rc/\RL (r M') aO xs/\h=⟨T,M',pL pb lv' en op,[(.slice ra aO.length rc,29,3,xs)]⟩))
  ⟨most,rfl,by simp only [go_sem,ak,sevalprocAttr],by simp only [go_sem,ak,sevalprocAttr],by simp only [go_sem,ak,sevalprocAttr],M,aS,lv,[],by simp,bG.rfl',bN,hl,by cases dt en g most aS<;>rfl,.inl ⟨rfl,by simp only [go_sem,ak,sevalprocAttr],rfl⟩⟩ ?_
 rintro m e ds h ⟨rfl,e0,e1,e2,M1,t1,lv1,aO,hm,aP,np,gF,ay,kJ⟩
 have mC:=hg.ext aP
 cases m with
 | zero=>
  have bQ:(aO.length:Int)=(most:Int):=by omega
  have mo:dt en g most aS=.err 5 (pF en t1):=ay
  rcases kJ with ⟨rfl,e7,rfl⟩ | ⟨ra,rc,xs,e7,kD,rfl⟩
  ·have bQ:(0:Int)=(most:Int):=by simpa using bQ
   simp +contextual only [go_sem,ak,sevalprocAttr,e0,e1,e2,e7,bQ]
   refine mL [] gF ?_
   simp +contextual only [go_sem,ak,sevalprocAttr]
   exact fJ [] aH.rfl' mo
  ·simp +contextual only [go_sem,ak,sevalprocAttr,e0,e1,e2,e7,bQ]
   refine mL [] gF ?_
   simp +contextual only [go_sem,ak,sevalprocAttr]
   exact fJ [] aH.rfl' mo
 | succ m=>
  have bQ:¬ (aO.length:Int)=(most:Int):=by omega
  simp only [dt,Rs.bind_assoc] at ay
  rcases kJ with ⟨rfl,e7,rfl⟩ | ⟨ra,rc,xs,e7,kD,rfl⟩
  ·have bQ:¬ (0:Int)=(most:Int):=by simpa using bQ
   simp +contextual only [go_sem,ak,sevalprocAttr,e0,e1,e2,e7,bQ]
   refine cq [] aH.rfl' ay dh (fun h=>K5 M1 t1 lv1 T mC (hC _ _ aP Kl) gF h) ?_
   rintro v M2 a t2 lv2 aX aQ ay ft hv
   obtain ⟨cs,gU,hr⟩:=hE _ _ _ hv
   have dw:=eF _ _ _ hr
   simp only [List.cons_append,List.nil_append,aB,aE] at aQ
   have jR:=gU
   simp only [Value.cells] at jR
   simp +contextual only [go_sem,ak,sevalprocAttr,e0,e1,e2,e7,gU,jR,dw,aQ]
   intro b hb mP
   refine nb Iv If (.slice _ 1 _ _ _ Tryz.underlying157 (cT [] hb trivial (by rw [dw])) (fk _ _ _ hr)) (by rw [dw];decide) ?_
   intro ra rm rc ky
   have jO:rm=1:=by rw [dw] at ky;omega
   subst jO
   simp +contextual only [go_sem,ak,sevalprocAttr,e0,e1,e2]
   refine jd [(b,_)] ct ft (fun hs lv3 fV=> ?_) (fun hs lv3 fV=> ?_)
   ·rw [if_pos hs,Rs.bind_assoc] at ay
    simp +contextual only [go_sem,ak,sevalprocAttr,e0,e1,e2]
    rw [fq]
    refine al (aA ⟨m,by omega,rfl,?_,?_,?_,M2,t2.tail,lv3,[a],by simp only [List.length_cons,List.length_nil] at hm ⊢;omega,aP.trans aX,aQ,fV,ay,.inr ⟨ra,rc,cs,?_,cP hr,rfl⟩⟩)
    all_goals simp only [e0,e1,e2,go_sem,ak,sevalprocAttr]
   ·rw [if_neg (by simp [hs])] at ay
    simp +contextual only [go_sem,ak,sevalprocAttr,e0,e1,e2]
    refine al (dn fun M3 bD aZ j7=>aM aH.rfl' rfl rfl ?_)
    exact ⟨[a],t2,lv3,ay,rfl,aN bD (fun _ _ h=>h) fV,rfl,⟨by simp,cs,j7,cP (pk _ _ _ _ bD hr)⟩⟩
  ·simp +contextual only [go_sem,ak,sevalprocAttr,e0,e1,e2,e7,bQ]
   refine cq [] aH.rfl' ay dh (fun h=>K5 M1 t1 lv1 T mC (hC _ _ aP Kl) gF h) ?_
   rintro v M2 a t2 lv2 aX aQ ay ft hv
   obtain ⟨cs,gU,hr⟩:=hE _ _ _ hv
   have dw:=eF _ _ _ hr
   have nr:=fI (eF M1) kD
   have Dl:RL (r M2) aO xs:=dZ (fun x cs h=>pk _ _ _ _ aX h) kD
   simp only [List.cons_append,List.nil_append,aB,aE] at aQ
   have jR:=gU
   simp only [Value.cells] at jR
   simp +contextual only [go_sem,ak,sevalprocAttr,e0,e1,e2,e7,gU,jR,dw,aQ]
   intro b hb mP
   refine gi Iv If (.slice _ 1 _ _ _ Tryz.underlying157 (cT [] hb trivial (by rw [dw])) (fk _ _ _ hr)) (by rw [dw,nr];omega) ?_
   intro ra' rm rc' ky
   have jO:rm=(aO++[a]).length:=by
    rw [dw,nr] at ky
    rw [List.length_append,List.length_cons,List.length_nil]
    omega
   subst jO
   have cy:=dx Dl (cP hr)
   simp +contextual only [go_sem,ak,sevalprocAttr,e0,e1,e2]
   refine jd [(b,_)] ct ft (fun hs lv3 fV=> ?_) (fun hs lv3 fV=> ?_)
   ·rw [if_pos hs,Rs.bind_assoc] at ay
    simp +contextual only [go_sem,ak,sevalprocAttr,e0,e1,e2]
    rw [fq]
    refine al (aA ⟨m,by omega,rfl,?_,?_,?_,M2,t2.tail,lv3,aO++[a],by rw [List.length_append];simp only [List.length_cons,List.length_nil];omega,aP.trans aX,aQ,fV,?_,.inr ⟨ra',rc',xs++cs,?_,cy,rfl⟩⟩)
    ·simp only [e0,e1,e2,go_sem,ak,sevalprocAttr]
    ·simp only [e0,e1,e2,go_sem,ak,sevalprocAttr]
    ·simp only [e0,e1,e2,go_sem,ak,sevalprocAttr]
    ·rw [ay]
     congr 1
     funext l t
     simp [Rs.bind]
    ·simp only [nS,go_sem,ak,sevalprocAttr]
   ·rw [if_neg (by simp [hs])] at ay
    simp +contextual only [go_sem,ak,sevalprocAttr,e0,e1,e2]
    refine al (dn fun M3 bD aZ j7=>aM aH.rfl' rfl rfl ?_)
    exact ⟨aO++[a],t2,lv3,ay,rfl,aN bD (fun _ _ h=>h) fV,rfl,⟨by rw [List.length_append];simp only [List.length_cons,List.length_nil];omega,xs++cs,j7,dZ (fun x cs h=>pk _ _ _ _ bD h) cy⟩⟩
theorem Jr {α:Type}{M:aV}{pb gf:Nat}{aS:List Tk}{lv:Value}{en op:Int}{fa fc:List Value}{g:List Tk ->Rs α}{r:aV ->α ->List Value ->Prop}{enc:α ->Value ->aV ->Prop}{C:aV ->Prop}(most:Nat)
 (K5:∀ (M:aV) (t:List Tk) (lv:Value) (T:Tm),fO M ->C M ->RS M gT 3 t lv ->g t≠ .out ->ep Tryz.prog gf (fa++fc) T M (pL pb lv en op) [] (fP pb en op enc (g t)) (gM pb en (g t)))
 (hE:∀ x v M,enc x v M ->∃ cs,v.cells.toList=cs/\r M x cs) (eF:∀ M x cs,r M x cs ->cs.length=8) (fk:∀ M x cs,r M x cs ->∀ u∈cs,u.oneCell'=true) (pk:∀ M M' x cs,bG M M' ->r M x cs ->r M' x cs)
 (hC:∀ M M',bG M M' ->C M ->C M') (Kl:C M) (Kc:most<=400) (hg:fO M) (hl:RS M gT 3 aS lv) (dh:dt en g most aS≠ .out) (T:Tm):
 ep Tryz.prog 184 [.pointer (some ⟨pb,0,none⟩),.int .i64 (most:Int),.func (.func gf) ⟨fa⟩ ⟨fc⟩] T M (pL pb lv en op) [] (fP pb en op (fun l v M=>RS M (r M) 8 l v) (dt en g most aS)) (gM pb en (dt en g most aS)):=by
 refine aT mx aeK Tryz.func184 rfl (by rw [agh];exact Nat.le_of_ble_eq_true rfl) (dr:=ZL) (by kernel_rfl) akq ?_
 intro bN _
 simp only [aE] at bN
 simp +contextual only [go_sem,ak,sevalprocAttr]
 refine iL (fun m e ds h=>ds=[]/\e 0=.pointer (some ⟨pb,0,none⟩)/\e 1=.int .i64 (most:Int)/\e 2=.func (.func gf) ⟨fa⟩ ⟨fc⟩/\
  ∃ M' t' lv' aO,m+aO.length=most/\bG M M'/\M' pb=none/\RS M' gT 3 t' lv'/\dt en g most aS=(dt en g m t').bind (fun l t=> .ok (aO++l) t)/\
   ((aO=[]/\e 7=.slice none 0 0/\h=⟨T,M',pL pb lv' en op,[]⟩)\/∃ ra rc xs,e 7=.slice ra aO.length rc/\RL (r M') aO xs/\h=⟨T,M',pL pb lv' en op,[(.slice ra aO.length rc,161,8,xs)]⟩))
  ⟨most,rfl,by simp only [go_sem,ak,sevalprocAttr],by simp only [go_sem,ak,sevalprocAttr],by simp only [go_sem,ak,sevalprocAttr],M,aS,lv,[],by simp,bG.rfl',bN,hl,by cases dt en g most aS<;>rfl,.inl ⟨rfl,by simp only [go_sem,ak,sevalprocAttr],rfl⟩⟩ ?_
 rintro m e ds h ⟨rfl,e0,e1,e2,M1,t1,lv1,aO,hm,aP,np,gF,ay,kJ⟩
 have mC:=hg.ext aP
 cases m with
 | zero=>
  have bQ:(aO.length:Int)=(most:Int):=by omega
  have mo:dt en g most aS=.err 5 (pF en t1):=ay
  rcases kJ with ⟨rfl,e7,rfl⟩ | ⟨ra,rc,xs,e7,kD,rfl⟩
  ·have bQ:(0:Int)=(most:Int):=by simpa using bQ
   simp +contextual only [go_sem,ak,sevalprocAttr,e0,e1,e2,e7,bQ]
   refine mL [] gF ?_
   simp +contextual only [go_sem,ak,sevalprocAttr]
   exact fJ [] aH.rfl' mo
  ·simp +contextual only [go_sem,ak,sevalprocAttr,e0,e1,e2,e7,bQ]
   refine mL [] gF ?_
   simp +contextual only [go_sem,ak,sevalprocAttr]
   exact fJ [] aH.rfl' mo
 | succ m=>
  have bQ:¬ (aO.length:Int)=(most:Int):=by omega
  simp only [dt,Rs.bind_assoc] at ay
  rcases kJ with ⟨rfl,e7,rfl⟩ | ⟨ra,rc,xs,e7,kD,rfl⟩
  ·have bQ:¬ (0:Int)=(most:Int):=by simpa using bQ
   simp +contextual only [go_sem,ak,sevalprocAttr,e0,e1,e2,e7,bQ]
   refine cq [] aH.rfl' ay dh (fun h=>K5 M1 t1 lv1 T mC (hC _ _ aP Kl) gF h) ?_
   rintro v M2 a t2 lv2 aX aQ ay ft hv
   obtain ⟨cs,gU,hr⟩:=hE _ _ _ hv
   have dw:=eF _ _ _ hr
   simp only [List.cons_append,List.nil_append,aB,aE] at aQ
   have jR:=gU
   simp only [Value.cells] at jR
   simp +contextual only [go_sem,ak,sevalprocAttr,e0,e1,e2,e7,gU,jR,dw,aQ]
   intro b hb mP
   refine nb Ql RK (.slice _ 1 _ _ _ Tryz.underlying77 (cT [] hb trivial (by rw [dw])) (fk _ _ _ hr)) (by rw [dw];decide) ?_
   intro ra rm rc ky
   have jO:rm=1:=by rw [dw] at ky;omega
   subst jO
   simp +contextual only [go_sem,ak,sevalprocAttr,e0,e1,e2]
   refine jd [(b,_)] ct ft (fun hs lv3 fV=> ?_) (fun hs lv3 fV=> ?_)
   ·rw [if_pos hs,Rs.bind_assoc] at ay
    simp +contextual only [go_sem,ak,sevalprocAttr,e0,e1,e2]
    rw [fq]
    refine al (aA ⟨m,by omega,rfl,?_,?_,?_,M2,t2.tail,lv3,[a],by simp only [List.length_cons,List.length_nil] at hm ⊢;omega,aP.trans aX,aQ,fV,ay,.inr ⟨ra,rc,cs,?_,cP hr,rfl⟩⟩)
    all_goals simp only [e0,e1,e2,go_sem,ak,sevalprocAttr]
   ·rw [if_neg (by simp [hs])] at ay
    simp +contextual only [go_sem,ak,sevalprocAttr,e0,e1,e2]
    refine al (dn fun M3 bD aZ j7=>aM aH.rfl' rfl rfl ?_)
    exact ⟨[a],t2,lv3,ay,rfl,aN bD (fun _ _ h=>h) fV,rfl,⟨by simp,cs,j7,cP (pk _ _ _ _ bD hr)⟩⟩
  ·simp +contextual only [go_sem,ak,sevalprocAttr,e0,e1,e2,e7,bQ]
   refine cq [] aH.rfl' ay dh (fun h=>K5 M1 t1 lv1 T mC (hC _ _ aP Kl) gF h) ?_
   rintro v M2 a t2 lv2 aX aQ ay ft hv
   obtain ⟨cs,gU,hr⟩:=hE _ _ _ hv
   have dw:=eF _ _ _ hr
   have nr:=fI (eF M1) kD
   have Dl:RL (r M2) aO xs:=dZ (fun x cs h=>pk _ _ _ _ aX h) kD
   simp only [List.cons_append,List.nil_append,aB,aE] at aQ
   have jR:=gU
   simp only [Value.cells] at jR
   simp +contextual only [go_sem,ak,sevalprocAttr,e0,e1,e2,e7,gU,jR,dw,aQ]
   intro b hb mP
   refine gi Ql RK (.slice _ 1 _ _ _ Tryz.underlying77 (cT [] hb trivial (by rw [dw])) (fk _ _ _ hr)) (by rw [dw,nr];omega) ?_
   intro ra' rm rc' ky
   have jO:rm=(aO++[a]).length:=by
    rw [dw,nr] at ky
    rw [List.length_append,List.length_cons,List.length_nil]
    omega
   subst jO
   have cy:=dx Dl (cP hr)
   simp +contextual only [go_sem,ak,sevalprocAttr,e0,e1,e2]
   refine jd [(b,_)] ct ft (fun hs lv3 fV=> ?_) (fun hs lv3 fV=> ?_)
   ·rw [if_pos hs,Rs.bind_assoc] at ay
    simp +contextual only [go_sem,ak,sevalprocAttr,e0,e1,e2]
    rw [fq]
    refine al (aA ⟨m,by omega,rfl,?_,?_,?_,M2,t2.tail,lv3,aO++[a],by rw [List.length_append];simp only [List.length_cons,List.length_nil];omega,aP.trans aX,aQ,fV,?_,.inr ⟨ra',rc',xs++cs,?_,cy,rfl⟩⟩)
    ·simp only [e0,e1,e2,go_sem,ak,sevalprocAttr]
    ·simp only [e0,e1,e2,go_sem,ak,sevalprocAttr]
    ·simp only [e0,e1,e2,go_sem,ak,sevalprocAttr]
    ·rw [ay]
     congr 1
     funext l t
     simp [Rs.bind]
    ·simp only [nS,go_sem,ak,sevalprocAttr]
   ·rw [if_neg (by simp [hs])] at ay
    simp +contextual only [go_sem,ak,sevalprocAttr,e0,e1,e2]
    refine al (dn fun M3 bD aZ j7=>aM aH.rfl' rfl rfl ?_)
    exact ⟨aO++[a],t2,lv3,ay,rfl,aN bD (fun _ _ h=>h) fV,rfl,⟨by rw [List.length_append];simp only [List.length_cons,List.length_nil];omega,xs++cs,j7,dZ (fun x cs h=>pk _ _ _ _ bD h) cy⟩⟩
def Jv (en:Int)(t:List Tk):Rs V:=(eS en t).bind fun o t=>match o with
 | some v=> .ok v t
 | none=> .err 2 (pF en t)
theorem KG {en:Int}{t:List Tk}:sP en t≠ .out:=by
 unfold sP
 generalize (if bg iW t=true then t.tail else t)=u
 cases u with
 | nil=>simp [nI]
 | cons t r=>
  simp only [nI]
  split
  ·split<;>simp
  ·simp
theorem Bn {en:Int}{t:List Tk}:eS en t≠ .out:=by
 unfold eS
 repeat' split
 all_goals first | simp | skip
 intro h
 cases hn:sP en t with
 | out=>exact KG hn
 | ok a r=>rw [hn] at h;cases h
 | err e a=>rw [hn] at h;cases h
theorem J1 {en:Int}{t:List Tk}:Jv en t≠ .out:=by
 unfold Jv
 cases hn:eS en t with
 | out=>exact (Bn hn).elim
 | ok a r=>simp only [Rs.bind];split<;>simp
 | err e a=>simp [Rs.bind]
def Ua (x:V)(v:Value)(_:aV):Prop:=v=.agg ⟨x.cs⟩
theorem VU {M:aV}{pb bc:Nat}{aS:List Tk}{lv:Value}{en op:Int}(hc:M bc=some [.pointer (some ⟨pb,0,none⟩)])(hl:RS M gT 3 aS lv)(T:Tm):
 ep Tryz.prog 150 [.pointer (some ⟨bc,0,none⟩)] T M (pL pb lv en op) [] (fP pb en op Ua (Jv en aS)) (gM pb en (Jv en aS)):=by
 refine aT mx abv Tryz.func150 rfl (by rw [ai1];exact Nat.le_of_ble_eq_true rfl) (dr:=YW) (by kernel_rfl) aoT ?_
 intro bN _
 simp only [aE] at bN
 simp +contextual only [go_sem,ak,sevalprocAttr,aY hc]
 intro b2 T2 eG cr fu ju
 refine cq [(b2,_)] fu rfl J1 (fun _=>yD hl T2) ?_
 rintro v M1 o t lv1 aP bL ay gF hv
 have Cr:=aP _ _ hc
 simp only [List.cons_append,List.nil_append,aB,aE] at bL
 cases o with
 | some x=>
  simp only [QS] at hv;subst hv
  simp +contextual only [go_sem,ak,sevalprocAttr,bL,cr,V.cs]
  intro b3 T3 fh bT fD ja
  refine al (al (aM (fu.trans fD) rfl rfl ?_))
  exact ⟨x,t,lv1,ay,rfl,gF,rfl,rfl⟩
 | none=>
  simp only [QS] at hv;subst hv
  simp +contextual only [go_sem,ak,sevalprocAttr,bL,cr,V.cs,aY Cr]
  intro b3 T3 fh bT fD ja
  refine mL [(b3,_),(b2,_)] gF ?_
  simp +contextual only [go_sem,ak,sevalprocAttr]
  exact fJ [(b3,_),(b2,_)] (fu.trans fD) ay
def Ia (en:Int)(t:List Tk):Rs (List V):=(bY en [dp] t).bind fun _ t=>(dt en (Jv en) 8 t).bind fun l t=>(bY en [cd] t).bind fun _ t=> .ok l t
theorem bM {α β:Type}{g:Rs α}{f:α ->List Tk ->Rs β}(hg:g≠ .out)(hf:∀ a t,f a t≠ .out):g.bind f≠ .out:=by
 cases g with
 | out=>exact (hg rfl).elim
 | ok a t=>exact hf a t
 | err e a=>simp [Rs.bind]
theorem nY {α:Type}{en:Int}{g:List Tk ->Rs α}(hg:∀ t,g t≠ .out):∀ {n t},dt en g n t≠ .out:=by
 intro n
 induction n with
 | zero=>intro t;simp [dt]
 | succ n ih=>
  intro t
  refine bM (hg t) fun a t=> ?_
  split
  ·exact bM ih fun _ _=>by simp
  ·simp
theorem JW {en:Int}{t:List Tk}:Ia en t≠ .out:=bM eB fun _ _=>bM (nY fun _=>J1) fun _ _=>bM eB fun _ _=>by simp
def TG (l:List V)(v:Value)(M:aV):Prop:=RS M RV 3 l v
theorem Hu {v:V}{cs}(h:RV v cs):cs.length=3:=by unfold RV at h;subst h;rfl
theorem acD {M:aV}{pb:Nat}{aS:List Tk}{lv:Value}{en op:Int}(hg:fO M)(hl:RS M gT 3 aS lv)(T:Tm):
 ep Tryz.prog 100 [.pointer (some ⟨pb,0,none⟩)] T M (pL pb lv en op) [] (fP pb en op TG (Ia en aS)) (gM pb en (Ia en aS)):=by
 refine aT mx adP Tryz.func100 rfl (by rw [amw];exact Nat.le_of_ble_eq_true rfl) (dr:=YP) (by kernel_rfl) agu ?_
 intro bN _
 simp only [aE] at bN
 simp +contextual only [go_sem,ak,sevalprocAttr]
 intro b1 T1 jK sO jt pV b5 jH eO
 refine eg [(b1,_)] jt rfl hl ?_
 intro M2 lv2 aX aQ ay ft
 simp only [List.cons_append,List.nil_append,aB,aE] at aQ
 simp +contextual only [go_sem,ak,sevalprocAttr,aQ,sO]
 refine aW S6 fun M3 bD fh aZ=> ?_
 have fV:=aN bD (fun _ _ h=>h) ft
 have dh:=JW (en:=en) (t:=aS)
 refine cq [] jt ay dh (fun h=>Oj (fa:=[]) (fc:=[.pointer (some ⟨b1,0,none⟩)]) (C:=fun M=>M b1=some [.pointer (some ⟨pb,0,none⟩)]) (r:=fun _=>RV) 8
  (fun M t lv T _ hc hl _=>VU hc hl T) (fun x v M h=>⟨x.cs,by unfold Ua at h;subst h;rfl,rfl⟩) (fun _ _ _ h=>Hu h) (fun _ x _ h=>by unfold RV at h;subst h;intro u hu;simp only [V.cs,List.mem_cons,List.not_mem_nil,or_false] at hu;rcases hu with rfl | rfl | rfl<;>rfl)
  (fun _ _ _ _ _ h=>h) (fun M M' he h=>he _ _ h) fh (by decide) ((hg.ext aX).ext bD) fV h T1) ?_
 rintro v M4 l t lv4 ce bH ay jJ hv
 have CA:=ce _ _ fh
 simp only [List.cons_append,List.nil_append,aB,aE] at bH
 simp +contextual only [go_sem,ak,sevalprocAttr,aY CA]
 intro b6 mB de
 refine eg [] jt ay jJ ?_
 intro M5 lv5 dy bE ay gj
 simp +contextual only [go_sem,ak,sevalprocAttr]
 refine aM jt rfl rfl ?_
 exact ⟨l,_,lv5,ay,rfl,gj,rfl,aN dy (fun _ _ h=>h) hv⟩
abbrev uY:Bs:=[115,101,108,101,99,116]
abbrev dg:Bs:=[100,105,115,116,105,110,99,116]
abbrev qI:Bs:=[102,114,111,109]
abbrev fx:Bs:=[119,104,101,114,101]
abbrev mR:Bs:=[103,114,111,117,112]
abbrev Uo:Bs:=[98,121]
abbrev iY:Bs:=[104,97,118,105,110,103]
abbrev pz:Bs:=[111,114,100,101,114]
abbrev zp:Bs:=[108,105,109,105,116]
abbrev jN:Bs:=[99,114,101,97,116,101]
abbrev tV:Bs:=[118,105,101,119]
abbrev vO:Bs:=[116,97,98,108,101]
abbrev pC:Bs:=[105,110,115,101,114,116]
abbrev Ba:Bs:=[105,110,116,111]
abbrev rC:Bs:=[118,97,108,117,101,115]
abbrev pd:Bs:=[100,101,108,101,116,101]
abbrev BA:Bs:=[115,104,111,119]
def vN (en:Int)(ex:List Tk ->Rs X):Nat ->List Tk ->Rs (List So)
 | eT,t=>(mg en t).bind fun k t=>if 0<k then (match eT with
  | 0=> .err 5 (pF en t)
  | r+1=>(jC en ex k t).bind fun s t=>(vN en ex r t).bind fun l t=> .ok (s::l) t) else .ok [] t
def qK (en:Int)(ex:List Tk ->Rs X)(eT:Nat)(k:Int)(t:List Tk):Rs (List So):=if 0<k then (match eT with
 | 0=> .err 5 (pF en t)
 | r+1=>(jC en ex k t).bind fun s t=>(vN en ex r t).bind fun l t=> .ok (s::l) t) else .ok [] t
theorem mA (en:Int)(ex:List Tk ->Rs X)(eT:Nat)(t:List Tk):vN en ex eT t=(mg en t).bind (qK en ex eT):=by
 cases eT<;>rfl
def tl (b:Bool)(t:List Tk):List Tk:=if b=true then t.tail else t
def wR (ex:List Tk ->Rs X)(w:Bs)(t:List Tk):Rs X:=if bg w t=true then ex t.tail else .ok jh t
def Oh (en:Int)(ex:List Tk ->Rs X)(t:List Tk):Rs (List X):=if bg mR t=true then (bY en [Uo] t.tail).bind fun _ t=>dt en ex 8 t else .ok [] t
def Lh (ex:List Tk ->Rs X)(d s:Bool)(items:List It)(src:List So)(w:Bool)(wh:X)(group:List X)(t:List Tk):Rs Se:=
 (wR ex iY t).bind fun hv t'=> .ok ⟨d,s,items,src,w,bg iY t,wh,hv,group⟩ t'
def Kp (en:Int)(ex:List Tk ->Rs X)(d s:Bool)(items:List It)(src:List So)(w:Bool)(wh:X)(t:List Tk):Rs Se:=
 (Oh en ex t).bind fun group t=>Lh ex d s items src w wh group t
def Gh (en:Int)(ex:List Tk ->Rs X)(d s:Bool)(items:List It)(src:List So)(t:List Tk):Rs Se:=
 (wR ex fx t).bind fun wh t'=>Kp en ex d s items src (bg fx t) wh t'
def QF (en:Int)(ex:List Tk ->Rs X)(d s:Bool)(items:List It)(t:List Tk):Rs Se:=
 (bY en [qI] t).bind fun _ t=>(jC en ex 1 t).bind fun s0 t=>(vN en ex 3 t).bind fun src t=>Gh en ex d s items (s0::src) t
def tX (en:Int)(ex:List Tk ->Rs X)(t:List Tk):Rs Se:=
 (bY en [uY] t).bind fun _ t0=>
 (if bg gA (tl (bg dg t0) t0)=true then .ok [] (tl (bg dg t0) t0).tail else dt en (su en ex) 8 (tl (bg dg t0) t0)).bind fun items t=>
 QF en ex (bg dg t0) (bg gA (tl (bg dg t0) t0)) items t
def aoj (i:Se)(v:Value)(M:aV):Prop:=∃ cs,v=.agg ⟨cs⟩/\CX M i cs
theorem RM {M:aV}{x:It}{cs:List Value}(h:xQ M x cs):∀ u∈cs,u.oneCell'=true:=by
 obtain ⟨c,hx,rfl⟩:=h
 intro u hu
 rcases List.mem_append.1 hu with hu | hu
 ·exact mq hx u hu
 ·simp only [List.mem_singleton] at hu;subst hu;rfl
theorem FI {M:aV}{x:So}{cs:List Value}(h:D1 M x cs):∀ u∈cs,u.oneCell'=true:=by
 obtain ⟨c,hx,rfl⟩:=h
 intro u hu
 rcases List.mem_append.1 hu with hu | hu
 ·simp only [List.mem_cons,List.not_mem_nil,or_false] at hu
  rcases hu with rfl | rfl | rfl<;>rfl
 ·exact mq hx u hu
theorem eV {α:Type}{r:α ->List Value ->Prop}{sz:Nat}{M:aV}{l:List α}{v:Value}(h:RS M r sz l v):v.oneCell'=true/\v.cells.toList=[v]:=by
 obtain ⟨_,_,h2,_⟩:=h
 rcases h2 with ⟨_,_,rfl,_⟩ | ⟨b,o,n,c,rfl,_⟩<;>exact ⟨rfl,rfl⟩
theorem bR {α:Type}{r:α ->List Value ->Prop}{sz:Nat}{M:aV}:RS M r sz [] (.slice none 0 0):=⟨by simp,[],.inl ⟨_,_,rfl,rfl,fun _=>rfl⟩,rfl⟩
theorem FJ {M:aV}{x:So}{cs:List Value}(h:D1 M x cs):∃ a1 a2 a3 a4 a5 a6 a7,cs=[.int .i64 x.k,st x.name,st x.as,a1,a2,a3,a4,a5,a6,a7]:=by
 obtain ⟨c,hx,rfl⟩:=h
 obtain ⟨a1,a2,a3,a4,a5,a6,a7,rfl⟩:=DH (dY hx)
 exact ⟨a1,a2,a3,a4,a5,a6,a7,rfl⟩
def px (M:aV)(R:RR)(fv:Value)(aO:List So):Prop:=
 (∃ bF xs,R=[]/\fv=.slice (some ⟨bF,0,none⟩) 1 1/\aO.length=1/\M bF=some xs/\RL (D1 M) aO xs)\/
 (∃ ra rc xs,R=[(.slice ra aO.length rc,75,10,xs)]/\fv=.slice ra aO.length rc/\RL (D1 M) aO xs)
theorem wC {M:aV}{R:RR}{fv:Value}{aO:List So}(h:px M R fv aO):∃ a c,fv=.slice a aO.length c:=by
 rcases h with ⟨bF,xs,_,rfl,h,_⟩ | ⟨ra,rc,xs,_,rfl,_⟩
 ·exact ⟨_,_,by rw [h]⟩
 ·exact ⟨_,_,rfl⟩
theorem sC {M M':aV}{R:RR}{fv:Value}{aO:List So}(hM:bG M M')(h:px M R fv aO):px M' R fv aO:=by
 rcases h with ⟨bF,xs,h1,h2,h3,h4,h5⟩ | ⟨ra,rc,xs,h1,h2,h3⟩
 ·exact .inl ⟨bF,xs,h1,h2,h3,hM _ _ h4,dZ (fun x cs h=>rk hM _ _ h) h5⟩
 ·exact .inr ⟨ra,rc,xs,h1,h2,dZ (fun x cs h=>rk hM _ _ h) h3⟩
theorem JL {N M L R fv aO}{k:Sh ->Prop}(h:px M R fv aO)(hb:aO.length<=400)(hk:∀ M',bG M M' ->aB M' L ->RS M' (D1 M') 10 aO fv ->cK ⟨N,M',L,[]⟩ k)(bN:aB M L):cK ⟨N,M,L,R⟩ k:=by
 rcases h with ⟨bF,xs,rfl,rfl,h3,h4,h5⟩ | ⟨ra,rc,xs,rfl,rfl,h3⟩
 ·exact hk M bG.rfl' bN (df (fun _ _=>mY) h4 h5 h3 (by decide))
 ·exact dn fun M' hM iQ j7=>hk M' hM iQ ⟨by omega,xs,j7,dZ (fun x cs h=>rk hM _ _ h) h3⟩
theorem R8 {F:Fi}{s:List Vc.Item}{e:dN}{ds:List Deferred}{dd:Option Nat}{T:Tm}{M:aV}{L:LL}{R:RR}{b a n c}{aO:List So}{x:So}{cs:List Value}(hf:px M R (.slice a n c) aO)(hx:D1 M x cs)(hb:M b=none)(bQ:aO.length<=400)
 (k:∀ a' c' R',px M R' (.slice a' (aO.length+1) c') (aO++[x]) ->cB Tryz.prog F s (cV e dd (.slice a' (aO.length+1) c')) ds ⟨T,M,(b,cs)::L,R'⟩ ⟨⟩):
 zM Tryz.prog F 76 76 (.slice a n c) (.slice (some ⟨b,0,none⟩) 1 1) dd s e ds ⟨T,M,(b,cs)::L,R⟩ ⟨⟩:=by
 have dw:=mY hx
 rcases hf with ⟨bF,xs,rfl,h2,h3,h4,h5⟩ | ⟨ra,rc,xs,rfl,h2,h3⟩
 ·injection h2 with h2 LG Jc;subst h2 LG Jc
  have nr:=fI (fun _ _=>mY) h5
  rw [h3] at nr
  refine qE PV Re (.slice _ 1 _ _ _ Tryz.underlying76 (cT [] hb trivial (by rw [dw])) (FI hx)) (xs:=xs) ?_ (by rw [dw];decide) (by rw [dw,nr];decide) ?_
  ·have:=zU (h:=⟨T,M,(b,cs)::L,[]⟩) (b:=bF) (cs:=xs) (fun o v hv=>by
    have:aL M ⟨bF,o,none⟩=some v:=by rw [aY h4];exact hv
    simp only [Sh.cell,this]) 10 0 (by omega)
   simpa using this
  ·intro ra rm rc ky
   have:rm=aO.length+1:=by rw [dw,nr] at ky;omega
   subst this
   exact k _ _ _ (.inr ⟨_,_,_,by rw [List.length_append];rfl,by rw [List.length_append];rfl,dx h5 (cP hx)⟩)
 ·injection h2 with h2 LG Jc;subst h2 LG Jc
  have nr:=fI (fun _ _=>mY) h3
  refine gi PV Re (.slice _ 1 _ _ _ Tryz.underlying76 (cT [] hb trivial (by rw [dw])) (FI hx)) (by rw [dw,nr];omega) ?_
  intro ra rm rc ky
  have:rm=aO.length+1:=by rw [dw,nr] at ky;omega
  subst this
  exact k _ _ _ (.inr ⟨_,_,_,by rw [List.length_append];rfl,by rw [List.length_append];rfl,dx h3 (cP hx)⟩)
theorem O4 {M:aV}{pb:Nat}{aS:List Tk}{lv:Value}{en op:Int}{ex:List Tk ->Rs X}(hg:fO M)(hl:RS M gT 3 aS lv)(jb:Zq en pb ex op)(dh:tX en ex aS≠ .out)(T:Tm):
 ep Tryz.prog 145 [.pointer (some ⟨pb,0,none⟩)] T M (pL pb lv en op) [] (fP pb en op aoj (tX en ex aS)) (gM pb en (tX en ex aS)):=by
 refine aT mx aac Tryz.func145 rfl (by rw [akH];exact Nat.le_of_ble_eq_true rfl) (dr:=YK) (by kernel_rfl) afU ?_
 intro bN _
 simp only [aE] at bN
 simp +contextual only [go_sem,ak,sevalprocAttr]
 intro b2 T2 eG cr fu ju b5 jH eO
 refine eg [(b2,_)] fu rfl hl ?_
 intro M1 lv1 aP bL ay gF
 simp only [List.cons_append,List.nil_append,aB,aE] at bL
 simp +contextual only [go_sem,ak,sevalprocAttr,bL,cr]
 refine Ev [(b2,_)] dg gF ?_
 intro lv2 ft
 change RS M1 gT 3 (tl (bg dg aS.tail) aS.tail) lv2 at ft
 simp +contextual only [go_sem,ak,sevalprocAttr,bL,cr]
 intro b3 T3 fh bT fD ja
 have hT:=fu.trans fD
 generalize bg dg aS.tail=d at ay ft ⊢
 generalize tl d aS.tail=t0 at ay ft ⊢
 refine Ev [(b3,_),(b2,_)] gA ft ?_
 intro lv3 fV
 generalize bg gA t0=sb at ay fV ⊢
 simp +contextual only [go_sem,sevalprocAttr,bL,cr,bT,fh]
 refine dI (fun e ds h=>ds=[]/\e 0=.pointer (some ⟨pb,0,none⟩)/\e 2=.pointer (some ⟨b2,0,none⟩)/\e 3=.pointer (some ⟨b3,0,none⟩)/\
  ∃ M' t lv' items iv,bG M1 M'/\M' b3=none/\M' b2=none/\M' pb=none/\RS M' gT 3 t lv'/\RS M' (xQ M') 8 items iv/\tX en ex aS=QF en ex d sb items t/\
   h=⟨T3,M',(b3,[.bool d,.bool sb,iv,.slice none 0 0,.bool false,.bool false,.int .i64 0,.int .i64 0,.int .i64 0,st [],st [],st [],.slice none 0 0,.int .i64 0,.int .i64 0,.int .i64 0,st [],st [],st [],.slice none 0 0,.slice none 0 0])::(b2,[.bool false,.bool false,.slice none 0 0,.slice none 0 0,.bool false,.bool false,.int .i64 0,.int .i64 0,.int .i64 0,st [],st [],st [],.slice none 0 0,.int .i64 0,.int .i64 0,.int .i64 0,st [],st [],st [],.slice none 0 0,.slice none 0 0])::pL pb lv' en op,[]⟩) (fun S' dW=> ?_) ?_
 ·cases sb with
  | true=>
   simp only [if_true] at ay fV
   simp +contextual only [go_sem,ak,sevalprocAttr]
   refine dW _ _ _ ⟨rfl,?_,?_,?_,M1,_,lv3,[],_,bG.rfl',fh,bL.1,bL.2,fV,bR,ay,rfl⟩
   all_goals simp only [go_sem,ak,sevalprocAttr]
  | false=>
   simp only [if_false,Bool.false_eq_true] at ay fV
   simp +contextual only [go_sem,ak,sevalprocAttr]
   refine cq [(b3,_),(b2,_)] hT ay dh (fun h=>Jr (fa:=[.pointer (some ⟨pb,0,none⟩)]) (fc:=[]) (C:=fun _=>True) (r:=xQ) (enc:=YB) (g:=su en ex) 8
    (fun M t lv T hg _ hl dh=>V5 hg hl jb dh T) (fun x v M h=>by obtain ⟨cs,rfl,h⟩:=h;exact ⟨cs,rfl,h⟩) (fun _ _ _ h=>j8 h) (fun _ _ _ h=>RM h) (fun _ _ _ _ he h=>ko he _ _ h)
    (fun _ _ _ h=>h) trivial (by decide) (hg.ext aP) fV h T3) ?_
   rintro v M2 items t lv4 aX aQ ay jJ hv
   obtain ⟨oN,tU⟩:=eV hv
   have hv3:=tU
   simp only [Value.cells] at hv3
   simp only [List.cons_append,List.nil_append,aB,aE] at aQ
   simp +contextual only [go_sem,ak,sevalprocAttr,aQ,cr,bT,oN,tU,hv3]
   refine dW _ _ _ ⟨rfl,?_,?_,?_,M2,_,lv4,items,_,aX,aQ.1,aQ.2.1,aQ.2.2,jJ,hv,ay,rfl⟩
   all_goals simp only [go_sem,ak,sevalprocAttr]
 clear ay gF ft fV
 rintro e ds h ⟨rfl,e0,e2,e3,M2,t,lv4,items,iv,aX,n3,n2,np,jJ,hiv,ay,rfl⟩
 simp +contextual only [go_sem,ak,sevalprocAttr,e0,e2,e3]
 intro b4 iR cN
 refine eg [(b3,_),(b2,_)] hT ay jJ ?_
 intro M3 lv5 bD aZ ay gj
 simp +contextual only [go_sem,ak,sevalprocAttr,e0,e2,e3]
 have hg3:=(hg.ext aP).ext (aX.trans bD)
 refine cq [(b3,_),(b2,_)] hT ay dh (fun h=>xH hg3 gj jb h T3) ?_
 rintro v M4 s0 t4 lv6 ce bH ay gq ⟨cs,rfl,hso⟩
 obtain ⟨a1,a2,a3,a4,a5,a6,a7,rfl⟩:=FJ hso
 simp only [List.cons_append,List.nil_append,aB,aE] at bH
 simp +contextual only [go_sem,ak,sevalprocAttr,bH,cr,bT,e0,e2,e3]
 intro bF hbF axp
 refine aW Pk fun M5 dy auH bE=> ?_
 simp only [List.cons_append,List.nil_append,aB,aE] at bE
 rw [mA,Rs.bind_assoc] at ay
 refine cq [(b3,_),(b2,_)] hT ay dh (fun _=>Kq (aN dy (fun _ _ h=>h) gq) T3) ?_
 rintro v M6 k t5 lv7 dM bP ay nN rfl
 simp only [List.cons_append,List.nil_append,aB,aE] at bP
 have r8:px M6 [] (.slice (some ⟨bF,0,none⟩) 1 1) [s0]:=.inl ⟨bF,_,rfl,rfl,rfl,dM _ _ auH,cP (rk (dy.trans dM) _ _ hso)⟩
 simp +contextual only [go_sem,sevalprocAttr,e0,e2,e3]
 refine gE (fun e ds h=>ds=[]/\e 0=.pointer (some ⟨pb,0,none⟩)/\e 2=.pointer (some ⟨b2,0,none⟩)/\e 3=.pointer (some ⟨b3,0,none⟩)/\
  ∃ M' t lv' src fv R,bG M2 M'/\M' b3=none/\M' b2=none/\M' pb=none/\RS M' gT 3 t lv'/\src.length<=4/\px M' R fv src/\tX en ex aS=Gh en ex d sb items src t/\
   h=⟨T3,M',(b3,[.bool d,.bool sb,iv,fv,.bool false,.bool false,.int .i64 0,.int .i64 0,.int .i64 0,st [],st [],st [],.slice none 0 0,.int .i64 0,.int .i64 0,.int .i64 0,st [],st [],st [],.slice none 0 0,.slice none 0 0])::(b2,[.bool false,.bool false,.slice none 0 0,.slice none 0 0,.bool false,.bool false,.int .i64 0,.int .i64 0,.int .i64 0,st [],st [],st [],.slice none 0 0,.int .i64 0,.int .i64 0,.int .i64 0,st [],st [],st [],.slice none 0 0,.slice none 0 0])::pL pb lv' en op,R⟩) (fun S' dW=> ?_) ?_
 ·clear gj gq jJ
  simp +contextual only [go_sem,ak,sevalprocAttr,e0,e2,e3]
  refine iL (fun m e ds h=>ds=[]/\e 0=.pointer (some ⟨pb,0,none⟩)/\e 2=.pointer (some ⟨b2,0,none⟩)/\e 3=.pointer (some ⟨b3,0,none⟩)/\
   ∃ M' t lv' k src fv R,e 4=.int .i64 k/\m+src.length=4/\bG M6 M'/\M' b3=none/\M' b2=none/\M' pb=none/\RS M' gT 3 t lv'/\px M' R fv src/\
    tX en ex aS=(qK en ex m k t).bind (fun l t=>Gh en ex d sb items (src++l) t)/\
    h=⟨T3,M',(b3,[.bool d,.bool sb,iv,fv,.bool false,.bool false,.int .i64 0,.int .i64 0,.int .i64 0,st [],st [],st [],.slice none 0 0,.int .i64 0,.int .i64 0,.int .i64 0,st [],st [],st [],.slice none 0 0,.slice none 0 0])::(b2,[.bool false,.bool false,.slice none 0 0,.slice none 0 0,.bool false,.bool false,.int .i64 0,.int .i64 0,.int .i64 0,st [],st [],st [],.slice none 0 0,.int .i64 0,.int .i64 0,.int .i64 0,st [],st [],st [],.slice none 0 0,.slice none 0 0])::pL pb lv' en op,R⟩)
   ⟨3,rfl,?_,?_,?_,M6,t5,lv7,k,[s0],_,[],?_,rfl,bG.rfl',bP.1,bP.2.1,bP.2.2,nN,r8,ay,rfl⟩ ?_
  all_goals first | (simp only [e0,e2,e3,go_sem,ak,sevalprocAttr];done) | skip
  clear ay e0 e2 e3 nN r8
  rintro m e ds h ⟨rfl,e0,e2,e3,M7,t7,lv8,k,src,fv,R,e4,hm,iz,n3,n2,np,r9,r8,ay,rfl⟩
  by_cases hk:0<k
  ·obtain ⟨fa,fc,rfl⟩:=wC r8
   unfold qK at ay
   rw [if_pos hk] at ay
   cases m with
   | zero=>
    have bQ:(src.length:Int)=4:=by omega
    simp +contextual only [go_sem,ak,sevalprocAttr,e0,e2,e3,e4,hk,n3,n2,np,cr,bT,bQ]
    refine mL [(b3,_),(b2,_)] r9 ?_
    simp +contextual only [go_sem,ak,sevalprocAttr]
    exact fJ [(b3,_),(b2,_)] hT ay
   | succ m=>
    have bQ:¬ (src.length:Int)=4:=by omega
    simp only [Rs.bind_assoc] at ay
    simp +contextual only [go_sem,ak,sevalprocAttr,e0,e2,e3,e4,hk,n3,n2,np,cr,bT,bQ]
    refine eR ⟨T,fun _=>none,[(b3,_)],[]⟩ (gn n3) ?_
    simp +contextual only [go_sem,ak,sevalprocAttr,e0,e2,e3,e4,hk,n3,n2,np,cr,bT,bQ]
    have hg7:=(hg.ext aP).ext ((((aX.trans bD).trans ce).trans dy).trans (dM.trans iz))
    refine cq [(b3,_),(b2,_)] hT ay dh (fun h=>xH hg7 r9 jb h T3) ?_
    rintro v M8 so t8 lv9 jv gS ay Ec ⟨cs,rfl,hso⟩
    obtain ⟨a1,a2,a3,a4,a5,a6,a7,rfl⟩:=FJ hso
    simp only [List.cons_append,List.nil_append,aB,aE] at gS
    simp +contextual only [go_sem,ak,sevalprocAttr,gS,cr,bT,e0,e2,e3]
    refine ⟨gn gS.1,?_⟩
    intro b8 sd fj
    refine ⟨rA gS.1 (fun h=>fj.1.2 h),?_⟩
    refine R8 (sC jv r8) hso sd (by omega) ?_
    intro fa' fc' R' ab4
    simp +contextual only [go_sem,ak,sevalprocAttr,gS,cr,bT,fj,sd,e0,e2,e3]
    rw [mA,Rs.bind_assoc] at ay
    refine cq [(b8,_),(b3,_),(b2,_)] hT ay dh (fun _=>Kq Ec T3) ?_
    rintro v M9 k' t9 lva lK mc ay hla rfl
    simp only [List.cons_append,List.nil_append,aB,aE] at mc
    simp +contextual only [go_sem,ak,sevalprocAttr,e0,e2,e3]
    rw [fq]
    refine al (aA ⟨m,by omega,rfl,?_,?_,?_,M9,t9,lva,k',src++[so],_,R',?_,?_,(iz.trans jv).trans lK,mc.2.1,mc.2.2.1,mc.2.2.2,hla,sC lK ab4,?_,rfl⟩)
    ·simp only [e0,go_sem,ak,sevalprocAttr]
    ·simp only [e2,go_sem,ak,sevalprocAttr]
    ·simp only [e3,go_sem,ak,sevalprocAttr]
    ·simp only [go_sem,ak,sevalprocAttr]
    ·rw [List.length_append];simp only [List.length_cons,List.length_nil];omega
    ·rw [ay];congr 1;funext l t;simp [Rs.bind]
  ·unfold qK at ay
   rw [if_neg hk] at ay
   simp +contextual only [go_sem,ak,sevalprocAttr,e0,e2,e3,e4,hk]
   refine dW _ _ _ ⟨rfl,?_,?_,?_,M7,_,lv8,src,fv,R,?_,n3,n2,np,r9,by omega,r8,?_,rfl⟩
   ·simp only [e0,go_sem,ak,sevalprocAttr]
   ·simp only [e2,go_sem,ak,sevalprocAttr]
   ·simp only [e3,go_sem,ak,sevalprocAttr]
   ·exact ((bD.trans ce).trans dy).trans (dM.trans iz)
   ·rw [ay];simp [Rs.bind]
 clear ay bP nN r8 e0 e2 e3 jJ gj gq hso bH aZ
 rintro e ds h ⟨rfl,e0,e2,e3,M3,t,lv4,src,fv,R,bD,n3,n2,np,jJ,j7,r8,ay,rfl⟩
 simp +contextual only [go_sem,ak,sevalprocAttr,e0,e2,e3]
 refine Ev [(b3,_),(b2,_)] fx jJ ?_
 intro lv5 gj
 unfold Gh wR at ay
 generalize bg fx t=hw at ay gj ⊢
 simp +contextual only [go_sem,sevalprocAttr,n3,n2,np,cr,bT,e0,e2,e3]
 have hg3:=(hg.ext aP).ext (aX.trans bD)
 refine dI (fun e ds h=>ds=[]/\e 0=.pointer (some ⟨pb,0,none⟩)/\e 2=.pointer (some ⟨b2,0,none⟩)/\e 3=.pointer (some ⟨b3,0,none⟩)/\
  ∃ M' t lv' hw wh w1 w2 w3 w4 w5 w6 w7,bG M3 M'/\M' b3=none/\M' b2=none/\M' pb=none/\RS M' gT 3 t lv'/\RX M' wh [w1,w2,w3,w4,w5,w6,w7]/\tX en ex aS=Kp en ex d sb items src hw wh t/\
   h=⟨T3,M',(b3,[.bool d,.bool sb,iv,fv,.bool hw,.bool false,w1,w2,w3,w4,w5,w6,w7,.int .i64 0,.int .i64 0,.int .i64 0,st [],st [],st [],.slice none 0 0,.slice none 0 0])::(b2,[.bool false,.bool false,.slice none 0 0,.slice none 0 0,.bool false,.bool false,.int .i64 0,.int .i64 0,.int .i64 0,st [],st [],st [],.slice none 0 0,.int .i64 0,.int .i64 0,.int .i64 0,st [],st [],st [],.slice none 0 0,.slice none 0 0])::pL pb lv' en op,R⟩) (fun S' dW=> ?_) ?_
 ·cases hw with
  | false=>
   simp only [if_false,Bool.false_eq_true] at ay gj
   simp +contextual only [go_sem,ak,sevalprocAttr]
   refine dW _ _ _ ⟨rfl,?_,?_,?_,M3,_,lv5,_,_,_,_,_,_,_,_,_,bG.rfl',n3,n2,np,gj,lB,ay,rfl⟩
   all_goals simp only [e0,e2,e3,go_sem,ak,sevalprocAttr]
  | true=>
   simp only [if_true] at ay gj
   simp +contextual only [go_sem,ak,sevalprocAttr,e0,e2,e3]
   refine cq [(b3,_),(b2,_)] hT ay dh (fun h=>jb M3 _ lv5 T3 hg3 gj h) ?_
   rintro v M4 x t2 lv6 ce bH ay gq ⟨cs,rfl,hx⟩
   obtain ⟨s,rfl,h1,_⟩:=cb hx
   simp only [List.cons_append,List.nil_append,aB,aE] at bH
   simp +contextual only [go_sem,ak,sevalprocAttr,bH,cr,bT,h1,e0,e2,e3]
   refine dW _ _ _ ⟨rfl,?_,?_,?_,M4,_,lv6,_,_,_,_,_,_,_,_,_,ce,bH.1,bH.2.1,bH.2.2,gq,hx,ay,rfl⟩
   all_goals simp only [e0,e2,e3,go_sem,ak,sevalprocAttr]
 clear ay n3 n2 np jJ gj e0 e2 e3
 rintro e ds h ⟨rfl,e0,e2,e3,M4,t,lv4,hw,wh,w1,w2,w3,w4,w5,w6,w7,ce,n3,n2,np,jJ,ZI,ay,rfl⟩
 simp +contextual only [go_sem,ak,sevalprocAttr,e0,e2,e3]
 refine Ev [(b3,_),(b2,_)] mR jJ ?_
 intro lv5 gj
 unfold Kp Oh at ay
 generalize bg mR t=gw at ay gj ⊢
 simp +contextual only [go_sem,sevalprocAttr,n3,n2,np,cr,bT,e0,e2,e3]
 refine dI (fun e ds h=>ds=[]/\e 0=.pointer (some ⟨pb,0,none⟩)/\e 2=.pointer (some ⟨b2,0,none⟩)/\e 3=.pointer (some ⟨b3,0,none⟩)/\
  ∃ M' t lv' group gv,bG M4 M'/\M' b3=none/\M' b2=none/\M' pb=none/\RS M' gT 3 t lv'/\RS M' (RX M') 7 group gv/\tX en ex aS=Lh ex d sb items src hw wh group t/\
   h=⟨T3,M',(b3,[.bool d,.bool sb,iv,fv,.bool hw,.bool false,w1,w2,w3,w4,w5,w6,w7,.int .i64 0,.int .i64 0,.int .i64 0,st [],st [],st [],.slice none 0 0,gv])::(b2,[.bool false,.bool false,.slice none 0 0,.slice none 0 0,.bool false,.bool false,.int .i64 0,.int .i64 0,.int .i64 0,st [],st [],st [],.slice none 0 0,.int .i64 0,.int .i64 0,.int .i64 0,st [],st [],st [],.slice none 0 0,.slice none 0 0])::pL pb lv' en op,R⟩) (fun S' dW=> ?_) ?_
 ·cases gw with
  | false=>
   simp only [if_false,Bool.false_eq_true] at ay gj
   simp +contextual only [go_sem,ak,sevalprocAttr]
   refine dW _ _ _ ⟨rfl,?_,?_,?_,M4,_,lv5,[],_,bG.rfl',n3,n2,np,gj,bR,ay,rfl⟩
   all_goals simp only [e0,e2,e3,go_sem,ak,sevalprocAttr]
  | true=>
   simp only [if_true,Rs.bind_assoc] at ay gj
   simp +contextual only [go_sem,ak,sevalprocAttr,e0,e2,e3]
   intro b5 jH eO
   refine eg [(b3,_),(b2,_)] hT ay gj ?_
   intro M5 lv6 dy bE ay gq
   simp +contextual only [go_sem,ak,sevalprocAttr,e0,e2,e3]
   refine cq [(b3,_),(b2,_)] hT ay dh (fun h=>B7 (fa:=[.pointer (some ⟨pb,0,none⟩)]) (fc:=[]) (C:=fun _=>True) (r:=RX) (enc:=Ht) (g:=ex) 8
    (fun M t lv T hg _ hl dh=>jb M t lv T hg hl dh) (fun x v M h=>by obtain ⟨cs,rfl,h⟩:=h;exact ⟨cs,rfl,h⟩) (fun _ _ _ h=>dY h) (fun _ _ _ h=>mq h) (fun _ _ _ _ he h=>br he _ _ h)
    (fun _ _ _ h=>h) trivial (by decide) (hg3.ext (ce.trans dy)) gq h T3) ?_
   rintro v M6 group t2 lv7 dM bP ay nN hv
   obtain ⟨oN,tU⟩:=eV hv
   have hv3:=tU
   simp only [Value.cells] at hv3
   simp only [List.cons_append,List.nil_append,aB,aE] at bP
   simp +contextual only [go_sem,ak,sevalprocAttr,bP,cr,bT,oN,tU,hv3,e0,e2,e3]
   refine dW _ _ _ ⟨rfl,?_,?_,?_,M6,_,lv7,group,_,dy.trans dM,bP.1,bP.2.1,bP.2.2,nN,hv,ay,rfl⟩
   all_goals simp only [e0,e2,e3,go_sem,ak,sevalprocAttr]
 clear ay n3 n2 np jJ gj e0 e2 e3
 rintro e ds h ⟨rfl,e0,e2,e3,M5,t,lv4,group,gv,dy,n3,n2,np,jJ,hgv,ay,rfl⟩
 simp +contextual only [go_sem,ak,sevalprocAttr,e0,e2,e3]
 refine Ev [(b3,_),(b2,_)] iY jJ ?_
 intro lv5 gj
 unfold Lh wR at ay
 generalize bg iY t=hh at ay gj ⊢
 simp +contextual only [go_sem,sevalprocAttr,n3,n2,np,cr,bT,e0,e2,e3]
 refine dI (fun e ds h=>ds=[]/\e 0=.pointer (some ⟨pb,0,none⟩)/\e 2=.pointer (some ⟨b2,0,none⟩)/\e 3=.pointer (some ⟨b3,0,none⟩)/\
  ∃ M' t lv' hh hv v1 v2 v3 v4 v5 v6 v7,bG M5 M'/\M' b3=none/\M' b2=none/\M' pb=none/\RS M' gT 3 t lv'/\RX M' hv [v1,v2,v3,v4,v5,v6,v7]/\tX en ex aS=.ok ⟨d,sb,items,src,hw,hh,wh,hv,group⟩ t/\
   h=⟨T3,M',(b3,[.bool d,.bool sb,iv,fv,.bool hw,.bool hh,w1,w2,w3,w4,w5,w6,w7,v1,v2,v3,v4,v5,v6,v7,gv])::(b2,[.bool false,.bool false,.slice none 0 0,.slice none 0 0,.bool false,.bool false,.int .i64 0,.int .i64 0,.int .i64 0,st [],st [],st [],.slice none 0 0,.int .i64 0,.int .i64 0,.int .i64 0,st [],st [],st [],.slice none 0 0,.slice none 0 0])::pL pb lv' en op,R⟩) (fun S' dW=> ?_) ?_
 ·cases hh with
  | false=>
   simp only [if_false,Bool.false_eq_true] at ay gj
   simp +contextual only [go_sem,ak,sevalprocAttr]
   refine dW _ _ _ ⟨rfl,?_,?_,?_,M5,_,lv5,_,_,_,_,_,_,_,_,_,bG.rfl',n3,n2,np,gj,lB,ay,rfl⟩
   all_goals simp only [e0,e2,e3,go_sem,ak,sevalprocAttr]
  | true=>
   simp only [if_true] at ay gj
   simp +contextual only [go_sem,ak,sevalprocAttr,e0,e2,e3]
   refine cq [(b3,_),(b2,_)] hT ay dh (fun h=>jb M5 _ lv5 T3 (hg3.ext (ce.trans dy)) gj h) ?_
   rintro v M6 x t2 lv6 dM bP ay gq ⟨cs,rfl,hx⟩
   obtain ⟨s,rfl,h1,_⟩:=cb hx
   simp only [List.cons_append,List.nil_append,aB,aE] at bP
   simp +contextual only [go_sem,ak,sevalprocAttr,bP,cr,bT,h1,e0,e2,e3]
   refine dW _ _ _ ⟨rfl,?_,?_,?_,M6,_,lv6,_,_,_,_,_,_,_,_,_,dM,bP.1,bP.2.1,bP.2.2,gq,hx,ay,rfl⟩
   all_goals simp only [e0,e2,e3,go_sem,ak,sevalprocAttr]
 clear ay n3 n2 np jJ gj e0 e2 e3
 rintro e ds h ⟨rfl,e0,e2,e3,M6,t,lv4,hh,hv,v1,v2,v3,v4,v5,v6,v7,dM,n3,n2,np,jJ,hhv,ay,rfl⟩
 have o1:=eV hiv
 have aiZ:=(ce.trans dy).trans dM
 obtain ⟨fa,fc,rfl⟩:=wC r8
 have o3:=eV hgv
 obtain ⟨sw,hsw,ow,_⟩:=cb ZI
 obtain ⟨sh,Un,oh,_⟩:=cb hhv
 simp only [List.cons.injEq,and_true] at hsw Un
 obtain ⟨rfl,rfl,rfl,rfl,rfl,rfl,rfl⟩:=hsw
 obtain ⟨rfl,rfl,rfl,rfl,rfl,rfl,rfl⟩:=Un
 simp +contextual only [go_sem,ak,sevalprocAttr,e0,e2,e3,n3,n2,np,cr,bT,o1,o3,ow,oh]
 refine al (al (JL (sC aiZ r8) (by omega) (fun M7 iz fN ff=>aM hT rfl rfl ?_) (by simpa only [aE] using np)))
 have Ve:=bD.trans (aiZ.trans iz)
 exact ⟨_,t,lv4,ay,rfl,aN iz (fun _ _ h=>h) jJ,rfl,_,rfl,⟨iv,_,_,_,gv,aN Ve (ko Ve) hiv,ff,br ((dy.trans dM).trans iz) _ _ ZI,br iz _ _ hhv,aN (dM.trans iz) (br (dM.trans iz)) hgv,rfl⟩⟩
def qO (en:Int)(ex:List Tk ->Rs X):Nat ->Int ->List Tk ->Rs (List Int×List Se)
 | eT,k,t=>if 0<k then (match eT with
  | 0=> .err 5 (pF en t)
  | r+1=>(tX en ex t).bind fun s t=>(qi t).bind fun k' t=>(qO en ex r k' t).bind fun l t=> .ok (k::l.1,s::l.2) t) else .ok ([],[]) t
def S5 (en:Int)(t:List Tk):Rs Int:=(sP en t).bind fun n t'=>if n<0\/50<n then .err 3 (pF en t) else .ok n t'
def vE (en:Int)(ex:List Tk ->Rs X)(t:List Tk):Rs (List X×Int):=
 if bg pz t=true then (bY en [Uo] t.tail).bind fun _ t=>(dt en ex 8 t).bind fun l t=>(bY en [zp] t).bind fun _ t=>(S5 en t).bind fun n t=> .ok (l,n) t else .ok ([], -1) t
def yI (en:Int)(ex:List Tk ->Rs X)(parts:List Se)(ops:List Int)(t:List Tk):Rs Q:=(vE en ex t).bind fun o t=> .ok ⟨parts,ops,o.1,o.2⟩ t
def mG (en:Int)(ex:List Tk ->Rs X)(t:List Tk):Rs Q:=(tX en ex t).bind fun s t=>(qi t).bind fun k t=>(qO en ex 3 k t).bind fun l t=>yI en ex (s::l.2) l.1 t
def as6 (q:Q)(v:Value)(M:aV):Prop:=∃ cs,v=.agg ⟨cs⟩/\RQ M q cs
theorem OM {M:aV}{x:Se}{cs:List Value}(h:CX M x cs):∀ u∈cs,u.oneCell'=true:=by
 obtain ⟨i,f,w,hh,g,h1,h2,h3,h4,h5,rfl⟩:=h
 intro u hu
 simp only [List.cons_append,List.nil_append,List.mem_cons,List.mem_append,List.not_mem_nil,or_false] at hu
 rcases hu with rfl | rfl | rfl | rfl | rfl | rfl | hu | hu | rfl
 ·rfl
 ·rfl
 ·exact (eV h1).1
 ·exact (eV h2).1
 ·rfl
 ·rfl
 ·exact mq h3 u hu
 ·exact mq h4 u hu
 ·exact (eV h5).1
def JX (M:aV)(R:RR)(ov pv:Value)(parts:List Se)(ops:List Int):Prop:=
 ∃ oa oc pa pc xs ys,ov=.slice oa ops.length oc/\pv=.slice pa parts.length pc/\R=[(pv,79,21,xs),(ov,3,1,ys)]/\RL (CX M) parts xs/\RL RI ops ys
def DD (M:aV)(R:RR)(ov pv:Value)(parts:List Se)(ops:List Int):Prop:=
 (∃ bF xs,ops=[]/\ov=.slice none 0 0/\R=[]/\pv=.slice (some ⟨bF,0,none⟩) 1 1/\parts.length=1/\M bF=some xs/\RL (CX M) parts xs)\/JX M R ov pv parts ops
def Kf (M:aV)(R:RR)(ov pv:Value)(parts:List Se)(ops:List Int):Prop:=
 (∃ bF xs oa oc ys,ov=.slice oa ops.length oc/\R=[(ov,3,1,ys)]/\RL RI ops ys/\pv=.slice (some ⟨bF,0,none⟩) 1 1/\parts.length=1/\M bF=some xs/\RL (CX M) parts xs)\/JX M R ov pv parts ops
theorem BT {M M':aV}{R ov pv parts ops}(hM:bG M M')(h:JX M R ov pv parts ops):JX M' R ov pv parts ops:=by
 obtain ⟨oa,oc,pa,pc,xs,ys,h1,h2,h3,h4,h5⟩:=h
 exact ⟨oa,oc,pa,pc,xs,ys,h1,h2,h3,dZ (fun x cs h=>kn hM _ _ h) h4,h5⟩
theorem D6 {M M':aV}{R ov pv parts ops}(hM:bG M M')(h:DD M R ov pv parts ops):DD M' R ov pv parts ops:=by
 rcases h with ⟨bF,xs,h1,h2,h3,h4,h5,h6,h7⟩ | h
 ·exact .inl ⟨bF,xs,h1,h2,h3,h4,h5,hM _ _ h6,dZ (fun x cs h=>kn hM _ _ h) h7⟩
 ·exact .inr (BT hM h)
theorem NT {M M':aV}{R ov pv parts ops}(hM:bG M M')(h:Kf M R ov pv parts ops):Kf M' R ov pv parts ops:=by
 rcases h with ⟨bF,xs,oa,oc,ys,h1,h2,h3,h4,h5,h6,h7⟩ | h
 ·exact .inl ⟨bF,xs,oa,oc,ys,h1,h2,h3,h4,h5,hM _ _ h6,dZ (fun x cs h=>kn hM _ _ h) h7⟩
 ·exact .inr (BT hM h)
theorem Bf {M R ov pv parts ops}(h:DD M R ov pv parts ops):(∃ a c,ov=.slice a ops.length c)/\∃ a c,pv=.slice a parts.length c:=by
 rcases h with ⟨bF,xs,rfl,rfl,rfl,rfl,h,_⟩ | ⟨oa,oc,pa,pc,xs,ys,rfl,rfl,_⟩
 ·exact ⟨⟨_,_,rfl⟩,⟨_,_,by rw [h]⟩⟩
 ·exact ⟨⟨_,_,rfl⟩,⟨_,_,rfl⟩⟩
theorem cW {n:Int}{cs}(h:RI n cs):cs.length=1:=by unfold RI at h;subst h;rfl
theorem WP {F:Fi}{s:List Vc.Item}{e:dN}{ds:List Deferred}{dd:Option Nat}{T:Tm}{M:aV}{L:LL}{R:RR}{b a n c pv}{parts:List Se}{ops:List Int}{k:Int}(hf:DD M R (.slice a n c) pv parts ops)(hb:M b=none)(bQ:ops.length<=400)
 (kk:∀ a' c' R',Kf M R' (.slice a' (ops.length+1) c') pv parts (ops++[k]) ->cB Tryz.prog F s (cV e dd (.slice a' (ops.length+1) c')) ds ⟨T,M,(b,[.int .i64 k])::L,R'⟩ ⟨⟩):
 zM Tryz.prog F 24 24 (.slice a n c) (.slice (some ⟨b,0,none⟩) 1 1) dd s e ds ⟨T,M,(b,[.int .i64 k])::L,R⟩ ⟨⟩:=by
 have Ru:∀ R,Srcs Tryz.prog 24 1 ⟨T,M,(b,[.int .i64 k])::L,R⟩ (.slice (some ⟨b,0,none⟩) 1 1) [.int .i64 k]:=fun R=>
  .slice _ 1 _ _ _ Tryz.underlying24 (cT [] hb trivial rfl) (by intro u hu;simp only [List.mem_singleton] at hu;subst hu;rfl)
 rcases hf with ⟨bF,xs,rfl,h2,rfl,h4,h5,h6,h7⟩ | ⟨oa,oc,pa,pc,xs,ys,h1,h2,rfl,h3,h4⟩
 ·injection h2 with h2 LG Jc;subst h2 LG Jc
  refine nb kB kl (Ru []) (Nat.le_of_ble_eq_true rfl) ?_
  intro ra rm rc ky
  have:rm=1:=by simpa using ky
  subst this
  exact kk _ _ _ (.inl ⟨bF,xs,ra,rc,_,rfl,rfl,cP rfl,h4,h5,h6,h7⟩)
 ·injection h1 with h1 pm Tn;subst h1 pm Tn
  have nr:=fI (fun _ _=>cW) h4
  refine .inr ⟨_,_,_,_,kB,kl,Ru _,.inl ⟨1,ys,rfl,by rw [nr];simp only [List.length_cons,List.length_nil];omega,?_⟩⟩
  intro ra rm rc ky
  have:rm=ops.length+1:=by rw [nr] at ky;simp only [List.length_cons,List.length_nil] at ky;omega
  subst this
  exact kk _ _ _ (.inr ⟨_,_,_,_,_,_,by rw [List.length_append];rfl,h2,rfl,h3,dx h4 (cP rfl)⟩)
theorem Oo {F:Fi}{s:List Vc.Item}{e:dN}{ds:List Deferred}{dd:Option Nat}{T:Tm}{M:aV}{L:LL}{R:RR}{b a n c ov}{parts:List Se}{ops:List Int}{x:Se}{cs:List Value}(hf:Kf M R ov (.slice a n c) parts ops)(hx:CX M x cs)(hb:M b=none)(bQ:parts.length<=400)
 (kk:∀ a' c' R',DD M R' ov (.slice a' (parts.length+1) c') (parts++[x]) ops ->cB Tryz.prog F s (cV e dd (.slice a' (parts.length+1) c')) ds ⟨T,M,(b,cs)::L,R'⟩ ⟨⟩):
 zM Tryz.prog F 23 23 (.slice a n c) (.slice (some ⟨b,0,none⟩) 1 1) dd s e ds ⟨T,M,(b,cs)::L,R⟩ ⟨⟩:=by
 have dw:=lx hx
 have Ru:∀ R,Srcs Tryz.prog 23 21 ⟨T,M,(b,cs)::L,R⟩ (.slice (some ⟨b,0,none⟩) 1 1) cs:=fun R=>
  .slice _ 1 _ _ _ Tryz.underlying23 (cT [] hb trivial (by rw [dw])) (OM hx)
 rcases hf with ⟨bF,xs,oa,oc,ys,h1,rfl,h3,h4,h5,h6,h7⟩ | ⟨oa,oc,pa,pc,xs,ys,h1,h2,rfl,h3,h4⟩
 ·injection h4 with h4 h4' aq4;subst h4 h4' aq4
  have nr:=fI (fun _ _=>lx) h7
  rw [h5] at nr
  refine qE RH PI (Ru _) (xs:=xs) ?_ (by rw [dw];decide) (by rw [dw,nr];decide) ?_
  ·have:=zU (h:=⟨T,M,(b,cs)::L,[(ov,3,1,ys)]⟩) (b:=bF) (cs:=xs) (fun o v hv=>by
    have:aL M ⟨bF,o,none⟩=some v:=by rw [aY h6];exact hv
    simp only [Sh.cell,this]) 21 0 (by omega)
   simpa using this
  ·intro ra rm rc ky
   have:rm=parts.length+1:=by rw [dw,nr] at ky;omega
   subst this
   exact kk _ _ _ (.inr ⟨_,_,_,_,_,_,h1,by rw [List.length_append];rfl,rfl,dx h7 (cP hx),h3⟩)
 ·injection h2 with h2 LG Jc;subst h2 LG Jc
  have nr:=fI (fun _ _=>lx) h3
  refine gi RH PI (Ru _) (by rw [dw,nr];omega) ?_
  intro ra rm rc ky
  have:rm=parts.length+1:=by rw [dw,nr] at ky;omega
  subst this
  exact kk _ _ _ (.inr ⟨_,_,_,_,_,_,h1,by rw [List.length_append];rfl,rfl,dx h3 (cP hx),h4⟩)
theorem P9 {N M L R ov pv parts ops}{k:Sh ->Prop}(h:DD M R ov pv parts ops)(h1:parts.length<=400)(h2:ops.length<=400)(hk:∀ M',bG M M' ->aB M' L ->RS M' (CX M') 21 parts pv ->RS M' RI 1 ops ov ->cK ⟨N,M',L,[]⟩ k)(bN:aB M L):cK ⟨N,M,L,R⟩ k:=by
 rcases h with ⟨bF,xs,rfl,rfl,rfl,rfl,h3,h4,h5⟩ | ⟨oa,oc,pa,pc,xs,ys,rfl,rfl,rfl,h3,h4⟩
 ·exact hk M bG.rfl' bN (df (fun _ _=>lx) h4 h5 h3 (by decide)) bR
 ·exact dn fun M' hM iQ j7=>dn fun M'' lC YG aql=>hk M'' (hM.trans lC) YG ⟨by omega,xs,j7.ext lC,dZ (fun x cs h=>kn (hM.trans lC) _ _ h) h3⟩ ⟨by omega,ys,aql,h4⟩
theorem zg {P:Program}{F:Fi}{f:FuncId}{args:List Value}{dd:Option Nat}{s:List Vc.Item}{e:dN}{ds:List Deferred}{N:Tm}{M:aV}{b b':Nat}{cs cs':List Value}{L:LL}{R:RR}(hb:aK P f=true)
 (h:∀ M',bG M M' ->M' b=some cs ->aB M' ((b',cs')::L) ->dT P F f args dd s e ds ⟨N,M',(b',cs')::L,R⟩ ⟨⟩):dT P F f args dd s e ds ⟨N,M,(b',cs')::(b,cs)::L,R⟩ ⟨⟩:=
 eh (k:=fun h'=>∃ M',bG M M'/\M' b=some cs/\aB M' ((b',cs')::L)/\h'=⟨N,M',(b',cs')::L,R⟩) (ef (List.Perm.swap _ _ _) (aJ fun he h1 h2=>aA ⟨_,he,h1,h2,rfl⟩))
  (by rintro h' ⟨M',he,h1,h2,rfl⟩;exact h M' he h1 h2) hb
theorem EW {M:aV}{pb:Nat}{aS:List Tk}{lv:Value}{en op:Int}{ex:List Tk ->Rs X}(hg:fO M)(hl:RS M gT 3 aS lv)(jb:Zq en pb ex op)(dh:mG en ex aS≠ .out)(T:Tm):
 ep Tryz.prog 96 [.pointer (some ⟨pb,0,none⟩)] T M (pL pb lv en op) [] (fP pb en op as6 (mG en ex aS)) (gM pb en (mG en ex aS)):=by
 refine aT mx ajV Tryz.func96 rfl (by rw [atU];exact Nat.le_of_ble_eq_true rfl) (dr:=agm) (by kernel_rfl) apz ?_
 intro bN _
 simp only [aE] at bN
 simp +contextual only [go_sem,ak,sevalprocAttr]
 intro b2 T2 eG cr fu ju
 refine cq [(b2,_)] fu rfl dh (fun h=>O4 hg hl jb h T2) ?_
 rintro v M1 s0 t lv1 aP bL ay gF ⟨cs,rfl,Ar⟩
 have dw:=lx Ar
 simp only [List.cons_append,List.nil_append,aB,aE] at bL
 simp +contextual only [go_sem,ak,sevalprocAttr,bL,cr,dw]
 intro b7 km dj b3 T3 fh bT fD ja
 have hT:=fu.trans fD
 refine zg Qm fun M2 aX abC aQ=> ?_
 simp only [List.cons_append,List.nil_append,aB,aE] at aQ
 refine cq [(b3,_),(b2,_)] hT ay dh (fun _=>Qq (aN aX (fun _ _ h=>h) gF) T3) ?_
 rintro v M3 k t2 lv2 bD aZ ay ft rfl
 simp only [List.cons_append,List.nil_append,aB,aE] at aZ
 have Uk:DD M3 [] (.slice none 0 0) (.slice (some ⟨b7,0,none⟩) 1 1) [s0] []:=.inl ⟨b7,cs,rfl,rfl,rfl,rfl,rfl,bD _ _ abC,cP (kn (aX.trans bD) _ _ Ar)⟩
 simp +contextual only [go_sem,sevalprocAttr,aZ,cr,bT]
 refine gE (fun e ds h=>ds=[]/\e 0=.pointer (some ⟨pb,0,none⟩)/\e 2=.pointer (some ⟨b2,0,none⟩)/\e 3=.pointer (some ⟨b3,0,none⟩)/\
  ∃ M' t lv' parts ops pv ov R,bG M3 M'/\M' b3=none/\M' b2=none/\M' pb=none/\RS M' gT 3 t lv'/\parts.length<=4/\ops.length<=4/\DD M' R ov pv parts ops/\mG en ex aS=yI en ex parts ops t/\
   h=⟨T3,M',(b3,[pv,ov,.slice none 0 0,.int .i64 (-1)])::(b2,[.slice none 0 0,.slice none 0 0,.slice none 0 0,.int .i64 0])::pL pb lv' en op,R⟩) (fun S' dW=> ?_) ?_
 ·simp +contextual only [go_sem,ak,sevalprocAttr]
  refine iL (fun m e ds h=>ds=[]/\e 0=.pointer (some ⟨pb,0,none⟩)/\e 2=.pointer (some ⟨b2,0,none⟩)/\e 3=.pointer (some ⟨b3,0,none⟩)/\
   ∃ M' t lv' k parts ops pv ov R,e 4=.int .i64 k/\m+parts.length=4/\ops.length+1=parts.length/\bG M3 M'/\M' b3=none/\M' b2=none/\M' pb=none/\RS M' gT 3 t lv'/\DD M' R ov pv parts ops/\
    mG en ex aS=(qO en ex m k t).bind (fun l t=>yI en ex (parts++l.2) (ops++l.1) t)/\
    h=⟨T3,M',(b3,[pv,ov,.slice none 0 0,.int .i64 (-1)])::(b2,[.slice none 0 0,.slice none 0 0,.slice none 0 0,.int .i64 0])::pL pb lv' en op,R⟩)
   ⟨3,rfl,?_,?_,?_,M3,t2,lv2,k,[s0],[],_,_,[],?_,rfl,rfl,bG.rfl',aZ.1,aZ.2.1,aZ.2.2,ft,Uk,ay,rfl⟩ ?_
  all_goals first | (simp only [go_sem,ak,sevalprocAttr];done) | skip
  clear ay ft Uk
  rintro m e ds h ⟨rfl,e0,e2,e3,M4,t4,lv4,k,parts,ops,pv,ov,R,e4,hm,hpo,ce,n3,n2,np,jJ,Uk,ay,rfl⟩
  by_cases hk:0<k
  ·obtain ⟨⟨oa,oc,rfl⟩,pa,pc,rfl⟩:=Bf Uk
   unfold qO at ay
   rw [if_pos hk] at ay
   cases m with
   | zero=>
    have bQ:(parts.length:Int)=4:=by omega
    simp +contextual only [go_sem,ak,sevalprocAttr,e0,e2,e3,e4,hk,n3,n2,np,cr,bT,bQ]
    refine mL [(b3,_),(b2,_)] jJ ?_
    simp +contextual only [go_sem,ak,sevalprocAttr]
    exact fJ [(b3,_),(b2,_)] hT ay
   | succ m=>
    have bQ:¬ (parts.length:Int)=4:=by omega
    simp only [Rs.bind_assoc] at ay
    simp +contextual only [go_sem,ak,sevalprocAttr,e0,e2,e3,e4,hk,n3,n2,np,cr,bT,bQ]
    refine eR ⟨T,fun _=>none,[(b3,_)],[]⟩ (gn n3) ?_
    simp +contextual only [go_sem,ak,sevalprocAttr,e0,e2,e3,e4,hk,n3,n2,np,cr,bT,bQ]
    intro b8 sd fj
    refine ⟨rA n3 (fun h=>fj.1.2 h),?_⟩
    refine WP Uk sd (by omega) ?_
    intro oa' oc' R1 atu
    simp +contextual only [go_sem,ak,sevalprocAttr,e0,e2,e3,e4,hk,n3,n2,np,cr,bT,fj,bQ]
    refine ⟨rA n3 (fun h=>fj.1.2 h),?_⟩
    have hg4:=(hg.ext aP).ext ((aX.trans bD).trans ce)
    refine cq [(b8,_),(b3,_),(b2,_)] hT ay dh (fun h=>O4 hg4 jJ jb h T3) ?_
    rintro v M5 s1 t5 lv5 dy bE ay gj ⟨cs1,rfl,gH⟩
    have asS:=lx gH
    simp only [List.cons_append,List.nil_append,aB,aE] at bE
    simp +contextual only [go_sem,ak,sevalprocAttr,bE,cr,bT,fj,asS,e0,e2,e3]
    refine ⟨dJ [(b8,_)] bE.2.1 ⟨⟨fj.1.2,fj.1.1⟩,trivial⟩,?_⟩
    intro b9 rF je
    refine ⟨dJ [(b9,_),(b8,_)] bE.2.1 ⟨⟨je.2.1.2,je.2.1.1⟩,⟨fj.1.2,fj.1.1⟩,trivial⟩,?_⟩
    refine Oo (NT dy atu) gH rF (by omega) ?_
    intro pa' pc' R2 as5
    simp +contextual only [go_sem,ak,sevalprocAttr,bE,cr,bT,fj,je,rF,e0,e2,e3]
    refine ⟨dJ [(b9,_),(b8,_)] bE.2.1 ⟨⟨je.2.1.2,je.2.1.1⟩,⟨fj.1.2,fj.1.1⟩,trivial⟩,?_⟩
    refine cq [(b9,_),(b8,_),(b3,_),(b2,_)] hT ay dh (fun _=>Qq gj T3) ?_
    rintro v M6 k' t6 lv6 dM bP ay gq rfl
    simp only [List.cons_append,List.nil_append,aB,aE] at bP
    simp +contextual only [go_sem,ak,sevalprocAttr,e0,e2,e3]
    rw [fq]
    refine al (al (aA ⟨m,by omega,rfl,?_,?_,?_,M6,t6,lv6,k',parts++[s1],ops++[k],_,_,R2,?_,?_,?_,(ce.trans dy).trans dM,bP.2.2.1,bP.2.2.2.1,bP.2.2.2.2,gq,D6 dM as5,?_,rfl⟩))
    ·simp only [e0,go_sem,ak,sevalprocAttr]
    ·simp only [e2,go_sem,ak,sevalprocAttr]
    ·simp only [e3,go_sem,ak,sevalprocAttr]
    ·simp only [go_sem,ak,sevalprocAttr]
    ·rw [List.length_append];simp only [List.length_cons,List.length_nil];omega
    ·rw [List.length_append,List.length_append];simp only [List.length_cons,List.length_nil];omega
    ·rw [ay];congr 1;funext l t;simp [Rs.bind]
  ·unfold qO at ay
   rw [if_neg hk] at ay
   simp +contextual only [go_sem,ak,sevalprocAttr,e0,e2,e3,e4,hk]
   refine dW _ _ _ ⟨rfl,?_,?_,?_,M4,_,lv4,parts,ops,pv,ov,R,ce,n3,n2,np,jJ,by omega,by omega,Uk,?_,rfl⟩
   ·simp only [e0,go_sem,ak,sevalprocAttr]
   ·simp only [e2,go_sem,ak,sevalprocAttr]
   ·simp only [e3,go_sem,ak,sevalprocAttr]
   ·rw [ay];simp [Rs.bind]
 clear ay aZ ft Uk aQ bL
 rintro e ds h ⟨rfl,e0,e2,e3,M4,t,lv4,parts,ops,pv,ov,R,ce,n3,n2,np,jJ,py,hol,Uk,ay,rfl⟩
 simp +contextual only [go_sem,ak,sevalprocAttr,e0,e2,e3]
 refine Ev [(b3,_),(b2,_)] pz jJ ?_
 intro lv5 gj
 unfold yI vE at ay
 generalize bg pz t=gw at ay gj ⊢
 simp +contextual only [go_sem,sevalprocAttr,n3,n2,np,cr,bT,e0,e2,e3]
 have hg4:=(hg.ext aP).ext ((aX.trans bD).trans ce)
 refine dI (fun e ds h=>ds=[]/\e 0=.pointer (some ⟨pb,0,none⟩)/\e 2=.pointer (some ⟨b2,0,none⟩)/\e 3=.pointer (some ⟨b3,0,none⟩)/\
  ∃ M' t lv' ord rv lim,bG M4 M'/\M' b3=none/\M' b2=none/\M' pb=none/\RS M' gT 3 t lv'/\RS M' (RX M') 7 ord rv/\mG en ex aS=.ok ⟨parts,ops,ord,lim⟩ t/\
   h=⟨T3,M',(b3,[pv,ov,rv,.int .i64 lim])::(b2,[.slice none 0 0,.slice none 0 0,.slice none 0 0,.int .i64 0])::pL pb lv' en op,R⟩) (fun S' dW=> ?_) ?_
 ·cases gw with
  | false=>
   simp only [if_false,Bool.false_eq_true] at ay gj
   simp +contextual only [go_sem,ak,sevalprocAttr]
   refine dW _ _ _ ⟨rfl,?_,?_,?_,M4,_,lv5,[],_,_,bG.rfl',n3,n2,np,gj,bR,ay,rfl⟩
   all_goals simp only [e0,e2,e3,go_sem,ak,sevalprocAttr]
  | true=>
   simp only [if_true,Rs.bind_assoc] at ay gj
   simp +contextual only [go_sem,ak,sevalprocAttr,e0,e2,e3]
   intro b5 jH eO
   refine eg [(b3,_),(b2,_)] hT ay gj ?_
   intro M5 lv6 dy bE ay gq
   simp +contextual only [go_sem,ak,sevalprocAttr,e0,e2,e3]
   refine cq [(b3,_),(b2,_)] hT ay dh (fun h=>B7 (fa:=[.pointer (some ⟨pb,0,none⟩)]) (fc:=[]) (C:=fun _=>True) (r:=RX) (enc:=Ht) (g:=ex) 8
    (fun M t lv T hg _ hl dh=>jb M t lv T hg hl dh) (fun x v M h=>by obtain ⟨cs,rfl,h⟩:=h;exact ⟨cs,rfl,h⟩) (fun _ _ _ h=>dY h) (fun _ _ _ h=>mq h) (fun _ _ _ _ he h=>br he _ _ h)
    (fun _ _ _ h=>h) trivial (by decide) (hg4.ext dy) gq h T3) ?_
   rintro v M6 ord t2 lv7 dM bP ay nN hv
   obtain ⟨oN,tU⟩:=eV hv
   have D0:=tU
   simp only [Value.cells] at D0
   simp only [List.cons_append,List.nil_append,aB,aE] at bP
   simp +contextual only [go_sem,ak,sevalprocAttr,bP,cr,bT,oN,tU,D0,e0,e2,e3]
   intro b6 mB de
   refine eg [(b3,_),(b2,_)] hT ay nN ?_
   intro M7 lv8 iz fN ay r9
   simp +contextual only [go_sem,ak,sevalprocAttr,e0,e2,e3]
   refine mL [(b3,_),(b2,_)] r9 ?_
   unfold S5 at ay
   rw [Rs.bind_assoc] at ay
   simp +contextual only [go_sem,ak,sevalprocAttr,e0,e2,e3]
   refine cq [(b3,_),(b2,_)] hT ay dh (fun _=>Fj r9 T3) ?_
   rintro v M8 n t3 lv9 jv gS ay Ec rfl
   simp only [List.cons_append,List.nil_append,aB,aE] at gS
   by_cases hn:n<0
   ·rw [if_pos (.inl hn)] at ay
    simp +contextual only [go_sem,ak,sevalprocAttr,e0,e2,e3,hn]
    exact fJ [(b3,_),(b2,_)] hT ay
   ·by_cases nJ:50<n
    ·rw [if_pos (.inr nJ)] at ay
     simp +contextual only [go_sem,ak,sevalprocAttr,e0,e2,e3,hn,nJ]
     exact fJ [(b3,_),(b2,_)] hT ay
    ·rw [if_neg (by omega)] at ay
     simp +contextual only [go_sem,ak,sevalprocAttr,e0,e2,e3,hn,nJ,gS,cr,bT]
     refine dW _ _ _ ⟨rfl,?_,?_,?_,M8,_,lv9,ord,_,n,((dy.trans dM).trans iz).trans jv,gS.1,gS.2.1,gS.2.2,Ec,aN (iz.trans jv) (br (iz.trans jv)) hv,ay,rfl⟩
     all_goals simp only [e0,e2,e3,go_sem,ak,sevalprocAttr]
 clear ay n3 n2 np jJ gj e0 e2 e3
 rintro e ds h ⟨rfl,e0,e2,e3,M5,t,lv4,ord,rv,lim,dy,n3,n2,np,jJ,Bc,ay,rfl⟩
 obtain ⟨⟨oa,oc,rfl⟩,pa,pc,rfl⟩:=Bf Uk
 have o3:=eV Bc
 simp +contextual only [go_sem,ak,sevalprocAttr,e0,e2,e3,n3,n2,np,cr,bT,o3]
 refine al (al (P9 (D6 dy Uk) (by omega) (by omega) (fun M6 dM bP ff hos=>aM hT rfl rfl ?_) (by simpa only [aE] using np)))
 exact ⟨_,t,lv4,ay,rfl,aN dM (fun _ _ h=>h) jJ,rfl,_,rfl,⟨_,_,_,ff,hos,aN dM (br dM) Bc,rfl⟩⟩
def yR:Q:=⟨[],[],[],0⟩
def adU (q:Stm)(v:Value)(M:aV):Prop:=∃ cs,v=.agg ⟨cs⟩/\o9 M q cs
theorem xd {M:aV}:RQ M yR [.slice none 0 0,.slice none 0 0,.slice none 0 0,.int .i64 0]:=⟨_,_,_,bR,bR,bR,rfl⟩
theorem xm {M:aV}{q:Q}{cs:List Value}(h:RQ M q cs):∃ p o r,cs=[p,o,r,.int .i64 q.limit]/\p.oneCell'=true/\o.oneCell'=true/\r.oneCell'=true:=by
 obtain ⟨p,o,r,h1,h2,h3,rfl⟩:=h
 exact ⟨p,o,r,rfl,(eV h1).1,(eV h2).1,(eV h3).1⟩
def Pi (en:Int)(ex:List Tk ->Rs X)(t:List Tk):Rs Stm:=(iE en t).bind fun n t=>(bY en [xt] t).bind fun _ t=>(mG en ex t).bind fun q t=> .ok ⟨2,n,[],q,[],false,jh⟩ t
def HK (en:Int)(t:List Tk):Rs Stm:=(bY en [vO] t).bind fun _ t=>(iE en t).bind fun n t=>(bY en [dp] t).bind fun _ t=>(dt en (nh en) 8 t).bind fun c t=>(bY en [cd] t).bind fun _ t=> .ok ⟨1,n,c,yR,[],false,jh⟩ t
def CU (en:Int)(t:List Tk):Rs Stm:=(bY en [Ba] t).bind fun _ t=>(iE en t).bind fun n t=>(bY en [rC] t).bind fun _ t=>(dt en (Ia en) 400 t).bind fun r t=> .ok ⟨3,n,[],yR,r,false,jh⟩ t
def C4 (en:Int)(ex:List Tk ->Rs X)(t:List Tk):Rs Stm:=(bY en [qI] t).bind fun _ t=>(iE en t).bind fun n t=>(wR ex fx t).bind fun wh t'=> .ok ⟨4,n,[],yR,[],bg fx t,wh⟩ t'
def Qr (en:Int)(ex:List Tk ->Rs X)(t:List Tk):Rs Stm:=(bY en [BA] t).bind fun _ t=>(mG en ex t).bind fun q t=> .ok ⟨5,[],[],q,[],false,jh⟩ t
def lW (en:Int)(ex:List Tk ->Rs X)(t:List Tk):Rs Stm:=
 if bg jN t=true then (if bg tV t.tail=true then Pi en ex t.tail.tail else HK en t.tail)
 else if bg pC t=true then CU en t.tail
 else if bg pd t=true then C4 en ex t.tail
 else Qr en ex t
theorem Vz {M:aV}{pb:Nat}{aS:List Tk}{lv:Value}{en op:Int}{ex:List Tk ->Rs X}(hg:fO M)(hl:RS M gT 3 aS lv)(jb:Zq en pb ex op)(dh:lW en ex aS≠ .out)(T:Tm):
 ep Tryz.prog 50 [.pointer (some ⟨pb,0,none⟩)] T M (pL pb lv en op) [] (fP pb en op adU (lW en ex aS)) (gM pb en (lW en ex aS)):=by
 refine aT mx anO Tryz.func50 rfl (by rw [ap2];exact Nat.le_of_ble_eq_true rfl) (dr:=afr) (by kernel_rfl) ati ?_
 intro bN _
 simp only [aE] at bN
 simp +contextual only [go_sem,ak,sevalprocAttr]
 intro b2 T2 eG cr fu ju
 have ay:lW en ex aS=lW en ex aS:=rfl
 generalize hS:lW en ex aS=S at dh ⊢
 unfold lW at hS
 replace ay:=hS.symm
 refine jd [(b2,_)] jN hl (fun hs lv1 gF=> ?_) (fun hs lv1 gF=> ?_)
 ·rw [if_pos hs] at ay
  simp +contextual only [go_sem,ak,sevalprocAttr]
  refine jd [(b2,_)] tV gF (fun hs lv2 ft=> ?_) (fun hs lv2 ft=> ?_)
  ·rw [if_pos hs] at ay
   unfold Pi at ay
   simp +contextual only [go_sem,ak,sevalprocAttr]
   refine cq [(b2,_)] fu ay dh (fun _=>iK hg ft T2) ?_
   rintro v M1 n t lv3 aP bL ay fV rfl
   simp only [List.cons_append,List.nil_append,aB,aE] at bL
   simp +contextual only [go_sem,ak,sevalprocAttr,bL,cr]
   intro b3 T3 fh bT fD ja b4 iR cN
   have hT:=fu.trans fD
   refine eg [(b3,_),(b2,_)] hT ay fV ?_
   intro M2 lv4 aX aQ ay jJ
   simp +contextual only [go_sem,ak,sevalprocAttr]
   refine cq [(b3,_),(b2,_)] hT ay dh (fun h=>EW ((hg.ext aP).ext aX) jJ jb h T3) ?_
   rintro v M3 q t2 lv5 bD aZ ay gj ⟨cs,rfl,hq⟩
   obtain ⟨p,o,r,rfl,h1,h2,h3⟩:=xm hq
   simp only [List.cons_append,List.nil_append,aB,aE] at aZ
   simp +contextual only [go_sem,ak,sevalprocAttr,aZ,cr,bT,h1,h2,h3]
   refine al (al (aM hT rfl rfl ?_))
   exact ⟨_,_,lv5,ay,rfl,gj,rfl,_,rfl,_,_,_,_,bR,hq,bR,lB,rfl⟩
  ·rw [if_neg (by simp [hs])] at ay
   unfold HK at ay
   simp +contextual only [go_sem,ak,sevalprocAttr]
   intro b4 iR cN
   refine eg [(b2,_)] fu ay ft ?_
   intro M1 lv3 aP bL ay fV
   simp +contextual only [go_sem,ak,sevalprocAttr]
   refine cq [(b2,_)] fu ay dh (fun _=>iK (hg.ext aP) fV T2) ?_
   rintro v M2 n t lv4 aX aQ ay jJ rfl
   simp only [List.cons_append,List.nil_append,aB,aE] at aQ
   simp +contextual only [go_sem,ak,sevalprocAttr,aQ,cr]
   intro b3 T3 fh bT fD ja b5 jH eO
   have hT:=fu.trans fD
   refine eg [(b3,_),(b2,_)] hT ay jJ ?_
   intro M3 lv5 bD aZ ay gj
   simp +contextual only [go_sem,ak,sevalprocAttr]
   refine cq [(b3,_),(b2,_)] hT ay dh (fun h=>Io (fa:=[.pointer (some ⟨pb,0,none⟩)]) (fc:=[]) (C:=fun _=>True) (r:=fun _=>uE) (enc:=Y7) (g:=nh en) 8
    (fun M t lv T hg _ hl dh=>MA hg hl T) (fun x v M h=>by obtain ⟨cs,rfl,h⟩:=h;exact ⟨cs,rfl,h⟩) (fun _ _ _ h=>by unfold uE at h;subst h;rfl) (fun _ _ _ h=>by unfold uE at h;subst h;intro u hu;simp only [List.mem_cons,List.not_mem_nil,or_false] at hu;rcases hu with rfl | rfl<;>rfl) (fun _ _ _ _ he h=>h)
    (fun _ _ _ h=>h) trivial (by decide) (((hg.ext aP).ext aX).ext bD) gj h T3) ?_
   rintro v M4 cols t2 lv6 ce bH ay gq hv
   obtain ⟨oN,tU⟩:=eV hv
   have D0:=tU
   simp only [Value.cells] at D0
   simp only [List.cons_append,List.nil_append,aB,aE] at bH
   simp +contextual only [go_sem,ak,sevalprocAttr,bH,cr,bT,oN,tU,D0]
   intro b6 mB de
   refine eg [(b3,_),(b2,_)] hT ay gq ?_
   intro M5 lv7 dy bE ay nN
   simp only [List.cons_append,List.nil_append,aB,aE] at bE
   simp +contextual only [go_sem,ak,sevalprocAttr,bE,cr,bT,oN,tU,D0]
   refine al (al (aM hT rfl rfl ?_))
   exact ⟨_,_,lv7,ay,rfl,nN,rfl,_,rfl,_,_,_,_,aN dy (fun _ _ h=>h) hv,xd,bR,lB,rfl⟩
 rw [if_neg (by simp [hs])] at ay
 clear hs
 simp +contextual only [go_sem,ak,sevalprocAttr]
 refine jd [(b2,_)] pC gF (fun hs lv2 ft=> ?_) (fun hs lv2 ft=> ?_)
 ·rw [if_pos hs] at ay
  unfold CU at ay
  simp +contextual only [go_sem,ak,sevalprocAttr]
  intro b4 iR cN
  refine eg [(b2,_)] fu ay ft ?_
  intro M1 lv3 aP bL ay fV
  simp +contextual only [go_sem,ak,sevalprocAttr]
  refine cq [(b2,_)] fu ay dh (fun _=>iK (hg.ext aP) fV T2) ?_
  rintro v M2 n t lv4 aX aQ ay jJ rfl
  simp only [List.cons_append,List.nil_append,aB,aE] at aQ
  simp +contextual only [go_sem,ak,sevalprocAttr,aQ,cr]
  intro b3 T3 fh bT fD ja b5 jH eO
  have hT:=fu.trans fD
  refine eg [(b3,_),(b2,_)] hT ay jJ ?_
  intro M3 lv5 bD aZ ay gj
  simp +contextual only [go_sem,ak,sevalprocAttr]
  refine cq [(b3,_),(b2,_)] hT ay dh (fun h=>H6 (fa:=[.pointer (some ⟨pb,0,none⟩)]) (fc:=[]) (C:=fun _=>True) (r:=RVs) (enc:=TG) (g:=Ia en) 400
   (fun M t lv T hg _ hl dh=>acD hg hl T) (fun x v M h=>⟨_,(eV h).2,_,h,rfl⟩) (fun _ _ _ h=>by obtain ⟨_,_,rfl⟩:=h;rfl) (fun _ _ _ h=>by obtain ⟨_,h,rfl⟩:=h;intro u hu;simp only [List.mem_singleton] at hu;subst hu;exact (eV h).1) (fun _ _ _ _ he h=>J7 he _ _ h)
   (fun _ _ _ h=>h) trivial (by decide) (((hg.ext aP).ext aX).ext bD) gj h T3) ?_
  rintro v M4 rows t2 lv6 ce bH ay gq hv
  obtain ⟨oN,tU⟩:=eV hv
  have D0:=tU
  simp only [Value.cells] at D0
  simp only [List.cons_append,List.nil_append,aB,aE] at bH
  simp +contextual only [go_sem,ak,sevalprocAttr,bH,cr,bT,oN,tU,D0]
  refine al (al (aM hT rfl rfl ?_))
  exact ⟨_,_,lv6,ay,rfl,gq,rfl,_,rfl,_,_,_,_,bR,xd,hv,lB,rfl⟩
 rw [if_neg (by simp [hs])] at ay
 clear hs
 simp +contextual only [go_sem,ak,sevalprocAttr]
 refine jd [(b2,_)] pd ft (fun hs lv3 fV=> ?_) (fun hs lv3 fV=> ?_)
 ·rw [if_pos hs] at ay
  unfold C4 at ay
  simp +contextual only [go_sem,ak,sevalprocAttr]
  intro b4 iR cN
  refine eg [(b2,_)] fu ay fV ?_
  intro M1 lv4 aP bL ay jJ
  simp +contextual only [go_sem,ak,sevalprocAttr]
  refine cq [(b2,_)] fu ay dh (fun _=>iK (hg.ext aP) jJ T2) ?_
  rintro v M2 n t lv5 aX aQ ay gj rfl
  simp only [List.cons_append,List.nil_append,aB,aE] at aQ
  simp +contextual only [go_sem,ak,sevalprocAttr,aQ,cr]
  intro b3 T3 fh bT fD ja
  have hT:=fu.trans fD
  refine jd [(b3,_),(b2,_)] fx gj (fun hs lv6 gq=> ?_) (fun hs lv6 gq=> ?_)
  ·unfold wR at ay
   rw [if_pos hs,hs] at ay
   simp +contextual only [go_sem,ak,sevalprocAttr,aQ,fh,cr,bT]
   refine cq [(b3,_),(b2,_)] hT ay dh (fun h=>jb M2 _ lv6 T3 ((hg.ext aP).ext aX) gq h) ?_
   rintro v M3 x t2 lv7 bD aZ ay nN ⟨cs,rfl,hx⟩
   obtain ⟨s,rfl,h1,_⟩:=cb hx
   simp only [List.cons_append,List.nil_append,aB,aE] at aZ
   simp +contextual only [go_sem,ak,sevalprocAttr,aZ,cr,bT,h1]
   refine al (al (aM hT rfl rfl ?_))
   exact ⟨_,_,lv7,ay,rfl,nN,rfl,_,rfl,_,_,_,_,bR,xd,bR,hx,rfl⟩
  ·unfold wR at ay
   rw [if_neg (by simp [hs]),hs] at ay
   simp +contextual only [go_sem,ak,sevalprocAttr,aQ,fh,cr,bT]
   refine al (al (aM hT rfl rfl ?_))
   exact ⟨_,_,lv6,ay,rfl,gq,rfl,_,rfl,_,_,_,_,bR,xd,bR,lB,rfl⟩
 rw [if_neg (by simp [hs])] at ay
 clear hs
 unfold Qr at ay
 simp +contextual only [go_sem,ak,sevalprocAttr]
 intro b4 iR cN
 refine eg [(b2,_)] fu ay fV ?_
 intro M1 lv4 aP bL ay jJ
 simp +contextual only [go_sem,ak,sevalprocAttr]
 refine cq [(b2,_)] fu ay dh (fun h=>EW (hg.ext aP) jJ jb h T2) ?_
 rintro v M2 q t2 lv5 aX aQ ay gj ⟨cs,rfl,hq⟩
 obtain ⟨p,o,r,rfl,h1,h2,h3⟩:=xm hq
 simp only [List.cons_append,List.nil_append,aB,aE] at aQ
 simp +contextual only [go_sem,ak,sevalprocAttr,aQ,cr,h1,h2,h3]
 refine al (aM fu rfl rfl ?_)
 exact ⟨_,_,lv5,ay,rfl,gj,rfl,_,rfl,_,_,_,_,bR,hq,bR,lB,rfl⟩
def l8 (p:UInt8 ->Bool)(s:Bs):Nat:=(s.takeWhile p).length
theorem zx {gf:Nat}{p:UInt8 ->Bool}(hp:∀ (c:UInt8) (M:aV),Ct Tryz.prog gf [.int .u8 (c.toNat:Int)] M [] [] (fun r _ _ _=>r=.bool (p c)) bj)(s:Bs)(hs:s.length<=4000)(M:aV):
 Ct Tryz.prog 139 [st s,.func (.func gf) ⟨[]⟩ ⟨[]⟩] M [] [] (fun r _ _ _=>r=.int .i64 (l8 p s)) bj:=by
 intro T
 refine aT mx acj Tryz.func139 rfl (by rw [amT];exact Nat.le_of_ble_eq_true rfl) (dr:=ZT) (by kernel_rfl) amD ?_
 intro bN _
 simp +contextual only [go_sem,ak,sevalprocAttr]
 refine bh s.length 5 [(0,st s),(1,.func (.func gf) ⟨[]⟩ ⟨[]⟩)] (fun i e h=>∃ M',h=⟨T,M',[],[]⟩/\l8 p s=i+l8 p (s.drop i)) 0 (by omega) (by simp only [aG,go_sem,ak,sevalprocAttr]) (by simp only [go_sem,ak,sevalprocAttr]) ⟨M,rfl,by simp⟩ ?_
 rintro i e h hi aD ht ⟨M1,rfl,ay⟩
 simp only [aG,st] at aD
 by_cases aF:i<s.length
 ·have hx:=k9 aF
  have bX:s.drop i=s[i]::s.drop (i+1):=List.drop_eq_getElem_cons aF
  rw [bX] at ay
  simp +contextual only [go_sem,ak,sevalprocAttr,aD,ht,aF,hx]
  refine am (hp s[i] M1 T) ?_ (fun _ _ _ _ h=>h.elim)
  rintro v M2 aX _ rfl
  by_cases hk:p s[i]=true
  ·simp +contextual only [go_sem,ak,sevalprocAttr,aD,ht,hk]
   refine bW aF ?_ ?_ ⟨M2,rfl,?_⟩
   ·simp only [aG,aD,go_sem,ak,sevalprocAttr]
   ·simp only [ht,go_sem,ak,sevalprocAttr,aC i (by omega)]
   ·rw [ay];simp only [l8,List.takeWhile_cons,hk,if_true,List.length_cons];omega
  ·simp +contextual only [go_sem,ak,sevalprocAttr,aD,ht,hk]
   refine az aH.rfl' ?_
   rw [ay]
   simp only [l8,List.takeWhile_cons,hk,if_false,Bool.false_eq_true,List.length_nil,Nat.add_zero]
 ·have:i=s.length:=by omega
  subst this
  simp +contextual only [go_sem,ak,sevalprocAttr,aD,ht,aF]
  refine az aH.rfl' ?_
  rw [ay]
  simp [l8]
theorem IT (s x:Bs)(M:aV):Ct Tryz.prog 182 [st s,st x] M [] [] (fun r _ _ _=>r=.bool (x.isPrefixOf s)) bj:=by
 intro T
 refine aT mx abt Tryz.func182 rfl (by rw [agk];exact Nat.le_of_ble_eq_true rfl) (dr:=Yq) (by kernel_rfl) aiY ?_
 intro bN _
 by_cases hl:x.length<=s.length
 ·simp +contextual only [go_sem,ak,sevalprocAttr,hl]
  refine az aH.rfl' ?_
  rw [List.drop_zero]
  congr 1
  rw [Bool.eq_iff_iff,List.isPrefixOf_iff_prefix,List.prefix_iff_eq_take,decide_eq_true_eq]
  exact eq_comm
 ·simp +contextual only [go_sem,ak,sevalprocAttr,hl]
  refine az aH.rfl' ?_
  have:x.isPrefixOf s=false:=by
   rw [Bool.eq_false_iff];intro h;exact hl (List.isPrefixOf_iff_prefix.1 h).length_le
  rw [this]
theorem Me (s x:Bs)(M:aV):Ct Tryz.prog 142 [st s,st x] M [] [] (fun r _ _ _=>r=.bool (x.isPrefixOf s)) bj:=by
 intro T
 refine aT mx aaH Tryz.func142 rfl (by rw [agH];exact Nat.le_of_ble_eq_true rfl) (dr:=Yu) (by kernel_rfl) alL ?_
 intro bN _
 simp +contextual only [go_sem,ak,sevalprocAttr]
 refine am (IT s x M T) ?_ (fun _ _ _ _ h=>h.elim)
 rintro v M2 aX _ rfl
 simp +contextual only [go_sem,ak,sevalprocAttr]
 exact az aH.rfl' rfl
open Go Vc Go.RowKit Go.Shelf
theorem I4:Tryz.f177.ntmps=20:=by kernel_rfl
theorem pX:(Tryz.prog.info? 136).map (·.size)=some 2:=by kernel_rfl
theorem liesBuilder:liesAt Tryz.prog Tryz.prog.depth 136 (2 / Tryz.prog.cellsOf 136) 0 136 1=true:=by kernel_rfl
set_option maxHeartbeats 1000000 in
set_option maxRecDepth 100000 in
theorem oC (b:Nat)(w:World)(h0:w.cell? ⟨b,0,none⟩=some (.pointer (some ⟨b,0,none⟩))):
 Calls Tryz.prog 177 #[.pointer (some ⟨b,0,none⟩)] w fun e w'=>e=.returned (.tuple #[])/\w'=w:=by
 obtain ⟨j,hj,_⟩:=Option.map_eq_some_iff.1 pX
 have mixed:=mx
 go_enter Tryz.func177,I4
 go_wp2
 rw [Lib.run_neq_ptr_same w _ Tryz.underlying133 hj]
 go_wp2
 go_end0
 exact ⟨rfl,rfl⟩
set_option maxHeartbeats 1000000 in
set_option maxRecDepth 100000 in
theorem ui (b:Nat)(w:World)(h0:w.cell? ⟨b,0,none⟩=some (.pointer none))(Un:w.shape? b=some (136,2))(hfz:w.frozen? ⟨b,0,none⟩=false):
 Calls Tryz.prog 177 #[.pointer (some ⟨b,0,none⟩)] w fun e w'=>e=.returned (.tuple #[])/\w'=w.setCell ⟨b,0,none⟩ (.pointer (some ⟨b,0,none⟩)):=by
 obtain ⟨j,hj,hjs⟩:=Option.map_eq_some_iff.1 pX
 have mixed:=mx
 have t95:=Tryz.underlying136
 have t93:=Tryz.underlying133
 go_enter Tryz.func177,I4
 go_wp2
 rw [Lib.run_to_unsafe w ⟨b,0,none⟩ Tryz.underlying133 Tryz.underlying328 hj (by rw [hjs];decide) Un (Nat.zero_lt_succ 1)]
 simp only [Result.andThen]
 rw [Oper.upon_value]
 go_wp2
 rw [run_callFunc_extern Tryz.func234 (by kernel_rfl) (by kernel_rfl) (by kernel_rfl) (e:=Extern.AbiNoEscape.same) (by kernel_rfl)]
 rw [Lib.run_noEscape]
 simp only [Result.andThen]
 rw [Oper.upon_value]
 go_wp2
 rw [Lib.run_from_unsafe w ⟨b,0,none⟩ Tryz.underlying328 Tryz.underlying133 hj Un liesBuilder]
 simp only [Result.andThen]
 rw [Oper.upon_value]
 go_wp2
 go_end0
 exact ⟨rfl,rfl⟩
theorem Yd:Tryz.f45.ntmps=14:=by kernel_rfl
theorem cellsByte:Tryz.prog.cellsOf 5=1:=by kernel_rfl
set_option maxHeartbeats 1000000 in
set_option maxRecDepth 100000 in
theorem Ub {tid:TypeId}(b g cap:Nat)(p:Value)(cur:Array Value)(l:List UInt8)(w:World)(h0:l≠[])(lh:w.heap[b]?=some (.cells #[p,.slice (some ⟨g,0,none⟩) l.length cap] tid (0,0)))
 (hg:w.heap[g]?=some (.cells cur 5 (0,0))) (hnc:l.length<=cap) (gU:cur.size=cap) (hcm:l.length<=4294967296) (ajD:cur.toList.take l.length=Lib.byteCells l):
 Calls Tryz.prog 45 #[.pointer (some ⟨b,0,none⟩)] w fun e w'=>e=.returned (.string ⟨l.toArray⟩)/\w'=w.drew.freeze ⟨g,0,none⟩ l.length:=by
 have GS:l.length≠0:=by simpa using h0
 have c1:w.drew.cell? ⟨b,1,none⟩=some (.slice (some ⟨g,0,none⟩) l.length cap):=by
  have:w.drew.heap[b]?=some (.cells #[p,.slice (some ⟨g,0,none⟩) l.length cap] tid (0,0)):=lh
  rw [Lib.cell_of_heap this];rfl
 have hSD:(Builtin.unsafeSliceData_ #[134] 196 #[.slice (some ⟨g,0,none⟩) l.length cap]).run Tryz.prog w.drew=.ok (.pointer (some ⟨g,0,none⟩)) w.drew:=
  Lib.run_unsafeSliceData_row _ _ _ _ _ _ (by omega)
 have hUS:(Builtin.unsafeString_ #[196,3] 9 #[.pointer (some ⟨g,0,none⟩),.int .i64 l.length]).run Tryz.prog w.drew=.ok (.string ⟨l.toArray⟩) (w.drew.freeze ⟨g,0,none⟩ l.length):=by
  refine Lib.run_unsafeString_row w.drew 196 3 9 5 Tryz.underlying196 cellsByte g cur.size (by have hg':w.drew.heap[g]?=some (.cells cur 5 (0,0)):=hg;simp [World.shape?,hg']) l h0 (by omega) (by omega) ?_
  intro j x hx
  have hg':w.drew.heap[g]?=some (.cells cur 5 (0,0)):=hg
  have hj:j<l.length:=(List.getElem?_eq_some_iff.1 hx).1
  have h2:(cur.toList.take l.length)[j]?=some (.int .u8 x.toNat):=by rw [ajD];simp [Lib.byteCells,hx]
  rw [List.getElem?_take_of_lt hj] at h2
  rw [Addr.add_lit,Nat.zero_add,Lib.cell_of_heap hg']
  simpa using h2
 have mixed:=mx
 have t95:=Tryz.underlying136
 have t93:=Tryz.underlying133
 have t37:=Tryz.underlying134
 have t137:=Tryz.underlying196
 go_enter Tryz.func45,Yd
 go_wp2
 go_region_o
 all_goals (go_wp2;go_ret;exact ⟨rfl,rfl⟩)
theorem CP {tid:TypeId}(b:Nat)(p:Value)(w:World)(lh:w.heap[b]?=some (.cells #[p,.slice none 0 0] tid (0,0))):
 Calls Tryz.prog 45 #[.pointer (some ⟨b,0,none⟩)] w fun e w'=>e=.returned (.string ⟨#[]⟩)/\w'=w.drew:=by
 have hUS:∀ W q,(Builtin.unsafeString_ #[196,3] 9 #[.pointer q,.int .i64 0]).run Tryz.prog W=.ok (.string .empty) W:=fun W q=>Lib.run_unsafeString_none W _ _ _ q
 have c1:w.drew.cell? ⟨b,1,none⟩=some (.slice none 0 0):=by
  have:w.drew.heap[b]?=some (.cells #[p,.slice none 0 0] tid (0,0)):=lh
  rw [Lib.cell_of_heap this];rfl
 have hSD:(Builtin.unsafeSliceData_ #[134] 196 #[.slice none 0 0]).run Tryz.prog w.drew=.ok (.pointer none) w.drew:=rfl
 have mixed:=mx
 have t95:=Tryz.underlying136
 have t93:=Tryz.underlying133
 have t37:=Tryz.underlying134
 have t137:=Tryz.underlying196
 go_enter Tryz.func45,Yd
 go_wp2
 go_region_o
 all_goals (go_wp2;go_ret;exact ⟨rfl,rfl⟩)
theorem KN:aK Tryz.prog 177=true:=by kernel_rfl
theorem abM:aK Tryz.prog 45=true:=by kernel_rfl
theorem Df {T:Tm}{M:aV}{b:Nat}{p v:Value}(hT:T b=some 136)(hp:p=.pointer none\/p=.pointer (some ⟨b,0,none⟩)):
 ep Tryz.prog 177 [.pointer (some ⟨b,0,none⟩)] T M [(b,[p,v])] [] (fun r M' L' R'=>r=.tuple #[]/\M'=M/\L'=[(b,[.pointer (some ⟨b,0,none⟩),v])]/\R'=[]) bj:=by
 refine ⟨KN,fun w U hw=> ?_⟩
 obtain ⟨bs,rfl,hi⟩:=hw
 have lh:w.heap[b]?=some (.cells #[p,v] 136 (0,0)):=hi.typed hT (List.mem_singleton.2 rfl)
 have c0:w.cell? ⟨b,0,none⟩=some p:=by rw [Lib.cell_of_heap lh];rfl
 rcases hp with rfl | rfl
 ·refine Calls.mono (ui b w c0 (by simp [World.shape?,lh]) (Lib.frozen_of_heap lh 0)) ?_
  rintro e w' ⟨rfl,rfl⟩
  have h2:=hi.store (k:=b) (i:=0) (v:=.pointer (some ⟨b,0,none⟩)) (by simp)
  have h3:qG [(b,[.pointer none,v])] b 0 (.pointer (some ⟨b,0,none⟩))=[(b,[.pointer (some ⟨b,0,none⟩),v])]:=by simp [qG]
  rw [h3] at h2
  exact ⟨M,_,[],⟨⟨bs,h2⟩,rfl,rfl⟩,rfl,rfl,rfl,rfl⟩
 ·refine Calls.mono (oC b w c0) ?_
  rintro e w' ⟨rfl,rfl⟩
  exact ⟨M,_,[],⟨⟨bs,hi⟩,rfl,rfl⟩,rfl,rfl,rfl,rfl⟩
theorem SV {w:World}{g n b:Nat}(h:b≠g):(w.drew.freeze ⟨g,0,none⟩ n).heap[b]?=w.heap[b]?:=by
 rw [uD h];rfl
theorem LR {w:World}{g n:Nat}:(w.drew.freeze ⟨g,0,none⟩ n).heap.size=w.heap.size:=by
 unfold World.freeze
 split
 ·rfl
 ·show (Array.modify _ _ _).size=_
  rw [Array.size_modify];rfl
theorem Bx {tid:TypeId}{T:Tm}{M:aV}{b:Nat}{p v:Value}{l:Bs}(hT:T b=some tid)(hl:l.length<=1000000000)(rP:l=[] ->v=.slice none 0 0):
 ep Tryz.prog 45 [.pointer (some ⟨b,0,none⟩)] T M [(b,[p,v])] [(v,5,1,Lib.byteCells l)] (fun r M' L' R'=>r=st l/\M'=M/\(∃ v',L'=[(b,[p,v'])])/\R'=[(.slice none 0 0,5,1,[])]) bj:=by
 refine ⟨abM,fun w U hw=> ?_⟩
 obtain ⟨bs,rfl,hi⟩:=hw
 have lh:w.heap[b]?=some (.cells #[p,v] tid (0,0)):=hi.typed hT (List.mem_singleton.2 rfl)
 obtain ⟨bQ,fg⟩:=hi.rows
 obtain ⟨o,rfl⟩:∃ o,bs=[o]:=by
  cases bs with
  | nil=>simp at bQ
  | cons o bs=>cases bs with
   | nil=>exact ⟨o,rfl⟩
   | cons _ _=>simp at bQ
 have hr:=fg 0 _ _ _ _ o rfl rfl
 rcases hr with ⟨rfl,hx,rfl⟩ | ⟨g,n,cap,junk,rfl,hg,hn,hc,jo,rfl⟩ | ⟨h0,_⟩ | ⟨h0,_⟩
 rotate_left 2
 ·exact absurd h0 (by decide)
 ·exact absurd h0 (by decide)
 ·have GS:l=[]:=by simpa [Lib.byteCells] using hx
  subst GS
  refine Calls.mono (CP b p w lh) ?_
  rintro e w' ⟨rfl,rfl⟩
  exact ⟨M,_,_,⟨⟨[none],hi.keeps ⟨rfl,rfl,rfl,Nat.le_refl _,fun _ _=>rfl⟩⟩,rfl,rfl⟩,rfl,rfl,⟨_,rfl⟩,rfl⟩
 ·have X0:(Lib.byteCells l).length=l.length:=by simp [Lib.byteCells]
  have Hm:n=l.length:=by omega
  subst Hm
  have Ux:=hi.apart g (by simp)
  have YM:g∉[(b,[p,.slice (some ⟨g,0,none⟩) l.length cap])].map (·.1):=by
   have:=hi.nodup
   simp at this
   simp
   exact fun h=>this h.symm
  obtain ⟨bs',AE⟩:=hi.dropR
  have hbs:bs'=[]:=by simpa using AE.rows.1.symm
  subst hbs
  by_cases h0:l=[]
  ·have:=rP h0;injection this with h;cases h
  ·refine Calls.mono (Ub b g cap p _ l w h0 lh hg jo (by simpa using hc) (by omega) ?_) ?_
   ·rw [<- X0];simp
   ·rintro e w' ⟨rfl,rfl⟩
    have h2:=AE.keepsBut (g:=g) (w':=w.drew.freeze ⟨g,0,none⟩ l.length) Ux.2 Ux.1 YM (by simp) (by unfold World.freeze;split<;>rfl) (by unfold World.freeze;split<;>rfl) (by unfold World.freeze;split<;>rfl) (by rw [LR];exact Nat.le_refl _) (fun k hk _=>SV hk)
    exact ⟨M,_,_,⟨⟨_,h2.addNil⟩,rfl,rfl⟩,rfl,rfl,⟨_,rfl⟩,rfl⟩
theorem Dy {M:aV}{b n c:Nat}{a:Option Addr}{p:Value}:Ct Tryz.prog 44 [.pointer (some ⟨b,0,none⟩)] M [(b,[p,.slice a n c])] [] (fun r M' L' R'=>r=.int .i64 n/\M'=M/\L'=[(b,[p,.slice a n c])]/\R'=[]) bj:=by
 intro T
 refine aT mx agc Tryz.func44 rfl (by rw [ap0];exact Nat.le_of_ble_eq_true rfl) (dr:=aiO) (by kernel_rfl) as1 ?_
 intro bN _
 simp only [aB,and_true] at bN
 simp +contextual only [go_sem,ak,sevalprocAttr,bN]
 exact aM aH.rfl' rfl rfl ⟨rfl,rfl,rfl,rfl⟩
theorem uj {T:Tm}{M:aV}{b:Nat}{a:Option Addr}{n c:Nat}{p:Value}{xs:List Value}{ch:Int}(hT:T b=some 136)(hp:p=.pointer none\/p=.pointer (some ⟨b,0,none⟩))(hn:xs.length=n)(hl:n<=4000):
 ep Tryz.prog 129 [.pointer (some ⟨b,0,none⟩),.int .u8 ch] T M [(b,[p,.slice a n c])] [(.slice a n c,5,1,xs)] (fun r M' L' R'=>r=.nilIface/\M'=M/\∃ a' c',L'=[(b,[.pointer (some ⟨b,0,none⟩),.slice a' (n+1) c'])]/\R'=[(.slice a' (n+1) c',5,1,xs++[.int .u8 ch])]) bj:=by
 refine aT mx OQ Tryz.func129 rfl (by rw [ZU];exact Nat.le_of_ble_eq_true rfl) (dr:=P5) (by kernel_rfl) YE ?_
 intro bN _
 simp only [aB,and_true] at bN
 simp +contextual only [go_sem,ak,sevalprocAttr]
 refine dU [] (Df hT hp) ?_ (fun _ _ _ _ _ _ h=>h.elim)
 rintro v M' L' _ _ iQ ⟨rfl,rfl,rfl, -⟩
 simp +contextual only [go_sem,ak,sevalprocAttr,bN]
 intro b1 jK sO
 refine gi DC Do (.slice _ 1 _ _ _ Tryz.underlying134 (cT [] jK trivial rfl) (by intro u hu;simp only [List.mem_singleton] at hu;subst hu;rfl)) (by rw [hn];simp only [List.length_cons,List.length_nil];omega) ?_
 intro a' m c' hm
 have:m=n+1:=by rw [hn] at hm;simp only [List.length_cons,List.length_nil] at hm;omega
 subst this
 simp +contextual only [go_sem,ak,sevalprocAttr,bN,sO]
 exact al (aM aH.rfl' rfl rfl ⟨rfl,rfl,_,_,rfl,rfl⟩)
def sm (c:UInt8):Bool:=ez c.toNat || fe c.toNat
def tQ (c:UInt8):Bool:=fe c.toNat
def io:List Bs:=[[60,62],[60,61],[62,61],[124,124],[60],[62],[61],[43],[45],[42],[40],[41],[44],[46],[59]]
def ji:Bs ->Option (Bs×Nat)
 | []=>none
 | [c]=>if c=39 then some ([],1) else none
 | c::d::l=>if c=39 then (if d=39 then (ji l).map fun x=>(39::x.1,x.2+2) else some ([],1)) else (ji (d::l)).map fun x=>(c::x.1,x.2+1)
def pU (at_:Int):Bs ->Except (Int×Int) (Tk×Nat)
 | []=> .error (2,at_)
 | c::l=>
  if ez c.toNat=true then .ok (⟨1,(c::l).take (l8 sm (c::l)),at_⟩,l8 sm (c::l))
  else if fe c.toNat=true then (if 16<l8 tQ (c::l) then .error (3,at_) else .ok (⟨2,(c::l).take (l8 tQ (c::l)),at_⟩,l8 tQ (c::l)))
  else if c=39 then (match ji l with | none=> .error (2,at_) | some x=>if 60<x.1.length then .error (4,at_) else .ok (⟨3,x.1,at_⟩,x.2+1))
  else match io.find? (·.isPrefixOf (c::l)) with | none=> .error (2,at_) | some x=> .ok (⟨4,x,at_⟩,x.length)
def tkV (t:Tk):Value:=.agg ⟨[.int .i64 t.k,st t.s,.int .i64 t.at_]⟩
theorem adx {M:aV}{s:Bs}{at_:Int}(h0:s≠[])(hs:s.length<=4000):
 Ct Tryz.prog 93 [st s,.int .i64 at_] M [] [] (fun r _ _ _=>∃ t n,pU at_ s=.ok (t,n)/\r=.tuple ⟨[tkV t,.int .i64 (n:Int)]⟩) (fun ch _ _ _=>∃ e a,pU at_ s=.error (e,a)/\ch=se e a):=by
 intro T
 obtain ⟨c,l,dw⟩:∃ c l,s=c::l:=by
  cases s with
  | nil=>exact (h0 rfl).elim
  | cons c l=>exact ⟨c,l,rfl⟩
 have hx:sQ (bs s) 0=c:=by rw [k9 (by rw [dw];simp)];simp [dw]
 have gG:(0:Int)<(s.length:Int):=by rw [dw];simp only [List.length_cons];omega
 obtain ⟨S,fk⟩:∃ S,S=pU at_ s:=⟨_,rfl⟩
 rw [<- fk]
 rw [dw] at fk
 simp only [pU] at fk
 rw [<- dw] at fk
 have runle:∀ p,l8 p s<=s.length:=fun p=>(List.takeWhile_sublist p).length_le
 refine aT mx amM Tryz.func93 rfl (by rw [atV];exact Nat.le_of_ble_eq_true rfl) (dr:=akP) (by kernel_rfl) ap1 ?_
 intro bN _
 simp +contextual only [go_sem,ak,sevalprocAttr,hx,gG]
 intro b4 T4 iR j6 pp
 refine am (rY c.toNat M T4) ?_ (fun _ _ _ _ h=>h.elim)
 rintro v M1 aP bL rfl
 by_cases RP:ez c.toNat=true
 ·rw [if_pos RP] at fk
  simp +contextual only [go_sem,ak,sevalprocAttr,RP]
  refine am (zx (p:=sm) (fun c M=>WG c.toNat M) s hs M1 T4) ?_ (fun _ _ _ _ h=>h.elim)
  rintro v M2 aX aQ rfl
  simp only [aB,and_true] at aQ
  simp +contextual only [go_sem,ak,sevalprocAttr,RP,aQ,runle]
  refine az (j6) ?_
  exact ⟨_,_,fk,by simp [tkV,st]⟩
 rw [if_neg RP] at fk
 simp +contextual only [go_sem,ak,sevalprocAttr,RP]
 refine am (o5 c.toNat M1 T4) ?_ (fun _ _ _ _ h=>h.elim)
 rintro v M2 aX aQ rfl
 by_cases Mp:fe c.toNat=true
 ·rw [if_pos Mp] at fk
  simp +contextual only [go_sem,ak,sevalprocAttr,Mp]
  refine am (zx (p:=tQ) (fun c M=>o5 c.toNat M) s hs M2 T4) ?_ (fun _ _ _ _ h=>h.elim)
  rintro v M3 bD aZ rfl
  simp only [aB,and_true] at aZ
  by_cases us:16<l8 tQ s
  ·rw [if_pos us] at fk
   have IO:(16:Int)<(l8 tQ s:Int):=by omega
   simp +contextual only [go_sem,ak,sevalprocAttr,Mp,IO]
   refine am (gY 3 at_ M3 T4) (fun _ _ _ _ h=>h.elim) ?_
   rintro ch M4 ce bH rfl
   rw [mK,kj]
   exact az j6 ⟨_,_,fk,rfl⟩
  ·rw [if_neg us] at fk
   have IO:¬ (16:Int)<(l8 tQ s:Int):=by omega
   simp +contextual only [go_sem,ak,sevalprocAttr,Mp,IO,aZ,runle]
   refine az j6 ?_
   exact ⟨_,_,fk,by simp [tkV,st]⟩
 rw [if_neg Mp] at fk
 simp +contextual only [go_sem,ak,sevalprocAttr,Mp]
 by_cases hq:c=39
 ·have Td:((c.toNat:Nat):Int)=39:=by rw [hq];rfl
  rw [if_pos hq] at fk
  simp +contextual only [go_sem,ak,sevalprocAttr,Td]
  intro b9 T9 rF je pG oP
  refine ⟨fun m e ds h=>ds=[]/\e 0=st s/\e 1=.int .i64 at_/\e 4=.pointer (some ⟨b4,0,none⟩)/\e 9=.pointer (some ⟨b9,0,none⟩)/\
   ∃ M' i aO a c p,e 10=.int .i64 (i:Nat)/\m+i=s.length+1/\1<=i/\i<=s.length/\M' b9=none/\M' b4=none/\aO.length<=i/\(p=.pointer none\/p=.pointer (some ⟨b9,0,none⟩))/\(aO=[] ->a=none/\c=0)/\
    ji l=(ji (s.drop i)).map (fun x=>(aO++x.1,(i - 1)+x.2))/\
    h=⟨T9,M',[(b9,[p,.slice a aO.length c]),(b4,[.int .i64 0,.string (bs []),.int .i64 0])],[(.slice a aO.length c,5,1,Lib.byteCells aO)]⟩,
   iu (aA ⟨s.length,rfl,?_,?_,?_,?_,M2,1,[],none,0,.pointer none,?_,rfl,Nat.le_refl _,by omega,rF,?_,by simp,.inl rfl,fun _=>⟨rfl,rfl⟩,?_,rfl⟩),?_⟩
  ·simp only [go_sem,ak,sevalprocAttr]
  ·simp only [go_sem,ak,sevalprocAttr]
  ·simp only [go_sem,ak,sevalprocAttr]
  ·simp only [go_sem,ak,sevalprocAttr]
  ·simp only [go_sem,ak,sevalprocAttr]
  ·simpa [aB] using aQ
  ·rw [dw];simp
  rintro m e ds h ⟨rfl,e0,e1,e4,e9,M3,i,aO,a,cc,p,e10,hm,h1,hi,n9,n4,cy,hp,rP,S3,rfl⟩
  by_cases aF:i<s.length
  ·have xl:=k9 aF
   have bX:s.drop i=s[i]::s.drop (i+1):=List.drop_eq_getElem_cons aF
   have ZS:=aC i (by omega)
   by_cases h39:s[i]=39
   ·have JH:((s[i].toNat:Nat):Int)=39:=by rw [h39];rfl
    by_cases hd:i+1<s.length/\s[i+1]?=some 39
    ·obtain ⟨ry,CF⟩:=hd
     have Dq:=k9 ry
     have hv:s[i+1]=39:=by rw [List.getElem?_eq_getElem ry] at CF;injection CF
     have HJ:s.drop (i+1)=s[i+1]::s.drop (i+1+1):=List.drop_eq_getElem_cons ry
     have afJ:((s[i+1].toNat:Nat):Int)=39:=by rw [hv];rfl
     have auy:=aC (i+1) (by omega)
     simp +contextual only [go_sem,ak,sevalprocAttr,e0,e1,e4,e9,e10,aF,xl,JH,ZS,ry,Dq,afJ]
     refine cM [] [(b9,_)] [(b4,_)] [] [_] [] (uj oP hp (by simp [Lib.byteCells]) (by omega)) ?_ (fun _ _ _ _ _ _ _ _ h=>h.elim)
     rintro v M4 L' R' _ _ _ bH ⟨rfl,rfl,a',c',rfl,rfl⟩
     simp +contextual only [go_sem,ak,sevalprocAttr,e0,e1,e4,e9,e10,aF,xl,JH,ZS,auy]
     rw [fq]
     refine aA ⟨m - 2,by omega,rfl,?_,?_,?_,?_,M4,i+2,aO++[39],a',c',_,?_,by omega,by omega,by omega,n9,n4,by rw [List.length_append];simp only [List.length_cons,List.length_nil];omega,.inr rfl,by simp,?_,?_⟩
     ·simp only [e0,go_sem,ak,sevalprocAttr]
     ·simp only [e1,go_sem,ak,sevalprocAttr]
     ·simp only [e4,go_sem,ak,sevalprocAttr]
     ·simp only [e9,go_sem,ak,sevalprocAttr]
     ·simp only [go_sem,ak,sevalprocAttr]
     ·rw [S3,bX,HJ,h39,hv]
      simp only [ji,if_true]
      rw [Option.map_map]
      congr 1
      funext x
      simp only [Function.comp,List.append_assoc,List.cons_append,List.nil_append,Prod.mk.injEq,true_and]
      omega
     ·rw [List.length_append];simp [Lib.byteCells]
    ·have aqs:ji (s.drop i)=some ([],1):=by
      rw [bX,h39]
      cases hdr:s.drop (i+1) with
      | nil=>simp [ji]
      | cons d r=>
       have ry:i+1<s.length:=by
        have:=congrArg List.length hdr
        simp only [List.length_drop,List.length_cons] at this
        omega
       have hdd:d≠39:=by
        rintro rfl
        apply hd
        refine ⟨ry,?_⟩
        rw [List.drop_eq_getElem_cons ry] at hdr
        injection hdr with h1 h2
        rw [List.getElem?_eq_getElem ry,h1]
       simp [ji,hdd]
     rw [aqs] at S3
     simp only [Option.map_some,List.append_nil] at S3
     rw [S3] at fk
     simp only at fk
     have anv:∀ ry:i+1<s.length,¬ ((s[i+1].toNat:Nat):Int)=39:=by
      intro ry h
      have h2:s[i+1].toNat=39:=by omega
      exact hd ⟨ry,by rw [List.getElem?_eq_getElem ry];exact congrArg some (UInt8.toNat_inj.1 h2)⟩
     by_cases ry:i+1<s.length
     have Dq:=k9 ry
     have ft:=anv ry
     simp +contextual only [go_sem,ak,sevalprocAttr,e0,e1,e4,e9,e10,aF,xl,JH,ZS,ry,Dq,ft]
     rotate_left
     simp +contextual only [go_sem,ak,sevalprocAttr,e0,e1,e4,e9,e10,aF,xl,JH,ZS,ry]
     all_goals
      refine cM [] [(b9,_)] [(b4,_)] [] [] [_] (Dy T9) ?_ (fun _ _ _ _ _ _ _ _ h=>h.elim)
      rintro v M4 L' R' _ _ _ bH ⟨rfl,rfl,rfl,rfl⟩
      by_cases h60:60<aO.length
      ·rw [if_pos h60] at fk
       have acX:(60:Int)<(aO.length:Int):=by omega
       simp +contextual only [go_sem,ak,sevalprocAttr,e0,e1,e4,e9,e10,acX]
       refine am (gY 4 at_ M4 T9) (fun _ _ _ _ h=>h.elim) ?_
       rintro ch M5 dy bE rfl
       rw [mK,kj]
       exact az (j6.trans pG) ⟨_,_,fk,rfl⟩
      ·rw [if_neg h60] at fk
       have acX:¬ (60:Int)<(aO.length:Int):=by omega
       simp +contextual only [go_sem,ak,sevalprocAttr,e0,e1,e4,e9,e10,acX]
       refine cM [] [(b9,_)] [(b4,_)] [] [_] [] (Bx (l:=aO) oP (by omega) (fun h=>by obtain ⟨rfl,rfl⟩:=rP h;rw [h];rfl)) ?_ (fun _ _ _ _ _ _ _ _ h=>h.elim)
       rintro v M5 L' R' _ _ _ bE ⟨rfl,rfl,⟨v',rfl⟩,rfl⟩
       simp only [List.cons_append,List.nil_append,aB,and_true] at bE
       simp +contextual only [go_sem,ak,sevalprocAttr,e0,e1,e4,e9,e10,bE,je,ZS]
       refine az (j6.trans pG) ⟨_,_,fk,?_⟩
       simp only [tkV,st]
       congr 4
       have:i+1=i - 1+1+1:=by omega
       rw [<- this]
   ·have JH:¬ ((s[i].toNat:Nat):Int)=39:=by
     intro h
     have h2:s[i].toNat=39:=by omega
     exact h39 (UInt8.toNat_inj.1 h2)
    simp +contextual only [go_sem,ak,sevalprocAttr,e0,e1,e4,e9,e10,aF,xl,JH]
    refine cM [] [(b9,_)] [(b4,_)] [] [_] [] (uj oP hp (by simp [Lib.byteCells]) (by omega)) ?_ (fun _ _ _ _ _ _ _ _ h=>h.elim)
    rintro v M4 L' R' _ _ _ bH ⟨rfl,rfl,a',c',rfl,rfl⟩
    simp +contextual only [go_sem,ak,sevalprocAttr,e0,e1,e4,e9,e10,aF,xl,JH,ZS]
    rw [fq]
    refine aA ⟨m - 1,by omega,rfl,?_,?_,?_,?_,M4,i+1,aO++[s[i]],a',c',_,?_,by omega,by omega,by omega,n9,n4,by rw [List.length_append];simp only [List.length_cons,List.length_nil];omega,.inr rfl,by simp,?_,?_⟩
    ·simp only [e0,go_sem,ak,sevalprocAttr]
    ·simp only [e1,go_sem,ak,sevalprocAttr]
    ·simp only [e4,go_sem,ak,sevalprocAttr]
    ·simp only [e9,go_sem,ak,sevalprocAttr]
    ·simp only [go_sem,ak,sevalprocAttr]
    ·have:ji (s.drop i)=(ji (s.drop (i+1))).map fun x=>(s[i]::x.1,x.2+1):=by
      rw [bX]
      cases s.drop (i+1) with
      | nil=>simp [ji,h39]
      | cons d r=>simp [ji,h39]
     rw [S3,this,Option.map_map]
     congr 1
     funext x
     simp only [Function.comp,List.append_assoc,List.cons_append,List.nil_append,Prod.mk.injEq,true_and]
     omega
    ·rw [List.length_append];simp [Lib.byteCells]
  ·have:i=s.length:=by omega
   subst this
   rw [List.drop_length] at S3
   simp only [ji,Option.map_none] at S3
   rw [S3] at fk
   simp +contextual only [go_sem,ak,sevalprocAttr,e0,e1,e4,e9,e10,aF]
   refine am (gY 2 at_ M3 T9) (fun _ _ _ _ h=>h.elim) ?_
   rintro ch M4 ce bH rfl
   rw [mK,kj]
   exact az (j6.trans pG) ⟨_,_,fk,rfl⟩
 ·have Td:¬ ((c.toNat:Nat):Int)=39:=by
   intro h
   have h2:c.toNat=39:=by omega
   exact hq (UInt8.toNat_inj.1 h2)
  rw [if_neg hq] at fk
  simp +contextual only [go_sem,ak,sevalprocAttr,Td]
  intro b84 ax3 avz
  refine bA 15 86 [(0,st s),(1,.int .i64 at_),(4,.pointer (some ⟨b4,0,none⟩)),(84,.slice (some ⟨b84,0,none⟩) 15 15),(85,.int .i64 ((15:Nat):Int))]
   (fun i e h=>(∃ M',h=⟨T4,M',[(b4,[.int .i64 0,.string (bs []),.int .i64 0])],[]⟩/\M' b84=some (io.map st)/\M' b4=none)/\io.find? (fun x=>x.isPrefixOf s)=(io.drop i).find? (fun x=>x.isPrefixOf s))
   0 (by omega) (by simp only [aG,go_sem,ak,sevalprocAttr]) (by simp only [go_sem,ak,sevalprocAttr]) (aJ fun he hb bN=>aA ⟨⟨_,rfl,hb,bN.1⟩,rfl⟩) ?_
  rintro i e h hi aD ht ⟨⟨M3,rfl,hw,hn4⟩,Bt⟩
  simp only [aG,st] at aD
  by_cases aF:i<15
  ·have pS:i<io.length:=aF
   have bX:io.drop i=io[i]::io.drop (i+1):=List.drop_eq_getElem_cons pS
   rw [bX] at Bt
   have hx:aL M3 ⟨b84,i,none⟩=some (st io[i]):=by
    rw [aY hw,List.getElem?_map,List.getElem?_eq_getElem pS]
    rfl
   have O6:(i:Int)<15:=by omega
   simp +contextual only [go_sem,ak,sevalprocAttr,aD,ht,aF,O6,hx]
   refine am (Me s io[i] M3 T4) ?_ (fun _ _ _ _ h=>h.elim)
   rintro v M4 ce bH rfl
   simp only [aB,and_true] at bH
   by_cases hp:io[i].isPrefixOf s=true
   ·simp only [List.find?_cons,hp] at Bt
    rw [Bt] at fk
    simp +contextual only [go_sem,ak,sevalprocAttr,aD,ht,hp,bH]
    exact az j6 ⟨_,_,fk,by simp [tkV,st]⟩
   ·simp only [Bool.not_eq_true] at hp
    simp only [List.find?_cons,hp] at Bt
    simp +contextual only [go_sem,ak,sevalprocAttr,aD,ht,hp]
    refine bW aF ?_ ?_ ⟨⟨M4,rfl,ce _ _ hw,bH⟩,Bt⟩
    ·simp only [aG,aD,go_sem,ak,sevalprocAttr]
    ·simp only [ht,go_sem,ak,sevalprocAttr,aC i (by omega)]
  ·have:i=15:=by omega
   subst this
   have Kb:io.find? (fun x=>x.isPrefixOf s)=none:=Bt
   rw [Kb] at fk
   have UX:¬ ((15:Nat):Int)<15:=by omega
   simp +contextual only [go_sem,ak,sevalprocAttr,aD,ht,UX]
   refine am (gY 2 at_ M3 T4) (fun _ _ _ _ h=>h.elim) ?_
   rintro ch M4 ce bH rfl
   rw [mK,kj]
   exact az j6 ⟨_,_,fk,rfl⟩
def pq (c:UInt8):Bool:=decide (c=32) || decide (c=9) || decide (c=10)
def kU:Nat ->Int ->Bs ->Except (Int×Int) (List Tk)
 | 0,_,_=> .ok []
 | _+1,_,[]=> .ok []
 | f+1,at_,c::l=>if pq c=true then kU f (at_+1) l else match pU at_ (c::l) with
  | .error x=> .error x
  | .ok (t,n)=>match kU f (at_+n) ((c::l).drop n) with
   | .error x=> .error x
   | .ok ts=> .ok (t::ts)
def nj (s:Bs):Except (Int×Int) (List Tk):=if 4000<s.length then .error (4,0) else kU (s.length+1) 0 s
theorem DX (p:UInt8 ->Bool)(s:Bs):l8 p s<=s.length:=(List.takeWhile_sublist p).length_le
theorem zB {p:UInt8 ->Bool}{c:UInt8}{l:Bs}(h:p c=true):1<=l8 p (c::l):=by simp [l8,List.takeWhile_cons,h]
theorem Ng (p:UInt8 ->Bool)(s:Bs):s.take (l8 p s)=s.takeWhile p:=by
 unfold l8
 induction s with
 | nil=>rfl
 | cons c l ih=>
  rw [List.takeWhile_cons]
  split
  ·simp [ih]
  ·simp
theorem Sr:∀ (n:Nat) (l:Bs),l.length<=n ->∀ x,ji l=some x ->x.2<=l.length/\1<=x.2:=by
 intro n
 induction n with
 | zero=>
  intro l hl x hx
  cases l with
  | nil=>cases hx
  | cons c l=>simp at hl
 | succ n ih=>
  intro l hl x hx
  match l,hl,hx with
  | [],_,hx=>cases hx
  | [c],_,hx=>
   simp only [ji] at hx
   split at hx
   ·injection hx with hx;subst hx;simp
   ·cases hx
  | c::d::l,hl,hx=>
   simp only [List.length_cons] at hl
   simp only [ji] at hx
   split at hx
   ·split at hx
    ·obtain ⟨y,hy,rfl⟩:=Option.map_eq_some_iff.1 hx
     have:=ih l (by omega) y hy
     simp only [List.length_cons];omega
    ·injection hx with hx;subst hx;simp
   ·obtain ⟨y,hy,rfl⟩:=Option.map_eq_some_iff.1 hx
    have:=ih (d::l) (by simp only [List.length_cons];omega) y hy
    simp only [List.length_cons] at this ⊢;omega
theorem Kr {at_:Int}{s:Bs}{t:Tk}{n:Nat}(h:pU at_ s=.ok (t,n)):1<=n/\n<=s.length/\(t.k=2 ->wm t.s=true):=by
 cases s with
 | nil=>cases h
 | cons c l=>
  simp only [pU] at h
  split at h
  ·rename_i hc
   injection h with h;injection h with h1 h2;subst h1 h2
   exact ⟨zB (by simp [sm,hc]),DX _ _,fun h=>by cases h⟩
  ·split at h
   ·rename_i hc
    split at h
    ·cases h
    ·rename_i us
     injection h with h;injection h with h1 h2;subst h1 h2
     refine ⟨zB hc,DX _ _,fun _=> ?_⟩
     have hp:=zB (p:=tQ) (l:=l) hc
     have jo:=DX tQ (c::l)
     simp only [wm,Bool.and_eq_true,decide_eq_true_eq,List.length_take]
     refine ⟨by omega,?_⟩
     rw [Ng]
     show (List.takeWhile tQ (c::l)).all tQ=true
     exact List.all_takeWhile
   ·split at h
    ·split at h
     ·cases h
     ·rename_i x hx
      split at h
      ·cases h
      ·injection h with h;injection h with h1 h2;subst h1 h2
       have:=Sr _ l (Nat.le_refl _) x hx
       refine ⟨by omega,by simp only [List.length_cons];omega,fun h=>by cases h⟩
    ·split at h
     ·cases h
     ·rename_i x hx
      injection h with h;injection h with h1 h2;subst h1 h2
      have h1:=List.find?_some hx
      have h2:=List.mem_of_find?_eq_some hx
      have h3:∀ x∈io,1<=x.length:=by decide
      exact ⟨h3 _ h2,(List.isPrefixOf_iff_prefix.1 h1).length_le,fun h=>by cases h⟩
theorem Ih:∀ (f g:Nat) (at_:Int) (s:Bs),s.length<f ->s.length<g ->kU f at_ s=kU g at_ s:=by
 intro f
 induction f with
 | zero=>intro g at_ s h;omega
 | succ f ih=>
  intro g at_ s hf hg
  obtain ⟨g,rfl⟩:∃ k,g=k+1:=⟨g - 1,by omega⟩
  cases s with
  | nil=>rfl
  | cons c l=>
   simp only [List.length_cons] at hf hg
   simp only [kU]
   split
   ·exact ih g _ l (by omega) (by omega)
   ·cases ho:pU at_ (c::l) with
    | error x=>rfl
    | ok x=>
     obtain ⟨t,n⟩:=x
     obtain ⟨h1,h2,_⟩:=Kr ho
     simp only
     rw [ih g _ ((c::l).drop n) (by simp only [List.length_drop,List.length_cons];omega) (by simp only [List.length_drop,List.length_cons];omega)]
theorem Lt (c:UInt8):(0<=Lib.indexByte [32,9,10] c.toNat.toUInt8) ↔ pq c=true:=by
 have h1:c.toNat.toUInt8=c:=by simp
 rw [h1]
 have:=c.toNat_lt
 simp only [Lib.indexByte,pq,Bool.or_eq_true,decide_eq_true_eq]
 by_cases h32:c=32
 ·subst h32;decide
 ·by_cases h9:c=9
  ·subst h9;decide
  ·by_cases Uw:c=10
   ·subst Uw;decide
   ·have e1:(32==c)=false:=by simp;exact fun h=>h32 h.symm
    have e2:(9==c)=false:=by simp;exact fun h=>h9 h.symm
    have e3:(10==c)=false:=by simp;exact fun h=>Uw h.symm
    simp [e1,e2,e3,h32,h9,Uw]
theorem Db (l:Bs)(c:Int)(M:aV):Ct Tryz.prog 92 [st l,.int .u8 c] M [] [] (fun r M' _ _=>r=.int .i64 (Lib.indexByte l c.toNat.toUInt8)/\M'=M) bj:=
 pf (by kernel_rfl) fun w hw=>Calls.mono (Tryz.strings_IndexByte (bs l) c w) fun e w' h=>⟨by rw [h.1];rfl,by rw [h.2];exact lU.rfl'⟩
theorem ND {M:aV}(s:Bs):Ct Tryz.prog 47 [st s] M [] [] (fun r M' _ _=>∃ ts,nj s=.ok ts/\RS M' gT 3 ts r) (fun ch _ _ _=>∃ e a,nj s=.error (e,a)/\ch=se e a):=by
 intro T
 refine aT mx aiH Tryz.func47 rfl (by rw [ate];exact Nat.le_of_ble_eq_true rfl) (dr:=aop) (by kernel_rfl) arN ?_
 intro bN _
 unfold nj
 by_cases h4:4000<s.length
 ·have h4':(4000:Int)<(s.length:Int):=by omega
  simp +contextual only [go_sem,ak,sevalprocAttr,h4']
  refine am (gY 4 0 M T) (fun _ _ _ _ h=>h.elim) ?_
  rintro ch M4 ce bH rfl
  rw [mK,kj]
  exact az aH.rfl' ⟨_,_,if_pos h4,rfl⟩
 ·rw [if_neg h4]
  have h4':¬ (4000:Int)<(s.length:Int):=by omega
  simp +contextual only [go_sem,ak,sevalprocAttr,h4']
  refine ⟨fun m e ds h=>ds=[]/\e 0=st s/\
   ∃ N M' i aO a c xs,aH T N/\e 4=.int .i64 (i:Nat)/\e 3=.slice a aO.length c/\m+i=s.length+1/\i<=s.length/\aO.length<=i/\RL gT aO xs/\
    kU (s.length+1) 0 s=(match kU m (i:Int) (s.drop i) with | .error x=> .error x | .ok ts=> .ok (aO++ts))/\
    h=⟨N,M',[],[(.slice a aO.length c,199,3,xs)]⟩,
   iu (aA ⟨s.length+1,rfl,?_,T,M,0,[],none,0,[],aH.rfl',?_,?_,rfl,by omega,by simp,rfl,?_,rfl⟩),?_⟩
  ·simp only [go_sem,ak,sevalprocAttr]
  ·simp only [go_sem,ak,sevalprocAttr]
  ·simp only [go_sem,ak,sevalprocAttr]
  ·rw [List.drop_zero];cases kU (s.length+1) 0 s<;>simp
  rintro m e ds h ⟨rfl,e0,N,M1,i,aO,a,cc,xs,hN,e4,e3,hm,hi,cy,kD,ay,rfl⟩
  by_cases aF:i<s.length
  ·have hx:=k9 aF
   have bX:s.drop i=s[i]::s.drop (i+1):=List.drop_eq_getElem_cons aF
   obtain ⟨m,rfl⟩:∃ k,m=k+1:=⟨m - 1,by omega⟩
   simp +contextual only [go_sem,ak,sevalprocAttr,e0,e3,e4,aF,hx]
   refine am (Db [32,9,10] (s[i].toNat:Int) M1 N) ?_ (fun _ _ _ _ h=>h.elim)
   rintro v M2 aX aQ ⟨rfl,rfl⟩
   rw [bX] at ay
   simp only [kU] at ay
   by_cases D2:pq s[i]=true
   ·rw [if_pos D2] at ay
    have acf:=(Lt s[i]).2 D2
    simp +contextual only [go_sem,ak,sevalprocAttr,e0,e3,e4,acf,aC i (by omega)]
    rw [fq]
    refine aA ⟨m,by omega,rfl,?_,N,M2,i+1,aO,a,cc,xs,hN,?_,?_,by omega,by omega,by omega,kD,?_,rfl⟩
    ·simp only [e0,go_sem,ak,sevalprocAttr]
    ·simp only [go_sem,ak,sevalprocAttr]
    ·simp only [e3,go_sem,ak,sevalprocAttr]
    ·exact ay
   ·rw [if_neg D2] at ay
    have acf:¬ (0<=Lib.indexByte [32,9,10] s[i].toNat.toUInt8):=fun h=>D2 ((Lt s[i]).1 h)
    have Fe:(s.drop i).take (s.length - i)=s.drop i:=List.take_of_length_le (by simp)
    simp +contextual only [go_sem,ak,sevalprocAttr,e0,e3,e4,acf,hi,Fe]
    rw [<- bX] at ay
    refine am (adx (s:=s.drop i) (at_:=(i:Int)) (by intro h;rw [bX] at h;cases h) (by simp;omega) N) ?_ ?_
    ·rintro v M3 bD aZ ⟨t,n,dG,rfl⟩
     obtain ⟨h1,h2,h3⟩:=Kr dG
     rw [List.length_drop] at h2
     rw [dG] at ay
     simp only [List.drop_drop] at ay
     simp +contextual only [go_sem,ak,sevalprocAttr,e0,e3,e4,tkV]
     intro b5 T5 jH tG zk b6 mB de
     have nr:=fI (fun _ _=>rj) kD
     refine gi Q4 Rm (.slice _ 1 _ _ _ Tryz.underlying146 (cT [] mB trivial rfl) (by intro u hu;simp only [List.mem_cons,List.not_mem_nil,or_false] at hu;rcases hu with rfl | rfl | rfl<;>rfl)) (by rw [nr];simp only [List.length_cons,List.length_nil];omega) ?_
     intro ra rm rc ky
     have jO:rm=(aO++[t]).length:=by
      rw [nr] at ky
      rw [List.length_append]
      simp only [List.length_cons,List.length_nil] at ky ⊢
      omega
     subst jO
     have kK:=dx kD (cP (r:=gT) (x:=t) ⟨rfl,h3⟩)
     have ZS:IntKind.i64.wrap ((i:Int)+(n:Int))=((i+n:Nat):Int):=by rw [eZ (by omega) (by omega)];omega
     simp +contextual only [go_sem,ak,sevalprocAttr,e0,e3,e4,ZS]
     rw [fq]
     refine al (al (aA ⟨m+1 - n,by omega,rfl,?_,T5,M3,i+n,aO++[t],ra,rc,_,hN.trans tG,?_,?_,by omega,by omega,by rw [List.length_append];simp only [List.length_cons,List.length_nil];omega,kK,?_,rfl⟩))
     ·simp only [e0,go_sem,ak,sevalprocAttr]
     ·simp only [go_sem,ak,sevalprocAttr]
     ·simp only [go_sem,ak,sevalprocAttr]
     ·rw [ay,Ih m (m+1 - n) _ _ (by rw [List.length_drop];omega) (by rw [List.length_drop];omega)]
      rw [show ((i+n:Nat):Int)=(i:Int)+(n:Int) from by omega]
      cases kU (m+1 - n) ((i:Int)+(n:Int)) (s.drop (i+n))<;>simp
    ·rintro ch M3 bD aZ ⟨er,a,mo,rfl⟩
     rw [mo] at ay
     rw [mK,kj]
     exact az hN ⟨_,_,ay,rfl⟩
  ·have nu:i=s.length:=by omega
   subst nu
   obtain ⟨m,rfl⟩:∃ k,m=k+1:=⟨m - 1,by omega⟩
   rw [List.drop_length] at ay
   simp only [kU,List.append_nil] at ay
   simp +contextual only [go_sem,ak,sevalprocAttr,e0,e3,e4,aF]
   exact dn fun M2 aX aQ j7=>aM hN rfl rfl ⟨aO,ay,by omega,xs,j7,kD⟩
open Go Vc Go.RowKit
theorem Dp (p q:Addr)(w:World):
 CallsD Tryz.prog 46 #[.pointer (some p),.pointer (some q)] .returning w fun e u' w'=>e=.returned (.tuple #[])/\u'=.returning/\w'=w:=by
 have mixed:=mx
 refine callsD_of_wpS Tryz.func46 rfl fun c₀ cs hu=> ?_
 apply wpS_seq
 apply wpS_region
 simp [wpOpsS,go_sem,recoverD,hu,aj7,Exit.thenS]
 refine wpS_of_wp ?_
 go_wp2
 cases c₀
 simp_all [bodyPostS,results,ap5]
theorem Je {F:Fi}{c:Code}{e:dN}{ds:List Deferred}{h:Sh}(hr:cB Tryz.prog F [.code c] e ds h ⟨⟩):Uj Tryz.prog F.dr c F.k e ds h:=hr
def BU (e a:Int)(r:Bool):PanicEntry:={v:=.iface 144 (.agg #[.int .i64 e,.int .i64 a]),recovered:=r}
set_option maxHeartbeats 4000000 in
theorem Es {w:World}{U:List Nat}{T:Tm}{M:aV}{bs:List (Option Nat)}{b2 b3:Nat}{er a:Int}{v1 v2 v3:Value}(hi:Hp ⟨w,M,U⟩ ⟨T,M,[(b2,[v1]),(b3,[v2,v3])],[]⟩ w bs):
 CallsD Tryz.prog 46 #[.pointer (some ⟨b2,0,none⟩),.pointer (some ⟨b3,0,none⟩)] (.panicking [BU er a false]) w fun e u' w'=>e=.returned (.tuple #[])/\u'=.panicking [BU er a true]/\
  Dv w U T M [b2,b3] 0 M [(b2,[.slice none 0 0]),(b3,[.int .i64 er,.int .i64 a])] [] w':=by
 have mixed:=mx
 have hTA:∀ (v:Array Value) (w:World),(Instr.typeAssert (.iface 144 (.agg v)) 20 144 true).run Tryz.prog w=.ok (.tuple #[.agg v,.bool true]) w:=fun _ _=>by kernel_rfl
 refine callsD_of_wpS Tryz.func46 rfl fun c₀ cs hu=> ?_
 unfold BU at hu
 apply wpS_seq
 apply wpS_region
 simp [wpOpsS,go_sem,recoverD,hu,aj7,Exit.thenS]
 refine wpS_of_wp ?_
 go_wp2
 have h2:=hi.alloc (t:=144) [.int .i64 er,.int .i64 a]
 have iP:=h2.apart
 have mS:=h2.nodup
 have XV:M w.heap.size=none:=(iP _ (by simp)).1
 have nJ:M b2=none:=(iP _ (by simp)).1
 have AL:M b3=none:=(iP _ (by simp)).1
 have hp:(¬ w.heap.size=b2/\¬ w.heap.size=b3/\¬ b2=b3)/\(¬ b2=w.heap.size/\¬ b3=w.heap.size/\¬ b3=b2):=by
  simp at mS
  obtain ⟨⟨h1,h2,_⟩,⟨h3,_⟩,_⟩:=mS
  exact ⟨⟨h1,h2,h3⟩,fun h=>h1 h.symm,fun h=>h2 h.symm,fun h=>h3 h.symm⟩
 refine wp_mono (kY (c₀:=⟨w,M,U⟩) (n:=13) (dr:=U1) mx _ (Fi.k ⟨U1,fun _ ds h=>ds=[]/\cK h (vC T [b2,b3] 0 (fun _ M' L' R'=>M'=M/\L'=[(b2,[.slice none 0 0]),(b3,[.int .i64 er,.int .i64 a])]/\R'=[]) undef),fun _ _ _ _=>False⟩)
  (fun t=>Array.getD _ t undef) [] _ _ _ (by kernel_rfl) ⟨?_,rfl,fun _=>rfl⟩ ⟨_,h2⟩ ?_) ?_
 ·simp
 ·refine Je (F:=⟨U1,_,_⟩) ?_
  generalize hE:(fun t=>Array.getD _ t undef)=env
  have e0:env 0=.pointer (some ⟨b2,0,none⟩):=by rw [<- hE];simp
  have e1:env 1=.pointer (some ⟨b3,0,none⟩):=by rw [<- hE];simp
  have e3:env 3=.pointer (some ⟨w.heap.size,0,none⟩):=by rw [<- hE];simp
  clear hE
  have hT:aH T (T.add w.heap.size 144):=hi.extT
  generalize w.heap.size=bx at*
  simp +contextual only [go_sem,ak,sevalprocAttr,e0,e1,e3,XV,nJ,AL,hp]
  refine ⟨fun _ _ _ _ _ _ _ _ _ h=>h,?_⟩
  refine eR ⟨T,fun _=>none,[(bx,_)],[]⟩ (gn XV) ?_
  simp +contextual only [go_sem,ak,sevalprocAttr,e0,e1,e3,XV,nJ,AL,hp]
  refine ⟨gn XV,?_⟩
  exact al (aM hT rfl rfl ⟨rfl,rfl,rfl⟩)
 ·rintro ex act w' hq
  cases ex with
  | normal=>
   obtain ⟨e,ds,h,ha,hw,rfl,dw⟩:=hq
   obtain ⟨h',ix,hT,hk,hR,hM,hL,N0⟩:=dw _ _ hw
   have lJ:=kV hT ix hk hR
   rw [hM,hL,N0] at lJ
   have D4:=ha.2.1
   simp only [Exit.inBlock]
   cases c₀
   exact ⟨D4,_,rfl,.tuple #[],results_none rfl _ _ _,rfl,rfl,lJ⟩
  | ret=>
   obtain ⟨e,ds,h,ha,hw,rfl,dw⟩:=hq
   obtain ⟨h',ix,hT,hk,hR,hM,hL,N0⟩:=dw _ _ hw
   have lJ:=kV hT ix hk hR
   rw [hM,hL,N0] at lJ
   have D4:=ha.2.1
   simp only [Exit.inBlock]
   cases c₀
   exact ⟨D4,_,rfl,.tuple #[],results_none rfl _ _ _,rfl,rfl,lJ⟩
  | panic ch=>obtain ⟨_,_,_,_,_,h⟩:=hq;exact h.elim
  | exit id=>obtain ⟨_,_,_,_,_,h⟩:=hq;exact h.elim
  | goto l=>exact hq.elim
  | outgrown=>exact hq.elim
def rdD (b2 b3:Nat)(ag:Array Value):Deferred:={target:=.fn (.func 46) ⟨[.pointer (some ⟨b2,0,none⟩),.pointer (some ⟨b3,0,none⟩)]⟩,args:=ag}
def Ta (T:Tm)(ts:List ResultVar)(post:eP)(e:dN)(ds:List Deferred)(h:Sh):Prop:=
 ∃ b2 b3 ag,ds=[rdD b2 b3 ag]/\ag.toList=[]/\eU (oX Tryz.prog e h ts) fun vs=>cK h (vC T [] 0 post (wS vs))
def Kn (T:Tm)(post:eP)(ch:List PanicEntry)(e:dN)(ds:List Deferred)(h:Sh):Prop:=
 ∃ b2 b3 ag er a,ds=[rdD b2 b3 ag]/\ag.toList=[]/\e 2=.pointer (some ⟨b2,0,none⟩)/\e 3=.pointer (some ⟨b3,0,none⟩)/\ch=[BU er a false]/\
  cK h fun h'=>aH T h'.N/\h'.R=[]/\(∃ v1 v2 v3,h'.L=[(b2,[v1]),(b3,[v2,v3])])/\post (.tuple ⟨[.slice none 0 0,OJ er a]⟩) h'.M [] []
def Ml (T:Tm)(dr:List (Nat×Sched))(ts:List ResultVar)(post:eP):Fi:=⟨dr,Ta T ts post,Kn T post⟩
theorem UW {b2 b3:Nat}{ag:Array Value}(h:ag.toList=[]):ag++(⟨[.pointer (some ⟨b2,0,none⟩),.pointer (some ⟨b3,0,none⟩)]⟩:Array Value)= #[.pointer (some ⟨b2,0,none⟩),.pointer (some ⟨b3,0,none⟩)]:=by
 apply Array.toList_inj.1
 simp [h]
theorem BY {a:Array Value}{R:Ending ->World ->Prop}{w:World}{b2 b3:Nat}{ag:Array Value}{u:FrameMode}{fn:Func}(h:ag.toList=[])(hu:u≠ .run)
 (hc:CallsD Tryz.prog 46 #[.pointer (some ⟨b2,0,none⟩),.pointer (some ⟨b3,0,none⟩)] u w fun
  | .returned _,u',w'=>Leaves Tryz.prog fn a R [] (settle u') w'
  | .panicked chain,u',w'=>Leaves Tryz.prog fn a R [] (raised u' chain) w'
  | .outgrown,_,w'=>R .outgrown w'):Leaves Tryz.prog fn a R [rdD b2 b3 ag] u w:=by
 refine leaves_cons (f:=46) (args:= #[.pointer (some ⟨b2,0,none⟩),.pointer (some ⟨b3,0,none⟩)]) hu ?_ hc
 show (invoke (.fn (.func 46) _) ag).run Tryz.prog w=_
 have PJ:=Tryz.func46
 simp only [invoke,callFunc,Sem.run_bind,Sem.run_pure,Result.andThen_ok,run_program,PJ]
 rw [UW h]
 rfl
theorem IQ {fn:Func}{T:Tm}{dr U M post}(hr:fn.results.toList=[.cell 2 68,.cell 3 62]){w0:World}{ex:Exit}{a:Act}{w:World}{n:Nat}
 (hq:KontL.toQ ⟨w0,M,U⟩ n (Ml T dr fn.results.toList post).k ex a w):bodyPostD Tryz.prog fn (OA U T M [] 0 post bj w0) ex a w:=by
 have GG:∀ {e ds h},Fr n a e ds ->Is ⟨w0,M,U⟩ h w ->Ta T fn.results.toList post e ds h ->Leaves Tryz.prog fn a.tmps (OA U T M [] 0 post bj w0) a.defers .returning w:=by
  rintro e ds h ha hw ⟨b2,b3,ag,rfl,r7,hd⟩
  rw [ha.2.1]
  refine BY r7 (by simp) ?_
  refine (Dp _ _ w).mono ?_
  rintro en u' w' ⟨rfl,rfl,rfl⟩
  obtain ⟨vs,Ox,dw⟩:=dk hd
  obtain ⟨h',ix,hT,hk,hR,hp⟩:=dw _ _ hw
  exact ⟨_,mN hw Ox ha.2.2,h'.M,h'.L,h'.R,kV hT ix hk hR,hp⟩
 cases ex with
 | normal=>obtain ⟨e,ds,h,ha,hw,hd⟩:=hq;exact GG ha hw hd
 | ret=>obtain ⟨e,ds,h,ha,hw,hd⟩:=hq;exact GG ha hw hd
 | panic ch=>
  obtain ⟨e,ds,h,ha,hw,b2,b3,ag,er,ar,rfl,r7,e2,e3,rfl,dw⟩:=hq
  show Leaves Tryz.prog fn a.tmps _ a.defers (.panicking _) w
  rw [ha.2.1]
  obtain ⟨⟨N,M',L',R'⟩,⟨bs,hi⟩,hT,hR,⟨v1,v2,v3,hL⟩,hp⟩:=dw _ _ hw
  simp only at hT hR hL hp
  subst hR hL
  have hbs:bs=[]:=by simpa using hi.rows.1.symm
  subst hbs
  have nu:Hp ⟨w0,M,U⟩ ⟨N,M',[]++[(b2,[v1]),(b3,[v2,v3])]++[],[]++[]++[]⟩ w ([]++[]++[]):=by simpa using hi
  have tE:=nu.enter rfl rfl
  refine BY r7 (by simp) ?_
  refine (Es (er:=er) (a:=ar) tE).mono ?_
  rintro en u' w' ⟨rfl,rfl,⟨⟨bp',Di⟩,hk,hRl⟩⟩
  have D5:bp'=[]:=by simpa using Di.rows.1.symm
  subst D5
  have zH:=nu.frame (b1:=[]) (bp:=[]) (b2:=[]) rfl rfl rfl Di hk hRl
  have rN:Hp ⟨w0,M,U⟩ ⟨N,M',[(b2,[.slice none 0 0]),(b3,[.int .i64 er,.int .i64 ar])],[]⟩ w' []:=by simpa using zH
  have hIs:Is ⟨w0,M,U⟩ ⟨N,M',[(b2,[.slice none 0 0]),(b3,[.int .i64 er,.int .i64 ar])],[]⟩ w':=⟨[],rN⟩
  have nJ:M' b2=none:=(rN.apart _ (by simp)).1
  have AL:M' b3=none:=(rN.apart _ (by simp)).1
  have dh:¬ b2=b3/\¬ b3=b2:=by
   have:=rN.nodup
   simp at this
   exact ⟨this,fun h=>this h.symm⟩
  have ay:oX Tryz.prog e ⟨N,M',[(b2,[.slice none 0 0]),(b3,[.int .i64 er,.int .i64 ar])],[]⟩ fn.results.toList=some [.slice none 0 0,OJ er ar]:=by
   rw [hr]
   simp +contextual only [go_sem,ak,sevalprocAttr,e2,e3,nJ,AL,dh]
   rfl
  have OK:settle (.panicking [BU er ar true])=.returning:=rfl
  show Leaves Tryz.prog fn a.tmps _ [] (settle (.panicking [BU er ar true])) w'
  rw [OK]
  obtain ⟨h',ix,hT',vA,N0,vr⟩:=(az (T:=T) (R:=[]) (L:=[(b2,[.slice none 0 0]),(b3,[.int .i64 er,.int .i64 ar])]) (post:=post) (v:=.tuple ⟨[.slice none 0 0,OJ er ar]⟩) hT hp) _ _ hIs
  exact ⟨_,mN hIs ay ha.2.2,h'.M,h'.L,h'.R,kV hT' ix vA N0,vr⟩
 | exit id=>obtain ⟨_,_,_,_,_,h⟩:=hq;exact h.elim
 | goto l=>exact hq.elim
 | outgrown=>exact hq.elim
theorem WR {f:FuncId}{fn:Func}{c:Code}{args:List Value}{dr}{T:Tm}{M post}(BO:aK Tryz.prog f=true)
 (hf:Tryz.prog.funcs[f]?=some fn) (hb:fn.body=some c) (hn:args.length<=fn.ntmps) (hc:fm Tryz.prog fn.ntmps dr c=true) (hr:fn.results.toList=[.cell 2 68,.cell 3 62])
 (h:cB Tryz.prog (Ml T dr fn.results.toList post) [.code c] (rL args) [] ⟨T,M,[],[]⟩ ⟨⟩):ep Tryz.prog f args T M [] [] post bj:=by
 refine ⟨BO,fun w U hw=>calls_of_wp_defers hf hb ?_⟩
 obtain ⟨h1,h2,h3⟩:=hw.facts
 have:=kY (c₀:=⟨w,M,U⟩) mx c (Ml T dr fn.results.toList post).k (rL args) [] ⟨T,M,[],[]⟩ w _ hc (fr0 args.toArray fn.ntmps (by simpa using hn)) h3 h
 exact wp_mono this fun ex a w' hq=>IQ hr hq
def eo (l:List Bs):Int:=if l.all dl=true then 0 else 7
theorem ux {M:aV}{l:List Bs}{sv:Value}(hg:fO M)(hs:RS M pD 1 l sv):Ct Tryz.prog 126 [sv] M [] [] (fun r _ _ _=>r=.int .i64 (eo l)) bj:=by
 intro T
 obtain ⟨hb,a,c,rfl,jo,_,eE⟩:=aI (by decide) (fun _ _=>cO) hs
 refine aT mx xB Tryz.func126 rfl (by rw [alp];exact Nat.le_of_ble_eq_true rfl) (dr:=Yy) (by kernel_rfl) amN ?_
 intro bN _
 simp +contextual only [go_sem,ak,sevalprocAttr]
 refine bh l.length 7 [(5,.slice a l.length c),(6,.int .i64 l.length)] (fun i e h=>(∃ M',bG M M'/\h=⟨T,M',[],[]⟩)/\eo l=eo (l.drop i)) 0 (by omega) (by simp only [aG,go_sem,ak,sevalprocAttr]) (by simp only [go_sem,ak,sevalprocAttr]) ⟨⟨M,bG.rfl',rfl⟩,rfl⟩ ?_
 rintro i e h hi aD ht ⟨⟨M1,aP,rfl⟩,ay⟩
 simp only [aG] at aD
 by_cases aF:i<l.length
 ·obtain ⟨b,o,cs,rfl,cC,ff⟩:=eE i l[i] (List.getElem?_eq_getElem aF)
  unfold pD at ff;subst ff
  have hx:=ax aP cC.1
  rw [Nat.mul_one] at hx
  have bX:l.drop i=l[i]::l.drop (i+1):=List.drop_eq_getElem_cons aF
  rw [bX] at ay
  simp +contextual only [go_sem,ak,sevalprocAttr,aD,ht,aF,hx]
  refine am (uu (hg.ext aP) l[i] T) ?_ (fun _ _ _ _ h=>h.elim)
  rintro v M2 aX _ rfl
  by_cases hn:dl l[i]=true
  ·simp +contextual only [go_sem,ak,sevalprocAttr,aD,ht,hn]
   refine bW aF ?_ ?_ ⟨⟨M2,aP.trans aX,rfl⟩,?_⟩
   ·simp only [aG,aD,go_sem,ak,sevalprocAttr]
   ·simp only [ht,go_sem,ak,sevalprocAttr,aC i (by omega)]
   ·rw [ay];simp only [eo,List.all_cons,hn,Bool.true_and]
  ·simp +contextual only [go_sem,ak,sevalprocAttr,aD,ht,hn]
   refine az aH.rfl' ?_
   simp only [Bool.not_eq_true] at hn
   rw [ay];simp only [eo,List.all_cons,hn,Bool.false_and,if_false,Bool.false_eq_true]
 ·have:i=l.length:=by omega
  subst this
  simp +contextual only [go_sem,ak,sevalprocAttr,aD,ht,aF]
  refine az aH.rfl' ?_
  rw [ay];simp [eo]
def em (s:Bs):Int:=if s=[] then 0 else eo [s]
theorem Ga {M:aV}(s:Bs)(hg:fO M):Ct Tryz.prog 231 [st s] M [] [] (fun r _ _ _=>r=.int .i64 (em s)) bj:=by
 intro T
 refine aT mx adz Tryz.func231 rfl (by rw [agf];exact Nat.le_of_ble_eq_true rfl) (dr:=Zo) (by kernel_rfl) aoP ?_
 intro bN _
 by_cases hs:s=[]
 ·simp +contextual only [go_sem,ak,sevalprocAttr,hs]
  exact az aH.rfl' (by simp [em])
 ·simp +contextual only [go_sem,ak,sevalprocAttr,hs]
  intro b hb
  refine aW xB fun M1 aP jK bL=> ?_
  have hl:RS M1 pD 1 [s] (.slice (some ⟨b,0,none⟩) 1 1):=df (fun _ _=>cO) jK (eQ [s]) rfl (by decide)
  refine am (ux (hg.ext aP) hl T) ?_ (fun _ _ _ _ h=>h.elim)
  rintro v M2 aX _ rfl
  simp +contextual only [go_sem,ak,sevalprocAttr]
  exact az aH.rfl' (by simp [em,hs])
mutual
def eC (bU n:Nat):X ->Int×Nat
 | .mk k v tab name kids=>if 200<n+1\/20<bU then (4,n+1) else if dE k<0 then (1,n+1) else if (kids.length:Int)≠dE k then (5,n+1)
  else if k=1 then (cR v,n+1) else if k=2/\(dl name=false\/(tab≠[]/\dl tab=false)) then (7,n+1) else eN (bU+1) (n+1) kids
def eN (bU n:Nat):List X ->Int×Nat
 | []=>(0,n)
 | x::l=>if (eC bU n x).1≠0 then eC bU n x else eN bU (eC bU n x).2 l
end
mutual
theorem rp (bU n:Nat):∀ x,n<=200 ->(eC bU n x).2<=201/\((eC bU n x).1=0 ->(eC bU n x).2<=200)
 | .mk k v tab name kids,hn=>by
  rw [eC]
  by_cases h:200<n+1\/20<bU
  ·rw [if_pos h];exact ⟨by show n+1<=201;omega,fun h=>by cases h⟩
  ·have ih:=Cm (bU+1) (n+1) kids (by omega)
   rw [if_neg h]
   repeat' split
   all_goals first | exact ih | exact ⟨by show n+1<=201;omega,fun _=>by show n+1<=200;omega⟩
theorem Cm (bU n:Nat):∀ l,n<=200 ->(eN bU n l).2<=201/\((eN bU n l).1=0 ->(eN bU n l).2<=200)
 | [],hn=>by rw [eN];exact ⟨by show n<=201;omega,fun _=>hn⟩
 | x::l,hn=>by
  rw [eN]
  have hx:=rp bU n x hn
  split
  ·exact hx
  ·rename_i h0
   exact Cm bU _ l (hx.2 (Classical.not_not.1 h0))
end
theorem we {M:aV}{b o:Nat}{x:X}{cs:List Value}(h:RX M x cs)(ha:At M b o cs):∃ s,RS M (RX M) 7 x.kids s/\aL M ⟨b,o,none⟩=some (.int .i64 x.k)/\aL M ⟨b,o+1,none⟩=some (.int .i64 x.v.k)/\aL M ⟨b,o+2,none⟩=some (.int .i64 x.v.n)/\aL M ⟨b,o+3,none⟩=some (st x.v.t)/\
 aL M ⟨b,o+4,none⟩=some (st x.tab)/\aL M ⟨b,o+5,none⟩=some (st x.name)/\aL M ⟨b,o+6,none⟩=some s:=by
 obtain ⟨s,rfl,_,hs⟩:=cb h
 exact ⟨s,hs,ha.1,ha.2.1,ha.2.2.1,ha.2.2.2.1,ha.2.2.2.2.1,ha.2.2.2.2.2.1,ha.2.2.2.2.2.2.1⟩
theorem SM:∀ (sz:Nat) (x:X),SizeOf.sizeOf x<=sz ->∀ (M:aV) (T:Tm) (b o hb bU n:Nat) (cs:List Value),fO M ->At M b o cs ->RX M x cs ->n<=200 ->bU<=21 ->
 ep Tryz.prog 176 [.pointer (some ⟨hb,0,none⟩),.pointer (some ⟨b,o,none⟩),.int .i64 (bU:Int)] T M [(hb,[.int .i64 (n:Int)])] [] (fun r M' L' R'=>r=.int .i64 (eC bU n x).1/\L'=[(hb,[.int .i64 ((eC bU n x).2:Int)])]/\R'=[]) bj:=by
 intro sz
 induction sz with
 | zero=>intro x hx;cases x;simp at hx
 | succ sz ih=>
  intro x eF M T b o hb bU n cs hg ha hx hn YL
  obtain ⟨s,hs,m0,m1,m2,m3,m4,m5,m6⟩:=we hx ha
  obtain ⟨lh,a,c,rfl,jo,_,eE⟩:=aI (by decide) (fun _ _=>dY) hs
  refine aT mx Q2 Tryz.func176 rfl (by rw [afn];exact Nat.le_of_ble_eq_true rfl) (dr:=Y2) (by kernel_rfl) aoq ?_
  intro bN _
  simp only [aB,and_true] at bN
  have hwn:=aC n (by omega)
  have hwd:=aC bU (by omega)
  cases x with | mk k v tab name kids=>
  simp only [X.k,X.v,X.tab,X.name,X.kids] at m0 m1 m2 m3 m4 m5 m6 eE jo hs lh
  obtain ⟨S,hS⟩:∃ S,S=eC bU n (.mk k v tab name kids):=⟨_,rfl⟩
  rw [<- hS]
  rw [eC] at hS
  simp +contextual only [go_sem,ak,sevalprocAttr,bN,hwn,m0,m1,m2,m3,m4,m5,m6]
  by_cases nV:200<n+1\/20<bU
  ·rw [if_pos nV] at hS
   rw [if_pos (by omega)]
   exact aM aH.rfl' rfl rfl ⟨by rw [hS],by rw [hS],rfl⟩
  rw [if_neg nV] at hS
  rw [if_neg (by omega)]
  refine am (E5 k M T) ?_ (fun _ _ _ _ h=>h.elim)
  rintro r M1 aP bL rfl
  simp only [aB,and_true] at bL
  have mC:=hg.ext aP
  replace m0:=ax aP m0
  replace m1:=ax aP m1
  replace m2:=ax aP m2
  replace m3:=ax aP m3
  replace m4:=ax aP m4
  replace m5:=ax aP m5
  replace m6:=ax aP m6
  simp +contextual only [go_sem,sevalprocAttr]
  refine gE (fun e ds h=>ds=[]/\e 0=.pointer (some ⟨hb,0,none⟩)/\e 1=.pointer (some ⟨b,o,none⟩)/\e 2=.int .i64 (bU:Int)/\S=eN (bU+1) (n+1) kids/\∃ M',bG M1 M'/\M' hb=none/\h=⟨T,M',[(hb,[.int .i64 ((n+1:Nat):Int)])],[]⟩) (fun S' dW=> ?_) ?_
  ·by_cases oI:dE k<0
   ·rw [if_pos oI] at hS
    simp +contextual only [go_sem,ak,sevalprocAttr,oI]
    exact aM aH.rfl' rfl rfl ⟨by rw [hS],by rw [hS],rfl⟩
   rw [if_neg oI] at hS
   by_cases xp:(kids.length:Int)=dE k
   ·rw [if_neg (fun h=>h xp)] at hS
    by_cases h1:k=1
    ·subst h1
     rw [if_pos rfl] at hS
     simp +contextual only [go_sem,ak,sevalprocAttr,oI,xp,m0,m1,m2,m3,m4,m5,m6]
     refine am (nA v M1 T) ?_ (fun _ _ _ _ h=>h.elim)
     rintro r M2 aX aQ rfl
     simp +contextual only [go_sem,ak,sevalprocAttr]
     exact aM aH.rfl' rfl rfl ⟨by rw [hS],by rw [hS],rfl⟩
    rw [if_neg h1] at hS
    by_cases h2:k=2
    ·subst h2
     simp +contextual only [go_sem,ak,sevalprocAttr,oI,xp,m0,m1,m2,m3,m4,m5,m6]
     refine am (uu mC name T) ?_ (fun _ _ _ _ h=>h.elim)
     rintro r M2 aX aQ rfl
     simp only [aB,and_true] at aQ
     replace m4:=ax aX m4
     by_cases sM:dl name=true
     ·by_cases Fg:tab=[]
      ·rw [if_neg (by rintro ⟨_,h | ⟨h,_⟩⟩;rw [sM] at h;cases h;exact h Fg)] at hS
       subst Fg
       simp +contextual only [go_sem,ak,sevalprocAttr,sM,m4]
       refine dW _ _ _ ⟨rfl,?_,?_,?_,hS,M2,aX,aQ,rfl⟩
       all_goals simp only [go_sem,ak,sevalprocAttr]
      ·simp +contextual only [go_sem,ak,sevalprocAttr,sM,m4,Fg]
       refine am (uu (mC.ext aX) tab T) ?_ (fun _ _ _ _ h=>h.elim)
       rintro r M3 bD aZ rfl
       simp only [aB,and_true] at aZ
       by_cases nJ:dl tab=true
       ·rw [if_neg (by rintro ⟨_,h | ⟨_,h⟩⟩;rw [sM] at h;cases h;rw [nJ] at h;cases h)] at hS
        simp +contextual only [go_sem,ak,sevalprocAttr,sM,nJ,Fg]
        refine dW _ _ _ ⟨rfl,?_,?_,?_,hS,M3,aX.trans bD,aZ,rfl⟩
        all_goals simp only [go_sem,ak,sevalprocAttr]
       ·rw [if_pos ⟨rfl,.inr ⟨Fg,by simpa using nJ⟩⟩] at hS
        simp +contextual only [go_sem,ak,sevalprocAttr,sM,nJ,Fg]
        exact aM aH.rfl' rfl rfl ⟨by rw [hS],by rw [hS],rfl⟩
     ·rw [if_pos ⟨rfl,.inl (by simpa using sM)⟩] at hS
      simp +contextual only [go_sem,ak,sevalprocAttr,sM]
      exact aM aH.rfl' rfl rfl ⟨by rw [hS],by rw [hS],rfl⟩
    ·rw [if_neg (fun h=>h2 h.1)] at hS
     simp +contextual only [go_sem,ak,sevalprocAttr,oI,xp,h1,h2,m0,m1,m2,m3,m4,m5,m6]
     refine dW _ _ _ ⟨rfl,?_,?_,?_,hS,M1,bG.rfl',bL,rfl⟩
     all_goals simp only [go_sem,ak,sevalprocAttr]
   ·rw [if_pos xp] at hS
    simp +contextual only [go_sem,ak,sevalprocAttr,oI,xp,m0,m1,m2,m3,m4,m5,m6]
    exact aM aH.rfl' rfl rfl ⟨by rw [hS],by rw [hS],rfl⟩
  ·clear hS
   rintro e ds h ⟨rfl,e0,e1,e2,hS,M2,aX,n2,rfl⟩
   replace m6:=ax aX m6
   simp +contextual only [go_sem,ak,sevalprocAttr,e0,e1,e2,m6]
   refine bh kids.length 87 [(0,.pointer (some ⟨hb,0,none⟩)),(1,.pointer (some ⟨b,o,none⟩)),(2,.int .i64 (bU:Int)),(86,.int .i64 (kids.length:Int))] (fun i e h=>∃ (M':aV) (n':Nat),bG M2 M'/\M' hb=none/\n'<=200/\h=⟨T,M',[(hb,[.int .i64 (n':Int)])],[]⟩/\S=eN (bU+1) n' (kids.drop i))
    0 (by omega) (by simp only [aG,e0,e1,e2,go_sem,ak,sevalprocAttr]) (by simp only [go_sem,ak,sevalprocAttr]) ⟨M2,n+1,bG.rfl',n2,by omega,rfl,hS⟩ ?_
   clear hS e0 e1 e2
   rintro i e h hi aD ht ⟨M3,n',bD,n3,X9,rfl,hS⟩
   simp only [aG] at aD
   replace m6:=ax bD m6
   by_cases aF:i<kids.length
   ·obtain ⟨b',o',cs',rfl,cC,eL⟩:=eE i kids[i] (List.getElem?_eq_getElem aF)
    have Al:=(aP.trans aX).trans bD
    have bX:kids.drop i=kids[i]::kids.drop (i+1):=List.drop_eq_getElem_cons aF
    rw [bX,eN] at hS
    have yW:SizeOf.sizeOf kids[i]<=sz:=by
     have h1:=List.sizeOf_lt_of_mem (List.getElem_mem aF)
     simp only [X.mk.sizeOf_spec] at eF
     omega
    have Ax:=rp (bU+1) n' kids[i] X9
    simp +contextual only [go_sem,ak,sevalprocAttr,aD,ht,aF,m6,hwd]
    refine dU [] (ih kids[i] yW M3 T b' _ hb (bU+1) n' cs' (hg.ext Al) (cC.ext Al) (br Al _ _ eL) X9 (by omega)) ?_ (fun _ _ _ _ _ _ h=>h.elim)
    rintro r M4 L' ce Q0 bH ⟨rfl,rfl, -⟩
    simp only [List.nil_append,aB,and_true] at bH
    by_cases hr:(eC (bU+1) n' kids[i]).1=0
    ·rw [if_neg (fun h=>h hr)] at hS
     simp +contextual only [go_sem,ak,sevalprocAttr,aD,ht,aF,hr]
     refine bW aF ?_ ?_ ⟨M4,_,bD.trans ce,bH,Ax.2 hr,rfl,hS⟩
     ·simp only [aG,aD,go_sem,ak,sevalprocAttr]
     ·simp only [ht,go_sem,ak,sevalprocAttr,aC i (by omega)]
    ·rw [if_pos hr] at hS
     simp +contextual only [go_sem,ak,sevalprocAttr,aD,ht,aF,hr]
     exact aM aH.rfl' rfl rfl ⟨by rw [hS],by rw [hS],rfl⟩
   ·have:i=kids.length:=by omega
    subst this
    rw [List.drop_length,eN] at hS
    simp +contextual only [go_sem,ak,sevalprocAttr,aD,ht,aF]
    exact aM aH.rfl' rfl rfl ⟨by rw [hS],by rw [hS],rfl⟩
theorem pw {F:Fi}{f:FuncId}{args:List Value}{dd:Option Nat}{s:List Vc.Item}{e:dN}{ds:List Deferred}{N:Tm}{M:aV}{L:LL}{R:RR}(hb:aK Tryz.prog f=true)
 (h:∀ M',bG M M' ->yb M' L ->dT Tryz.prog F f args dd s e ds ⟨N,M',[],R⟩ ⟨⟩):dT Tryz.prog F f args dd s e ds ⟨N,M,L,R⟩ ⟨⟩:=
 eh (k:=fun h'=>∃ M',bG M M'/\yb M' L/\h'=⟨N,M',[],R⟩) (oS fun M' he hL=>aA ⟨M',he,hL,rfl⟩) (by rintro h' ⟨M',he,hL,rfl⟩;exact h M' he hL) hb
def gX (x:X):Int:=(eC 1 0 x).1
theorem oQ {M:aV}{x:X}{cs:List Value}(hg:fO M)(hx:RX M x cs):Ct Tryz.prog 128 [.agg ⟨cs⟩] M [] [] (fun r _ _ _=>r=.int .i64 (gX x)) bj:=by
 intro T
 obtain ⟨s,rfl,h1,_⟩:=cb hx
 refine aT mx adv Tryz.func128 rfl (by rw [aky];exact Nat.le_of_ble_eq_true rfl) (dr:=Zx) (by kernel_rfl) alR ?_
 intro bN _
 simp +contextual only [go_sem,ak,sevalprocAttr,h1]
 intro b1 T1 jK jt pV b4 T4 iR cN j6 pp
 refine zg Q2 fun M1 aP WK bL=> ?_
 have ha:At M1 b1 0 [.int .i64 x.k,.int .i64 x.v.k,.int .i64 x.v.n,st x.v.t,st x.tab,st x.name,s]:=wu WK _ 0 (fun i v h=>by rw [Nat.zero_add];exact h)
 refine dU [] (SM _ x (Nat.le_refl _) M1 T4 b1 0 b4 1 0 _ (hg.ext aP) ha (br aP _ _ hx) (by omega) (by omega)) ?_ (fun _ _ _ _ _ _ h=>h.elim)
 rintro r M2 L' aX jY aQ ⟨rfl,rfl, -⟩
 simp +contextual only [go_sem,ak,sevalprocAttr]
 exact az (jt.trans j6) rfl
def sj (a b:Int):Int:=if a≠0 then a else b
def fT:List Int ->Int | []=>0 | a::l=>sj a (fT l)
abbrev RFn (f:Nat×List Value×Int)(cs:List Value):Prop:=cs=[.func (.func f.1) ⟨[]⟩ ⟨f.2.1⟩]
theorem Gw {M:aV}{fs:List (Nat×List Value×Int)}{sv:Value}{es:List Int}(he:(fs.map fun f=>f.2.2)=es)(hs:RS M RFn 1 fs sv)
 (hf:∀ f∈fs,∀ M' T,bG M M' ->ep Tryz.prog f.1 f.2.1 T M' [] [] (fun r _ _ _=>r=.int .i64 f.2.2) bj):Ct Tryz.prog 228 [sv] M [] [] (fun r _ _ _=>r=.int .i64 (fT es)) bj:=by
 intro T
 subst he
 obtain ⟨hb,a,c,rfl,jo,_,eE⟩:=aI (by decide) (fun _ _ h=>by unfold RFn at h;subst h;rfl) hs
 refine aT mx H3 Tryz.func228 rfl (by rw [amZ];exact Nat.le_of_ble_eq_true rfl) (dr:=Yv) (by kernel_rfl) akb ?_
 intro bN _
 simp +contextual only [go_sem,ak,sevalprocAttr]
 refine bh fs.length 8 [(6,.slice a fs.length c),(7,.int .i64 fs.length)] (fun i e h=>(∃ M',bG M M'/\h=⟨T,M',[],[]⟩)/\fT (fs.map fun f=>f.2.2)=fT ((fs.drop i).map fun f=>f.2.2)) 0 (by omega) (by simp only [aG,go_sem,ak,sevalprocAttr]) (by simp only [go_sem,ak,sevalprocAttr]) ⟨⟨M,bG.rfl',rfl⟩,rfl⟩ ?_
 rintro i e h hi aD ht ⟨⟨M1,aP,rfl⟩,ay⟩
 simp only [aG] at aD
 by_cases aF:i<fs.length
 ·obtain ⟨b,o,cs,rfl,cC,ff⟩:=eE i fs[i] (List.getElem?_eq_getElem aF)
  unfold RFn at ff;subst ff
  have hx:=ax aP cC.1
  rw [Nat.mul_one] at hx
  have bX:fs.drop i=fs[i]::fs.drop (i+1):=List.drop_eq_getElem_cons aF
  rw [bX] at ay
  simp +contextual only [go_sem,ak,sevalprocAttr,aD,ht,aF,hx]
  refine am (hf fs[i] (List.getElem_mem aF) M1 T aP) ?_ (fun _ _ _ _ h=>h.elim)
  rintro v M2 aX _ rfl
  simp only [List.map_cons,fT,sj] at ay
  by_cases hn:fs[i].2.2=0
  ·rw [if_neg (fun h=>h hn)] at ay
   simp +contextual only [go_sem,ak,sevalprocAttr,aD,ht,hn]
   refine bW aF ?_ ?_ ⟨⟨M2,aP.trans aX,rfl⟩,ay⟩
   ·simp only [aG,aD,go_sem,ak,sevalprocAttr]
   ·simp only [ht,go_sem,ak,sevalprocAttr,aC i (by omega)]
  ·rw [if_pos hn] at ay
   simp +contextual only [go_sem,ak,sevalprocAttr,aD,ht,hn]
   refine az aH.rfl' ?_
   rw [ay]
 ·have:i=fs.length:=by omega
  subst this
  simp +contextual only [go_sem,ak,sevalprocAttr,aD,ht,aF]
  refine az aH.rfl' ?_
  rw [ay];simp [fT]
theorem tJ {M:aV}{b o:Nat}{x:X}{cs:List Value}(h:RX M x cs)(ha:At M b o cs):∃ s,cs=[.int .i64 x.k,.int .i64 x.v.k,.int .i64 x.v.n,st x.v.t,st x.tab,st x.name,s]/\s.oneCell'=true/\aL M ⟨b,o,none⟩=some (.int .i64 x.k)/\aL M ⟨b,o+1,none⟩=some (.int .i64 x.v.k)/\aL M ⟨b,o+2,none⟩=some (.int .i64 x.v.n)/\aL M ⟨b,o+3,none⟩=some (st x.v.t)/\
 aL M ⟨b,o+4,none⟩=some (st x.tab)/\aL M ⟨b,o+5,none⟩=some (st x.name)/\aL M ⟨b,o+6,none⟩=some s:=by
 obtain ⟨s,rfl,h1,hs⟩:=cb h
 exact ⟨s,rfl,h1,ha.1,ha.2.1,ha.2.2.1,ha.2.2.2.1,ha.2.2.2.2.1,ha.2.2.2.2.2.1,ha.2.2.2.2.2.2.1⟩
theorem ad5 {M:aV}{b o:Nat}{x:So}{cs:List Value}(h:D1 M x cs)(ha:At M b o cs):aL M ⟨b,o,none⟩=some (.int .i64 x.k)/\aL M ⟨b,o+1,none⟩=some (st x.name)/\aL M ⟨b,o+2,none⟩=some (st x.as)/\∃ c,RX M x.on c/\At M b (o+3) c:=by
 obtain ⟨c,hx,rfl⟩:=h
 rw [eJ] at ha
 exact ⟨ha.1.1,ha.1.2.1,ha.1.2.2.1,c,hx,ha.2⟩
def i6 (i:Nat)(s:So):Int:=
 if (¬ (decide (s.k=1)==decide ((i:Int)=0))=true\/s.k<1)\/5<s.k then 1 else
 if fT [eo [s.name],em s.as]≠0\/i=0 then fT [eo [s.name],em s.as] else gX s.on
theorem II {M:aV}{p b o:Nat}{n:Bs}(hg:fO M)(hp:M p=some [.pointer (some ⟨b,o,none⟩)])(hn:aL M ⟨b,o+1,none⟩=some (st n)):Ct Tryz.prog 273 [.pointer (some ⟨p,0,none⟩)] M [] [] (fun r _ _ _=>r=.int .i64 (eo [n])) bj:=by
 intro T
 refine aT mx ac9 Tryz.func273 rfl (by rw [afM];exact Nat.le_of_ble_eq_true rfl) (dr:=Zw) (by kernel_rfl) ajs ?_
 intro bN _
 simp +contextual only [go_sem,ak,sevalprocAttr,aY hp,hn]
 intro b1 jK
 refine aW xB fun M1 aP jK bL=> ?_
 have hl:RS M1 pD 1 [n] (.slice (some ⟨b1,0,none⟩) 1 1):=df (fun _ _=>cO) jK (eQ [n]) rfl (by decide)
 refine am (ux (hg.ext aP) hl T) ?_ (fun _ _ _ _ h=>h.elim)
 rintro v M2 aX _ rfl
 simp +contextual only [go_sem,ak,sevalprocAttr]
 exact az aH.rfl' rfl
theorem Jp {M:aV}{p b o:Nat}{n:Bs}(hg:fO M)(hp:M p=some [.pointer (some ⟨b,o,none⟩)])(hn:aL M ⟨b,o+2,none⟩=some (st n)):Ct Tryz.prog 274 [.pointer (some ⟨p,0,none⟩)] M [] [] (fun r _ _ _=>r=.int .i64 (em n)) bj:=by
 intro T
 refine aT mx adJ Tryz.func274 rfl (by rw [aht];exact Nat.le_of_ble_eq_true rfl) (dr:=X1) (by kernel_rfl) anM ?_
 intro bN _
 simp +contextual only [go_sem,ak,sevalprocAttr,aY hp,hn]
 refine am (Ga n hg T) ?_ (fun _ _ _ _ h=>h.elim)
 rintro v M2 aX _ rfl
 simp +contextual only [go_sem,ak,sevalprocAttr]
 exact az aH.rfl' rfl
theorem JK {M:aV}{b o:Nat}{x:So}{cs:List Value}(i:Nat)(hg:fO M)(hx:D1 M x cs)(ha:At M b o cs):Ct Tryz.prog 232 [.int .i64 (i:Int),.pointer (some ⟨b,o,none⟩)] M [] [] (fun r _ _ _=>r=.int .i64 (i6 i x)) bj:=by
 intro T
 obtain ⟨m0,m1,m2,c,hc,Ai⟩:=ad5 hx ha
 obtain ⟨s,rfl,ho,m3,m4,m5,m6,m7,m8,m9⟩:=tJ hc Ai
 refine aT mx aax Tryz.func232 rfl (by rw [amA];exact Nat.le_of_ble_eq_true rfl) (dr:=Y4) (by kernel_rfl) aj8 ?_
 intro bN _
 obtain ⟨S,hS⟩:∃ S,S=i6 i x:=⟨_,rfl⟩
 rw [<- hS]
 unfold i6 at hS
 simp +contextual only [go_sem,ak,sevalprocAttr,m0]
 intro b1 T1 jK jt pV
 by_cases hk:(¬ (decide (x.k=1)==decide ((i:Int)=0))=true\/x.k<1)\/5<x.k
 ·rw [if_pos hk] at hS ⊢
  exact az jt (by rw [hS])
 rw [if_neg hk] at hS ⊢
 intro b2 eG cr
 refine pw H3 fun M1 aP hL1=> ?_
 obtain ⟨Kb,iT, -⟩:=hL1
 have mC:=hg.ext aP
 have O3:RS M1 RFn 1 [(273,[.pointer (some ⟨b1,0,none⟩)],eo [x.name]),(274,[.pointer (some ⟨b1,0,none⟩)],em x.as)] (.slice (some ⟨b2,0,none⟩) 2 2):=
  df (fun _ _ h=>by unfold RFn at h;subst h;rfl) Kb ⟨_,_,rfl,rfl,_,_,rfl,rfl,rfl⟩ rfl (by decide)
 refine am (Gw (es:=[eo [x.name],em x.as]) rfl O3 (fun f hf M' T lC=> ?_) T1) ?_ (fun _ _ _ _ h=>h.elim)
 ·simp only [List.mem_cons,List.not_mem_nil,or_false] at hf
  rcases hf with rfl | rfl
  ·exact II (mC.ext lC) (lC _ _ iT) (ax (aP.trans lC) m1) T
  ·exact Jp (mC.ext lC) (lC _ _ iT) (ax (aP.trans lC) m2) T
 rintro v M2 aX _ rfl
 generalize fT [eo [x.name],em x.as]=E at hS ⊢
 have gz:=aP.trans aX
 replace m3:=ax gz m3
 replace m4:=ax gz m4
 replace m5:=ax gz m5
 replace m6:=ax gz m6
 replace m7:=ax gz m7
 replace m8:=ax gz m8
 replace m9:=ax gz m9
 have gV:=aX _ _ iT
 by_cases hE:E=0
 ·by_cases mm:i=0
  ·rw [if_pos (.inr mm)] at hS
   subst mm
   simp +contextual only [go_sem,ak,sevalprocAttr,hE]
   exact az jt (by rw [hS,hE])
  ·rw [if_neg (by rintro (h | h);exact h hE;exact mm h)] at hS
   have Z6:¬ (i:Int)=0:=by omega
   simp +contextual only [go_sem,ak,sevalprocAttr,hE,Z6,aY gV,m3,m4,m5,m6,m7,m8,m9]
   refine am (oQ (hg.ext gz) (br gz _ _ hc) T1) ?_ (fun _ _ _ _ h=>h.elim)
   rintro v M3 bD _ rfl
   simp +contextual only [go_sem,ak,sevalprocAttr]
   exact az jt (by rw [hS])
 ·rw [if_pos (.inl hE)] at hS
  simp +contextual only [go_sem,ak,sevalprocAttr,hE]
  exact az jt (by rw [hS])
end Go.Proofs.YtmccpbcbofhmlaaGreatDoor

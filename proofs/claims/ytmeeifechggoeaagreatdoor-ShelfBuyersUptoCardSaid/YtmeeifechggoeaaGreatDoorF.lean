import Derived.Test.YtmeeifechggoeaaGreatDoorE
import Derived.Test.YtmeeifechggoeaaGreatDoorC
import Derived.Test.YtmeeifechggoeaaGreatDoorD
import Derived.Shelf.Strings.Builder1
import Derived.Shelf.Small.Strs
import Derived.Shelf.Strconv.Itoa0
import Derived.Shelf.Strconv.Itoa1
import Derived.Shelf.LaysM
import Derived.Shelf.Strconv.Itoa2
import Derived.Shelf.Strconv.Itoa3
import Derived.Shelf.Strconv.ParseIntEmpty
import Derived.Shelf.Strconv.Clone
import Derived.Shelf.Strconv.SyntaxError
import Derived.Shelf.LaysC
import Derived.Shelf.Strconv.ToError
import Derived.Shelf.Strconv.Lower
import Derived.Shelf.Strconv.ParseUint10
import Derived.Shelf.Strconv.ParseUint10Empty
import Derived.Shelf.Strconv.ParseUint10Any
import Derived.Shelf.Strconv.ParseInt10
import Derived.Shelf.Strconv.RangeError
import Derived.Shelf.Strconv.ToErrorRange
import Derived.Shelf.Strconv.ParseUintEmpty
import Derived.Shelf.Strconv.ParseUint10b64
import Derived.Shelf.Strconv.ParseUint10b32
import Derived.Shelf.Strconv.ParseUint10b16
import Derived.Shelf.Strconv.ParseUint10b8
import Derived.Shelf.Strconv.ParseUint10At
import Derived.Shelf.Strconv.ParseInt10At64
import Derived.Shelf.Strconv.ParseInt10At32
import Derived.Shelf.Strconv.ParseInt10At16
import Derived.Shelf.Strconv.ParseInt10At8
import Derived.Shelf.Strconv.ParseInt10All
import Derived.Shelf.Strconv.ParseIntPublic10
import Derived.Shelf.Strings.Search1
import Derived.Shelf.Strings.Fields
import Derived.Shelf.Unicode.Latin
import Derived.Shelf.Unicode.Is16White
import Derived.Shelf.Unicode.IsSpaceAny
import Derived.Shelf.Unicode.Is16Any
import Derived.Shelf.Unicode.Is32Any
import Derived.Shelf.Unicode.ExclAny
import Derived.Test.YtmeeifechggoeaaGreatDoorProg
import Derived.Lib.ItoaLen
import Derived.Test.YtmeeifechggoeaaGreatDoorB
set_option linter.all false
namespace Go.Proofs.YtmeeifechggoeaaGreatDoor
open Go Vc
set_option maxRecDepth 10000
def zi (t t':List Tk):Prop:=t.map (fun x=>(x.k,x.s))=t'.map (fun x=>(x.k,x.s))
theorem zi.rfl' {t:List Tk}:zi t t:=rfl
theorem zi.nil {t':List Tk}(h:zi [] t'):t'=[]:=by simpa [zi] using h.symm
theorem zi.cons {x:Tk}{t t':List Tk}(h:zi (x::t) t'):∃ x' t1,t'=x'::t1/\x'.k=x.k/\x'.s=x.s/\zi t t1:=by
 cases t' with
 | nil=>simp [zi] at h
 | cons x' t1=>
  simp only [zi,List.map_cons,List.cons.injEq,Prod.mk.injEq] at h
  exact ⟨x',t1,rfl,h.1.1.symm,h.1.2.symm,h.2⟩
theorem zi.tail {t t':List Tk}(h:zi t t'):zi t.tail t'.tail:=by
 cases t with
 | nil=>rw [h.nil];rfl
 | cons x t=>obtain ⟨x',t1,rfl,_,_,h⟩:=h.cons;exact h
theorem ud {t' u:List Tk}(h:t'≠[]):(t'++u).tail=t'.tail++u:=by
 cases t' with
 | nil=>exact (h rfl).elim
 | cons x t=>rfl
theorem zi.ne {t t':List Tk}(h:zi t t')(hn:t≠[]):t'≠[]:=by
 cases t with
 | nil=>exact (hn rfl).elim
 | cons x t=>obtain ⟨x',t1,rfl,_,_,h⟩:=h.cons;simp
theorem tn {r t:List Tk}(h:r.length<=t.length)(hr:r≠[]):t≠[]:=by
 rintro rfl
 exact hr (List.length_eq_zero_iff.1 (by simpa using h))
theorem jG {s:Bs}{t t':List Tk}(h:zi t t'):bD s t'=bD s t:=by
 cases t with
 | nil=>rw [h.nil]
 | cons x t=>obtain ⟨x',t1,rfl,h1,h2,h⟩:=h.cons;simp only [bD,h1,h2]
theorem jH {s:Bs}{t' u:List Tk}(h:t'≠[]):bD s (t'++u)=bD s t':=by
 cases t' with
 | nil=>exact (h rfl).elim
 | cons x t=>rfl
theorem Ae {s:Bs}{t:List Tk}(h:bD s t=true):t≠[]:=by rintro rfl;cases h
theorem J8 {l:List Bs}{t t':List Tk}(h:zi t t'):bC l t'=bC l t:=by
 induction l with
 | nil=>rfl
 | cons s l ih=>simp only [bC,jG h,ih]
theorem KM {l:List Bs}{t' u:List Tk}(h:t'≠[]):bC l (t'++u)=bC l t':=by
 induction l with
 | nil=>rfl
 | cons s l ih=>simp only [bC,jH h,ih]
theorem PF {l:List Bs}{t:List Tk}{j:Nat}(h:bC l t=some j):t≠[]:=by
 rintro rfl
 induction l generalizing j with
 | nil=>cases h
 | cons s l ih=>
  simp only [bC,bD,Bool.false_eq_true,if_false,Option.map_eq_some_iff] at h
  obtain ⟨k,h,_⟩:=h
  exact ih h
def kV {α:Type}(g h:List Tk ->Rs α):Prop:=∀ t t' u a r,zi t t' ->g t=.ok a r ->r.length<=t.length/\(r≠[] ->∃ r',zi r r'/\h (t'++u)=.ok a (r'++u))
def Loc {α:Type}(g:Int ->List Tk ->Rs α):Prop:=∀ en en',kV (g en) (g en')
theorem gJ {α:Type}{a:α}:kV (fun t=> .ok a t) (fun t=> .ok a t):=by
 intro t t' u b r he h
 injection h with h1 h2;subst h1 h2
 exact ⟨Nat.le_refl _,fun _=>⟨t',he,rfl⟩⟩
theorem CS {α:Type}{e:Int}{f g:List Tk ->Int}:kV (fun t=>(.err e (f t):Rs α)) (fun t=> .err e (g t)):=by
 intro t t' u b r he h;cases h
theorem cH {α β:Type}{g g':List Tk ->Rs α}{f f':α ->List Tk ->Rs β}(hg:kV g g')(hf:∀ a,kV (f a) (f' a)):kV (fun t=>(g t).bind (f)) (fun t=>(g' t).bind f'):=by
 intro t t' u b r he h
 have h:(g t).bind f=.ok b r:=h
 cases AC:g t with
 | err e a=>rw [AC] at h;cases h
 | out=>rw [AC] at h;cases h
 | ok a t1=>
  rw [AC] at h
  have h2:f a t1=.ok b r:=h
  obtain ⟨l1,n1⟩:=hg t t' u a t1 he AC
  obtain ⟨l2,_⟩:=hf a t1 t1 u b r rfl h2
  refine ⟨Nat.le_trans l2 l1,fun hr=> ?_⟩
  obtain ⟨t1',e1,qZ⟩:=n1 (tn l2 hr)
  obtain ⟨_,n2⟩:=hf a t1 t1' u b r e1 h2
  obtain ⟨r',e2,HB⟩:=n2 hr
  refine ⟨r',e2,?_⟩
  show (g' (t'++u)).bind f'=_
  rw [qZ];exact HB
theorem kG {α:Type}{s:Bs}{g g' k k':List Tk ->Rs α}(hg:kV g g')(hk:kV k k'):kV (fun t=>if bD s t=true then g t.tail else k t) (fun t=>if bD s t=true then g' t.tail else k' t):=by
 intro t t' u b r he h
 simp only at h
 by_cases hs:bD s t=true
 ·rw [if_pos hs] at h
  have cu:=Ae hs
  have j7:=he.ne cu
  obtain ⟨l1,n1⟩:=hg t.tail t'.tail u b r he.tail h
  refine ⟨Nat.le_trans l1 (by simp),fun hr=> ?_⟩
  obtain ⟨r',e1,h1⟩:=n1 hr
  refine ⟨r',e1,?_⟩
  simp only
  rw [if_pos (by rw [jH j7,jG he];exact hs),ud j7]
  exact h1
 ·rw [if_neg hs] at h
  obtain ⟨l1,n1⟩:=hk t t' u b r he h
  refine ⟨l1,fun hr=> ?_⟩
  obtain ⟨r',e1,h1⟩:=n1 hr
  have j7:=he.ne (tn l1 hr)
  refine ⟨r',e1,?_⟩
  simp only
  rw [if_neg (by rw [jH j7,jG he];exact hs)]
  exact h1
theorem K2 {α:Type}{l:List Bs}{g g':Nat ->List Tk ->Rs α}{k k':List Tk ->Rs α}(hg:∀ j,kV (g j) (g' j))(hk:kV k k'):
 kV (fun t=>match bC l t with | some j=>g j t.tail | none=>k t) (fun t=>match bC l t with | some j=>g' j t.tail | none=>k' t):=by
 intro t t' u b r he h
 simp only at h
 cases hs:bC l t with
 | some j=>
  rw [hs] at h
  have cu:=PF hs
  have j7:=he.ne cu
  obtain ⟨l1,n1⟩:=hg j t.tail t'.tail u b r he.tail h
  refine ⟨Nat.le_trans l1 (by simp),fun hr=> ?_⟩
  obtain ⟨r',e1,h1⟩:=n1 hr
  refine ⟨r',e1,?_⟩
  simp only
  rw [KM j7,J8 he,hs,ud j7]
  exact h1
 | none=>
  rw [hs] at h
  obtain ⟨l1,n1⟩:=hk t t' u b r he h
  refine ⟨l1,fun hr=> ?_⟩
  obtain ⟨r',e1,h1⟩:=n1 hr
  have j7:=he.ne (tn l1 hr)
  refine ⟨r',e1,?_⟩
  simp only
  rw [KM j7,J8 he,hs]
  exact h1
theorem xZ {α:Type}(c:Prop)[Decidable c]{g g' k k':List Tk ->Rs α}(hg:kV g g')(hk:kV k k'):kV (fun t=>if c then g t else k t) (fun t=>if c then g' t else k' t):=by
 by_cases h:c
 ·simp only [if_pos h];exact hg
 ·simp only [if_neg h];exact hk
theorem eV:∀ (l:List Bs),Loc fun en=>bZ en l
 | [],en,en'=>gJ
 | s::l,en,en'=>kG (eV l en en') CS
theorem GP:Loc fun en=>iF en:=by
 intro en en' t t' u a r he h
 cases t with
 | nil=>cases h
 | cons x t=>
  obtain ⟨x',t1,rfl,h1,h2,he⟩:=he.cons
  simp only [iF] at h
  split at h
  ·rename_i hk
   split at h
   ·rename_i hn
    injection h with h3 h4;subst h3 h4
    refine ⟨by simp,fun _=>⟨t1,he,?_⟩⟩
    simp only [List.cons_append,iF,h1,h2,if_pos hk,if_pos hn]
   ·cases h
  ·cases h
theorem Yy:Loc fun en=>wK en:=by
 have key:∀ (neg:Bool) (at0 at1 en en':Int),kV (rB neg at0 en) (rB neg at1 en'):=by
  intro neg at0 at1 en en' t t' u a r he h
  cases t with
  | nil=>cases h
  | cons x t=>
   obtain ⟨x',t1,rfl,h1,h2,he⟩:=he.cons
   simp only [rB] at h
   split at h
   ·rename_i hk
    split at h
    ·cases h
    ·rename_i hn
     injection h with h3 h4;subst h3 h4
     refine ⟨by simp,fun _=>⟨t1,he,?_⟩⟩
     simp only [List.cons_append,rB,h1,h2,if_pos hk,if_neg hn]
   ·cases h
 intro en en' t t' u a r he h
 have h:rB (bD kX t) (pf en t) en (if bD kX t=true then t.tail else t)=.ok a r:=h
 by_cases hs:bD kX t=true
 ·have cu:=Ae hs
  have j7:=he.ne cu
  have yJ:bD kX (t'++u)=true:=by rw [jH j7,jG he];exact hs
  rw [if_pos hs,hs] at h
  obtain ⟨l1,n1⟩:=key true (pf en t) (pf en' (t'++u)) en en' t.tail t'.tail u a r he.tail h
  refine ⟨Nat.le_trans l1 (by simp),fun hr=> ?_⟩
  obtain ⟨r',e1,h1⟩:=n1 hr
  refine ⟨r',e1,?_⟩
  show rB _ _ _ _=_
  rw [if_pos yJ,yJ,ud j7]
  exact h1
 ·rw [if_neg hs] at h
  simp only [Bool.not_eq_true] at hs
  rw [hs] at h
  obtain ⟨l1,n1⟩:=key false (pf en t) (pf en' (t'++u)) en en' t t' u a r he h
  refine ⟨l1,fun hr=> ?_⟩
  obtain ⟨r',e1,h1⟩:=n1 hr
  have j7:=he.ne (tn l1 hr)
  have yJ:bD kX (t'++u)=false:=by rw [jH j7,jG he];exact hs
  refine ⟨r',e1,?_⟩
  show rB _ _ _ _=_
  rw [yJ,if_neg Bool.false_ne_true]
  exact h1
theorem pY {k:Int}{t t':List Tk}(h:zi t t'):iV k t'=iV k t:=by
 cases t with
 | nil=>rw [h.nil]
 | cons x t=>obtain ⟨x',t1,rfl,h1,h2,h⟩:=h.cons;simp only [iV,h1]
theorem pP {k:Int}{t' u:List Tk}(h:t'≠[]):iV k (t'++u)=iV k t':=by
 cases t' with
 | nil=>exact (h rfl).elim
 | cons x t=>rfl
theorem TH {t t' u:List Tk}(h:zi t t')(hn:t≠[]):Cq (t'++u)=Cq t:=by
 cases t with
 | nil=>exact (hn rfl).elim
 | cons x t=>obtain ⟨x',t1,rfl,h1,h2,h⟩:=h.cons;simp only [List.cons_append,Cq,h2]
theorem Mj {k:Int}{t:List Tk}(h:iV k t=true):t≠[]:=by rintro rfl;cases h
theorem WA {α β:Type}{f:α ->β}{g g':List Tk ->Rs α}(hg:kV g g'):kV (fun t=>(g t).map f) (fun t=>(g' t).map f):=by
 have h:=cH (f:=fun a t=> .ok (f a) t) (f':=fun a t=> .ok (f a) t) hg (fun a=>gJ)
 have e:∀ (g:List Tk ->Rs α),(fun t=>(g t).map f)=fun t=>(g t).bind fun a t=> .ok (f a) t:=by
  intro g;funext t;cases g t<;>rfl
 rw [e,e];exact h
theorem Nc:Loc fun en=>jz en:=by
 intro en en'
 refine kG gJ (kG gJ (kG gJ ?_))
 have ahS:=WA (f:=fun n=>some (⟨3,n,[]⟩:V)) (Yy en en')
 intro t t' u a r he h
 simp only at h
 by_cases h1:bD kX t=true\/iV 2 t=true
 ·rw [if_pos h1] at h
  have cu:t≠[]:=by rcases h1 with h1 | h1;exact Ae h1;exact Mj h1
  have j7:=he.ne cu
  obtain ⟨l1,n1⟩:=ahS t t' u a r he h
  refine ⟨l1,fun hr=> ?_⟩
  obtain ⟨r',e1,h2⟩:=n1 hr
  refine ⟨r',e1,?_⟩
  simp only
  rw [if_pos (by rw [jH j7,jG he,pP j7,pY he];exact h1)]
  exact h2
 ·rw [if_neg h1] at h
  by_cases h3:iV 3 t=true
  ·rw [if_pos h3] at h
   have cu:=Mj h3
   have j7:=he.ne cu
   injection h with h4 h5
   subst h4 h5
   refine ⟨by simp,fun hr=>⟨t'.tail,he.tail,?_⟩⟩
   simp only
   rw [if_neg (by rw [jH j7,jG he,pP j7,pY he];exact h1),if_pos (by rw [pP j7,pY he];exact h3),TH he cu,ud j7]
  ·rw [if_neg h3] at h
   injection h with h4 h5
   subst h4 h5
   refine ⟨Nat.le_refl _,fun hr=>⟨t',he,?_⟩⟩
   have j7:=he.ne hr
   simp only
   rw [if_neg (by rw [jH j7,jG he,pP j7,pY he];exact h1),if_neg (by rw [pP j7,pY he];exact h3)]
theorem ZJ {x:X}:Loc fun en=>fun t=>if bD yH t=true then (bZ en [rM] t.tail).bind fun _ t=> .ok (nU 3 [nU 16 [x]]) t else (bZ en [rM] t).bind fun _ t=> .ok (nU 16 [x]) t:=fun en en'=>
 kG (g:=fun t=>(bZ en [rM] t).bind fun _ t=> .ok (nU 3 [nU 16 [x]]) t) (cH (eV _ en en') fun _=>gJ) (cH (eV _ en en') fun _=>gJ)
theorem abU (en:Int)(x:X)(t:List Tk):isM en x t=if bD yH t.tail=true then (bZ en [rM] t.tail.tail).bind fun _ t=> .ok (nU 3 [nU 16 [x]]) t else (bZ en [rM] t.tail).bind fun _ t=> .ok (nU 16 [x]) t:=by
 unfold isM
 by_cases h:bD yH t.tail=true
 ·simp only [if_pos h]
 ·simp only [if_neg h]
theorem xR {g g':List Tk ->Rs X}(hg:kV g g')(l:Lvl):∀ (k k':Nat) (x:X),k<=k' ->kV (km g l k x) (km g' l k' x)
 | 0,k',x,hk=>by intro t t' u a r he h;cases h
 | k+1,0,x,hk=>by omega
 | k+1,k'+1,x,hk=>by
  have:=K2 (l:=l.signs) (g:=fun j t=>(g t).bind fun y t'=>if l.once=true then .ok (nU (l.kind+j) [x,y]) t' else km g l k (nU (l.kind+j) [x,y]) t')
   (g':=fun j t=>(g' t).bind fun y t'=>if l.once=true then .ok (nU (l.kind+j) [x,y]) t' else km g' l k' (nU (l.kind+j) [x,y]) t') (k:=fun t=> .ok x t) (k':=fun t=> .ok x t)
   (fun j=>cH hg fun y=>xZ _ gJ (xR hg l k k' _ (by omega))) gJ
  have e:∀ (g:List Tk ->Rs X) (k:Nat),km g l (k+1) x=fun t=>match bC l.signs t with
   | some j=>(fun j t=>(g t).bind fun y t'=>if l.once=true then .ok (nU (l.kind+j) [x,y]) t' else km g l k (nU (l.kind+j) [x,y]) t') j t.tail
   | none=>(fun t=> .ok x t) t:=by
   intro g k;funext t
   rw [km]
   cases bC l.signs t<;>rfl
  rw [e,e];exact this
theorem MC {en en':Int}{ex ex':List Tk ->Rs X}(ix:kV ex ex'):kV (mT en ex) (mT en' ex'):=by
 refine cH (Nc en en') fun v=> ?_
 cases v with
 | some v=>exact gJ
 | none=>
  simp only
  refine kG (g:=fun t=>(ex t).bind fun x t=>(bZ en [kC] t).bind fun _ t=> .ok x t) (cH ix fun x=>cH (eV _ en en') fun _=>gJ) ?_
  refine kG (g:=fun t=>(bZ en [Zt] t).bind fun _ t=>(ex t).bind fun a t=>(bZ en [ZB] t).bind fun _ t=>(ex t).bind fun b t=>(bZ en [Zl] t).bind fun _ t=>(ex t).bind fun c t=>(bZ en [aeu] t).bind fun _ t=> .ok (nU 17 [a,b,c]) t)
   (cH (eV _ en en') fun _=>cH ix fun _=>cH (eV _ en en') fun _=>cH ix fun _=>cH (eV _ en en') fun _=>cH ix fun _=>cH (eV _ en en') fun _=>gJ) ?_
  refine kG (g:=fun t=>(bZ en [rJ] t).bind fun _ t=>(ex t).bind fun a t=>(bZ en [kH] t).bind fun _ t=>(ex t).bind fun b t=>(bZ en [kC] t).bind fun _ t=> .ok (nU 18 [a,b]) t)
   (cH (eV _ en en') fun _=>cH ix fun _=>cH (eV _ en en') fun _=>cH ix fun _=>cH (eV _ en en') fun _=>gJ) ?_
  refine kG (g:=fun t=>(bZ en [rJ] t).bind fun _ t=>if bD zL t=true then (bZ en [kC] t.tail).bind fun _ t=> .ok (nU 19 []) t else (ex t).bind fun a t=>(bZ en [kC] t).bind fun _ t=> .ok (nU 20 [a]) t)
   (cH (eV _ en en') fun _=>kG (g:=fun t=>(bZ en [kC] t).bind fun _ t=> .ok (nU 19 []) t) (cH (eV _ en en') fun _=>gJ) (cH ix fun _=>cH (eV _ en en') fun _=>gJ)) ?_
  refine K2 (g:=fun i t=>(bZ en [rJ] t).bind fun _ t=>(ex t).bind fun a t=>(bZ en [kC] t).bind fun _ t=> .ok (nU (21+i) [a]) t) (fun i=>cH (eV _ en en') fun _=>cH ix fun _=>cH (eV _ en en') fun _=>gJ) ?_
  exact cH (GP en en') fun n=>kG (g:=fun t=>(iF en t).bind fun m t=> .ok (X.mk 2 ⟨0,0,[]⟩ n m []) t) (cH (GP en en') fun m=>gJ) gJ
theorem Ku:∀ (f n:Nat) (op:Int),Loc fun en=>eW en f n op
 | 0,n,op,en,en'=>by intro t t' u a r he h;cases h
 | f+1,n,op,en,en'=>by
  have ih:=Ku f
  by_cases h7:n=7
  ·have e:∀ en,eW en (f+1) n op=mT en (fun t=>if op+1>100 then .err 4 (pf en t) else eW en f 0 (op+1) t):=by
    intro en;funext t;rw [eW,if_pos h7]
   show kV (eW en (f+1) n op) (eW en' (f+1) n op)
   rw [e,e]
   exact MC (xZ _ CS (ih 0 (op+1) en en'))
  by_cases h2:n=2
  ·have e:∀ en,eW en (f+1) n op=fun t=>if bD yH t=true then (fun t=>if op+1>100 then .err 4 (pf en t) else (eW en f 2 (op+1) t).bind fun x t=> .ok (nU 3 [x]) t) t.tail else eW en f 3 op t:=by
    intro en;funext t;rw [eW,if_neg h7,if_pos h2]
   show kV (eW en (f+1) n op) (eW en' (f+1) n op)
   rw [e,e]
   exact kG (xZ _ CS (cH (ih 2 (op+1) en en') fun x=>gJ)) (ih 3 op en en')
  ·by_cases h3:n=3
   ·have e:∀ en,eW en (f+1) n op=fun t=>(eW en f (n+1) op t).bind fun x t=>if bD wIs t=true then (fun t=>if bD yH t=true then (bZ en [rM] t.tail).bind fun _ t=> .ok (nU 3 [nU 16 [x]]) t else (bZ en [rM] t).bind fun _ t=> .ok (nU 16 [x]) t) t.tail
     else (fun t=>km (eW en f (n+1) op) (gS n) (t.length+1) x t) t:=by
     intro en;funext t;rw [eW,if_neg h7,if_neg h2]
     congr 1;funext x t
     by_cases hi:bD wIs t=true
     ·rw [if_pos ⟨h3,hi⟩,if_pos hi,abU]
     ·rw [if_neg (fun h=>hi h.2),if_neg hi]
    show kV (eW en (f+1) n op) (eW en' (f+1) n op)
    rw [e,e]
    refine cH (ih (n+1) op en en') fun x=>kG (ZJ en en') ?_
    intro t t' u a r he h
    have bq:t.length=t'.length:=by have:=congrArg List.length he;simpa [zi] using this
    exact xR (ih (n+1) op en en') (gS n) (t.length+1) ((t'++u).length+1) x (by rw [List.length_append];omega) t t' u a r he h
   ·have e:∀ en,eW en (f+1) n op=fun t=>(eW en f (n+1) op t).bind fun x t=>(fun t=>km (eW en f (n+1) op) (gS n) (t.length+1) x t) t:=by
     intro en;funext t;rw [eW,if_neg h7,if_neg h2]
     congr 1;funext x t
     rw [if_neg (fun h=>h3 h.1)]
    show kV (eW en (f+1) n op) (eW en' (f+1) n op)
    rw [e,e]
    refine cH (ih (n+1) op en en') fun x=> ?_
    intro t t' u a r he h
    have bq:t.length=t'.length:=by have:=congrArg List.length he;simpa [zi] using this
    exact xR (ih (n+1) op en en') (gS n) (t.length+1) ((t'++u).length+1) x (by rw [List.length_append];omega) t t' u a r he h
section
variable {en en':Int} {ex ex':List Tk ->Rs X}
end
theorem Kz {g:List Tk ->Rs X}(hg:∀ t,g t≠ .out)(di:∀ t a r,g t=.ok a r ->r.length<=t.length)(l:Lvl):∀ (k:Nat) (x:X) (t:List Tk),t.length<k ->km g l k x t≠ .out
 | 0,x,t,h=>by omega
 | k+1,x,t,h=>by
  rw [km]
  cases hi:bC l.signs t with
  | none=>simp
  | some j=>
   simp only
   cases AC:g t.tail with
   | out=>exact (hg _ AC).elim
   | err e a=>simp [Rs.bind]
   | ok y t'=>
    simp only [Rs.bind]
    split
    ·simp
    ·refine Kz hg di l k _ t' ?_
     have:=di _ _ _ AC
     have cu:=PF hi
     have:t.tail.length<t.length:=by
      cases t with
      | nil=>exact (cu rfl).elim
      | cons _ _=>simp
     omega
theorem Qw {en:Int}{ex:List Tk ->Rs X}(ix:∀ t,ex t≠ .out)(t:List Tk):mT en ex t≠ .out:=by
 have hn:∀ {α:Type} {l t} {f:Unit ->List Tk ->Rs α},(∀ a t,f a t≠ .out) ->(bZ en l t).bind f≠ .out:=fun h=>bw ef h
 have hx:∀ {α:Type} {t} {f:X ->List Tk ->Rs α},(∀ a t,f a t≠ .out) ->(ex t).bind f≠ .out:=fun h=>bw (ix _) h
 unfold mT
 refine bw Bt fun v t=> ?_
 cases v with
 | some v=>simp
 | none=>
  simp only
  split
  ·exact hx fun _ _=>hn fun _ _=>by simp
  split
  ·exact hn fun _ _=>hx fun _ _=>hn fun _ _=>hx fun _ _=>hn fun _ _=>hx fun _ _=>hn fun _ _=>by simp
  split
  ·exact hn fun _ _=>hx fun _ _=>hn fun _ _=>hx fun _ _=>hn fun _ _=>by simp
  split
  ·refine hn fun _ _=> ?_
   split
   ·exact hn fun _ _=>by simp
   ·exact hx fun _ _=>hn fun _ _=>by simp
  split
  ·exact hn fun _ _=>hx fun _ _=>hn fun _ _=>by simp
  ·refine bw jb fun _ _=> ?_
   split
   ·exact bw jb fun _ _=>by simp
   ·simp
theorem aa5 {en:Int}{f n:Nat}{op:Int}{t:List Tk}{a r}(h:eW en f n op t=.ok a r):r.length<=t.length:=(Ku f n op en en t t [] a r rfl h).1
theorem vj {en:Int}:∀ (f n:Nat) (op:Int),n<=7 ->op<=100 ->9*(101 - op)+8 - n<f ->∀ t,eW en f n op t≠ .out
 | 0,n,op,h1,h2,h3,t=>by omega
 | f+1,n,op,h1,h2,h3,t=>by
  rw [eW]
  split
  ·rename_i h7
   refine Qw (fun t=> ?_) t
   split
   ·simp
   ·exact vj f 0 (op+1) (by omega) (by omega) (by omega) t
  split
  ·rename_i h7 HB
   split
   ·split
    ·simp
    ·exact bw (vj f 2 (op+1) (by omega) (by omega) (by omega) _) fun _ _=>by simp
   ·exact vj f 3 op (by omega) (by omega) (by omega) t
  ·rename_i h7 HB
   refine bw (vj f (n+1) op (by omega) h2 (by omega) t) fun x t=> ?_
   split
   ·unfold isM
    exact bw ef fun _ _=>by simp
   ·exact Kz (fun t=>vj f (n+1) op (by omega) h2 (by omega) t) (fun t a r h=>aa5 h) _ _ _ _ (by omega)
def exF (en:Int)(t:List Tk):Rs X:=wx en 1000 0 t
theorem Z8 {en:Int}(t:List Tk):exF en t≠ .out:=by
 unfold exF wx
 split
 ·simp
 ·exact vj 1000 0 (0+1) (by omega) (by omega) (by omega) t
section
variable {en:Int} {ex:List Tk ->Rs X}
theorem W2 (ix:∀ t,ex t≠ .out)(t:List Tk):A8 en ex t≠ .out:=by
 refine bw (ix t) fun x t=> ?_
 split
 ·exact bw jb fun _ _=>by simp
 ·simp
theorem AR (ix:∀ t,ex t≠ .out)(k:Int)(t:List Tk):mI en ex k t≠ .out:=by
 refine bw jb fun n t=>bw ?_ fun a t=> ?_
 ·unfold asM;split
  ·exact jb
  ·simp
 ·split
  ·exact bw ef fun _ _=>bw (ix _) fun _ _=>by simp
  ·simp
theorem EH (ix:∀ t,ex t≠ .out):∀ (ly:Nat) (t:List Tk),yb en ex ly t≠ .out
 | 0,t=>by
  rw [qT]
  refine bw Ev fun k t=> ?_
  unfold vw;split<;>simp
 | n+1,t=>by
  rw [qT]
  refine bw Ev fun k t=> ?_
  unfold vw
  split
  ·exact bw (AR ix k t) fun _ _=>bw (EH ix n _) fun _ _=>by simp
  ·simp
theorem DA (ix:∀ t,ex t≠ .out){w:Bs}{t:List Tk}:Dh ex w t≠ .out:=by
 unfold Dh;split
 ·exact ix _
 ·simp
theorem TM (ix:∀ t,ex t≠ .out)(t:List Tk):w8 en ex t≠ .out:=by
 refine bw ef fun _ t0=>bw ?_ fun items t=> ?_
 ·split
  ·simp
  ·exact nN (fun t=>W2 ix t)
 ·refine bw ef fun _ _=>bw (AR ix 1 _) fun _ _=>bw (EH ix 3 _) fun _ _=>bw (DA ix) fun _ _=>bw ?_ fun _ _=>bw (DA ix) fun _ _=>by simp
  unfold aab;split
  ·exact bw ef fun _ _=>nN ix
  ·simp
theorem GA (ix:∀ t,ex t≠ .out):∀ (ly:Nat) (k:Int) (t:List Tk),vX en ex ly k t≠ .out
 | 0,k,t=>by unfold vX;split<;>simp
 | n+1,k,t=>by
  rw [vX]
  split
  ·exact bw (TM ix t) fun _ _=>bw LY fun k' t'=>bw (GA ix n k' t') fun _ _=>by simp
  ·simp
theorem Fs (ix:∀ t,ex t≠ .out)(t:List Tk):om en ex t≠ .out:=by
 refine bw (TM ix t) fun _ _=>bw LY fun _ _=>bw (GA ix 3 _ _) fun _ _=>bw ?_ fun _ _=>by simp
 unfold Iq
 split
 ·refine bw ef fun _ _=>bw (nN ix) fun _ _=>bw ef fun _ _=>bw ?_ fun _ _=>by simp
  unfold aco
  refine bw Lq fun _ _=> ?_
  split<;>simp
 ·simp
theorem VA (ix:∀ t,ex t≠ .out)(t:List Tk):pz en ex t≠ .out:=by
 unfold pz
 split
 ·split
  ·exact bw jb fun _ _=>bw ef fun _ _=>bw (Fs ix _) fun _ _=>by simp
  ·exact bw ef fun _ _=>bw jb fun _ _=>bw ef fun _ _=>bw (nN fun _=>yA) fun _ _=>bw ef fun _ _=>by simp
 split
 ·exact bw ef fun _ _=>bw jb fun _ _=>bw ef fun _ _=>bw (nN fun _=>KN) fun _ _=>by simp
 split
 ·exact bw ef fun _ _=>bw jb fun _ _=>bw (DA ix) fun _ _=>by simp
 ·exact bw ef fun _ _=>bw (Fs ix _) fun _ _=>by simp
end
def ku (en:Int):Nat ->List Tk ->Rs (List Stm)
 | ly,t=>if t=[] then .ok [] [] else match ly with
  | 0=> .err 5 (pf en t)
  | r+1=>(pz en (exF en) t).bind fun s t=>(bZ en [K6] t).bind fun _ t=>(ku en r t).bind fun l t=> .ok (s::l) t
def S4 (en:Int)(ly:Nat)(t:List Tk):Rs (List Stm):=match ly with
 | 0=> .err 5 (pf en t)
 | r+1=>(pz en (exF en) t).bind fun s t=>(bZ en [K6] t).bind fun _ t=>(ku en r t).bind fun l t=> .ok (s::l) t
theorem Fh (en:Int)(ly:Nat)(t:List Tk)(h:t≠[]):ku en ly t=S4 en ly t:=by
 cases ly<;>(rw [ku,if_neg h];rfl)
theorem IW (en:Int)(ly:Nat):ku en ly []=.ok [] []:=by cases ly<;>rfl
def mr (s:Bs):List Stm×Int×Int:=match qR s with
 | .error x=>([],x.1,x.2)
 | .ok ts=>match ku s.length 60 ts with
  | .err e a=>([],e,a)
  | .out=>([],0,0)
  | .ok l _=>if (kJ l).1≠0 then ([],(kJ l).1,0) else (l,0,0)
theorem Gr {T dr ts post}:(Ni T dr ts post).ret=Sp T ts post:=(rfl)
theorem qj {T dr ts post}:(Ni T dr ts post).pan=Ke T post:=(rfl)
theorem Da {T dr ts post}:(Ni T dr ts post).dr=dr:=(rfl)
theorem ym {T post}(ops:List Oper)(h:(ops.all fun o=>match o.dst with | some d=>d !=2 && d !=3 | none=>true)=true):wq (Ke T post) ops:=by
 intro o ho d hd ch e v ds h' hp
 have:=List.all_eq_true.1 h o ho
 rw [hd] at this
 simp at this
 obtain ⟨b2,b3,ag,er,a,h1,h2,h3,h4,h5,h6⟩:=hp
 unfold upd at h3 h4
 rw [if_neg (fun h=>this.1 h.symm)] at h3
 rw [if_neg (fun h=>this.2 h.symm)] at h4
 exact ⟨b2,b3,ag,er,a,h1,h2,h3,h4,h5,h6⟩
theorem B5 {M:aS}{x:Stm}{cs:List Value}(h:my M x cs):∀ u∈cs,u.oneCell'=true:=by
 obtain ⟨c,q,r,w,h1,⟨p,o,g,q1,q2,q3,rfl⟩,h3,h4,rfl⟩:=h
 intro u hu
 simp only [nn,List.mem_cons] at hu
 rcases hu with rfl | rfl | rfl | rfl | rfl | rfl | rfl | rfl | rfl | hu
 ·rfl
 ·rfl
 ·exact (dA h1).1
 ·exact (dA q1).1
 ·exact (dA q2).1
 ·exact (dA q3).1
 ·rfl
 ·exact (dA h3).1
 ·rfl
 ·exact lJ h4 u hu
def xK (s:Bs):eu:=fun r M' _ _=>∃ sv,r=.tuple ⟨[sv,X3 (mr s).2.1 (mr s).2.2]⟩/\RS M' (my M') 16 (mr s).1 sv
theorem tN {T N:Tm}{M:aS}{s:Bs}{A B:LL}{R:RR}{b2 b3:Nat}{v1 v2 v3:Value}{er a:Int}{ag:Array Value}{e:dp}(hr:mr s=([],er,a))(hT:aF T N)(CN:ag.toList=[])(e2:e 2=.pointer (some ⟨b2,0,none⟩))(e3:e 3=.pointer (some ⟨b3,0,none⟩)):
 Ke T (xK s) (rN er a) e [rdD b2 b3 ag] ⟨N,M,A++(b3,[v2,v3])::(b2,[v1])::B,R⟩:=by
 refine ⟨b2,b3,ag,er,a,rfl,CN,e2,e3,rfl,gH A (bW (cY (L':=B++[(b2,[v1]),(b3,[v2,v3])]) ?_ (gH B (aB ⟨hT,rfl,⟨_,_,_,rfl⟩,?_⟩))))⟩
 ·refine List.Perm.trans (List.Perm.swap _ _ _) ?_
  exact List.perm_append_comm (l₁:=[(b2,[v1]),(b3,[v2,v3])])
 ·refine ⟨.slice none 0 0,?_,?_⟩
  ·rw [hr]
  ·rw [hr];exact bu
theorem pG {s:Bs}{M:aS}{L:LL}{R:RR}{l:List Stm}{er a:Int}{sv:Value}(hr:mr s=(l,er,a))(cG:RS M (my M) 16 l sv):xK s (.tuple ⟨[sv,.agg ⟨[.int .i64 er,.int .i64 a]⟩]⟩) M L R:=⟨sv,by rw [hr];rfl,by rw [hr];exact cG⟩
theorem KJ {M:aS}(s:Bs)(hg:eQ M):Ct Tryz.prog 12 [st s] M [] [] (xK s) aM:=by
 intro T
 refine XY F12.bd Tryz.func12 rfl (by rw [F12.nt];exact Nat.le_of_ble_eq_true rfl) (dr:=[(6,.take 1<| .take 0<| .eff 2 false (.eff 3 false (.eff 4 true (.eff 5 true (.done)<| .no)<| .no)<| .no)<| .no),(10,.take 0<| .take 1<| .take 2<| .eff 3 false (.eff 4 true (.done)<| .no)<| .no),(11,.take 0<| .take 1<| .eff 2 false (.eff 3 true (.done)<| .no)<| .no)]) (by kernel_rfl) F12.rs ?_
 rw [F12.rs]
 simp +contextual only [go_sem,sevalprocAttr]
 intro b2 T2 dN dy ei b3 T3 ii df fV gD
 have hT:=dy.trans fV
 have tX:qR s=qR s:=rfl
 refine bT (Ox s T3) ?_ ?_
 rotate_left
 ·rintro ch M1 aV bG ⟨er,a,lD,rfl⟩
  rw [qj]
  refine tN (A:=[]) (B:=[]) (by unfold mr;rw [lD]) hT rfl ?_ ?_
  ·simp only [go_sem,sevalprocAttr]
  ·simp only [go_sem,sevalprocAttr]
 rintro lv M1 aV bG ⟨ts,ZQ,hl⟩
 simp only [aJ,and_true] at bG
 have vU:mr s=match ku s.length 60 ts with
  | .err e a=>([],e,a)
  | .out=>([],0,0)
  | .ok l _=>if (kJ l).1≠0 then ([],(kJ l).1,0) else (l,0,0):=by unfold mr;rw [ZQ]<;>rfl
 obtain ⟨lo1,lo2⟩:=dA hl
 have lo2m:=lo2
 simp only [Value.cells] at lo2m
 simp +contextual only [go_sem,aD,sevalprocAttr,lo2m]
 intro pb T4 YA tG fG aoe
 generalize hen:(s.length:Int)=en at vU ⊢
 have lC:=hg.ext aV
 refine ⟨fun m e ds h=>(∃ ag,ds=[rdD b2 b3 ag]/\ag.toList=[])/\e 2=.pointer (some ⟨b2,0,none⟩)/\e 3=.pointer (some ⟨b3,0,none⟩)/\e 4=.pointer (some ⟨pb,0,none⟩)/\
  ∃ M' t lv' acc a c xs,m+acc.length=60/\bm M1 M'/\M' b3=none/\M' b2=none/\M' pb=none/\RS M' gC 3 t lv'/\RL (my M') acc xs/\(acc=[] ->a=none/\c=0)/\
   ku en 60 ts=(ku en m t).bind (fun l t=> .ok (acc++l) t)/\
   h=⟨T4,M',(b3,[.int .i64 0,.int .i64 0])::(b2,[.slice a acc.length c])::pL pb lv' en 0,[(.slice a acc.length c,61,16,xs)]⟩,
  cY (List.perm_append_comm (l₁:=[(pb,[lv,.int .i64 en,.int .i64 0])]) (l₂:=[(b3,_),(b2,_)])) (eF (aB ⟨60,⟨_,rfl,rfl⟩,?_,?_,?_,M1,ts,lv,[],none,0,[],rfl,bm.rfl',bG.1,bG.2,YA,hl,rfl,fun _=>⟨rfl,rfl⟩,?_,rfl⟩)),?_⟩
 ·simp only [go_sem,sevalprocAttr]
 ·simp only [go_sem,sevalprocAttr]
 ·simp only [go_sem,sevalprocAttr]
 ·cases ku en 60 ts<;>rfl
 clear bG hl lo1 lo2 ZQ tX YA
 rintro m e ds h ⟨⟨ag,rfl,CN⟩,e2,e3,e4,M2,t,lv1,acc,a,c,xs,hm,bh,n3,n2,np,hl,fM,ug,am,rfl⟩
 have UO:=hT.trans fG
 have aeS:=eL (fun _ _=>fP) fM
 rcases jx hl with ⟨rfl,ta,tc,rfl⟩ | ⟨tk,tr,tb,tof,tc,rfl,rfl,htc,h0,h1,h2⟩
 ·rw [IW] at am
  simp only [Rs.bind,List.append_nil] at am
  rw [am] at vU
  simp only at vU
  simp +contextual only [go_sem,aD,sevalprocAttr,e2,e4,n2,np,df,tG]
  refine cL (k:=fun h'=>∃ M',bm M2 M'/\aJ M' ((b3,[.int .i64 0,.int .i64 0])::(b2,[.slice a acc.length c])::pL pb (.slice ta 0 tc) en 0)/\Sl M' (.slice a acc.length c) 16 xs/\h'=⟨T4,M',(b3,[.int .i64 0,.int .i64 0])::(b2,[.slice a acc.length c])::pL pb (.slice ta 0 tc) en 0,[]⟩)
   (cK fun M3 bE bB iG=>aB ⟨M3,bE,bB,iG,rfl⟩) ?_ F28.bd
  rintro h' ⟨M3,bE,bB,iG,rfl⟩
  have cG:RS M3 (my M3) 16 acc (.slice a acc.length c):=⟨by omega,xs,iG,dl (fun x cs h=>eT bE _ _ h) fM⟩
  refine aI (En (lC.ext (bh.trans bE)) cG T4) ?_
  rintro v M4 dD de rfl
  simp only [aJ,aK] at de
  simp +contextual only [go_sem,sevalprocAttr,X3]
  intro b5 T5 j6 ea lG oQ
  rw [dG]
  by_cases hw:(kJ acc).1=0
  ·rw [if_neg (fun h=>h hw)] at vU
   simp +contextual only [go_sem,sevalprocAttr,Da,qj,hw]
   refine ⟨ym _ rfl,aX ?_⟩
   simp +contextual only [go_sem,sevalprocAttr,Gr,e2,e3,hw,de,ea,df]
   refine ⟨fO.refl _,b2,b3,ag,rfl,CN,?_⟩
   simp +contextual only [go_sem,sevalprocAttr,e2,e3,de,ea,df]
   exact ak (UO.trans lG) (pG vU (aH dD (eT dD) cG))
  ·rw [if_pos hw] at vU
   simp +contextual only [go_sem,sevalprocAttr,Da,qj,hw]
   refine ⟨ym _ rfl,eG ⟨T,fun _=>none,[(b5,_)],[]⟩ (gx j6) ?_⟩
   simp +contextual only [go_sem,sevalprocAttr,Gr,e2,e3,hw,ea,df]
   refine ⟨gx j6,b2,b3,ag,rfl,CN,?_⟩
   simp +contextual only [go_sem,sevalprocAttr,e2,e3,de,ea,df]
   exact ak (UO.trans lG) (pG vU bu)
 ·rw [Fh en m (tk::tr) (by simp)] at am
  have IL:∀ {er ar:Int},ku en 60 ts=.err er ar ->mr s=([],er,ar):=fun h=>by rw [vU,h]
  cases m with
  | zero=>
   have ab6:(acc.length:Int)=60:=by omega
   have lD:ku en 60 ts=.err 5 (pf en (tk::tr)):=am
   simp +contextual only [go_sem,aD,sevalprocAttr,e2,e4,n2,np,df,tG,ab6]
   refine mp [(b3,_),(b2,_)] hl ?_
   simp +contextual only [go_sem,sevalprocAttr]
   refine bT (gI 5 _ M2 T4) (fun _ _ _ _ h=>h.elim) ?_
   rintro ch M3 bE bB rfl
   rw [qj]
   refine tN (A:=[]) (IL lD) UO CN ?_ ?_
   ·simp only [e2,go_sem,sevalprocAttr]
   ·simp only [e3,go_sem,sevalprocAttr]
  | succ m=>
   have ab6:¬ (acc.length:Int)=60:=by omega
   simp only [S4,Rs.bind_assoc] at am
   simp +contextual only [go_sem,aD,sevalprocAttr,Da,qj,e2,e4,n2,np,df,tG,ab6]
   refine ⟨ym _ rfl,eG ⟨T,fun _=>none,[(b2,[.slice a acc.length c])],[]⟩ ?_ ?_⟩
   ·exact jX [(b3,_)] n2 ⟨⟨df.2,df.1⟩,trivial⟩
   simp +contextual only [go_sem,sevalprocAttr,e2,e4]
   have xb:=lC.ext bh
   have cu:=VA (en:=en) (ex:=exF en) (fun t=>Z8 t) (tk::tr)
   have ix:Zs en pb (exF en) 0:=Kk (OI 1000) (by decide) (by decide)
   refine sO [(b3,_),(b2,_)] (Wq xb hl ix cu T4) ?_ ?_
   rotate_left
   ·rintro er ar M3 lv' op' bE qL
    refine tN (A:=[]) (IL (by rw [am,qL];rfl)) UO CN ?_ ?_
    ·simp only [e2,go_sem,sevalprocAttr]
    ·simp only [e3,go_sem,sevalprocAttr]
   rintro v M3 x t2 lv2 bE bB qL fp ⟨cs,rfl,hx⟩
   rw [qL] at am
   simp only [Rs.bind] at am
   have cM:=fP hx
   simp only [nn,aJ,aK] at bB
   simp +contextual only [go_sem,sevalprocAttr,cM]
   refine ⟨jX [(b3,_)] bB.2.1 ⟨⟨df.2,df.1⟩,trivial⟩,?_⟩
   intro b8 px eB
   refine ⟨jX [(b8,_),(b3,_)] bB.2.1 ⟨⟨eB.2.1.2,eB.2.1.1⟩,⟨df.2,df.1⟩,trivial⟩,?_⟩
   refine gL KA K9 (.slice _ 1 _ _ _ Tryz.underlying43 (cD [] px trivial (by rw [cM])) (B5 hx)) (by rw [cM,aeS];omega) ?_
   intro ra rm rc jc
   have jA:rm=(acc++[x]).length:=by
    rw [cM,aeS] at jc
    rw [List.length_append]
    simp only [ln]
    omega
   subst jA
   have ek:=cP (dl (fun x cs h=>eT bE _ _ h) fM) (dj hx)
   simp +contextual only [go_sem,sevalprocAttr,e2,e4,df,eB]
   intro b9 qy gP
   refine cZ F27.bd fun M4 dD ai3 de=> ?_
   have kf:=aH dD (fun _ _ h=>h) fp
   have hsm:RS M4 rj 1 [K6] (.slice (some ⟨b9,0,none⟩) 1 1):=dB (fun _ _=>ff) ai3 (kQ [K6]) rfl (by decide)
   refine sO [(b8,_),(b3,_),(b2,_)] (vi kf hsm T4) ?_ ?_
   rotate_left
   ·rintro er ar M5 lv' op' dJ jj
    refine tN (A:=[(b8,_)]) (IL (by rw [am,jj];try rfl)) (UO) CN ?_ ?_
    ·simp only [e2,go_sem,sevalprocAttr]
    ·simp only [e3,go_sem,sevalprocAttr]
   rintro v M5 u5 t5 lv5 dJ bR jj gZ rfl
   rw [jj] at am
   simp only at am
   simp only [nn,aJ,aK] at bR
   simp +contextual only [go_sem,sevalprocAttr]
   rw [eJ]
   refine al (aB ⟨m,by omega,⟨ag,rfl,CN⟩,?_,?_,?_,M5,t5,lv5,acc++[x],ra,rc,xs++cs,?_,((bh.trans bE).trans dD).trans dJ,bR.2.1,bR.2.2.1,bR.2.2.2,gZ,?_,?_,?_,rfl⟩)
   ·simp only [e2,go_sem,sevalprocAttr]
   ·simp only [e3,go_sem,sevalprocAttr]
   ·simp only [e4,go_sem,sevalprocAttr]
   ·rw [List.length_append];simp only [ln];omega
   ·exact dl (fun x cs h=>eT (dD.trans dJ) _ _ h) ek
   ·intro h;simp at h
   ·rw [am]
    cases ku en m t5<;>simp [Rs.bind]
open Go.ChangeMaps
open Go.ChangeShapes Go.WideShapes Go.ChangeAt Go.RowKit
set_option maxRecDepth 100000
theorem IR:Tryz.prog.globalNamed "strings.asciiSpace"=some 1:=by kernel_rfl
theorem Jb:(Tryz.prog.globals[1]?).map (·.type)=some 326:=by kernel_rfl
theorem afM {W:World}{l:List (String×DataW Unit)}(hl:(l.filter fun x=>x.1== "strings.asciiSpace")=[("strings.asciiSpace",Lib.tabData .u8 Lib.asciiSpaceTab)])(h:laidMetH Tryz.prog l W):Lib.TabIs Tryz.prog W "strings.asciiSpace" .u8 Lib.asciiSpaceTab:=by
 have h1:=laidMetH.filter (fun x=>x.1== "strings.asciiSpace") h
 rw [hl] at h1
 have h1:laidMet Tryz.prog [("strings.asciiSpace",Lib.tabData .u8 Lib.asciiSpaceTab)] W:=h1
 exact Lib.tabIs_of_head (rest:=[]) IR Jb Tryz.underlying326 (by kernel_rfl) (by kernel_rfl) (by kernel_rfl) h1
theorem NN {W:World}{name:String}{k:IntKind}{zs:List Int}{g:Nat}(hg:Tryz.prog.globalNamed name=some g)(h:Lib.TabIs Tryz.prog W name k zs):mi W g=some (zs.map fun z=>Value.int k z):=by
 unfold Lib.TabIs World.var? at h
 rw [hg] at h
 simp only [Option.bind_some] at h
 split at h
 ·rename_i cs t f hc
  injection h with h
  rw [zm hc,h]
 ·cases h
theorem Wn {W:World}{l:List (String×DataW Unit)}(h1:(l.filter fun x=>x.1== "strings.asciiSpace")=[("strings.asciiSpace",Lib.tabData .u8 Lib.asciiSpaceTab)])(hL:laidMetH Tryz.prog l W):eQ (mi W):=by
 intro g hg
 obtain rfl:=Option.some.inj (IR.symm.trans hg)
 exact NN IR (afM h1 hL)
set_option maxRecDepth 10000
theorem Il:Fz Tryz.prog 28=some [1,1,2]:=by kernel_rfl
theorem Z0 (k n:Int)(t:ByteArray):iD Tryz.prog .eql 28 (.agg ⟨[.int .i64 k,.int .i64 n,.string t]⟩) (.agg ⟨[.int .i64 k,.int .i64 n,.string t]⟩)=some (.bool true):=by
 show (match Fz Tryz.prog 28 with | some ks=>(HW ks _ _).map Value.bool | none=>none)=_
 rw [Il];simp [HW,YG]
theorem aau (k n:Int)(t:ByteArray):iD Tryz.prog .neq 28 (.agg ⟨[.int .i64 k,.int .i64 n,.string t]⟩) (.agg ⟨[.int .i64 k,.int .i64 n,.string t]⟩)=some (.bool false):=by
 show (match Fz Tryz.prog 28 with | some ks=>(HW ks _ _).map fun r=>Value.bool (!r) | none=>none)=_
 rw [Il];simp [HW,YG]
theorem Ig {M:aS}{b o:Nat}{v0 v1 v2 v3 v4 v5 v6 v7 v8 v9 v10 v11 v12 v13 v14 v15 v16 v17 v18 v19 v20:Value}(h:At M b o [v0,v1,v2,v3,v4,v5,v6,v7,v8,v9,v10,v11,v12,v13,v14,v15,v16,v17,v18,v19,v20]):aN M ⟨b,o,none⟩=some v0/\aN M ⟨b,o+1,none⟩=some v1/\aN M ⟨b,o+2,none⟩=some v2/\aN M ⟨b,o+3,none⟩=some v3/\aN M ⟨b,o+4,none⟩=some v4/\aN M ⟨b,o+5,none⟩=some v5/\aN M ⟨b,o+6,none⟩=some v6/\aN M ⟨b,o+7,none⟩=some v7/\aN M ⟨b,o+8,none⟩=some v8/\aN M ⟨b,o+9,none⟩=some v9/\aN M ⟨b,o+10,none⟩=some v10/\aN M ⟨b,o+11,none⟩=some v11/\aN M ⟨b,o+12,none⟩=some v12/\aN M ⟨b,o+13,none⟩=some v13/\aN M ⟨b,o+14,none⟩=some v14/\aN M ⟨b,o+15,none⟩=some v15/\aN M ⟨b,o+16,none⟩=some v16/\aN M ⟨b,o+17,none⟩=some v17/\aN M ⟨b,o+18,none⟩=some v18/\aN M ⟨b,o+19,none⟩=some v19/\aN M ⟨b,o+20,none⟩=some v20:=
 ⟨h.1,h.2.1,h.2.2.1,h.2.2.2.1,h.2.2.2.2.1,h.2.2.2.2.2.1,h.2.2.2.2.2.2.1,h.2.2.2.2.2.2.2.1,h.2.2.2.2.2.2.2.2.1,h.2.2.2.2.2.2.2.2.2.1,h.2.2.2.2.2.2.2.2.2.2.1,h.2.2.2.2.2.2.2.2.2.2.2.1,h.2.2.2.2.2.2.2.2.2.2.2.2.1,h.2.2.2.2.2.2.2.2.2.2.2.2.2.1,h.2.2.2.2.2.2.2.2.2.2.2.2.2.2.1,h.2.2.2.2.2.2.2.2.2.2.2.2.2.2.2.1,h.2.2.2.2.2.2.2.2.2.2.2.2.2.2.2.2.1,h.2.2.2.2.2.2.2.2.2.2.2.2.2.2.2.2.2.1,h.2.2.2.2.2.2.2.2.2.2.2.2.2.2.2.2.2.2.1,h.2.2.2.2.2.2.2.2.2.2.2.2.2.2.2.2.2.2.2.1,h.2.2.2.2.2.2.2.2.2.2.2.2.2.2.2.2.2.2.2.2.1⟩
theorem aif {M:aS}{b o:Nat}{v0 v1 v2 v3 v4 v5 v6 v7 v8 v9:Value}(h:At M b o [v0,v1,v2,v3,v4,v5,v6,v7,v8,v9]):aN M ⟨b,o,none⟩=some v0/\aN M ⟨b,o+1,none⟩=some v1/\aN M ⟨b,o+2,none⟩=some v2/\aN M ⟨b,o+3,none⟩=some v3/\aN M ⟨b,o+4,none⟩=some v4/\aN M ⟨b,o+5,none⟩=some v5/\aN M ⟨b,o+6,none⟩=some v6/\aN M ⟨b,o+7,none⟩=some v7/\aN M ⟨b,o+8,none⟩=some v8/\aN M ⟨b,o+9,none⟩=some v9:=
 ⟨h.1,h.2.1,h.2.2.1,h.2.2.2.1,h.2.2.2.2.1,h.2.2.2.2.2.1,h.2.2.2.2.2.2.1,h.2.2.2.2.2.2.2.1,h.2.2.2.2.2.2.2.2.1,h.2.2.2.2.2.2.2.2.2.1⟩
theorem At8 {M:aS}{b o:Nat}{v0 v1 v2 v3 v4 v5 v6 v7:Value}(h:At M b o [v0,v1,v2,v3,v4,v5,v6,v7]):aN M ⟨b,o,none⟩=some v0/\aN M ⟨b,o+1,none⟩=some v1/\aN M ⟨b,o+2,none⟩=some v2/\aN M ⟨b,o+3,none⟩=some v3/\aN M ⟨b,o+4,none⟩=some v4/\aN M ⟨b,o+5,none⟩=some v5/\aN M ⟨b,o+6,none⟩=some v6/\aN M ⟨b,o+7,none⟩=some v7:=
 ⟨h.1,h.2.1,h.2.2.1,h.2.2.2.1,h.2.2.2.2.1,h.2.2.2.2.2.1,h.2.2.2.2.2.2.1,h.2.2.2.2.2.2.2.1⟩
theorem Q1 {M:aS}{s:Se}{cs:List Value}(h:Hw M s cs):∃ ai aj af ag aw ah ap aq,cs=[.bool s.distinct,.bool s.star,.slice ai s.items.length aj,.slice af s.src.length ag,.bool s.hasW,.bool s.hasH,.int .i64 s.wh.k,.int .i64 s.wh.v.k,.int .i64 s.wh.v.n,st s.wh.v.t,st s.wh.tab,st s.wh.name,aw,.int .i64 s.hv.k,.int .i64 s.hv.v.k,.int .i64 s.hv.v.n,st s.hv.v.t,st s.hv.tab,st s.hv.name,ah,.slice ap s.group.length aq]/\RS M (Am M) 8 s.items (.slice ai s.items.length aj)/\RS M (Gx M) 10 s.src (.slice af s.src.length ag)/\
 RX M s.wh [.int .i64 s.wh.k,.int .i64 s.wh.v.k,.int .i64 s.wh.v.n,st s.wh.v.t,st s.wh.tab,st s.wh.name,aw]/\RX M s.hv [.int .i64 s.hv.k,.int .i64 s.hv.v.k,.int .i64 s.hv.v.n,st s.hv.v.t,st s.hv.tab,st s.hv.name,ah]/\RS M (RX M) 7 s.group (.slice ap s.group.length aq)/\aw.oneCell'=true/\ah.oneCell'=true:=by
 obtain ⟨i,f,w,hh,g,h1,h2,h3,h4,h5,rfl⟩:=h
 obtain ⟨_,ai,aj,rfl,_⟩:=ax (by decide) (fun _ _=>kO) h1
 obtain ⟨_,af,ag,rfl,_⟩:=ax (by decide) (fun _ _=>oY) h2
 obtain ⟨_,ap,aq,rfl,_⟩:=ax (by decide) (fun _ _=>dT) h5
 obtain ⟨aw,rfl,k1,_⟩:=bX h3
 obtain ⟨ah,rfl,k2,_⟩:=bX h4
 exact ⟨ai,aj,af,ag,aw,ah,ap,aq,rfl,h1,h2,h3,h4,h5,k1,k2⟩
theorem MU {M:aS}{s:So}{cs:List Value}(h:Gx M s cs):∃ aw,cs=[.int .i64 s.k,st s.name,st s.as,.int .i64 s.on.k,.int .i64 s.on.v.k,.int .i64 s.on.v.n,st s.on.v.t,st s.on.tab,st s.on.name,aw]/\RX M s.on [.int .i64 s.on.k,.int .i64 s.on.v.k,.int .i64 s.on.v.n,st s.on.v.t,st s.on.tab,st s.on.name,aw]/\aw.oneCell'=true:=by
 obtain ⟨c,h1,rfl⟩:=h
 obtain ⟨aw,rfl,k1,_⟩:=bX h1
 exact ⟨aw,rfl,h1,k1⟩
theorem nw {M:aS}{s:It}{cs:List Value}(h:Am M s cs):∃ aw,cs=[.int .i64 s.x.k,.int .i64 s.x.v.k,.int .i64 s.x.v.n,st s.x.v.t,st s.x.tab,st s.x.name,aw,st s.as]/\RX M s.x [.int .i64 s.x.k,.int .i64 s.x.v.k,.int .i64 s.x.v.n,st s.x.v.t,st s.x.tab,st s.x.name,aw]/\aw.oneCell'=true:=by
 obtain ⟨c,h1,rfl⟩:=h
 obtain ⟨aw,rfl,k1,_⟩:=bX h1
 exact ⟨aw,rfl,h1,k1⟩
theorem At2 {M:aS}{b o:Nat}{v0 v1:Value}(h:At M b o [v0,v1]):aN M ⟨b,o,none⟩=some v0/\aN M ⟨b,o+1,none⟩=some v1:=
 ⟨h.1,h.2.1⟩
theorem xG {M:aS}{b o:Nat}{v0:Value}(h:At M b o [v0]):aN M ⟨b,o,none⟩=some v0:=h.1
theorem fQ {c:Co}{cs}(h:ua c cs):cs.length=2:=by unfold ua at h;subst h;rfl
theorem mF {M:aS}{l:List V}{cs}(h:Hv M l cs):cs.length=1:=by obtain ⟨s,_,rfl⟩:=h;rfl
theorem nQ {M:aS}{s:Stm}{cs:List Value}(h:my M s cs):∃ ac ad ap aq ao an ar ae au av aw,cs=[.int .i64 s.k,st s.name,.slice ac s.cols.length ad,.slice ap s.q.parts.length aq,.slice ao s.q.ops.length an,.slice ar s.q.order.length ae,.int .i64 s.q.limit,.slice au s.rows.length av,.bool s.hasW,.int .i64 s.wh.k,.int .i64 s.wh.v.k,.int .i64 s.wh.v.n,st s.wh.v.t,st s.wh.tab,st s.wh.name,aw]/\RS M ua 2 s.cols (.slice ac s.cols.length ad)/\RQ M s.q [.slice ap s.q.parts.length aq,.slice ao s.q.ops.length an,.slice ar s.q.order.length ae,.int .i64 s.q.limit]/\
 RS M (Hv M) 1 s.rows (.slice au s.rows.length av)/\RX M s.wh [.int .i64 s.wh.k,.int .i64 s.wh.v.k,.int .i64 s.wh.v.n,st s.wh.v.t,st s.wh.tab,st s.wh.name,aw]/\aw.oneCell'=true:=by
 obtain ⟨c,qq,r,w,h1,h2,h3,h4,rfl⟩:=h
 obtain ⟨_,ac,ad,rfl,_⟩:=ax (by decide) (fun _ _=>fQ) h1
 obtain ⟨_,au,av,rfl,_⟩:=ax (by decide) (fun _ _=>mF) h3
 obtain ⟨aw,rfl,k1,_⟩:=bX h4
 obtain ⟨p,o,rr,g1,g2,g3,rfl⟩:=h2
 obtain ⟨_,ap,aq,rfl,_⟩:=ax (by decide) (fun _ _=>lK) g1
 obtain ⟨_,ao,an,rfl,_⟩:=ax (by decide) (fun _ _=>ct) g2
 obtain ⟨_,ar,ae,rfl,_⟩:=ax (by decide) (fun _ _=>dT) g3
 exact ⟨ac,ad,ap,aq,ao,an,ar,ae,au,av,aw,rfl,h1,⟨_,_,_,g1,g2,g3,rfl⟩,h3,h4,k1⟩
theorem Fa {N:Tm}{M:aS}{L:LL}{R:RR}{b:Nat}:∀ (xs:List Value) (o i:Nat),At M b (o+i) xs ->Sh.cells ⟨N,M,L,R⟩ ⟨b,o,none⟩ i xs.length=some xs
 | [],o,i,h=>rfl
 | x::xs,o,i,h=>by
  rw [List.length_cons,sM,Fa xs o (i+1) h.2]
  have:Sh.cell ⟨N,M,L,R⟩ ⟨b,o+i,none⟩=some x:=by simp only [Sh.cell,h.1]
  rw [this];rfl
theorem J0 {α:Type}{r:α ->List Value ->Prop}(hr:∀ x cs,r x cs ->∀ u∈cs,u.oneCell'=true):∀ {l xs},RL r l xs ->∀ u∈xs,u.oneCell'=true
 | [],xs,h,u,hu=>by have:xs=[]:=h;subst this;cases hu
 | x::l,xs,h,u,hu=>by
  obtain ⟨cs,rest,rfl,h1,h2⟩:=h
  rcases wZ hu with hu | hu
  ·exact hr x cs h1 u hu
  ·exact J0 hr h2 u hu
theorem jn {P:Program}{tx e':TypeId}{α:Type}{r:α ->List Value ->Prop}{sz:Nat}{M:aS}{l:List α}{v:Value}(hu:P.underlying tx=some (.slice e'))(dS:∀ x cs,r x cs ->cs.length=sz)(hr:∀ x cs,r x cs ->∀ u∈cs,u.oneCell'=true)(hs:RS M r sz l v):
 ∃ xs,xs.length=l.length*sz/\RL r l xs/\∀ N L R,Srcs P tx sz ⟨N,M,L,R⟩ v xs:=by
 obtain ⟨_,xs,h,hl⟩:=hs
 refine ⟨xs,eL dS hl,hl,fun N L R=> ?_⟩
 rcases h with ⟨a,c,rfl,rfl,zw⟩ | ⟨b,o,n,c,rfl,di,hn,ha⟩
 ·cases a with
  | none=>rw [zw rfl];exact .nil 0 e' hu
  | some a=>exact .slice a 0 c [] e' hu (by rw [Nat.zero_mul];rfl) (fun u hu=>by cases hu)
 ·refine .slice _ n c xs e' hu ?_ (J0 hr hl)
  rw [<- hn]
  exact Fa xs o 0 ha
theorem cP {α:Type}{r:α ->List Value ->Prop}:∀ {l m:List α} {xs ys:List Value},RL r l xs ->RL r m ys ->RL r (l++m) (xs++ys)
 | [],m,xs,ys,h,h'=>by have:xs=[]:=h;subst this;exact h'
 | x::l,m,xs,ys,h,h'=>by
  obtain ⟨cs,rest,rfl,h1,h2⟩:=h
  exact ⟨cs,rest++ys,by rw [List.append_assoc],h1,cP h2 h'⟩
def kT {α:Type}(el:TypeId)(sz:Nat)(r:α ->List Value ->Prop)(R0 R:RR)(fv:Value)(acc:List α):Prop:=
 (acc=[]/\fv=.slice none 0 0/\R=R0)\/∃ a c xs,fv=.slice a acc.length c/\RL r acc xs/\R=(fv,el,sz,xs)::R0
section
variable {α:Type} {el:TypeId} {sz:Nat} {r:α ->List Value ->Prop} {R0 R:RR} {fv:Value} {acc:List α}
theorem cV:kT el sz r R0 R0 (.slice none 0 0) []:=.inl ⟨rfl,rfl,rfl⟩
theorem eI (h:kT el sz r R0 R fv acc):∃ a c,fv=.slice a acc.length c:=by
 rcases h with ⟨rfl,rfl,_⟩ | ⟨a,c,xs,rfl,_⟩
 ·exact ⟨_,_,rfl⟩
 ·exact ⟨_,_,rfl⟩
theorem ey {r':α ->List Value ->Prop}(hr:∀ x cs,r x cs ->r' x cs)(h:kT el sz r R0 R fv acc):kT el sz r' R0 R fv acc:=by
 rcases h with ⟨h1,h2,h3⟩ | ⟨a,c,xs,h1,h2,h3⟩
 ·exact .inl ⟨h1,h2,h3⟩
 ·exact .inr ⟨a,c,xs,h1,dl hr h2,h3⟩
theorem cA {P:Program}{F:Fi}{s:List Vc.Item}{e:dp}{ds:List Deferred}{dd:Option Nat}{T:Tm}{M:aS}{L:LL}{t:TypeId}{z:List Value}{b:Nat}{x:α}{cs:List Value}(hu:P.underlying t=some (.slice el))(bP:dR P t=some (el,sz,z))(cB:j8 P t=true)
 (h:kT el sz r R0 R fv acc) (hx:r x cs) (bq:∀ x cs,r x cs ->cs.length=sz) (dt:∀ u∈cs,u.oneCell'=true) (hb:M b=none) (hl:acc.length*sz+sz<=4398046511104) (dO:0<sz)
 (k:∀ fv' R',kT el sz r R0 R' fv' (acc++[x]) ->cy P F s (cI e dd fv') ds ⟨T,M,(b,cs)::L,R'⟩ ⟨⟩):nG P F t t fv (.slice (some ⟨b,0,none⟩) 1 1) dd s e ds ⟨T,M,(b,cs)::L,R⟩ ⟨⟩:=by
 have cM:=bq x cs hx
 rcases h with ⟨rfl,rfl,rfl⟩ | ⟨a,c,xs,rfl,h3,rfl⟩
 ·refine mH bP cB (.slice _ 1 _ _ _ hu (cD [] hb trivial (by rw [cM,Nat.one_mul])) dt) (by rw [cM];simp at hl;omega) ?_
  intro ra rm rc jc
  have:rm=1:=by
   rw [cM] at jc
   exact Nat.eq_of_mul_eq_mul_right dO (by omega)
  subst this
  exact k _ _ (.inr ⟨_,_,_,rfl,dj hx,rfl⟩)
 ·have iH:=eL bq h3
  refine gL bP cB (.slice _ 1 _ _ _ hu (cD [] hb trivial (by rw [cM,Nat.one_mul])) dt) (by rw [cM,iH];omega) ?_
  intro ra rm rc jc
  have:rm=(acc++[x]).length:=by
   rw [cM,iH] at jc
   rw [List.length_append]
   refine Nat.eq_of_mul_eq_mul_right dO ?_
   rw [Nat.add_mul]
   simpa using jc
  subst this
  exact k _ _ (.inr ⟨_,_,_,rfl,cP h3 (dj hx),rfl⟩)
theorem cz {N:Tm}{M:aS}{L:LL}{k:Sh ->Prop}(h:kT el sz r R0 R fv acc)(hb:acc.length*sz<=4398046511104)(dO:0<sz)(bi:aJ M L)(hk:∀ M',bm M M' ->aJ M' L ->RS M' r sz acc fv ->cq ⟨N,M',L,R0⟩ k):cq ⟨N,M,L,R⟩ k:=by
 rcases h with ⟨rfl,rfl,rfl⟩ | ⟨a,c,xs,rfl,h3,rfl⟩
 ·exact hk M bm.rfl' bi bu
 ·exact cK (fun M' hM ui iG=>hk M' hM ui ⟨hb,xs,iG,h3⟩) dO
end
theorem pU {α:Type}{el:TypeId}{sz:Nat}{r:α ->List Value ->Prop}{R0 R:RR}{fv:Value}{acc l:List α}{P:Program}{F:Fi}{s:List Vc.Item}{e:dp}{ds:List Deferred}{dd:Option Nat}{T:Tm}{M:aS}{L:LL}{t:TypeId}{z ys:List Value}{y:Value}(bP:dR P t=some (el,sz,z))(cB:j8 P t=true)
 (h:kT el sz r R0 R fv acc) (AA:RL r l ys) (hs:∀ R,Srcs P t sz ⟨T,M,L,R⟩ y ys) (bq:∀ x cs,r x cs ->cs.length=sz) (hl:acc.length*sz+l.length*sz<=4398046511104) (dO:0<sz)
 (k:∀ fv' R',kT el sz r R0 R' fv' (acc++l) ->cy P F s (cI e dd fv') ds ⟨T,M,L,R'⟩ ⟨⟩):nG P F t t fv y dd s e ds ⟨T,M,L,R⟩ ⟨⟩:=by
 have J1:=eL bq AA
 rcases h with ⟨rfl,rfl,rfl⟩ | ⟨a,c,xs,rfl,h3,rfl⟩
 ·refine mH bP cB (hs _) (by rw [J1];simp at hl;omega) ?_
  intro ra rm rc jc
  have:rm=([]++l).length:=by
   rw [J1] at jc
   exact Nat.eq_of_mul_eq_mul_right dO (by simpa using jc)
  subst this
  exact k _ _ (.inr ⟨_,_,_,rfl,by simpa using AA,rfl⟩)
 ·have iH:=eL bq h3
  refine gL bP cB (hs _) (by rw [J1,iH];omega) ?_
  intro ra rm rc jc
  have:rm=(acc++l).length:=by
   rw [J1,iH] at jc
   rw [List.length_append]
   refine Nat.eq_of_mul_eq_mul_right dO ?_
   rw [Nat.add_mul]
   simpa using jc
  subst this
  exact k _ _ (.inr ⟨_,_,_,rfl,cP h3 AA,rfl⟩)
inductive Ex where
 | mk (k:Int) (v:V) (c:Int) (kids:List Ex)
namespace Ex
def k:Ex ->Int | mk k _ _ _=>k
def v:Ex ->V | mk _ v _ _=>v
def c:Ex ->Int | mk _ _ c _=>c
def kids:Ex ->List Ex | mk _ _ _ l=>l
end Ex
mutual
def ij (M:aS):Ex ->List Value ->Prop
 | .mk k v c kids,cs=>∃ s xs,cs=[.int .i64 k,.int .i64 v.k,.int .i64 v.n,st v.t,.int .i64 c,s]/\kids.length*6<=4398046511104/\Sl M s 6 xs/\DG M kids xs
def DG (M:aS):List Ex ->List Value ->Prop
 | [],xs=>xs=[]
 | x::l,xs=>∃ cs rest,xs=cs++rest/\ij M x cs/\DG M l rest
end
theorem LO {M:aS}:∀ {l xs},DG M l xs ↔ RL (ij M) l xs
 | [],_=>by simp [DG,RL]
 | x::l,xs=>by simp only [DG,RL,LO (l:=l)]
theorem iQ {M:aS}{x:Ex}{cs}:ij M x cs ↔ ∃ s,cs=[.int .i64 x.k,.int .i64 x.v.k,.int .i64 x.v.n,st x.v.t,.int .i64 x.c,s]/\RS M (ij M) 6 x.kids s:=by
 obtain ⟨k,v,c,kids⟩:=x
 simp only [ij,RS,Ex.k,Ex.v,Ex.c,Ex.kids,LO]
 constructor
 ·rintro ⟨s,xs,h1,h0,h2,h3⟩;exact ⟨s,h1,h0,xs,h2,h3⟩
 ·rintro ⟨s,h1,h0,xs,h2,h3⟩;exact ⟨s,xs,h1,h0,h2,h3⟩
theorem eb {M:aS}{x:Ex}{cs}(h:ij M x cs):cs.length=6:=by
 obtain ⟨s,rfl,_⟩:=iQ.1 h;rfl
mutual
theorem cJ {M M':aS}(he:bm M M'):∀ (x:Ex) (cs:List Value),ij M x cs ->ij M' x cs
 | .mk _ _ _ kids,_,h=>by
  obtain ⟨s,xs,h1,h0,h2,h3⟩:=h
  exact ⟨s,xs,h1,h0,h2.ext he,EL he kids xs h3⟩
theorem EL {M M':aS}(he:bm M M'):∀ (l:List Ex) (xs:List Value),DG M l xs ->DG M' l xs
 | [],_,h=>h
 | x::l,_,h=>by
  obtain ⟨cs,rest,h1,h2,h3⟩:=h
  exact ⟨cs,rest,h1,cJ he x cs h2,EL he l rest h3⟩
end
theorem dF {M:aS}{x:Ex}{cs:List Value}(h:ij M x cs):∃ s,cs=[.int .i64 x.k,.int .i64 x.v.k,.int .i64 x.v.n,st x.v.t,.int .i64 x.c,s]/\s.oneCell'=true/\RS M (ij M) 6 x.kids s:=by
 obtain ⟨s,rfl,hs⟩:=iQ.1 h
 exact ⟨s,rfl,(dA hs).1,hs⟩
theorem ns {M:aS}{x:Ex}{cs:List Value}(h:ij M x cs):∀ u∈cs,u.oneCell'=true:=by
 obtain ⟨s,rfl,h1,_⟩:=dF h
 intro u hu
 simp only [mn] at hu
 rcases hu with rfl | rfl | rfl | rfl | rfl | rfl<;>first | rfl | exact h1
structure Ag where
 k:Int
 x:Ex
def AG (M:aS)(a:Ag)(cs:List Value):Prop:=∃ c,ij M a.x c/\cs=.int .i64 a.k::c
theorem mE {M:aS}{a:Ag}{cs}(h:AG M a cs):cs.length=7:=by
 obtain ⟨c,h1,rfl⟩:=h;simp [eb h1]
theorem qM {M M':aS}(he:bm M M')(a:Ag)(cs)(h:AG M a cs):AG M' a cs:=by
 obtain ⟨c,h1,h2⟩:=h;exact ⟨c,cJ he _ _ h1,h2⟩
inductive Pl where
 | mk (k n:Int) (x:Ex) (xs:List Ex) (ags:List Ag) (kids:List Pl)
namespace Pl
def k:Pl ->Int | mk k _ _ _ _ _=>k
def n:Pl ->Int | mk _ n _ _ _ _=>n
def x:Pl ->Ex | mk _ _ x _ _ _=>x
def xs:Pl ->List Ex | mk _ _ _ l _ _=>l
def ags:Pl ->List Ag | mk _ _ _ _ l _=>l
def kids:Pl ->List Pl | mk _ _ _ _ _ l=>l
end Pl
mutual
def gR (M:aS):Pl ->List Value ->Prop
 | .mk k n x xs ags kids,cs=>∃ xc xv av s ys,cs=[.int .i64 k,.int .i64 n]++(xc++[xv,av,s])/\ij M x xc/\RS M (ij M) 6 xs xv/\RS M (AG M) 7 ags av/\kids.length*11<=4398046511104/\Sl M s 11 ys/\CC M kids ys
def CC (M:aS):List Pl ->List Value ->Prop
 | [],xs=>xs=[]
 | x::l,xs=>∃ cs rest,xs=cs++rest/\gR M x cs/\CC M l rest
end
theorem Dx {M:aS}:∀ {l xs},CC M l xs ↔ RL (gR M) l xs
 | [],_=>by simp [CC,RL]
 | x::l,xs=>by simp only [CC,RL,Dx (l:=l)]
theorem j0 {M:aS}{p:Pl}{cs}:gR M p cs ↔ ∃ xc xv av s,cs=[.int .i64 p.k,.int .i64 p.n]++(xc++[xv,av,s])/\ij M p.x xc/\RS M (ij M) 6 p.xs xv/\RS M (AG M) 7 p.ags av/\RS M (gR M) 11 p.kids s:=by
 obtain ⟨k,n,x,xs,ags,kids⟩:=p
 constructor
 ·intro h
  obtain ⟨xc,xv,av,s,ys,h1,h2,h3,h4,h5,h6,h7⟩:=h
  exact ⟨xc,xv,av,s,h1,h2,h3,h4,h5,ys,h6,Dx.1 h7⟩
 ·rintro ⟨xc,xv,av,s,h1,h2,h3,h4,h5,ys,h6,h7⟩
  exact ⟨xc,xv,av,s,ys,h1,h2,h3,h4,h5,h6,Dx.2 h7⟩
theorem jo {M:aS}{p:Pl}{cs}(h:gR M p cs):cs.length=11:=by
 obtain ⟨xc,xv,av,s,rfl,h1,_⟩:=j0.1 h;simp [eb h1]
mutual
theorem bA {M M':aS}(he:bm M M'):∀ (p:Pl) (cs:List Value),gR M p cs ->gR M' p cs
 | .mk _ _ _ _ _ kids,_,h=>by
  obtain ⟨xc,xv,av,s,ys,h1,h2,h3,h4,h5,h6,h7⟩:=h
  exact ⟨xc,xv,av,s,ys,h1,cJ he _ _ h2,aH he (cJ he) h3,aH he (qM he) h4,h5,h6.ext he,Gy he kids ys h7⟩
theorem Gy {M M':aS}(he:bm M M'):∀ (l:List Pl) (xs:List Value),CC M l xs ->CC M' l xs
 | [],_,h=>h
 | x::l,_,h=>by
  obtain ⟨cs,rest,h1,h2,h3⟩:=h
  exact ⟨cs,rest,h1,bA he x cs h2,Gy he l rest h3⟩
end
structure Rel where
 name:Bs
 cols:List Co
 view:Bool
 plan:Pl
def gU (M:aS)(r:Rel)(cs:List Value):Prop:=∃ c p,RS M ua 2 r.cols c/\gR M r.plan p/\cs=[st r.name,c,.bool r.view]++p
theorem gV {M:aS}{r:Rel}{cs}(h:gU M r cs):cs.length=14:=by
 obtain ⟨c,p,_,h2,rfl⟩:=h;simp [jo h2]
theorem dP {M M':aS}(he:bm M M')(r:Rel)(cs)(h:gU M r cs):gU M' r cs:=by
 obtain ⟨c,p,h1,h2,h3⟩:=h;exact ⟨c,p,aH he (fun _ _ h=>h) h1,bA he _ _ h2,h3⟩
def vT:V:=⟨0,0,[]⟩
def dX:Ex:=.mk 0 vT 0 []
def bJ (v:V):V:=if v.k=1 then ⟨1,0,[]⟩ else if v.k=4 then ⟨4,0,v.t⟩ else ⟨v.k,v.n,[]⟩
def P3 (a b:V):Bool:=decide (a.k=b.k) && (decide (a.n=b.n) && decide (a.t=b.t))
mutual
def oW:X ->X ->Bool
 | .mk k v tab name kids,.mk k' v' tab' name' kids'=>decide (k=k') && (if k=1 then P3 (bJ v) (bJ v') else if k=2 then decide (tab=tab') && decide (name=name') else oV kids kids')
def oV:List X ->List X ->Bool
 | [],[]=>true
 | x::l,y::m=>oW x y && oV l m
 | _,_=>false
end
def mR (tab name:Bs):Nat ->Option Nat ->List (Bs×Bs) ->Option (Option Nat)
 | _,k,[]=>some k
 | i,k,c::l=>if c.2=name/\(tab=[]\/c.1=tab) then (match k with | none=>mR tab name (i+1) (some i) l | some _=>none) else mR tab name (i+1) k l
def pE (l:List (Bs×Bs))(tab name:Bs):Except Int Nat:=match mR tab name 0 none l with
 | some (some i)=> .ok i
 | _=> .error 7
def Nr (i:Nat):Ex:=.mk 2 vT i []
mutual
def mL (names:List (Bs×Bs)):X ->Except Int Ex
 | .mk k v tab name kids=>if 19<=k then .error 8 else if k=2 then (match pE names tab name with | .ok i=> .ok (Nr i) | .error e=> .error e) else if k=1 then .ok (.mk 1 v 0 [])
  else match eK names kids with | .ok l=> .ok (.mk k vT 0 l) | .error e=> .error e
def eK (names:List (Bs×Bs)):List X ->Except Int (List Ex)
 | []=> .ok []
 | x::l=>match mL names x with
  | .error e=> .error e
  | .ok y=>match eK names l with | .ok m=> .ok (y::m) | .error e=> .error e
end
def HO (names:List (Bs×Bs))(kids:List X):Except Int Ex:=match kids with
 | []=> .ok dX
 | x::_=>mL names x
mutual
def rR (names:List (Bs×Bs))(aY:List X):X ->List Ag ->Except Int (Ex×List Ag)
 | .mk k v tab name kids,ags=>match aY.findIdx? (fun y=>oW (.mk k v tab name kids) y) with
  | some i=> .ok (Nr i,ags)
  | none=>if 19<=k then (match HO names kids with | .ok a=> .ok (Nr (aY.length+ags.length),ags++[⟨k - 18,a⟩]) | .error e=> .error e)
   else if k=2 then .error 8 else if k=1 then .ok (.mk 1 v 0 [],ags)
   else match fK names aY kids ags with | .ok l=> .ok (.mk k vT 0 l.1,l.2) | .error e=> .error e
def fK (names:List (Bs×Bs))(aY:List X):List X ->List Ag ->Except Int (List Ex×List Ag)
 | [],ags=> .ok ([],ags)
 | x::l,ags=>match rR names aY x ags with
  | .error e=> .error e
  | .ok y=>match fK names aY l y.2 with | .ok m=> .ok (y.1::m.1,m.2) | .error e=> .error e
end
mutual
def rA:X ->Bool
 | .mk k _ _ _ kids=>decide (19<=k) || Ws kids
def Ws:List X ->Bool
 | []=>false
 | x::l=>rA x || Ws l
end
def bN (rels:List Rel):List (List Int):=(rels.filter fun r=> !r.view).map fun r=>r.cols.map (·.ty)
def pW (k:Int)(p:Pl):Pl:=.mk k 0 dX [] [] [p]
def LM (k:Int)(p q:Pl):Pl:=.mk k 0 dX [] [] [p,q]
def yu (n:Nat):Pl:=.mk 1 n dX [] [] []
def uc (name:Bs):Nat ->List Rel ->Option (Pl×List Co)
 | _,[]=>none
 | n,r::l=>if r.name=name then some (if r.view=true then r.plan else yu n,r.cols) else uc name (if r.view=true then n else n+1) l
def rS (rels:List Rel)(name:Bs):Except Int (Pl×List Co):=match uc name 0 rels with | some x=> .ok x | none=> .error 7
def gB (s:So):Bs:=if s.as=[] then s.name else s.as
def nR (k:Int):Int:=if k=2 then 4 else if k=3 then 5 else if k=4 then 6 else if k=5 then 7 else 0
def rQ (rels:List Rel):List So ->Nat ->Pl ->List (Bs×Bs) ->List Bs ->Except Int (Pl×List (Bs×Bs))
 | [],_,p,names,_=> .ok (p,names)
 | s::l,i,p,names,td=>match rS rels s.name with
  | .error e=> .error e
  | .ok q=>if td.contains (gB s)=true then .error 7 else
   if i=0 then rQ rels l 1 q.1 (names++q.2.map fun c=>(gB s,c.name)) (td++[gB s])
   else match mL (names++q.2.map fun c=>(gB s,c.name)) s.on with
    | .error e=> .error e
    | .ok x=>rQ rels l (i+1) (.mk (nR s.k) 0 x [] [] [p,q.1]) (if s.k=2\/s.k=5 then names++q.2.map fun c=>(gB s,c.name) else names) (td++[gB s])
def o9:Pl:=.mk 0 0 dX [] [] []
def tW (rels:List Rel)(l:List So):Except Int (Pl×List (Bs×Bs)):=rQ rels l 0 o9 [] []
def xA (x:It)(i:Nat):Bs:=if x.as≠[] then x.as else if x.x.k=2 then x.x.name else 99::Lib.decDigits (i+1)
def iM:Nat ->List It ->List Bs
 | _,[]=>[]
 | i,x::l=>xA x i::iM (i+1) l
def oC (x:Ex)(p:Pl):Pl:=.mk 2 0 x [] [] [p]
def lR (s:Se):Bool:=(decide (0<s.group.length) || s.hasH) || (!s.star && s.items.any fun i=>rA i.x)
def BF (names:List (Bs×Bs))(h:Bool)(x:X):Except Int Ex:=if h=true then mL names x else .ok dX
def B0 (names:List (Bs×Bs))(aY:List X)(h:Bool)(x:X)(ags:List Ag):Except Int (Ex×List Ag):=if h=true then rR names aY x ags else .ok (dX,ags)
def oe (s:Se)(p:Pl)(names:List (Bs×Bs)):Except Int Pl:=if s.star=true then .error 8 else
 match eK names s.group with
 | .error e=> .error e
 | .ok aY=>match fK names s.group (s.items.map (·.x)) [] with
  | .error e=> .error e
  | .ok it=>match B0 names s.group s.hasH s.hv it.2 with
   | .error e=> .error e
   | .ok h=>let g:Pl:=.mk 12 0 dX aY h.2 [p]
    .ok (.mk 3 0 dX it.1 [] [if s.hasH=true then oC h.1 g else g])
def yn (s:Se)(p:Pl)(names:List (Bs×Bs)):Except Int Pl:=if s.star=true then .ok p else
 match eK names (s.items.map (·.x)) with
 | .error e=> .error e
 | .ok l=> .ok (.mk 3 0 dX l [] [p])
def sU (rels:List Rel)(s:Se):Except Int (Pl×List Bs):=match tW rels s.src with
 | .error e=> .error e
 | .ok f=>match BF f.2 s.hasW s.wh with
  | .error e=> .error e
  | .ok w=>let p:=if s.hasW=true then oC w f.1 else f.1
   match (if lR s=true then oe s p f.2 else yn s p f.2) with
   | .error e=> .error e
   | .ok q=> .ok (if s.distinct=true then pW 11 q else q,if s.star=true then f.2.map (·.2) else iM 0 s.items)
def XE (op:Int)(a b:Pl):Pl:=if op=1 then LM 8 a b else if op=2 then pW 11 (LM 8 a b) else if op=4 then pW 10 (LM 9 (pW 11 a) (pW 11 b)) else pW 10 (LM 9 a b)
def jQ (rels:List Rel)(ops:List Int):Nat ->Pl ->List Bs ->List Se ->Except Int (Pl×List Bs)
 | _,p,names,[]=> .ok (p,names)
 | i,p,names,s::l=>match sU rels s with
  | .error e=> .error e
  | .ok r=>if i=0 then jQ rels ops 1 r.1 r.2 l else jQ rels ops (i+1) (XE (ops.getD (i - 1) 0) p r.1) names l
def CL (q:Q)(r:Pl×List Bs):Except Int Pl:=if 0<=q.limit then (match eK (r.2.map fun n=>([],n)) q.order with
 | .error e=> .error e
 | .ok xs=> .ok (.mk 13 q.limit dX xs [] [r.1])) else .ok r.1
def jp (rels:List Rel)(q:Q):Except Int (Pl×List Bs):=match jQ rels q.ops 0 o9 [] q.parts with
 | .error e=> .error e
 | .ok r=>match CL q r with
  | .error e=> .error e
  | .ok p=> .ok (p,r.2)
def fX (k:Int):Int:=if k=1\/k=2 then 0 else if k=3\/k=16 then 1 else if (4<=k/\k<=15)\/k=18 then 2 else if k=17 then 3 else -1
def j9 (a b:Int):Option Int:=if a=b\/b=1 then some a else if a=1 then some b else none
def tj (a ew:Int):Bool:=(j9 a ew).isSome
def vf (k:Int)(t:List Int):Except Int Int:=
 if k<=5 then (if t.all (tj · 2)=true then .ok 2 else .error 9)
 else if k<=11 then (if (j9 (t.getD 0 0) (t.getD 1 0)).isSome=true then .ok 2 else .error 9)
 else if k<=14 then (if t.all (tj · 3)=true then .ok 3 else .error 9)
 else if k=15 then (if t.all (tj · 4)=true then .ok 4 else .error 9)
 else if k=17 then (match j9 (t.getD 1 0) (t.getD 2 0) with | some o=>if tj (t.getD 0 0) 2=true then .ok o else .error 9 | none=> .error 9)
 else (match j9 (t.getD 0 0) (t.getD 1 0) with | some o=> .ok o | none=> .error 9)
mutual
def pp (cols:List Int)(bI n:Nat):Ex ->Except Int Int×Nat
 | .mk k v c kids=>if 200<n+1\/20<bI then (.error 4,n+1) else if fX k<0 then (.error 1,n+1) else if (kids.length:Int)≠fX k then (.error 5,n+1)
  else match mS cols (bI+1) (n+1) kids with
   | (.error e,m)=>(.error e,m)
   | (.ok t,m)=>(if k=1 then (if eO v=0 then .ok v.k else .error (eO v)) else if k=2 then (if 0<=c/\c<cols.length then .ok (cols.getD c.toNat 0) else .error 7) else if k=16 then .ok 2 else vf k t,m)
def mS (cols:List Int)(bI n:Nat):List Ex ->Except Int (List Int)×Nat
 | []=>(.ok [],n)
 | x::l=>match pp cols bI n x with
  | (.error e,m)=>(.error e,m)
  | (.ok t,m)=>match mS cols bI m l with
   | (.error e,m')=>(.error e,m')
   | (.ok ts,m')=>(.ok (t::ts),m')
end
def kZ (cols:List Int)(x:Ex):Except Int Int:=if 16<cols.length then .error 5 else if cols.all (fun t=>decide (1<=t/\t<=4))=true then (pp cols 1 0 x).1 else .error 1
def ig (cols:List Int):List Ex ->Except Int (List Int)
 | []=> .ok []
 | x::l=>match kZ cols x with
  | .error e=> .error e
  | .ok t=>match ig cols l with | .ok ts=> .ok (t::ts) | .error e=> .error e
def fI (cols:List Int)(xs:List Ex):Except Int (List Int):=if 8<xs.length then .error 5 else ig cols xs
def uz (cols:List Int)(a:Ag):Except Int Int:=if a.k<1\/5<a.k then .error 1 else if a.k=1 then .ok 3 else match kZ cols a.x with
 | .error e=> .error e
 | .ok u=>if a.k=3/\u≠3/\u≠1 then .error 9 else .ok (if 4<=a.k then u else 3)
def jg (cols:List Int):List Ag ->Except Int (List Int)
 | []=> .ok []
 | a::l=>match uz cols a with
  | .error e=> .error e
  | .ok t=>match jg cols l with | .ok ts=> .ok (t::ts) | .error e=> .error e
def rF (cols:List Int)(x:Ex):Except Int Unit:=match kZ cols x with
 | .error e=> .error e
 | .ok t=>if t=2\/t=1 then .ok () else .error 9
def hX (k:Int):Int:=if k=1 then 0 else if 4<=k/\k<=9 then 2 else if 1<k/\k<=13 then 1 else -1
def lu:List Int ->List Int ->Except Int (List Int)
 | t::a,u::b=>match j9 t u with
  | none=> .error 9
  | some o=>match lu a b with | .ok l=> .ok (o::l) | .error e=> .error e
 | _,_=> .ok []
def nP (a b:List Int):Except Int (List Int):=if a.length≠b.length then .error 8 else lu a b
def kS (tables:List (List Int))(k n:Int)(x:Ex)(xs:List Ex)(ags:List Ag)(c:List (List Int)):Except Int (List Int):=
 let a:=c.getD 0 []
 let b:=c.getD 1 []
 if k=1 then (if 0<=n/\n<tables.length then .ok (tables.getD n.toNat []) else .error 7)
 else if k=2 then (match rF a x with | .ok _=> .ok a | .error e=> .error e)
 else if k=3 then fI a xs
 else if k=8\/k=9 then nP a b
 else if k=10\/k=11 then .ok a
 else if k=12 then (if 8<xs.length+ags.length then .error 5 else match fI a xs with
  | .error e=> .error e
  | .ok ks=>match jg a ags with | .ok g=> .ok (ks++g) | .error e=> .error e)
 else if k=13 then (match fI a xs with
  | .error e=> .error e
  | .ok _=>if n<0\/50<n then .error 3 else .ok a)
 else if 8<(a++b).length then .error 5
 else match rF (a++b) x with
  | .error e=> .error e
  | .ok _=> .ok (if k=5\/k=6 then a else a++b)
mutual
def eS (tables:List (List Int))(bI m:Nat):Pl ->Except Int (List Int)×Nat
 | .mk k n x xs ags kids=>if 60<m+1\/15<bI then (.error 4,m+1) else if hX k<0 then (.error 1,m+1) else if (kids.length:Int)≠hX k then (.error 5,m+1)
  else match gG tables (bI+1) (m+1) kids with
   | (.error e,m')=>(.error e,m')
   | (.ok c,m')=>(kS tables k n x xs ags c,m')
def gG (tables:List (List Int))(bI m:Nat):List Pl ->Except Int (List (List Int))×Nat
 | []=>(.ok [],m)
 | p::l=>match eS tables bI m p with
  | (.error e,m')=>(.error e,m')
  | (.ok c,m')=>match gG tables bI m' l with
   | (.error e,m'')=>(.error e,m'')
   | (.ok cs,m'')=>(.ok (c::cs),m'')
end
def wL:List (List Int) ->Int
 | []=>0
 | t::l=>if 8<t.length then 5 else if t.all (fun k=>decide (1<=k/\k<=4))=true then wL l else 1
def fq (tables:List (List Int))(p:Pl):Except Int (List Int):=if 8<tables.length then .error 5 else if wL tables≠0 then .error (wL tables) else (eS tables 1 0 p).1
def uk:List Bs ->List Int ->List Co
 | n::l,t::m=>⟨n,t⟩::uk l m
 | _,_=>[]
def il (rels:List Rel)(q:Q):Except Int (Pl×List Co):=match jp rels q with
 | .error e=> .error e
 | .ok r=>match fq (bN rels) r.1 with
  | .error e=> .error e
  | .ok t=> .ok (r.1,uk r.2 t)
def Fu (e:Int):List PanicEntry:=[{v:=.iface 173 (.agg #[.int .i64 e]),recovered:=false}]
theorem Hg (e:Int)(M:aS)(T:Tm):bV Tryz.prog 142 [.int .i64 e] T M [] [] (fun _ _ _ _=>False) (fun ch _ _ _=>ch=Fu e):=by
 refine az ajL rfl rfl ?_
 intro _ _
 simp +contextual only [go_sem,sevalprocAttr]
 exact ak aF.rfl' rfl
def Hq (c:Bs×Bs)(cs:List Value):Prop:=cs=[st c.1,st c.2]
theorem qX {c:Bs×Bs}{cs}(h:Hq c cs):cs.length=2:=by rw [h];rfl
def wF {α:Type}(enc:α ->Value ->aS ->Prop)(res:Except Int α):eu:=fun v M' _ _=>∃ a,res=.ok a/\enc a v M'
def rf {α:Type}(res:Except Int α):mX:=fun ch _ _ _=>∃ e,res=.error e/\ch=Fu e
theorem mD {α:Type}{T N:Tm}{M:aS}{L:LL}{R:RR}{dr ts e post}{res:Except Int α}{c:Int}(hT:aF T N)(h:res=.error c):(fi Tryz.prog T dr ts (aY []) 0 post (rf res)).pan (Fu c) e [] ⟨N,M,L,R⟩:=by
 rw [l7,j2]
 exact ak hT ⟨c,h,rfl⟩
theorem uy {α:Type}{T N:Tm}{M:aS}{L:LL}{R:RR}{dr ts e post d s}{res:Except Int α}{c:Int}(hT:aF T N)(h:res=.error c):dx Tryz.prog (fi Tryz.prog T dr ts (aY []) 0 post (rf res)) 142 [.int .i64 c] d s e [] ⟨N,M,L,R⟩ ⟨⟩:=by
 refine bT (Hg c M N) (fun _ _ _ _ h=>h.elim) ?_
 rintro ch M1 aV bG rfl
 exact mD hT h
theorem EV (tab name:Bs)(i:Nat)(k:Option Nat)(c:Bs×Bs)(l:List (Bs×Bs)):mR tab name i k (c::l)=if c.2=name/\(tab=[]\/c.1=tab) then (match k with | none=>mR tab name (i+1) (some i) l | some _=>none) else mR tab name (i+1) k l:=by
 cases k<;>rfl
def qm:Option Nat ->Int | none=> -1 | some i=>(i:Int)
theorem Yk {M:aS}{names:List (Bs×Bs)}{lv kv av rv:Value}{sb b o:Nat}{x:X}{cs:List Value}(hl:RS M Hq 2 names lv)(E4:M sb=some [lv,kv,av,rv])(ha:At M b o cs)(hx:RX M x cs)(T:Tm):
 bV Tryz.prog 159 [.pointer (some ⟨sb,0,none⟩),.pointer (some ⟨b,o,none⟩)] T M [] [] (wF (fun (i:Nat) v _=>v=.int .i64 (i:Int)) (pE names x.tab x.name)) (rf (pE names x.tab x.name)):=by
 obtain ⟨s,hs,m0,m1,m2,m3,m4,m5,m6⟩:=vR hx ha
 obtain ⟨eZ,la,c,rfl,di,_,gO⟩:=ax (by decide) (fun _ _=>qX) hl
 have acq:mR x.tab x.name 0 none names=none ->pE names x.tab x.name=.error 7:=fun h=>by unfold pE;rw [h]
 have aei:mR x.tab x.name 0 none names=some none ->pE names x.tab x.name=.error 7:=fun h=>by unfold pE;rw [h]
 refine az akW rfl rfl ?_
 intro bi _
 simp +contextual only [go_sem,aD,sevalprocAttr,bg E4]
 refine aO names.length 13 [(0,.pointer (some ⟨sb,0,none⟩)),(1,.pointer (some ⟨b,o,none⟩)),(11,.slice la names.length c),(12,.int .i64 (names.length:Int))] (fun i e h=>∃ T' k,aF T T'/\h=⟨T',M,[],[]⟩/\e 5=.int .i64 (qm k)/\mR x.tab x.name i k (names.drop i)=mR x.tab x.name 0 none names) 0 (by omega) (by simp only [aE,go_sem,sevalprocAttr]) (by simp only [go_sem,sevalprocAttr]) ⟨T,none,aF.rfl',rfl,by simp only [go_sem,sevalprocAttr,qm],rfl⟩ ?_
 rintro i e h hi aG ht ⟨T1,k,dh,rfl,e5,am⟩
 simp only [aE] at aG
 by_cases aL:i<names.length
 ·obtain ⟨b',o',cs',rfl,bQ,dV⟩:=gO i names[i] (gq aL)
  unfold Hq at dV;subst dV
  obtain ⟨y0,y1⟩:=At2 bQ
  have bK:names.drop i=names[i]::names.drop (i+1):=dq aL
  rw [bK,EV] at am
  simp +contextual only [go_sem,aD,sevalprocAttr,aG,ht,aL,y0,y1]
  intro b7 T7 mN BB Ja
  refine aX ?_
  have hT:=dh.trans BB
  by_cases Pt:names[i].2=x.name/\(x.tab=[]\/names[i].1=x.tab)
  ·rw [if_pos Pt] at am
   have fS:(names[i].2=x.name/\x.tab=[]/\True)\/(names[i].2=x.name/\¬ x.tab=[]/\names[i].1=x.tab):=by
    by_cases h2:x.tab=[]
    ·exact .inl ⟨Pt.1,h2,trivial⟩
    ·exact .inr ⟨Pt.1,h2,Pt.2.resolve_left h2⟩
   rcases fS with ⟨h1,h2,h3⟩ | ⟨h1,h2,h3⟩
   all_goals
    cases k with
    | none=>
     simp only at am
     simp +contextual only [go_sem,aD,sevalprocAttr,aG,ht,m4,m5,mN,e5,qm,h1,h2,h3]
     refine aR (al (aB ⟨names.length - (i+1),by omega,rfl,i+1,by omega,?_,?_,?_,T7,some i,hT,rfl,?_,am⟩))
     ·rfl
     ·simp only [aE,aG,go_sem,sevalprocAttr]
     ·simp only [go_sem,sevalprocAttr,aA i (by omega)]
     ·simp only [go_sem,sevalprocAttr]
    | some j=>
     simp only at am
     simp +contextual only [go_sem,aD,sevalprocAttr,aG,m4,m5,mN,e5,qm,h1,h2,h3]
     exact uy hT (acq am.symm)
  ·rw [if_neg Pt] at am
   have fS:(¬ names[i].2=x.name/\True/\True)\/(names[i].2=x.name/\¬ x.tab=[]/\¬ names[i].1=x.tab):=by
    by_cases h1:names[i].2=x.name
    ·exact .inr ⟨h1,fun h2=>Pt ⟨h1,.inl h2⟩,fun h3=>Pt ⟨h1,.inr h3⟩⟩
    ·exact .inl ⟨h1,trivial,trivial⟩
   rcases fS with ⟨h1,h2,h3⟩ | ⟨h1,h2,h3⟩
   all_goals
    simp +contextual only [go_sem,aD,sevalprocAttr,aG,ht,m4,m5,mN,h1,h2,h3]
    refine aR (al (aB ⟨names.length - (i+1),by omega,rfl,i+1,by omega,?_,?_,?_,T7,k,hT,rfl,?_,am⟩))
    ·rfl
    ·simp only [aE,aG,go_sem,sevalprocAttr]
    ·simp only [go_sem,sevalprocAttr,aA i (by omega)]
    ·simp only [e5,go_sem,sevalprocAttr]
 ·have:i=names.length:=by omega
  subst this
  rw [List.drop_length] at am
  cases k with
  | none=>
   simp +contextual only [go_sem,aD,sevalprocAttr,aG,ht,aL,e5,qm]
   exact uy dh (aei am.symm)
  | some j=>
   have hj:¬ (j:Int)<0:=by omega
   simp +contextual only [go_sem,aD,sevalprocAttr,aG,ht,aL,e5,qm,hj]
   refine ak dh ⟨j,?_,rfl⟩
   unfold pE
   rw [<- am];rfl
theorem aca (k n:Int)(t:Bs)(k' n':Int)(t':Bs):iD Tryz.prog .eql 28 (.agg ⟨[.int .i64 k,.int .i64 n,.string (bs t)]⟩) (.agg ⟨[.int .i64 k',.int .i64 n',.string (bs t')]⟩)=some (.bool (P3 ⟨k,n,t⟩ ⟨k',n',t'⟩)):=by
 show (match Fz Tryz.prog 28 with | some ks=>(HW ks _ _).map Value.bool | none=>none)=_
 rw [Il];simp only [HW,YG,P3,TW,Option.map]
 cases decide (k=k')<;>cases decide (n=n')<;>cases decide (t=t')<;>simp
theorem iB {M:aS}(T:Tm):bV Tryz.prog 165 [] T M [] [] (fun r _ _ _=>r=.agg ⟨[.int .i64 1,.int .i64 0,st []]⟩) aM:=by
 refine az aiC rfl rfl ?_
 intro _ _
 simp +contextual only [go_sem,sevalprocAttr]
 intro b1 T1 fx dh fT
 exact ak dh rfl
theorem lX {M:aS}(v:V)(T:Tm):bV Tryz.prog 164 [.agg ⟨[.int .i64 v.k,.int .i64 v.n,st v.t]⟩] T M [] [] (fun r _ _ _=>r=.agg ⟨[.int .i64 (bJ v).k,.int .i64 (bJ v).n,st (bJ v).t]⟩) aM:=by
 obtain ⟨k,n,t⟩:=v
 unfold bJ
 refine az akt rfl rfl ?_
 intro bi _
 by_cases h1:k=1
 ·subst h1
  simp +contextual only [go_sem,aD,sevalprocAttr]
  intro b1 T1 fx dh fT b2 T2 dN fh dy ei
  refine aI (iB T2) ?_
  rintro v M1 aV bG rfl
  simp only [aJ,and_true] at bG
  simp +contextual only [go_sem,sevalprocAttr,bG]
  exact ak (dh.trans dy) rfl
 by_cases h4:k=4
 ·subst h4
  simp +contextual only [go_sem,aD,sevalprocAttr]
  intro b1 T1 fx dh fT b2 T2 dN fh dy ei
  exact ak (dh.trans dy) rfl
 simp +contextual only [go_sem,aD,sevalprocAttr,h1,h4]
 intro b1 T1 fx dh fT b2 T2 dN fh dy ei
 exact ak (dh.trans dy) rfl
theorem At7 {M:aS}{b o:Nat}{v0 v1 v2 v3 v4 v5 v6:Value}(h:At M b o [v0,v1,v2,v3,v4,v5,v6]):aN M ⟨b,o,none⟩=some v0/\aN M ⟨b,o+1,none⟩=some v1/\aN M ⟨b,o+2,none⟩=some v2/\aN M ⟨b,o+3,none⟩=some v3/\aN M ⟨b,o+4,none⟩=some v4/\aN M ⟨b,o+5,none⟩=some v5/\aN M ⟨b,o+6,none⟩=some v6:=
 ⟨h.1,h.2.1,h.2.2.1,h.2.2.2.1,h.2.2.2.2.1,h.2.2.2.2.2.1,h.2.2.2.2.2.2.1⟩
theorem zR:∀ {l m:List X},¬ l.length=m.length ->oV l m=false
 | [],[],h=>(h rfl).elim
 | [],_::_,_=>rfl
 | _::_,[],_=>rfl
 | x::l,y::m,h=>by
  rw [oV,zR (l:=l) (m:=m) (fun h1=>h (by simp [h1])),Bool.and_false]
def SmB (x:X):Prop:=∀ (M:aS) (T:Tm) (b o b' o':Nat) (y:X) (cs cs':List Value),At M b o cs ->RX M x cs ->At M b' o' cs' ->RX M y cs' ->
 bV Tryz.prog 157 [.pointer (some ⟨b,o,none⟩),.pointer (some ⟨b',o',none⟩)] T M [] [] (fun r _ _ _=>r=.bool (oW x y)) aM
theorem Qo {x y:X}(h:SmB x){M:aS}{cs cs':List Value}(hx:RX M x cs)(hy:RX M y cs')(T:Tm):bV Tryz.prog 215 [.agg ⟨cs⟩,.agg ⟨cs'⟩] T M [] [] (fun r _ _ _=>r=.bool (oW x y)) aM:=by
 have hl:=dT hx
 have jm:=dT hy
 refine az akN rfl rfl ?_
 intro bi _
 simp +contextual only [go_sem,sevalprocAttr]
 intro b2 T2 dN dy ei b3 T3 ii df fV gD
 refine lx abM.bd fun M1 aV hL1=> ?_
 obtain ⟨Ao,HP,_⟩:=hL1
 refine aI (h M1 T3 b2 0 b3 0 y _ _ (lf HP _ 0 (by simp)) (bL aV _ _ hx) (lf Ao _ 0 (by simp)) (bL aV _ _ hy)) ?_
 rintro v M2 bh _ rfl
 simp +contextual only [go_sem,sevalprocAttr]
 exact ak (dy.trans fV) rfl
theorem MN {l m:List X}(h:∀ x∈l,SmB x){M:aS}{v1 v2:Value}(h1:RS M (RX M) 7 l v1)(h2:RS M (RX M) 7 m v2)(T:Tm):
 bV Tryz.prog 214 [v1,v2,.func (.func 215) #[] #[]] T M [] [] (fun r _ _ _=>r=.bool (oV l m)) aM:=by
 obtain ⟨aof,a1,c1,rfl,anK,_,lC⟩:=ax (by decide) (fun _ _=>dT) h1
 obtain ⟨Of,a2,c2,rfl,ph,_,xb⟩:=ax (by decide) (fun _ _=>dT) h2
 refine az aiZ rfl rfl ?_
 intro bi _
 by_cases bq:l.length=m.length
 ·simp +contextual only [go_sem,aD,sevalprocAttr,bq]
  refine aO m.length 17 [(1,.slice a2 m.length c2),(2,.func (.func 215) #[] #[]),(15,.slice a1 m.length c1),(16,.int .i64 (m.length:Int))] (fun i e h=>∃ T' M',aF T T'/\bm M M'/\h=⟨T',M',[],[]⟩/\oV (l.drop i) (m.drop i)=oV l m) 0 (by omega) (by simp only [aE,bq,go_sem,sevalprocAttr]) (by simp only [go_sem,sevalprocAttr]) ⟨T,M,aF.rfl',bm.rfl',rfl,rfl⟩ ?_
  rintro i e h hi aG ht ⟨T1,M1,dh,aV,rfl,am⟩
  simp only [aE] at aG
  by_cases aL:i<m.length
  ·have nB:i<l.length:=by omega
   obtain ⟨p1,o1,cs1,rfl,xO,Dj⟩:=lC i l[i] (gq nB)
   obtain ⟨p2,o2,cs2,rfl,oK,Ad⟩:=xb i m[i] (gq aL)
   have xu:l.drop i=l[i]::l.drop (i+1):=dq nB
   have hdm:m.drop i=m[i]::m.drop (i+1):=dq aL
   rw [xu,hdm,oV] at am
   obtain ⟨s1,hf1,iX,_⟩:=bX Dj
   obtain ⟨s2,XG,oS,_⟩:=bX Ad
   subst hf1 XG
   obtain ⟨y0,y1,y2,y3,y4,y5,y6⟩:=At7 (xO.ext aV)
   obtain ⟨z0,z1,z2,z3,z4,z5,z6⟩:=At7 (oK.ext aV)
   simp +contextual only [go_sem,aD,sevalprocAttr,aG,ht,aL,y0,y1,y2,y3,y4,y5,y6,z0,z1,z2,z3,z4,z5,z6,iX,oS]
   intro b8 T8 px ni sH b9 T9 qy gP ut pR
   refine aI (Qo (h l[i] (gm nB)) (bL aV _ _ Dj) (bL aV _ _ Ad) T9) ?_
   rintro v M2 bh _ rfl
   have hT:=(dh.trans ni).trans ut
   cases hb:oW l[i] m[i] with
   | true=>
    rw [hb,Bool.true_and] at am
    simp +contextual only [go_sem,aD,sevalprocAttr,ht]
    refine aR (bM (aB ⟨m.length - (i+1),by omega,rfl,i+1,by omega,rfl,?_,?_,T9,M2,hT,aV.trans bh,rfl,am⟩))
    ·simp only [aE,aG,go_sem,sevalprocAttr]
    ·simp only [go_sem,sevalprocAttr,aA i (by omega)]
   | false=>
    rw [hb,Bool.false_and] at am
    simp +contextual only [go_sem,aD,sevalprocAttr]
    exact ak hT (by rw [<- am])
  ·have:i=m.length:=by omega
   subst this
   have AI:l.drop m.length=[]:=by rw [<- bq];exact List.drop_length
   rw [List.drop_length,AI] at am
   simp +contextual only [go_sem,aD,sevalprocAttr,aG,ht,aL]
   exact ak dh (by rw [<- am];rfl)
 ·have cu:¬ (l.length:Int)=m.length:=by omega
  have:oV l m=false:=zR bq
  simp +contextual only [go_sem,aD,sevalprocAttr,cu]
  exact ak aF.rfl' (by rw [this])
theorem NG:∀ (sz:Nat) (x:X),SizeOf.sizeOf x<=sz ->SmB x:=by
 intro sz
 induction sz with
 | zero=>intro x hx;cases x;simp at hx
 | succ sz ih=>
  intro x dS M T b o b' o' y cs cs' ha hx ha' hy
  obtain ⟨s,hs,m0,m1,m2,m3,m4,m5,m6⟩:=vR hx ha
  obtain ⟨s',yJ,n0,n1,n2,n3,n4,n5,n6⟩:=vR hy ha'
  cases x with | mk k v tab name kids=>
  cases y with | mk k' v' tab' name' kids'=>
  simp only [X.k,X.v,X.tab,X.name,X.kids] at m0 m1 m2 m3 m4 m5 m6 hs n0 n1 n2 n3 n4 n5 n6 yJ
  rw [oW]
  refine az abM rfl rfl ?_
  intro bi _
  by_cases hk:k=k'
  ·subst hk
   by_cases h1:k=1
   ·subst h1
    simp +contextual only [go_sem,sevalprocAttr]
    refine aX ?_
    simp +contextual only [go_sem,aD,sevalprocAttr,m0,n0]
    refine aX ?_
    simp +contextual only [go_sem,sevalprocAttr,m1,m2,m3,n1,n2,n3]
    refine aI (lX v T) ?_
    rintro r M1 aV _ rfl
    replace n1:=ay aV n1
    replace n2:=ay aV n2
    replace n3:=ay aV n3
    simp +contextual only [go_sem,sevalprocAttr]
    refine ⟨qC aV,?_⟩
    refine aI (lX v' T) ?_
    rintro r M2 bh _ rfl
    simp +contextual only [go_sem,sevalprocAttr,aca]
    refine ⟨qC (aV.trans bh),?_⟩
    exact ak aF.rfl' rfl
   ·by_cases h2:k=2
    ·subst h2
     simp +contextual only [go_sem,sevalprocAttr]
     refine aX ?_
     simp +contextual only [go_sem,aD,sevalprocAttr,m0,n0]
     refine aX ?_
     simp +contextual only [go_sem,sevalprocAttr,m4,m5,n4,n5]
     by_cases ht:tab=tab'
     ·rw [if_pos ht]
      refine ak aF.rfl' ?_
      subst ht
      simp
     ·rw [if_neg ht]
      refine ak aF.rfl' ?_
      simp
    ·simp +contextual only [go_sem,sevalprocAttr]
     refine aX ?_
     simp +contextual only [go_sem,aD,sevalprocAttr,m0,n0,h1,h2]
     refine aX ?_
     simp +contextual only [go_sem,sevalprocAttr,m6,n6]
     refine aI (MN (fun x hx=>ih x ?_) hs yJ T) ?_
     ·have h1:=List.sizeOf_lt_of_mem hx
      simp only [X.mk.sizeOf_spec] at dS
      omega
     rintro r M1 aV _ rfl
     simp +contextual only [go_sem,sevalprocAttr]
     exact ak aF.rfl' (by simp [h1,h2])
  ·simp +contextual only [go_sem,sevalprocAttr]
   refine aX ?_
   simp +contextual only [go_sem,aD,sevalprocAttr,m0,n0,hk]
   exact ak aF.rfl' rfl
mutual
def D6:X ->Prop
 | .mk k v tab name kids=>(kids.length:Int)=rE k/\(k=1 ->1<=v.k/\v.k<=4)/\abZ kids
def abZ:List X ->Prop
 | []=>True
 | x::l=>D6 x/\abZ l
end
theorem zJ:∀ {l:List X},abZ l ->∀ x∈l,D6 x
 | _::_,h,_,hy=>by
  rcases mY hy with rfl | hy
  ·exact h.1
  ·exact zJ h.2 _ hy
theorem FY (k:Int):rE k<=3:=by unfold rE;repeat' split<;>omega
theorem aai {a:Option Addr}:iD Tryz.prog .neq 181 (.pointer a) (.pointer none)=some (.bool (!a.isNone)):=by
 show (if zp Tryz.prog 181=true then some (Value.bool (!a.isNone)) else none)=_
 rw [if_pos (by kernel_rfl)]
theorem aee {a:Option Addr}:iD Tryz.prog .eql 181 (.pointer a) (.pointer none)=some (.bool a.isNone):=by
 show (if zp Tryz.prog 181=true then some (Value.bool a.isNone) else none)=_
 rw [if_pos (by kernel_rfl)]
theorem zg:∀ {L:LL} {M:aS} {a:Addr} {o:Option Value},aJ M L ->eD L a=some o ->M a.block=none
 | (b,cs)::L,M,a,o,hn,h=>by
  by_cases hb:a.block=b
  ·rw [hb];exact hn.1
  ·rw [eD,if_neg hb] at h
   exact zg hn.2 h
theorem fu {T0 T:Tm}{M M':aS}{L:LL}{R0 R:RR}(h:bm M M')(hn:aJ M' L):fO ⟨T0,M,L,R0⟩ ⟨T,M',L,R⟩:=by
 intro a v hv
 simp only [Sh.cell] at hv ⊢
 cases hm:aN M a with
 | some u=>
  rw [hm] at hv
  rw [ay h hm];exact hv
 | none=>
  rw [hm] at hv
  cases hl:eD L a with
  | none=>rw [hl] at hv;simp at hv
  | some o=>
   have hb:=zg hn hl
   have:aN M' a=none:=by
    obtain ⟨k,f,sp⟩:=a
    unfold aN
    cases sp with
    | none=>simp only at hb ⊢;rw [hb];rfl
    | some q=>simp
   rw [this]
   rw [hl] at hv
   exact hv
theorem dK {T0 T:Tm}{M M':aS}{L:LL}{R0 R:RR}{b:Nat}{cs:List Value}(h:bm M M')(hn:aJ M' L)(hb:bf b L):fO ⟨T0,M,L,R0⟩ ⟨T,M',(b,cs)::L,R⟩:=by
 intro a v hv
 have h1:=fu (T:=T) (R:=R) h hn a v hv
 simp only [Sh.cell] at h1 hv ⊢
 cases hm:aN M' a with
 | some u=>rw [hm] at h1;exact h1
 | none=>
  rw [hm] at h1
  cases hl:eD L a with
  | none=>rw [hl] at h1;simp at h1
  | some o=>
   have cu:a.block≠b:=fun W7=>by
    have:∀ {L:LL},bf b L ->eD L a=none:=by
     intro L
     induction L with
     | nil=>intro _;rfl
     | cons p l ih=>
      obtain ⟨k,ds⟩:=p
      intro im
      rw [eD,if_neg (by rw [W7];exact im.1.1)]
      exact ih im.2
    rw [this hb] at hl;cases hl
   rw [eD,if_neg cu]
   exact h1
def VX (y:Ex)(v:Value)(M:aS):Prop:=∃ cs,v=.agg ⟨cs⟩/\ij M y cs
theorem fB (M:aS):ij M dX [.int .i64 0,.int .i64 0,.int .i64 0,st [],.int .i64 0,.slice none 0 0]:=iQ.2 ⟨_,rfl,bu⟩
theorem JU (M:aS)(i:Nat):ij M (Nr i) [.int .i64 2,.int .i64 0,.int .i64 0,st [],.int .i64 (i:Int),.slice none 0 0]:=iQ.2 ⟨_,rfl,bu⟩
theorem U1 (M:aS)(v:V):ij M (.mk 1 v 0 []) [.int .i64 1,.int .i64 v.k,.int .i64 v.n,st v.t,.int .i64 0,.slice none 0 0]:=iQ.2 ⟨_,rfl,bu⟩
def rh {α:Type}(acc:List α):Except Int (List α) ->Except Int (List α)
 | .ok l=> .ok (acc++l)
 | .error e=> .error e
theorem qt {α:Type}(r:Except Int (List α)):rh [] r=r:=by cases r<;>rfl
def BC {α:Type}(a:α):Except Int (List α) ->Except Int (List α)
 | .ok l=> .ok (a::l)
 | .error e=> .error e
theorem n8 {α:Type}(acc:List α)(a:α)(r:Except Int (List α)):rh (acc++[a]) r=rh acc (BC a r):=by
 cases r with
 | ok l=>simp [rh,BC]
 | error e=>rfl
theorem Bo {names:List (Bs×Bs)}{x:X}{l:List X}{y:Ex}(h:mL names x=.ok y):eK names (x::l)=BC y (eK names l):=by
 rw [eK,h]
 cases eK names l<;>rfl
theorem zK {names:List (Bs×Bs)}{x:X}{l:List X}{e:Int}(h:mL names x=.error e):eK names (x::l)=.error e:=by
 rw [eK,h]
def ExB (names:List (Bs×Bs))(x:X):Prop:=∀ (M:aS) (T:Tm) (sb:Nat) (lv kv av:Value) (b o:Nat) (cs:List Value),RS M Hq 2 names lv ->M sb=some [lv,kv,av,.pointer none] ->At M b o cs ->RX M x cs ->
 bV Tryz.prog 103 [.pointer (some ⟨sb,0,none⟩),.pointer (some ⟨b,o,none⟩)] T M [] [] (wF VX (mL names x)) (rf (mL names x))
theorem Cx {names:List (Bs×Bs)}{l:List X}(h:∀ x∈l,ExB names x)(bq:l.length<=1048576){M:aS}{sb:Nat}{lv kv av sv:Value}(hl:RS M Hq 2 names lv)(E4:M sb=some [lv,kv,av,.pointer none])(hs:RS M (RX M) 7 l sv)(T:Tm):
 bV Tryz.prog 94 [.pointer (some ⟨sb,0,none⟩),sv] T M [] [] (wF (fun l v M=>RS M (ij M) 6 l v) (eK names l)) (rf (eK names l)):=by
 obtain ⟨eZ,a,c,rfl,di,_,hg⟩:=ax (by decide) (fun _ _=>dT) hs
 refine az F94 rfl rfl ?_
 intro bi _
 simp +contextual only [go_sem,aD,sevalprocAttr]
 refine aO l.length 9 [(0,.pointer (some ⟨sb,0,none⟩)),(1,.slice a l.length c),(7,.slice a l.length c),(8,.int .i64 (l.length:Int))] (fun i e h=>∃ M' fv R acc,bm M M'/\h=⟨T,M',[],R⟩/\e 5=fv/\acc.length=i/\kT 117 6 (ij M') [] R fv acc/\rh acc (eK names (l.drop i))=eK names l) 0 (by omega) (by simp only [aE,go_sem,sevalprocAttr]) (by simp only [go_sem,sevalprocAttr]) ⟨M,_,_,[],bm.rfl',rfl,by simp only [go_sem,sevalprocAttr],rfl,cV,qt _⟩ ?_
 rintro i e h hi aG ht ⟨M1,fv,R,acc,aV,rfl,e5,jN,bj,am⟩
 simp only [aE] at aG
 by_cases aL:i<l.length
 ·obtain ⟨b',o',cs',rfl,bQ,dV⟩:=hg i l[i] (gq aL)
  have bK:l.drop i=l[i]::l.drop (i+1):=dq aL
  rw [bK] at am
  simp +contextual only [go_sem,aD,sevalprocAttr,aG,ht,aL]
  refine bT (h l[i] (gm aL) M1 T sb lv kv av b' _ cs' (aH aV (fun _ _ h=>h) hl) (aV _ _ E4) (bQ.ext aV) (bL aV _ _ dV)) ?_ ?_
  ·rintro v M2 bh aZ ⟨y,hy,cs,rfl,zh⟩
   rw [Bo hy,<- n8] at am
   have cM:=eb zh
   simp +contextual only [go_sem,sevalprocAttr,e5,cM]
   intro b6 pt
   refine cA (Tryz.underlying115) zP z8 (ey (cJ bh) bj) zh (fun _ _=>eb) (ns zh) pt (by omega) (by decide) ?_
   intro fv' R' bz
   simp +contextual only [go_sem,sevalprocAttr,ht]
   refine aR (al (aB ⟨l.length - (i+1),by omega,rfl,i+1,by omega,rfl,?_,?_,M2,fv',R',acc++[y],aV.trans bh,rfl,?_,?_,bz,am⟩))
   ·simp only [aE,aG,go_sem,sevalprocAttr]
   ·simp only [go_sem,sevalprocAttr,aA i (by omega)]
   ·simp only [go_sem,sevalprocAttr]
   ·rw [List.length_append,jN];rfl
  ·rintro ch M2 bh aZ ⟨er,he,rfl⟩
   rw [zK he] at am
   exact mD aF.rfl' am.symm
 ·have:i=l.length:=by omega
  subst this
  rw [List.drop_length,eK] at am
  simp +contextual only [go_sem,aD,sevalprocAttr,aG,ht,aL,e5]
  refine cz bj (by omega) (by decide) bi fun M2 bh aZ cG=>ak aF.rfl' ⟨acc,?_,?_⟩
  ·rw [<- am];simp [rh]
  ·exact aH bm.rfl' (cJ bh) cG
theorem Ot {M:aS}{sb:Nat}{lv kv av xv:Value}(E4:M sb=some [lv,kv,av,.pointer none])(T:Tm):
 bV Tryz.prog 158 [.pointer (some ⟨sb,0,none⟩),xv] T M [] [] (fun _ _ _ _=>False) (rf (.error 8:Except Int Ex)):=by
 refine az adk rfl rfl ?_
 intro bi _
 simp +contextual only [go_sem,aD,sevalprocAttr,bg E4,aee]
 intro b4 T4 eN fG iI
 exact uy fG rfl
theorem exB (names:List (Bs×Bs)):∀ (sz:Nat) (x:X),SizeOf.sizeOf x<=sz ->D6 x ->ExB names x:=by
 intro sz
 induction sz with
 | zero=>intro x hx;cases x;simp at hx
 | succ sz ih=>
  intro x dS cB M T sb lv kv av b o cs hl E4 ha hx
  obtain ⟨s,hs,m0,m1,m2,m3,m4,m5,m6⟩:=vR hx ha
  cases x with | mk k v tab name kids=>
  have yL:=hx
  simp only [X.k,X.v,X.tab,X.name,X.kids] at m0 m1 m2 m3 m4 m5 m6 hs
  obtain ⟨pm,_,MF⟩:=cB
  have HL:=FY k
  obtain ⟨E,hE⟩:∃ E,E=mL names (.mk k v tab name kids):=⟨_,rfl⟩
  rw [<- hE]
  rw [mL] at hE
  refine az Xu rfl rfl ?_
  intro bi _
  simp +contextual only [go_sem,aD,sevalprocAttr,bg E4,m0,aai]
  intro b3 T3 ii fV gD b4 T4 eN eE fG iI
  have hT:=fV.trans fG
  by_cases Gc:19<=k
  ·rw [if_pos Gc] at hE
   simp +contextual only [go_sem,sevalprocAttr,Gc]
   refine bT (Ot E4 T4) (fun _ _ _ _ h=>h.elim) ?_
   rintro ch M1 aV bG ⟨er,he,rfl⟩
   injection he with he
   subst he
   exact mD hT hE
  rw [if_neg Gc] at hE
  by_cases h2:k=2
  ·subst h2
   rw [if_pos rfl] at hE
   simp +contextual only [go_sem,sevalprocAttr]
   refine bT (Yk hl E4 ha hx T4) ?_ ?_
   ·rintro r M1 aV bG ⟨i,hi,rfl⟩
    simp only [X.tab,X.name] at hi
    rw [hi] at hE
    simp only [aJ,and_true] at bG
    simp +contextual only [go_sem,sevalprocAttr,bG]
    exact ak hT ⟨_,hE,_,rfl,JU _ _⟩
   ·rintro ch M1 aV bG ⟨er,he,rfl⟩
    simp only [X.tab,X.name] at he
    rw [he] at hE
    exact mD hT hE
  rw [if_neg h2] at hE
  by_cases h1:k=1
  ·subst h1
   rw [if_pos rfl] at hE
   simp +contextual only [go_sem,sevalprocAttr,eN,m1,m2,m3]
   exact ak hT ⟨_,hE,_,rfl,U1 _ v⟩
  rw [if_neg h1] at hE
  simp +contextual only [go_sem,sevalprocAttr,Gc,h1,h2]
  refine aX ?_
  simp +contextual only [go_sem,sevalprocAttr,ii,eE,m0,m6]
  refine bT (Cx (fun x hx=>ih x (by
   have h1:=List.sizeOf_lt_of_mem hx
   simp only [X.mk.sizeOf_spec] at dS
   omega) (zJ MF x hx)) (by omega) hl E4 hs T4) ?_ ?_
  ·rintro r M1 aV bG ⟨l,hl,cG⟩
   rw [hl] at hE
   simp only [aJ,and_true] at bG
   obtain ⟨r1,r2⟩:=dA cG
   have r2m:=r2
   simp only [Value.cells] at r2m
   simp +contextual only [go_sem,sevalprocAttr,bG,r1,r2m]
   refine ⟨fu aV ⟨bG.1,bG.2,trivial⟩,?_⟩
   exact ak hT ⟨_,hE,_,rfl,iQ.2 ⟨_,rfl,cG⟩⟩
  ·rintro ch M1 aV bG ⟨er,he,rfl⟩
   rw [he] at hE
   exact mD hT hE
theorem xM {F:Fi}{f:FuncId}{args:List Value}{dd:Option Nat}{s:List Vc.Item}{e:dp}{ds:List Deferred}{N:Tm}{M:aS}(L1:LL){b:Nat}{cs:List Value}{L2:LL}{R:RR}(hb:dm Tryz.prog f=true)
 (h:∀ M',bm M M' ->M' b=some cs ->aJ M' (L1++L2) ->dx Tryz.prog F f args dd s e ds ⟨N,M',L1++L2,R⟩ ⟨⟩):dx Tryz.prog F f args dd s e ds ⟨N,M,L1++(b,cs)::L2,R⟩ ⟨⟩:=
 cL (k:=fun h'=>∃ M',bm M M'/\M' b=some cs/\aJ M' (L1++L2)/\h'=⟨N,M',L1++L2,R⟩) (cY List.perm_middle (aT fun he h1 h2=>aB ⟨_,he,h1,h2,rfl⟩))
  (by rintro h' ⟨M',he,h1,h2,rfl⟩;exact h M' he h1 h2) hb
theorem Ch {p:X ->Bool}{l:List X}{gf:FuncId}{fa fc:List Value}{M:aS}{lv:Value}(hs:RS M (RX M) 7 l lv)(aev:dm Tryz.prog gf=true)
 (hf:∀ x∈l,∀ (M':aS) (T:Tm) (cs:List Value),bm M M' ->RX M' x cs ->bV Tryz.prog gf (fa++(.agg ⟨cs⟩::fc)) T M' [] [] (fun r _ _ _=>r=.bool (p x)) aM) (T:Tm):
 bV Tryz.prog 155 [lv,.func (.func gf) ⟨fa⟩ ⟨fc⟩] T M [] [] (fun r _ _ _=>r=.int .i64 (qm (l.findIdx? p))) aM:=by
 obtain ⟨eZ,a,c,rfl,di,_,hg⟩:=ax (by decide) (fun _ _=>dT) hs
 refine az af9 rfl rfl ?_
 intro bi _
 simp +contextual only [go_sem,aD,sevalprocAttr]
 refine aO l.length 8 [(0,.slice a l.length c),(1,.func (.func gf) ⟨fa⟩ ⟨fc⟩),(7,.int .i64 (l.length:Int))] (fun i e h=>∃ M',bm M M'/\h=⟨T,M',[],[]⟩/\l.findIdx? p=((l.drop i).findIdx? p).map (·+i)) 0 (by omega) (by simp only [aE,go_sem,sevalprocAttr]) (by simp only [go_sem,sevalprocAttr]) ⟨M,bm.rfl',rfl,by simp⟩ ?_
 rintro i e h hi aG ht ⟨M1,aV,rfl,am⟩
 simp only [aE] at aG
 by_cases aL:i<l.length
 ·obtain ⟨p1,o1,cs1,rfl,xO,Dj⟩:=hg i l[i] (gq aL)
  have xu:l.drop i=l[i]::l.drop (i+1):=dq aL
  rw [xu,List.findIdx?_cons] at am
  obtain ⟨s1,hf1,iX,_⟩:=bX Dj
  subst hf1
  obtain ⟨y0,y1,y2,y3,y4,y5,y6⟩:=At7 (xO.ext aV)
  simp +contextual only [go_sem,aD,sevalprocAttr,aG,ht,aL,y0,y1,y2,y3,y4,y5,y6]
  refine aI (hf l[i] (gm aL) M1 T _ aV (bL aV _ _ Dj)) ?_
  rintro v M2 bh _ rfl
  cases hb:p l[i] with
  | true=>
   rw [hb] at am
   simp +contextual only [go_sem,aD,sevalprocAttr]
   exact ak aF.rfl' (by rw [am];simp [qm])
  | false=>
   rw [hb] at am
   simp +contextual only [go_sem,aD,sevalprocAttr,ht]
   refine ce aL ?_ ?_ ⟨M2,aV.trans bh,rfl,?_⟩
   ·simp only [aE,aG,go_sem,sevalprocAttr]
   ·simp only [go_sem,sevalprocAttr,aA i (by omega)]
   ·rw [am]
    cases (l.drop (i+1)).findIdx? p<;>simp;omega
 ·have:i=l.length:=by omega
  subst this
  rw [List.drop_length] at am
  simp +contextual only [go_sem,aD,sevalprocAttr,aG,ht,aL]
  exact ak aF.rfl' (by rw [am];rfl)
theorem Hn {α:Type}(p:α ->Bool):∀ (l:List α),decide ((0:Int)<=qm (l.findIdx? p))=l.any p:=by
 intro l
 cases h:l.findIdx? p with
 | none=>
  have:∀ x∈l,p x=false:=by
   rw [List.findIdx?_eq_none_iff] at h
   simpa using h
  rw [List.any_eq_false.2 (by simpa using this)]
  rfl
 | some i=>
  have hi:=List.findIdx?_eq_some_iff_getElem.1 h
  obtain ⟨aL,hp,_⟩:=hi
  rw [List.any_eq_true.2 ⟨l[i],gm aL,hp⟩]
  simp [qm]
theorem DL {p:X ->Bool}{l:List X}{gf:FuncId}{fa fc:List Value}{M:aS}{lv:Value}(hs:RS M (RX M) 7 l lv)(aev:dm Tryz.prog gf=true)
 (hf:∀ x∈l,∀ (M':aS) (T:Tm) (cs:List Value),bm M M' ->RX M' x cs ->bV Tryz.prog gf (fa++(.agg ⟨cs⟩::fc)) T M' [] [] (fun r _ _ _=>r=.bool (p x)) aM) (T:Tm):
 bV Tryz.prog 197 [lv,.func (.func gf) ⟨fa⟩ ⟨fc⟩] T M [] [] (fun r _ _ _=>r=.bool (l.any p)) aM:=by
 refine az aiA rfl rfl ?_
 intro bi _
 simp +contextual only [go_sem,sevalprocAttr]
 refine aI (Ch hs aev hf T) ?_
 rintro v M1 aV _ rfl
 simp +contextual only [go_sem,sevalprocAttr]
 exact ak aF.rfl' (by rw [Hn])
def SpX (x:X):Prop:=∀ (M:aS) (T:Tm) (b o:Nat) (cs:List Value),At M b o cs ->RX M x cs ->bV Tryz.prog 141 [.pointer (some ⟨b,o,none⟩)] T M [] [] (fun r _ _ _=>r=.bool (rA x)) aM
theorem HU {x:X}(h:SpX x){M:aS}{cs:List Value}(hx:RX M x cs)(T:Tm):bV Tryz.prog 198 [.agg ⟨cs⟩] T M [] [] (fun r _ _ _=>r=.bool (rA x)) aM:=by
 have hl:=dT hx
 refine az ad9 rfl rfl ?_
 intro bi _
 simp +contextual only [go_sem,sevalprocAttr]
 intro b2 T2 dN dy ei
 refine cZ abI.bd fun M1 aV HP bG=> ?_
 refine aI (h M1 T2 b2 0 _ (lf HP _ 0 (by simp)) (bL aV _ _ hx)) ?_
 rintro v M2 bh _ rfl
 simp +contextual only [go_sem,sevalprocAttr]
 exact ak dy rfl
theorem Gw:∀ (l:List X),Ws l=l.any rA
 | []=>rfl
 | x::l=>by rw [Ws,List.any_cons,Gw l]
theorem spX:∀ (sz:Nat) (x:X),SizeOf.sizeOf x<=sz ->SpX x:=by
 intro sz
 induction sz with
 | zero=>intro x hx;cases x;simp at hx
 | succ sz ih=>
  intro x dS M T b o cs ha hx
  obtain ⟨s,hs,m0,m1,m2,m3,m4,m5,m6⟩:=vR hx ha
  cases x with | mk k v tab name kids=>
  simp only [X.k,X.v,X.tab,X.name,X.kids] at m0 m1 m2 m3 m4 m5 m6 hs
  refine az abI rfl rfl ?_
  intro bi _
  by_cases Gc:19<=k
  ·simp +contextual only [go_sem,sevalprocAttr,m0,Gc]
   exact ak aF.rfl' (by rw [rA];simp [Gc])
  ·simp +contextual only [go_sem,sevalprocAttr,m0,m6,Gc]
   refine aI (DL (p:=rA) (fa:=[]) (fc:=[]) hs ad9.bd (fun x hx M' T' cs nj hc=>HU (ih x ?_) hc T') T) ?_
   ·have h1:=List.sizeOf_lt_of_mem hx
    simp only [X.mk.sizeOf_spec] at dS
    omega
   rintro r M1 aV _ rfl
   simp +contextual only [go_sem,sevalprocAttr]
   exact ak aF.rfl' (by rw [rA,Gw];simp [Gc])
def WD (M:aS)(ab:Nat)(L:LL)(R:RR)(ags:List Ag):Prop:=∃ a c xs,L=[(ab,[.slice a ags.length c])]/\R=[(.slice a ags.length c,282,7,xs)]/\RL (AG M) ags xs
theorem Me {M M':aS}(he:bm M M'){ab L R ags}(h:WD M ab L R ags):WD M' ab L R ags:=by
 obtain ⟨a,c,xs,h1,h2,h3⟩:=h
 exact ⟨a,c,xs,h1,h2,dl (qM he) h3⟩
def UR {α:Type}(ab:Nat)(enc:α ->Value ->aS ->Prop)(res:Except Int (α×List Ag)):eu:=fun v M' L' R'=>∃ a ags,res=.ok (a,ags)/\enc a v M'/\WD M' ab L' R' ags
theorem GD {α:Type}{T N:Tm}{M:aS}{L1 L:LL}{R1 R:RR}{dr ts e post}{ks:List Nat}{n:Nat}{res:Except Int α}{c:Int}(hT:aF T N)(hk:aY L=ks)(hn:R.length=n)(h:res=.error c):(fi Tryz.prog T dr ts ks n post (rf res)).pan (Fu c) e [] ⟨N,M,L1++L,R1++R⟩:=by
 rw [l7,j2]
 refine gH L1 ?_
 induction R1 with
 | nil=>exact aQ hT hk hn ⟨c,h,rfl⟩
 | cons r R1 ih=>exact kY ih
theorem abN {α:Type}{T N:Tm}{M:aS}{L1 L:LL}{R1 R:RR}{dr ts e post d s}{ks:List Nat}{n:Nat}{res:Except Int α}{c:Int}(hT:aF T N)(hk:aY L=ks)(hn:R.length=n)(h:res=.error c):
 dx Tryz.prog (fi Tryz.prog T dr ts ks n post (rf res)) 142 [.int .i64 c] d s e [] ⟨N,M,L1++L,R1++R⟩ ⟨⟩:=by
 refine bT (Hg c M N) (fun _ _ _ _ h=>h.elim) ?_
 rintro ch M1 aV bG rfl
 exact GD hT hk hn h
structure Gs (M:aS) (sb ab rb:Nat) (names:List (Bs×Bs)) (aY:List X) (lv kv cv kw aw:Value):Prop where
 s:M sb=some [cv,kv,.pointer (some ⟨ab,0,none⟩),.pointer (some ⟨rb,0,none⟩)]
 r:M rb=some [lv,kw,aw,.pointer none]
 n:RS M Hq 2 names lv
 k:RS M (RX M) 7 aY kv
theorem Gs.ext {M M':aS}(he:bm M M'){sb ab rb names aY lv kv cv kw aw}(h:Gs M sb ab rb names aY lv kv cv kw aw):Gs M' sb ab rb names aY lv kv cv kw aw:=
 ⟨he _ _ h.s,he _ _ h.r,aH he (fun _ _ h=>h) h.n,aH he (bL he) h.k⟩
def Ns (names:List (Bs×Bs))(nk:Nat)(k:Int)(kids:List X)(ags:List Ag):Except Int (Ex×List Ag):=match HO names kids with
 | .ok a=> .ok (Nr (nk+ags.length),ags++[⟨k - 18,a⟩])
 | .error e=> .error e
theorem Uy {names nk k kids ags e}(h:HO names kids=.error e):Ns names nk k kids ags=.error e:=by unfold Ns;rw [h]
theorem Xr {names nk k kids ags a}(h:HO names kids=.ok a):Ns names nk k kids ags=.ok (Nr (nk+ags.length),ags++[⟨k - 18,a⟩]):=by unfold Ns;rw [h]
theorem XH {M:aS}{k:Int}{y:Ex}{cs:List Value}(h:ij M y cs):AG M ⟨k,y⟩ (.int .i64 k::cs):=⟨cs,h,rfl⟩
theorem aaq {M:aS}{sb ab rb:Nat}{names:List (Bs×Bs)}{keys':List X}{lv kv cv kw aw:Value}{k:Int}{v:V}{tab name:Bs}{kids:List X}{b o:Nat}{cs:List Value}{ags:List Ag}{L:LL}{R:RR}(hG:Gs M sb ab rb names keys' lv kv cv kw aw)
 (ha:At M b o cs) (hx:RX M (.mk k v tab name kids) cs) (cB:D6 (.mk k v tab name kids)) (hk:19<=k) (hA:WD M ab L R ags) (bq:ags.length<=1048576) (pm:keys'.length<=1048576) (T:Tm):
 bV Tryz.prog 158 [.pointer (some ⟨sb,0,none⟩),.pointer (some ⟨b,o,none⟩)] T M L R (UR ab VX (Ns names keys'.length k kids ags)) (rf (Ns names keys'.length k kids ags)):=by
 obtain ⟨s,hs,m0,m1,m2,m3,m4,m5,m6⟩:=vR hx ha
 simp only [X.k,X.v,X.tab,X.name,X.kids] at m0 m1 m2 m3 m4 m5 m6 hs
 obtain ⟨Xz,_,MF⟩:=cB
 have apB:k<=23:=by
  unfold rE at Xz
  repeat' split at Xz
  all_goals omega
 obtain ⟨eZ,sa,sc,rfl,di,_,hg⟩:=ax (by decide) (fun _ _=>dT) hs
 obtain ⟨aa,ac,xs,rfl,rfl,fM⟩:=hA
 have iH:=eL (fun _ _=>mE) fM
 refine az adk rfl rfl ?_
 intro bi _
 simp only [aJ,and_true] at bi
 have w1:IntKind.i64.wrap (k - 19)=k - 19:=bH (by omega) (by omega)
 have w2:IntKind.i64.wrap (k - 19+1)=k - 18:=by rw [bH (by omega) (by omega)];omega
 simp +contextual only [go_sem,sevalprocAttr,bg hG.s,aee]
 intro b4 T4 eN eE fG iI
 rw [dG,if_neg (by decide),EJ]
 simp +contextual only [go_sem,sevalprocAttr,m0,m6,w1,w2]
 intro b5 T5 j6 ea lG oQ
 have hT:=fG.trans lG
 refine eU (fun e ds h=>ds=[]/\e 0=.pointer (some ⟨sb,0,none⟩)/\e 4=.pointer (some ⟨b4,0,none⟩)/\e 5=.pointer (some ⟨b5,0,none⟩)/\∃ M' y c0 c1 c2 c3 c4 c5,bm M M'/\HO names kids=.ok y/\ij M' y [c0,c1,c2,c3,c4,c5]/\(∀ u∈[c0,c1,c2,c3,c4,c5],u.oneCell'=true)/\M' b5=none/\M' b4=none/\M' ab=none/\
  h=⟨T5,M',[(b5,[.int .i64 (k - 18),c0,c1,c2,c3,c4,c5]),(b4,[.int .i64 0,.int .i64 0,.int .i64 0,st [],.int .i64 0,.slice none 0 0]),(ab,[.slice aa ags.length ac])],[(.slice aa ags.length ac,282,7,xs)]⟩) (fun S' eY=> ?_) ?_
 ·cases kids with
  | nil=>
   have hz:¬ ((0:Int)<(([]:List X).length:Int)):=by decide
   simp +contextual only [go_sem,aD,sevalprocAttr]
   refine eY _ _ _ ⟨rfl,?_,?_,?_,M,dX,_,_,_,_,_,_,bm.rfl',rfl,fB M,?_,j6,eN,bi,rfl⟩
   ·simp only [go_sem,sevalprocAttr]
   ·simp only [go_sem,sevalprocAttr]
   ·simp only [go_sem,sevalprocAttr]
   ·exact ns (fB M)
  | cons x0 kr=>
   have hz:(0:Int)<((x0::kr:List X).length:Int):=by simp only [List.length_cons];omega
   have hz2:(1:Int)<=((x0::kr:List X).length:Int):=by simp only [List.length_cons];omega
   obtain ⟨b',o',cs',rfl,bQ,dV⟩:=hg 0 x0 rfl
   rw [Nat.zero_mul,Nat.add_zero] at bQ
   simp +contextual only [go_sem,aD,sevalprocAttr]
   refine aX ?_
   simp +contextual only [go_sem,sevalprocAttr,bg hG.s,m6]
   refine bT (exB names _ x0 (Nat.le_refl _) MF.1 M T5 rb lv kw aw b' o' cs' hG.n hG.r bQ dV) ?_ ?_
   ·rintro r M1 aV bG ⟨y,hy,cs1,rfl,zh⟩
    obtain ⟨s1,rfl,iX,_⟩:=dF zh
    simp only [aJ] at bG
    simp +contextual only [go_sem,sevalprocAttr,iX]
    refine ⟨fu aV ⟨bG.1,bG.2.1,bG.2.2.1,trivial⟩,?_⟩
    refine eY _ _ _ ⟨rfl,?_,?_,?_,M1,y,_,_,_,_,_,_,aV,?_,zh,ns zh,bG.1,bG.2.1,bG.2.2.1,rfl⟩
    ·simp only [go_sem,sevalprocAttr]
    ·simp only [go_sem,sevalprocAttr]
    ·simp only [go_sem,sevalprocAttr]
    ·simp only [HO];exact hy
   ·rintro ch M1 aV bG ⟨er,he,rfl⟩
    refine GD (L1:=[(b5,_),(b4,_)]) (R1:=[]) hT rfl rfl ?_
    exact Uy (by simp only [HO];exact he)
 ·rintro e ds h ⟨rfl,e0,e4,e5,M1,y,c0,c1,c2,c3,c4,c5,aV,hy,zh,dt,n5,n4,na,rfl⟩
  have hG1:=hG.ext aV
  have afD:=dl (fun x cs h=>qM aV x cs h) fM
  simp +contextual only [go_sem,sevalprocAttr]
  refine aX ?_
  simp +contextual only [go_sem,sevalprocAttr,e0,e5,bg hG1.s,n5,na,eE,ea]
  intro b6 pt gE
  refine ⟨dK bm.rfl' ⟨n5,n4,na,trivial⟩ ⟨gE.1,gE.2.1,gE.2.2,trivial⟩,?_⟩
  have CN:=XH (k:=k - 18) zh
  have ae2:=eL (fun _ _=>mE) afD
  refine gL UN Tc (.slice _ 1 _ _ _ Tryz.underlying118 (cD [] pt trivial rfl) (by
   intro u hu
   rcases mY hu with rfl | hu
   ·rfl
   ·exact dt u hu)) (by rw [ae2];simp only [ln];omega) ?_
  intro ra rm rc jc
  have jA:rm=(ags++[⟨k - 18,y⟩]:List Ag).length:=by
   rw [ae2] at jc
   simp only [List.length_append,ln] at jc ⊢
   omega
  subst jA
  obtain ⟨_,ka,kc,rfl,_⟩:=ax (by decide) (fun _ _=>dT) hG1.k
  have w3:IntKind.i64.wrap ((keys'.length:Int)+((ags++[⟨k - 18,y⟩]:List Ag).length:Int))=((keys'.length+ags.length+1:Nat):Int):=by
   rw [bH (by simp only [List.length_append,ln];omega) (by simp only [List.length_append,ln];omega)]
   simp only [List.length_append,ln];omega
  have w4:IntKind.i64.wrap (((keys'.length+ags.length+1:Nat):Int) - 1)=((keys'.length+ags.length:Nat):Int):=by
   rw [bH (by omega) (by omega)];omega
  simp +contextual only [go_sem,sevalprocAttr,eE,ea,gE]
  refine ⟨dK bm.rfl' ⟨n5,n4,na,trivial⟩ ⟨gE.1,gE.2.1,gE.2.2,trivial⟩,?_⟩
  refine aX ?_
  simp +contextual only [go_sem,sevalprocAttr,e0,e4,bg hG1.s,n4,na,eE,ea,gE,w3,w4]
  refine al (al (al (aQ hT rfl rfl ⟨_,_,Xr hy,⟨_,rfl,JU _ _⟩,ra,rc,_,rfl,rfl,cP afD (dj CN)⟩)))
theorem Aa {F:Fi}{f:FuncId}{args:List Value}{dd:Option Nat}{s:List Vc.Item}{e:dp}{ds:List Deferred}{N:Tm}{M:aS}(L1:LL){Lp:LL}(R1:RR){Rp:RR}{post:eu}{pan:mX}
 (hc:bV Tryz.prog f args N M Lp Rp post pan)
 (hn:∀ v M' L' R',bm M M' ->aY L'=aY Lp ->R'.length=Rp.length ->aJ M' (L1++L') ->post v M' L' R' ->cy Tryz.prog F s (cI e dd v) ds ⟨N,M',L1++L',R1++R'⟩ ⟨⟩)
 (hp:∀ ch M' L' R',bm M M' ->aY L'=aY Lp ->R'.length=Rp.length ->pan ch M' L' R' ->F.pan ch e ds ⟨N,M',L1++L',R1++R'⟩):dx Tryz.prog F f args dd s e ds ⟨N,M,L1++Lp,R1++Rp⟩ ⟨⟩:=by
 have key:∀ (L2:LL) (R2:RR),L2=L1++Lp++[] ->R2=R1++Rp++[] ->dx Tryz.prog F f args dd s e ds ⟨N,M,L2,R2⟩ ⟨⟩:=by
  rintro _ _ rfl rfl
  refine gu L1 Lp [] R1 Rp [] hc (fun v M' L' R' hM hk hR bi hq=> ?_) (fun ch M' L' R' hM hk hR bi hq=> ?_)
  ·have k2:∀ (L2:LL) (R2:RR),L2=L1++L' ->R2=R1++R' ->cy Tryz.prog F s (cI e dd v) ds ⟨N,M',L2,R2⟩ ⟨⟩:=by
    rintro _ _ rfl rfl
    exact hn v M' L' R' hM hk hR (by simpa using bi) hq
   exact k2 _ _ (by simp) (by simp)
  ·have:=hp ch M' L' R' hM hk hR hq
   simpa using this
 exact key _ _ (by simp) (by simp)
theorem vt {α:Type}{F:Fi}{f:FuncId}{args:List Value}{dd:Option Nat}{s:List Vc.Item}{e:dp}{ds:List Deferred}{N:Tm}{M:aS}{el:TypeId}{sz:Nat}{r:α ->List Value ->Prop}{R0 R:RR}{fv:Value}{acc:List α}{post:eu}{pan:mX}(L1:LL){Lp:LL}
 (hc:bV Tryz.prog f args N M Lp R0 post pan) (h:kT el sz r R0 R fv acc)
 (hn:∀ v M' L' R0' R',bm M M' ->aY L'=aY Lp ->R0'.length=R0.length ->aJ M' (L1++L') ->post v M' L' R0' ->kT el sz r R0' R' fv acc ->cy Tryz.prog F s (cI e dd v) ds ⟨N,M',L1++L',R'⟩ ⟨⟩)
 (hp:∀ ch M' L' R1 R0',bm M M' ->aY L'=aY Lp ->R0'.length=R0.length ->pan ch M' L' R0' ->F.pan ch e ds ⟨N,M',L1++L',R1++R0'⟩):dx Tryz.prog F f args dd s e ds ⟨N,M,L1++Lp,R⟩ ⟨⟩:=by
 have key:∀ (R1:RR) (R2:RR) (L2:LL),L2=L1++Lp++[] ->R2=R1++R0++[] ->(∀ R0',kT el sz r R0' (R1++R0') fv acc) ->dx Tryz.prog F f args dd s e ds ⟨N,M,L2,R2⟩ ⟨⟩:=by
  rintro R1 _ _ rfl rfl bj
  refine gu L1 Lp [] R1 R0 [] hc (fun v M' L' R' hM hk hR bi hq=> ?_) (fun ch M' L' R' hM hk hR bi hq=> ?_)
  ·have k2:∀ (L2:LL) (R2:RR),L2=L1++L' ->R2=R1++R' ->cy Tryz.prog F s (cI e dd v) ds ⟨N,M',L2,R2⟩ ⟨⟩:=by
    rintro _ _ rfl rfl
    exact hn v M' L' R' _ hM hk hR (by simpa using bi) hq (bj R')
   exact k2 _ _ (by simp) (by simp)
  ·have:=hp ch M' L' R1 R' hM hk hR hq
   simpa using this
 rcases h with ⟨rfl,rfl,rfl⟩ | ⟨a,c,xs,rfl,h3,rfl⟩
 ·exact key [] _ _ (by simp) (by simp) fun R0'=> .inl ⟨rfl,rfl,rfl⟩
 ·exact key [(.slice a acc.length c,el,sz,xs)] _ _ (by simp) (by simp) fun R0'=> .inr ⟨a,c,xs,rfl,h3,rfl⟩
mutual
def Jn:X ->Nat
 | .mk _ _ _ _ kids=>1+yS kids
def yS:List X ->Nat
 | []=>0
 | x::l=>Jn x+yS l
end
mutual
theorem qO {names:List (Bs×Bs)}{aY:List X}:∀ (x:X) (ags:List Ag) (y:Ex) (ags':List Ag),rR names aY x ags=.ok (y,ags') ->ags'.length<=ags.length+Jn x
 | .mk k v tab name kids,ags,y,ags',h=>by
  rw [rR] at h
  rw [Jn]
  split at h
  ·injection h with h;injection h with h1 h2;subst h2;omega
  ·split at h
   ·split at h
    ·injection h with h;injection h with h1 h2;subst h2;simp
    ·cases h
   ·split at h
    ·cases h
    ·split at h
     ·injection h with h;injection h with h1 h2;subst h2;omega
     ·split at h
      ·rename_i l hl
       injection h with h;injection h with h1 h2;subst h2
       have:=zj kids ags l.1 l.2 hl
       omega
      ·cases h
theorem zj {names:List (Bs×Bs)}{aY:List X}:∀ (l:List X) (ags:List Ag) (ys:List Ex) (ags':List Ag),fK names aY l ags=.ok (ys,ags') ->ags'.length<=ags.length+yS l
 | [],ags,ys,ags',h=>by
  rw [fK] at h
  injection h with h;injection h with h1 h2;subst h2;omega
 | x::l,ags,ys,ags',h=>by
  rw [fK] at h
  rw [yS]
  split at h
  ·cases h
  ·rename_i y hy
   split at h
   ·rename_i m hm
    injection h with h;injection h with h1 h2;subst h2
    have h1:=qO x ags y.1 y.2 hy
    have h2:=zj l y.2 m.1 m.2 hm
    omega
   ·cases h
end
def Fp {α:Type}(acc:List α):Except Int (List α×List Ag) ->Except Int (List α×List Ag)
 | .ok (l,g)=> .ok (acc++l,g)
 | .error e=> .error e
def Qp {α:Type}(a:α):Except Int (List α×List Ag) ->Except Int (List α×List Ag)
 | .ok (l,g)=> .ok (a::l,g)
 | .error e=> .error e
theorem Ec {α:Type}(r:Except Int (List α×List Ag)):Fp [] r=r:=by cases r<;>rfl
theorem B8 {α:Type}(acc:List α)(a:α)(r:Except Int (List α×List Ag)):Fp (acc++[a]) r=Fp acc (Qp a r):=by
 cases r with
 | ok l=>simp [Fp,Qp]
 | error e=>rfl
theorem Bj {names:List (Bs×Bs)}{aY:List X}{x:X}{l:List X}{ags ags':List Ag}{y:Ex}(h:rR names aY x ags=.ok (y,ags')):fK names aY (x::l) ags=Qp y (fK names aY l ags'):=by
 rw [fK,h]
 simp only
 cases fK names aY l ags'<;>rfl
theorem Af {names:List (Bs×Bs)}{aY:List X}{x:X}{l:List X}{ags:List Ag}{e:Int}(h:rR names aY x ags=.error e):fK names aY (x::l) ags=.error e:=by
 rw [fK,h]
def ExG (names:List (Bs×Bs))(keys':List X)(x:X):Prop:=∀ (M:aS) (T:Tm) (sb ab rb:Nat) (lv kv cv kw aw:Value) (b o:Nat) (cs:List Value) (ags:List Ag) (L:LL) (R:RR),Gs M sb ab rb names keys' lv kv cv kw aw ->At M b o cs ->RX M x cs ->WD M ab L R ags ->ags.length+Jn x<=1048576 ->
 bV Tryz.prog 103 [.pointer (some ⟨sb,0,none⟩),.pointer (some ⟨b,o,none⟩)] T M L R (UR ab VX (rR names keys' x ags)) (rf (rR names keys' x ags))
theorem tH {M:aS}{ab:Nat}{L:LL}{R:RR}{ags:List Ag}(h:WD M ab L R ags):aY L=[ab]/\R.length=1:=by
 obtain ⟨a,c,xs,rfl,rfl,_⟩:=h
 exact ⟨rfl,rfl⟩
theorem WF {names:List (Bs×Bs)}{keys':List X}{l:List X}(h:∀ x∈l,ExG names keys' x)(bq:l.length<=1048576){M:aS}{sb ab rb:Nat}{lv kv cv kw aw sv:Value}{ags:List Ag}{L:LL}{R:RR}(hG:Gs M sb ab rb names keys' lv kv cv kw aw)(hs:RS M (RX M) 7 l sv)(hA:WD M ab L R ags)(Av:ags.length+yS l<=1048576)(T:Tm):
 bV Tryz.prog 94 [.pointer (some ⟨sb,0,none⟩),sv] T M L R (UR ab (fun l v M=>RS M (ij M) 6 l v) (fK names keys' l ags)) (rf (fK names keys' l ags)):=by
 obtain ⟨eZ,a,c,rfl,di,_,hg⟩:=ax (by decide) (fun _ _=>dT) hs
 obtain ⟨o7,rL⟩:=tH hA
 refine az F94 rfl rfl ?_
 intro bi _
 simp +contextual only [go_sem,aD,sevalprocAttr]
 refine aO l.length 9 [(0,.pointer (some ⟨sb,0,none⟩)),(1,.slice a l.length c),(7,.slice a l.length c),(8,.int .i64 (l.length:Int))] (fun i e h=>∃ M' L' R0 R' fv acc agi,bm M M'/\h=⟨T,M',L',R'⟩/\aJ M' L'/\e 5=fv/\acc.length=i/\WD M' ab L' R0 agi/\kT 117 6 (ij M') R0 R' fv acc/\agi.length+yS (l.drop i)<=1048576/\Fp acc (fK names keys' (l.drop i) agi)=fK names keys' l ags) 0 (by omega) (by simp only [aE,go_sem,sevalprocAttr]) (by simp only [go_sem,sevalprocAttr]) ⟨M,L,R,R,_,[],ags,bm.rfl',rfl,bi,by simp only [go_sem,sevalprocAttr],rfl,hA,cV,Av,Ec _⟩ ?_
 rintro i e h hi aG ht ⟨M1,L1,R0,R1,fv,acc,agi,aV,rfl,bG,e5,jN,hA1,bj,Zf,am⟩
 simp only [aE] at aG
 obtain ⟨D2,hr1⟩:=tH hA1
 by_cases aL:i<l.length
 ·obtain ⟨b',o',cs',rfl,bQ,dV⟩:=hg i l[i] (gq aL)
  have bK:l.drop i=l[i]::l.drop (i+1):=dq aL
  rw [bK] at am Zf
  rw [yS] at Zf
  simp +contextual only [go_sem,aD,sevalprocAttr,aG,ht,aL]
  refine vt [] (h l[i] (gm aL) M1 T sb ab rb lv kv cv kw aw b' _ cs' agi L1 R0 (hG.ext aV) (bQ.ext aV) (bL aV _ _ dV) hA1 (by omega)) bj ?_ ?_
  ·rintro v M2 L2 R2 R3 bh lh ZW aZ ⟨y,ag2,hy,⟨cs,rfl,zh⟩,LH⟩ ek
   rw [Bj hy,<- B8] at am
   have Bd:=qO _ _ _ _ hy
   have cM:=eb zh
   simp only [List.nil_append] at aZ
   simp +contextual only [go_sem,sevalprocAttr,e5,cM]
   intro b6 pt gE
   refine cA (Tryz.underlying115) zP z8 (ey (cJ bh) ek) zh (fun _ _=>eb) (ns zh) pt (by omega) (by decide) ?_
   intro fv' R' bz
   simp +contextual only [go_sem,sevalprocAttr,ht]
   refine aR (al (aB ⟨l.length - (i+1),by omega,rfl,i+1,by omega,rfl,?_,?_,M2,L2,R2,R',fv',acc++[y],ag2,aV.trans bh,rfl,aZ,?_,?_,LH,bz,by omega,am⟩))
   ·simp only [aE,aG,go_sem,sevalprocAttr]
   ·simp only [go_sem,sevalprocAttr,aA i (by omega)]
   ·simp only [go_sem,sevalprocAttr]
   ·rw [List.length_append,jN];rfl
  ·rintro ch M2 L2 R2 R3 bh lh ZW ⟨er,he,rfl⟩
   rw [Af he] at am
   exact GD (L1:=[]) (R1:=R2) aF.rfl' ((lh.trans D2).trans o7.symm) (by omega) am.symm
 ·have:i=l.length:=by omega
  subst this
  rw [List.drop_length,fK] at am
  simp +contextual only [go_sem,aD,sevalprocAttr,aG,ht,aL,e5]
  refine cz bj (by omega) (by decide) bG fun M2 bh aZ cG=>aQ aF.rfl' (D2.trans o7.symm) (by omega) ⟨acc,agi,?_,?_,Me bh hA1⟩
  ·rw [<- am];simp [Fp]
  ·exact aH bm.rfl' (cJ bh) cG
theorem Ou {x y:X}{M:aS}{b3 b o:Nat}{cs cs':List Value}(h3:M b3=some [.pointer (some ⟨b,o,none⟩)])(ha:At M b o cs)(hx:RX M x cs)(hy:RX M y cs')(T:Tm):
 bV Tryz.prog 156 [.agg ⟨cs'⟩,.pointer (some ⟨b3,0,none⟩)] T M [] [] (fun r _ _ _=>r=.bool (oW x y)) aM:=by
 have hl:=dT hy
 refine az adp rfl rfl ?_
 intro bi _
 simp +contextual only [go_sem,sevalprocAttr,bg h3]
 intro b2 T2 dN dy ei
 refine cZ abM.bd fun M1 aV HP bG=> ?_
 refine aI (NG _ x (Nat.le_refl _) M1 T2 b o b2 0 y _ _ (ha.ext aV) (bL aV _ _ hx) (lf HP _ 0 (by simp)) (bL aV _ _ hy)) ?_
 rintro v M2 bh _ rfl
 simp +contextual only [go_sem,sevalprocAttr]
 exact ak dy rfl
theorem exG (names:List (Bs×Bs))(keys':List X)(pm:keys'.length<=1048576):∀ (sz:Nat) (x:X),SizeOf.sizeOf x<=sz ->D6 x ->ExG names keys' x:=by
 intro sz
 induction sz with
 | zero=>intro x hx;cases x;simp at hx
 | succ sz ih=>
  intro x dS cB M T sb ab rb lv kv cv kw aw b o cs ags L R hG ha hx hA Av
  obtain ⟨s,hs,m0,m1,m2,m3,m4,m5,m6⟩:=vR hx ha
  obtain ⟨o7,rL⟩:=tH hA
  cases x with | mk k v tab name kids=>
  have yL:=hx
  simp only [X.k,X.v,X.tab,X.name,X.kids] at m0 m1 m2 m3 m4 m5 m6 hs
  obtain ⟨Xz,ZN,MF⟩:=cB
  have HL:=FY k
  rw [Jn] at Av
  obtain ⟨E,hE⟩:∃ E,E=rR names keys' (.mk k v tab name kids) ags:=⟨_,rfl⟩
  rw [<- hE]
  rw [rR] at hE
  refine az Xu rfl rfl ?_
  intro bi _
  simp +contextual only [go_sem,sevalprocAttr,bg hG.s,aai]
  intro b3 T3 ii df fV gD b4 T4 eN eE fG iI
  have hT:=fV.trans fG
  rw [dG,if_pos (by rfl)]
  simp +contextual only [go_sem,sevalprocAttr,bg hG.s]
  refine xM [(b4,_)] af9.bd fun M1 aV Ao bG=> ?_
  have hG1:=hG.ext aV
  have Ph:=ha.ext aV
  have Dj:=bL aV _ _ hx
  refine aI (Ch (p:=fun y=>oW (.mk k v tab name kids) y) (fa:=[]) (fc:=[.pointer (some ⟨b3,0,none⟩)]) hG1.k adp.bd (fun y _ M' T' cs nj hc=>Ou (nj _ _ Ao) (Ph.ext nj) (bL nj _ _ Dj) hc T') T4) ?_
  rintro r M2 bh aZ rfl
  have ep:=aV.trans bh
  replace Ao:=bh _ _ Ao
  have hG2:=hG.ext ep
  have ha2:=ha.ext ep
  have Ad:=bL ep _ _ hx
  have oS:=aH ep (bL ep) hs
  have LH:=Me ep hA
  replace m0:=ay ep m0
  replace m1:=ay ep m1
  replace m2:=ay ep m2
  replace m3:=ay ep m3
  replace m6:=ay ep m6
  simp only [nn,aJ] at aZ
  cases hf:keys'.findIdx? (fun y=>oW (.mk k v tab name kids) y) with
  | some j=>
   rw [hf] at hE
   simp only at hE
   simp +contextual only [go_sem,aD,sevalprocAttr,qm,aZ]
   exact al (aQ hT rfl rfl ⟨_,_,hE,⟨_,rfl,JU _ _⟩,LH⟩)
  | none=>
   rw [hf] at hE
   simp only at hE
   by_cases Gc:19<=k
   ·rw [if_pos Gc] at hE
    simp +contextual only [go_sem,aD,sevalprocAttr,qm,bg Ao,m0,Gc]
    refine Aa [(b4,_)] [] (aaq hG2 ha2 Ad ⟨Xz,ZN,MF⟩ Gc LH (by omega) pm T4) ?_ ?_
    ·rintro r M3 L3 R3 bE yQ XK bB ⟨y,ag3,hy,⟨cs3,rfl,zh⟩,hA3⟩
     obtain ⟨s3,rfl,Ft,_⟩:=dF zh
     simp only [nn,aJ] at bB
     simp +contextual only [go_sem,sevalprocAttr,bB,Ft]
     refine al (aQ hT yQ XK ⟨y,ag3,?_,⟨_,rfl,zh⟩,hA3⟩)
     rw [hE];exact hy
    ·rintro ch M3 L3 R3 bE yQ XK ⟨er,he,rfl⟩
     exact GD (L1:=[(b4,_)]) (R1:=[]) hT yQ XK (hE.trans he)
   rw [if_neg Gc] at hE
   by_cases h2:k=2
   ·subst h2
    rw [if_pos rfl] at hE
    simp +contextual only [go_sem,aD,sevalprocAttr,qm,bg Ao,m0,Gc,aai,bg hG2.s]
    exact abN (L1:=[(b4,_)]) (R1:=[]) hT rfl rfl hE
   rw [if_neg h2] at hE
   by_cases h1:k=1
   ·subst h1
    rw [if_pos rfl] at hE
    simp +contextual only [go_sem,aD,sevalprocAttr,qm,aZ,bg Ao,m0,m1,m2,m3,Gc]
    exact al (aQ hT rfl rfl ⟨_,_,hE,⟨_,rfl,U1 _ v⟩,LH⟩)
   rw [if_neg h1] at hE
   simp +contextual only [go_sem,aD,sevalprocAttr,qm,bg Ao,m0,Gc,h1,h2]
   refine eG ⟨T,M2,[],[]⟩ (qC bm.rfl') ?_
   simp +contextual only [go_sem,sevalprocAttr,bg Ao,m0,m6]
   refine Aa [(b4,_)] [] (WF (fun x hx=>ih x (by
    have h1:=List.sizeOf_lt_of_mem hx
    simp only [X.mk.sizeOf_spec] at dS
    omega) (zJ MF x hx)) (by omega) hG2 oS LH (by omega) T4) ?_ ?_
   ·rintro r M3 L3 R3 bE yQ XK bB ⟨l,ag3,hl,cG,hA3⟩
    rw [hl] at hE
    simp only at hE
    obtain ⟨r1,r2⟩:=dA cG
    have r2m:=r2
    simp only [Value.cells] at r2m
    simp only [nn,aJ] at bB
    simp +contextual only [go_sem,sevalprocAttr,bB,r1,r2m]
    refine ⟨qC bE,al (aQ hT yQ XK ⟨.mk k vT 0 l,ag3,hE,⟨_,rfl,iQ.2 ⟨r,rfl,cG⟩⟩,hA3⟩)⟩
   ·rintro ch M3 L3 R3 bE yQ XK ⟨er,he,rfl⟩
    rw [he] at hE
    exact GD (L1:=[(b4,_)]) (R1:=[]) hT yQ XK hE
abbrev OG (p:Pl)(s1 xv av s:Value):List Value:=[.int .i64 p.k,.int .i64 p.n,.int .i64 p.x.k,.int .i64 p.x.v.k,.int .i64 p.x.v.n,st p.x.v.t,.int .i64 p.x.c,s1,xv,av,s]
theorem du {M:aS}{p:Pl}{cs:List Value}(h:gR M p cs):∃ s1 a1 n1 a2 n2 a3 n3,cs=OG p s1 (.slice a1 p.xs.length n1) (.slice a2 p.ags.length n2) (.slice a3 p.kids.length n3)/\s1.oneCell'=true/\
 RS M (ij M) 6 p.x.kids s1/\RS M (ij M) 6 p.xs (.slice a1 p.xs.length n1)/\RS M (AG M) 7 p.ags (.slice a2 p.ags.length n2)/\RS M (gR M) 11 p.kids (.slice a3 p.kids.length n3):=by
 obtain ⟨xc,xv,av,s,rfl,h1,h2,h3,h4⟩:=j0.1 h
 obtain ⟨s1,rfl,iX,hk⟩:=dF h1
 obtain ⟨_,a1,n1,rfl,_⟩:=ax (by decide) (fun _ _=>eb) h2
 obtain ⟨_,a2,n2,rfl,_⟩:=ax (by decide) (fun _ _=>mE) h3
 obtain ⟨_,a3,n3,rfl,_⟩:=ax (by decide) (fun _ _=>jo) h4
 exact ⟨s1,a1,n1,a2,n2,a3,n3,rfl,iX,hk,h2,h3,h4⟩
theorem yW {M:aS}{p:Pl}{cs:List Value}(h:gR M p cs):∀ u∈cs,u.oneCell'=true:=by
 obtain ⟨s1,a1,n1,a2,n2,a3,n3,rfl,h1,_⟩:=du h
 intro u hu
 simp only [OG,mn] at hu
 rcases hu with rfl | rfl | rfl | rfl | rfl | rfl | rfl | rfl | rfl | rfl | rfl<;>first | rfl | exact h1
theorem hF {M:aS}{r:Rel}{cs:List Value}(h:gU M r cs):∃ ca cn s1 a1 n1 a2 n2 a3 n3,cs=[st r.name,.slice ca r.cols.length cn,.bool r.view,.int .i64 r.plan.k,.int .i64 r.plan.n,.int .i64 r.plan.x.k,.int .i64 r.plan.x.v.k,.int .i64 r.plan.x.v.n,st r.plan.x.v.t,.int .i64 r.plan.x.c,s1,.slice a1 r.plan.xs.length n1,.slice a2 r.plan.ags.length n2,.slice a3 r.plan.kids.length n3]/\
 s1.oneCell'=true/\RS M ua 2 r.cols (.slice ca r.cols.length cn)/\gR M r.plan (OG r.plan s1 (.slice a1 r.plan.xs.length n1) (.slice a2 r.plan.ags.length n2) (.slice a3 r.plan.kids.length n3)):=by
 obtain ⟨c,p,h1,h2,rfl⟩:=h
 obtain ⟨_,ca,cn,rfl,_⟩:=ax (by decide) (fun _ _=>fQ) h1
 obtain ⟨s1,a1,n1,a2,n2,a3,n3,rfl,iX,_⟩:=du h2
 exact ⟨ca,cn,s1,a1,n1,a2,n2,a3,n3,rfl,iX,h1,h2⟩
theorem CP {M:aS}{b o:Nat}{v0 v1 v2 v3 v4 v5 v6 v7 v8 v9 v10 v11 v12 v13:Value}(h:At M b o [v0,v1,v2,v3,v4,v5,v6,v7,v8,v9,v10,v11,v12,v13]):aN M ⟨b,o,none⟩=some v0/\aN M ⟨b,o+1,none⟩=some v1/\aN M ⟨b,o+2,none⟩=some v2/\aN M ⟨b,o+3,none⟩=some v3/\aN M ⟨b,o+4,none⟩=some v4/\aN M ⟨b,o+5,none⟩=some v5/\aN M ⟨b,o+6,none⟩=some v6/\aN M ⟨b,o+7,none⟩=some v7/\aN M ⟨b,o+8,none⟩=some v8/\aN M ⟨b,o+9,none⟩=some v9/\aN M ⟨b,o+10,none⟩=some v10/\aN M ⟨b,o+11,none⟩=some v11/\aN M ⟨b,o+12,none⟩=some v12/\aN M ⟨b,o+13,none⟩=some v13:=by
 obtain ⟨h0,h1,h2,h3,h4,h5,h6,h7,h8,h9,DX,Y2,ep,te,_⟩:=h
 exact ⟨h0,h1,h2,h3,h4,h5,h6,h7,h8,h9,DX,Y2,ep,te⟩
def aad (p:Pl)(v:Value)(M:aS):Prop:=∃ cs,v=.agg ⟨cs⟩/\gR M p cs
def afc (r:Pl×List Co)(v:Value)(M:aS):Prop:=∃ cs cv,v=.tuple ⟨[.agg ⟨cs⟩,cv]⟩/\gR M r.1 cs/\RS M ua 2 r.2 cv
theorem Vz (M:aS):gR M o9 [.int .i64 0,.int .i64 0,.int .i64 0,.int .i64 0,.int .i64 0,st [],.int .i64 0,.slice none 0 0,.slice none 0 0,.slice none 0 0,.slice none 0 0]:=
 j0.2 ⟨_,_,_,_,rfl,fB M,bu,bu,bu⟩
theorem SG (M:aS)(n:Nat):gR M (yu n) [.int .i64 1,.int .i64 (n:Int),.int .i64 0,.int .i64 0,.int .i64 0,st [],.int .i64 0,.slice none 0 0,.slice none 0 0,.slice none 0 0,.slice none 0 0]:=
 j0.2 ⟨_,_,_,_,rfl,fB M,bu,bu,bu⟩
theorem yZ (name:Bs)(n:Nat)(r:Rel)(l:List Rel):uc name n (r::l)=if r.name=name then some (if r.view=true then r.plan else yu n,r.cols) else uc name (if r.view=true then n else n+1) l:=rfl
theorem aa9 {M:aS}{bb:Nat}{rels:List Rel}{rv:Value}(name:Bs)(hr:RS M (gU M) 14 rels rv)(VD:M bb=some [rv])(T:Tm):
 bV Tryz.prog 194 [.pointer (some ⟨bb,0,none⟩),st name] T M [] [] (wF afc (rS rels name)) (rf (rS rels name)):=by
 obtain ⟨eZ,a,c,rfl,di,_,hg⟩:=ax (by decide) (fun _ _=>gV) hr
 have acq:uc name 0 rels=none ->rS rels name=.error 7:=fun h=>by unfold rS;rw [h]
 have Bf:∀ {x},uc name 0 rels=some x ->rS rels name=.ok x:=fun h=>by unfold rS;rw [h]
 refine az ahm rfl rfl ?_
 intro bi _
 simp +contextual only [go_sem,aD,sevalprocAttr,bg VD]
 intro b4 T4 eN fG iI
 refine aO rels.length 14 [(1,st name),(4,.pointer (some ⟨b4,0,none⟩)),(12,.slice a rels.length c),(13,.int .i64 (rels.length:Int))] (fun i e h=>∃ T' n,aF T4 T'/\h=⟨T',M,[(b4,[.int .i64 0,.int .i64 0,.int .i64 0,.int .i64 0,.int .i64 0,st [],.int .i64 0,.slice none 0 0,.slice none 0 0,.slice none 0 0,.slice none 0 0])],[]⟩/\e 6=.int .i64 ((n:Nat):Int)/\n<=i/\uc name n (rels.drop i)=uc name 0 rels) 0 (by omega) (by simp only [aE,go_sem,sevalprocAttr]) (by simp only [go_sem,sevalprocAttr]) ⟨T4,0,aF.rfl',rfl,by simp only [go_sem,sevalprocAttr],by omega,rfl⟩ ?_
 rintro i e h hi aG ht ⟨T1,n,dh,rfl,e6,hni,am⟩
 simp only [aE] at aG
 by_cases aL:i<rels.length
 ·obtain ⟨b',o',cs',rfl,bQ,dV⟩:=hg i rels[i] (gq aL)
  obtain ⟨ca,cn,s1,a1,n1,a2,n2,a3,n3,rfl,iX,eC,s9⟩:=hF dV
  obtain ⟨y0,y1,y2,y3,y4,y5,y6,y7,y8,y9,y10,y11,y12,y13⟩:=CP bQ
  have bK:rels.drop i=rels[i]::rels.drop (i+1):=dq aL
  rw [bK,yZ] at am
  have hT:=fG.trans dh
  by_cases hn:rels[i].name=name
  ·rw [if_pos hn] at am
   cases hv:rels[i].view with
   | true=>
    rw [hv,if_pos rfl] at am
    simp +contextual only [go_sem,aD,sevalprocAttr,aG,ht,aL,y0,y1,y2,y3,y4,y5,y6,y7,y8,y9,y10,y11,y12,y13,iX,hn,hv]
    intro b8 T8 px eB ni sH
    refine eG ⟨T,fun _=>none,[(b8,_)],[]⟩ (gx px) ?_
    simp +contextual only [go_sem,sevalprocAttr,aG,eN,iX,eB]
    exact ⟨gx px,ak (hT.trans ni) ⟨_,Bf am.symm,_,_,rfl,s9,eC⟩⟩
   | false=>
    rw [hv,if_neg (by decide)] at am
    simp +contextual only [go_sem,aD,sevalprocAttr,aG,ht,aL,y0,y1,y2,y3,y4,y5,y6,y7,y8,y9,y10,y11,y12,y13,iX,hn,hv]
    intro b8 T8 px eB ni sH
    refine eG ⟨T,fun _=>none,[(b8,_)],[]⟩ (gx px) ?_
    simp +contextual only [go_sem,sevalprocAttr,aG,eN,eB,e6]
    exact ⟨gx px,ak (hT.trans ni) ⟨_,Bf am.symm,_,_,rfl,SG M n,eC⟩⟩
  ·rw [if_neg hn] at am
   cases hv:rels[i].view with
   | true=>
    rw [hv,if_pos rfl] at am
    simp +contextual only [go_sem,aD,sevalprocAttr,aG,ht,aL,y0,y1,y2,y3,y4,y5,y6,y7,y8,y9,y10,y11,y12,y13,iX,hn,hv]
    intro b8 T8 px eB ni sH
    refine aR (al (aB ⟨rels.length - (i+1),by omega,rfl,i+1,by omega,rfl,?_,?_,T8,n,dh.trans ni,rfl,?_,by omega,am⟩))
    ·simp only [aE,aG,go_sem,sevalprocAttr]
    ·simp only [go_sem,sevalprocAttr,aA i (by omega)]
    ·simp only [e6,go_sem,sevalprocAttr]
   | false=>
    rw [hv,if_neg (by decide)] at am
    simp +contextual only [go_sem,aD,sevalprocAttr,aG,ht,aL,y0,y1,y2,y3,y4,y5,y6,y7,y8,y9,y10,y11,y12,y13,iX,hn,hv,e6]
    intro b8 T8 px eB ni sH
    refine aR (al (aB ⟨rels.length - (i+1),by omega,rfl,i+1,by omega,rfl,?_,?_,T8,n+1,dh.trans ni,rfl,?_,by omega,am⟩))
    ·simp only [aE,aG,go_sem,sevalprocAttr]
    ·simp only [go_sem,sevalprocAttr,aA i (by omega)]
    ·simp only [go_sem,sevalprocAttr,aA n (by omega)]
 ·have:i=rels.length:=by omega
  subst this
  rw [List.drop_length] at am
  simp +contextual only [go_sem,aD,sevalprocAttr,aG,ht,aL]
  exact uy (fG.trans dh) (acq am.symm)
theorem cO {M:aS}{p:Pl}{cs:List Value}(h:gR M p cs):∃ c0 c1 c2 c3 c4 c5 c6 c7 c8 c9 c10,cs=[c0,c1,c2,c3,c4,c5,c6,c7,c8,c9,c10]/\c0.oneCell'=true/\c1.oneCell'=true/\c2.oneCell'=true/\c3.oneCell'=true/\c4.oneCell'=true/\c5.oneCell'=true/\c6.oneCell'=true/\c7.oneCell'=true/\c8.oneCell'=true/\c9.oneCell'=true/\c10.oneCell'=true:=by
 obtain ⟨s1,a1,n1,a2,n2,a3,n3,rfl,h1,_⟩:=du h
 exact ⟨_,_,_,_,_,_,_,_,_,_,_,rfl,rfl,rfl,rfl,rfl,rfl,rfl,rfl,h1,rfl,rfl,rfl⟩
theorem jt {M:aS}{k n:Int}{x:Ex}{xs:List Ex}{ags:List Ag}{kids:List Pl}{s1 xv av s:Value}(hx:ij M x [.int .i64 x.k,.int .i64 x.v.k,.int .i64 x.v.n,st x.v.t,.int .i64 x.c,s1])(h2:RS M (ij M) 6 xs xv)(h3:RS M (AG M) 7 ags av)(h4:RS M (gR M) 11 kids s):
 gR M (.mk k n x xs ags kids) [.int .i64 k,.int .i64 n,.int .i64 x.k,.int .i64 x.v.k,.int .i64 x.v.n,st x.v.t,.int .i64 x.c,s1,xv,av,s]:=j0.2 ⟨_,_,_,_,rfl,hx,h2,h3,h4⟩
theorem kN {M:aS}{b:Nat}{p:Pl}{cs:List Value}(hb:M b=some cs)(hp:gR M p cs):RS M (gR M) 11 [p] (.slice (some ⟨b,0,none⟩) 1 1):=dB (fun _ _=>jo) hb (dj hp) rfl (by decide)
theorem tR {M:aS}{b:Nat}{p q:Pl}{cs ds:List Value}(hb:M b=some (cs++ds))(hp:gR M p cs)(hq:gR M q ds):RS M (gR M) 11 [p,q] (.slice (some ⟨b,0,none⟩) 2 2):=dB (fun _ _=>jo) hb ⟨cs,ds,rfl,hp,dj hq⟩ rfl (by decide)
theorem A0 {M:aS}{x:Ex}{p:Pl}{cs ds:List Value}(hx:ij M x cs)(hp:gR M p ds)(T:Tm):bV Tryz.prog 138 [.agg ⟨cs⟩,.agg ⟨ds⟩] T M [] [] (fun r M' _ _=>aad (oC x p) r M') aM:=by
 obtain ⟨s0,rfl,xh,o7⟩:=dF hx
 obtain ⟨s1,a1,n1,a2,n2,a3,n3,rfl,iX,_⟩:=du hp
 refine az afb rfl rfl ?_
 intro bi _
 simp +contextual only [go_sem,sevalprocAttr,xh]
 intro b2 T2 dN dy ei b3 T3 ii df fV gD b4 T4 eN eE fG iI b5 j6 ea
 exact aT fun he h5 _=>ak ((dy.trans fV).trans fG) ⟨_,rfl,jt (cJ he _ _ hx) bu bu (kN h5 (bA he _ _ hp))⟩
theorem CV {M:aS}{p:Pl}{ds:List Value}(hp:gR M p ds)(T:Tm):bV Tryz.prog 144 [.agg ⟨ds⟩] T M [] [] (fun r M' _ _=>aad (pW 11 p) r M') aM:=by
 obtain ⟨s1,a1,n1,a2,n2,a3,n3,rfl,iX,_⟩:=du hp
 refine az adG rfl rfl ?_
 intro bi _
 simp +contextual only [go_sem,sevalprocAttr]
 intro b2 T2 dN dy ei b3 T3 ii df fV gD b5 j6 ea
 exact aT fun he h5 _=>ak (dy.trans fV) ⟨_,rfl,jt (fB _) bu bu (kN h5 (bA he _ _ hp))⟩
theorem Xc {M:aS}{op:Int}{p q:Pl}{cs ds:List Value}(hp:gR M p cs)(hq:gR M q ds)(T:Tm):bV Tryz.prog 93 [.int .i64 op,.agg ⟨cs⟩,.agg ⟨ds⟩] T M [] [] (fun r M' _ _=>aad (XE op p q) r M') aM:=by
 obtain ⟨c0,c1,c2,c3,c4,c5,c6,c7,c8,c9,c10,rfl,hc⟩:=cO hp
 obtain ⟨d0,d1,d2,d3,d4,d5,d6,d7,d8,d9,d10,rfl,hd⟩:=cO hq
 unfold XE
 refine az F93 rfl rfl ?_
 intro bi _
 by_cases h1:op=1
 ·subst h1
  simp +contextual only [go_sem,aD,sevalprocAttr]
  intro b2 T2 dN dy ei b3 T3 ii df fV gD b4 T4 eN eE fG iI b5 j6 ea
  exact aT fun he h5 _=>ak ((dy.trans fV).trans fG) ⟨_,rfl,jt (fB _) bu bu (tR h5 (bA he _ _ hp) (bA he _ _ hq))⟩
 by_cases h2:op=2
 ·subst h2
  simp +contextual only [go_sem,aD,sevalprocAttr]
  intro b2 T2 dN dy ei b3 T3 ii df fV gD b4 T4 eN eE fG iI b5 j6 ea
  refine cZ adG.bd fun M1 he h5 bG=> ?_
  refine aI (CV (jt (k:=8) (n:=0) (fB _) bu bu (tR h5 (bA he _ _ hp) (bA he _ _ hq))) T4) ?_
  rintro r M2 bh aZ ⟨c2,rfl,h2⟩
  obtain ⟨e0,e1,e2,e3,e4,e5,e6,e7,e8,e9,e10,rfl,he⟩:=cO h2
  simp only [aJ] at aZ
  simp +contextual only [go_sem,sevalprocAttr,aZ,he]
  exact ak ((dy.trans fV).trans fG) ⟨_,rfl,h2⟩
 by_cases h4:op=4
 ·subst h4
  simp +contextual only [go_sem,aD,sevalprocAttr]
  intro b2 T2 dN dy ei b3 T3 ii df fV gD b4 T4 eN eE fG iI
  refine aX ?_
  simp +contextual only [go_sem,sevalprocAttr,dN,ii,df,eE]
  refine aI (CV hp T4) ?_
  rintro r M2 bh aZ ⟨_,rfl,h2⟩
  obtain ⟨e0,e1,e2,e3,e4,e5,e6,e7,e8,e9,e10,rfl,he⟩:=cO h2
  simp only [aJ] at aZ
  simp +contextual only [go_sem,sevalprocAttr]
  refine ⟨fu bh ⟨aZ.1,aZ.2.1,aZ.2.2.1,trivial⟩,?_⟩
  refine aI (CV (bA bh _ _ hq) T4) ?_
  rintro r M3 bE bB ⟨_,rfl,h3⟩
  obtain ⟨f0,f1,f2,f3,f4,f5,f6,f7,f8,f9,f10,rfl,hf⟩:=cO h3
  simp only [aJ] at bB
  simp +contextual only [go_sem,sevalprocAttr,bB,he,hf,df,eE]
  intro b5 j6 ea b6 pt gE
  refine cY (List.Perm.swap _ _ _) (aT fun xP h5 _=>aT fun pu h6 _=>ak ((dy.trans fV).trans fG) ⟨_,rfl,jt (fB _) bu bu (kN h6 (jt (fB _) bu bu ?_))⟩)
  exact tR (cs:=[e0,e1,e2,e3,e4,e5,e6,e7,e8,e9,e10]) (ds:=[f0,f1,f2,f3,f4,f5,f6,f7,f8,f9,f10]) (pu _ _ h5) (bA ((bE.trans xP).trans pu) _ _ h2) (bA (xP.trans pu) _ _ h3)
 ·simp +contextual only [go_sem,aD,sevalprocAttr,h1,h2,h4]
  intro b2 T2 dN dy ei b3 T3 ii df fV gD b4 T4 eN eE fG iI b5 j6 ea b6 pt gE
  refine cY (List.Perm.swap _ _ _) (aT fun xP h5 _=>aT fun pu h6 _=>ak ((dy.trans fV).trans fG) ⟨_,rfl,jt (fB _) bu bu (kN h6 (jt (fB _) bu bu ?_))⟩)
  exact tR (cs:=[c0,c1,c2,c3,c4,c5,c6,c7,c8,c9,c10]) (ds:=[d0,d1,d2,d3,d4,d5,d6,d7,d8,d9,d10]) (pu _ _ h5) (bA (xP.trans pu) _ _ hp) (bA (xP.trans pu) _ _ hq)
end Go.Proofs.YtmeeifechggoeaaGreatDoor
namespace Go.Proofs
open Go.Shelf
def Tryz.lays171_ren:Go.Shelf.Ren:=⟨fun | 171=>199 | 243=>231 | 246=>257 | 283=>288 | 284=>289 | 285=>290 | 286=>291 | 129=>311 | 317=>310 | 318=>312 | 319=>313 | 320=>314 | 337=>329 | 338=>330 | n=>n,fun | 3=>3 | 9=>9 | 2=>2 | 4=>4 | 171=>398 | 0=>0 | 53=>330 | 37=>146 | 5=>5 | 173=>401 | 212=>420 | 51=>353 | 20=>20 | 213=>421 | 46=>333 | 232=>444 | 233=>445 | n=>n,fun | 17=>5 | 18=>6 | 19=>7 | n=>n⟩
theorem Tryz.lays171:Go.Proofs.Lays.n171 Tryz.prog Tryz.lays171_ren:={
 mixed:=by kernel_rfl
 f129:=Tryz.func311.trans (congrArg some (by kernel_rfl))
 f171:=Tryz.func199.trans (congrArg some (by kernel_rfl))
 f243:=Tryz.func231.trans (congrArg some (by kernel_rfl))
 f246:=Tryz.func257.trans (congrArg some (by kernel_rfl))
 f283:=Tryz.func288.trans (congrArg some (by kernel_rfl))
 f284:=Tryz.func289.trans (congrArg some (by kernel_rfl))
 f285:=Tryz.func290.trans (congrArg some (by kernel_rfl))
 f286:=Tryz.func291.trans (congrArg some (by kernel_rfl))
 f317:=Tryz.func310.trans (congrArg some (by kernel_rfl))
 f318:=Tryz.func312.trans (congrArg some (by kernel_rfl))
 f319:=Tryz.func313.trans (congrArg some (by kernel_rfl))
 f320:=Tryz.func314.trans (congrArg some (by kernel_rfl))
 f337:=Tryz.func329.trans (congrArg some (by kernel_rfl))
 f338:=Tryz.func330.trans (congrArg some (by kernel_rfl))
 t0:=Tryz.underlying0
 a0:=Tryz.isAgg0
 z0:=Tryz.sizeOf0
 v0:=Tryz.zeroValue0
 t2:=Tryz.underlying2
 a2:=Tryz.isAgg2
 z2:=Tryz.sizeOf2
 v2:=Tryz.zeroValue2
 t3:=Tryz.underlying3
 a3:=Tryz.isAgg3
 z3:=Tryz.sizeOf3
 v3:=Tryz.zeroValue3
 t4:=Tryz.underlying4
 a4:=Tryz.isAgg4
 z4:=Tryz.sizeOf4
 v4:=Tryz.zeroValue4
 t5:=Tryz.underlying5
 a5:=Tryz.isAgg5
 z5:=Tryz.sizeOf5
 v5:=Tryz.zeroValue5
 t9:=Tryz.underlying9
 a9:=Tryz.isAgg9
 z9:=Tryz.sizeOf9
 v9:=Tryz.zeroValue9
 t20:=Tryz.underlying20
 a20:=Tryz.isAgg20
 z20:=Tryz.sizeOf20
 v20:=Tryz.zeroValue20
 t37:=Tryz.underlying146
 a37:=Tryz.isAgg146
 z37:=Tryz.sizeOf146
 v37:=Tryz.zeroValue146
 t46:=Tryz.underlying333
 a46:=Tryz.isAgg333
 z46:=Tryz.sizeOf333
 v46:=Tryz.zeroValue333
 t51:=Tryz.underlying353
 a51:=Tryz.isAgg353
 z51:=Tryz.sizeOf353
 v51:=Tryz.zeroValue353
 t53:=Tryz.underlying330
 a53:=Tryz.isAgg330
 z53:=Tryz.sizeOf330
 v53:=Tryz.zeroValue330
 t171:=Tryz.underlying398
 a171:=Tryz.isAgg398
 z171:=Tryz.sizeOf398
 v171:=Tryz.zeroValue398
 t173:=Tryz.underlying401
 a173:=Tryz.isAgg401
 z173:=Tryz.sizeOf401
 v173:=Tryz.zeroValue401
 t212:=Tryz.underlying420
 a212:=Tryz.isAgg420
 z212:=Tryz.sizeOf420
 v212:=Tryz.zeroValue420
 t213:=Tryz.underlying421
 a213:=Tryz.isAgg421
 z213:=Tryz.sizeOf421
 t232:=Tryz.underlying444
 a232:=Tryz.isAgg444
 z232:=Tryz.sizeOf444
 v232:=Tryz.zeroValue444
 t233:=Tryz.underlying445
 a233:=Tryz.isAgg445
 z233:=Tryz.sizeOf445
 v233:=Tryz.zeroValue445
 g17:=by kernel_rfl
 g18:=by kernel_rfl
 g19:=by kernel_rfl}
open Go.RowKit Go.Sort Go.Lib in
theorem Tryz.strconv_Itoa_small (i:Nat)(hi:i<100)(w:World):
 Calls Tryz.prog 199 #[.int .i64 i] w fun e w'=>e=.returned (.string ⟨(Lib.decDigits i).toArray⟩)/\w'=w:=Any.strconv_Itoa_small Tryz.lays171 i hi w
end Go.Proofs
namespace Go.Proofs.YtmeeifechggoeaaGreatDoor
open Go Vc
set_option maxRecDepth 10000
theorem QS:dm Tryz.prog 199=true:=by kernel_rfl
theorem PX {M:aS}(n:Nat)(hn:n<100)(T:Tm):bV Tryz.prog 199 [.int .i64 (n:Int)] T M [] [] (fun r M' _ _=>r=st (Lib.decDigits n)/\M'=M) aM:=by
 refine xp QS (fun w hw=>Calls.mono (Tryz.strconv_Itoa_small n hn w) ?_) T
 rintro e w' ⟨rfl,rfl⟩
 exact ⟨rfl,ke.rfl'⟩
theorem Ol (i:Nat)(h:i<50):(Lib.decDigits (i+1)).length<=20:=by rw [Lib.decDigits_length];exact Lib.nDigits_le20 _ (by omega)
theorem HV {M:aS}{x:It}{cs:List Value}(hx:Am M x cs)(i:Nat)(hi:i<50)(T:Tm):bV Tryz.prog 143 [.agg ⟨cs⟩,.int .i64 (i:Int)] T M [] [] (fun r _ _ _=>r=st (xA x i)) aM:=by
 obtain ⟨aw,rfl,_,h1⟩:=nw hx
 unfold xA
 refine az ahB rfl rfl ?_
 intro bi _
 have w1:=aA i (by omega)
 by_cases ha:x.as=[]
 ·by_cases hk:x.x.k=2
  ·simp +contextual only [go_sem,aD,sevalprocAttr,ha,hk]
   intro b2 T2 dN dy ei
   exact ak dy (by simp)
  ·simp +contextual only [go_sem,aD,sevalprocAttr,ha,hk,w1]
   intro b2 T2 dN dy ei
   refine aI (PX (i+1) (by omega) T2) ?_
   rintro r M1 aV _ ⟨rfl,rfl⟩
   have hd:(Lib.decDigits (i+1)).length<=20:=Ol i hi
   have hd2:1+(Lib.decDigits (i+1)).length<=9223372036854775807:=by omega
   simp +contextual only [go_sem,sevalprocAttr,hd2,uU]
   exact ak dy (by simp [ha,hk])
 ·simp +contextual only [go_sem,aD,sevalprocAttr,ha]
  intro b2 T2 dN dy ei
  exact ak dy (by simp)
theorem zV {c:Bs×Bs}{cs}(h:Hq c cs):∀ u∈cs,u.oneCell'=true:=by
 rw [h]
 intro u hu
 simp only [mn] at hu
 rcases hu with rfl | rfl<;>rfl
theorem Nq {M:aS}{names:List (Bs×Bs)}{lv:Value}(hl:RS M Hq 2 names lv)(ug:names=[] ->lv=.slice none 0 0)(bq:names.length<=16777216)(T:Tm):
 Vn Tryz.prog 195 [lv] T M [] [] 1 (fun v _ _ R'=>∃ a c xs,v=.slice a names.length c/\(names=[] ->v=.slice none 0 0)/\RL Hq names xs/\R'=[(v,187,2,xs)]) aM:=by
 refine ny ajt rfl rfl ?_
 intro bi _
 by_cases h0:names=[]
 ·subst h0
  rw [ug rfl]
  simp +contextual only [go_sem,aD,sevalprocAttr]
  exact eF (aQ aF.rfl' rfl rfl ⟨none,0,[],rfl,by simp,rfl,rfl⟩)
 ·obtain ⟨eZ,a,c,rfl,di,zw,gO⟩:=ax (by decide) (fun _ _=>qX) hl
  obtain ⟨p,hp⟩:∃ p,a=some p:=by
   cases names with
   | nil=>exact (h0 rfl).elim
   | cons x l=>obtain ⟨b,o,cs,h,_⟩:=gO 0 x rfl;exact ⟨_,h⟩
  subst hp
  obtain ⟨ys,J1,AA,Aw⟩:=jn (P:=Tryz.prog) Tryz.underlying182 (fun _ _=>qX) (fun _ _ h=>zV h) hl
  have dO:0<names.length:=List.length_pos_iff.2 h0
  simp +contextual only [go_sem,aD,sevalprocAttr]
  intro b hb
  refine l4 (n:=0) (xs:=[]) CF CZ (Aw _ _ _) rfl (by omega) (by simp only [List.length_nil];omega) ?_
  intro ra rm rc jc
  have jA:rm=names.length:=by simp only [List.length_nil] at jc;omega
  subst jA
  simp +contextual only [go_sem,sevalprocAttr]
  exact al (aQ aF.rfl' rfl rfl ⟨ra,rc,ys,rfl,fun h=>(h0 h).elim,AA,by simp⟩)
def RO (M:aS)(sc:Nat)(names:List (Bs×Bs)):Prop:=∃ lv,M sc=some [lv,.slice none 0 0,.pointer none,.pointer none]/\RS M Hq 2 names lv/\(names=[] ->lv=.slice none 0 0)
theorem RO.ext {M M':aS}(he:bm M M'){sc names}(h:RO M sc names):RO M' sc names:=by
 obtain ⟨lv,h1,h2,h3⟩:=h
 exact ⟨lv,he _ _ h1,aH he (fun _ _ h=>h) h2,h3⟩
def aeq (r:Pl×List (Bs×Bs))(v:Value)(M:aS):Prop:=∃ cs sc,v=.tuple ⟨[.agg ⟨cs⟩,.pointer (some ⟨sc,0,none⟩)]⟩/\gR M r.1 cs/\RO M sc r.2
theorem B3 {name:Bs}:∀ {rels:List Rel} {n:Nat} {r:Pl×List Co},uc name n rels=some r ->∃ x∈rels,r.2=x.cols
 | [],_,_,h=>by cases h
 | x::l,n,r,h=>by
  rw [yZ] at h
  split at h
  ·injection h with h;subst h;exact ⟨x,by simp,rfl⟩
  ·obtain ⟨y,hy,he⟩:=B3 h
   exact ⟨y,by simp [hy],he⟩
theorem Ck {name:Bs}{rels:List Rel}{r:Pl×List Co}(h:rS rels name=.ok r):∃ x∈rels,r.2=x.cols:=by
 unfold rS at h
 split at h
 ·rename_i y hy;injection h with h;subst h;exact B3 hy
 ·cases h
theorem Xg {F:Fi}{s:List Vc.Item}{e:dp}{ds:List Deferred}{dd:Option Nat}{N:Tm}{M:aS}{L:LL}{R:RR}{hv:Value}{td:List Bs}{el:TypeId}(x:Bs)(h:kT el 1 rj [] R hv td)(bq:td.length<=1000)
 (k:∀ M',bm M M' ->aJ M' L ->cy Tryz.prog F s (cI e dd (.bool (td.contains x))) ds ⟨N,M',L,R⟩ ⟨⟩):dx Tryz.prog F 118 [hv,.string (bs x)] dd s e ds ⟨N,M,L,R⟩ ⟨⟩:=by
 rcases h with ⟨rfl,rfl,rfl⟩ | ⟨a,c,xs,rfl,h3,rfl⟩
 ·refine aI (qw x bu N) ?_
  rintro v M1 aV bi rfl
  exact k M1 aV bi
 ·have key:∀ (L2:LL) (R2:RR),L2=L++[]++[] ->R2=[]++[(.slice a td.length c,el,1,xs)]++[] ->dx Tryz.prog F 118 [.slice a td.length c,.string (bs x)] dd s e ds ⟨N,M,L2,R2⟩ ⟨⟩:=by
   rintro _ _ rfl rfl
   refine gu L [] [] [] [_] [] (Ug (Q:=fun r=>r=.bool (td.contains x)) (by decide) aem.bd fun M' nj iG=>qw x ⟨by omega,xs,iG,h3⟩ N) ?_ (fun _ _ _ _ _ _ _ _ h=>h.elim)
   rintro v M1 L1 R1 aV hk hr bi ⟨rfl,rfl⟩
   have:L1=[]:=by simpa [aY] using hk
   subst this
   have k2:∀ (L2:LL) (R2:RR),L2=L ->R2=[(.slice a td.length c,el,1,xs)] ->cy Tryz.prog F s (cI e dd (.bool (td.contains x))) ds ⟨N,M1,L2,R2⟩ ⟨⟩:=by
    rintro _ _ rfl rfl
    exact k M1 aV (by simpa using bi)
   exact k2 _ _ (by simp) (by simp)
  exact key _ _ (by simp) (by simp)
theorem lM {F:Fi}{f:FuncId}{args:List Value}{dd:Option Nat}{s:List Vc.Item}{e:dp}{ds:List Deferred}{N:Tm}{M:aS}{L:LL}{R:RR}{post:eu}{pan:mX}(hc:Vn Tryz.prog f args N M [] [] 1 post pan)
 (hn:∀ v M' row,bm M M' ->aJ M' L ->post v M' [] [row] ->cy Tryz.prog F s (cI e dd v) ds ⟨N,M',L,row::R⟩ ⟨⟩)
 (hp:∀ ch M' row,bm M M' ->pan ch M' [] [row] ->F.pan ch e ds ⟨N,M',L,row::R⟩):dx Tryz.prog F f args dd s e ds ⟨N,M,L,R⟩ ⟨⟩:=by
 have nil:∀ {L':LL},aY L'=aY [] ->L'=[]:=fun h=>by simpa [aY] using h
 have one:∀ {R':RR},R'.length=1 ->∃ r,R'=[r]:=fun {R'} h=>by
  cases R' with
  | nil=>cases h
  | cons r l=>cases l with
   | nil=>exact ⟨r,rfl⟩
   | cons _ _=>simp at h
 exact Nx (F:=F) (s:=s) (e:=e) (ds:=ds) (dd:=dd) (N:=N) [] [] L [] [] R hc
  (fun v M' L' R' he hk hR bi hq=>by
   have h1:=nil hk
   subst h1
   obtain ⟨r,rfl⟩:=one hR
   exact hn v M' r he bi hq)
  (fun ch M' L' R' he hk hR bi hq=>by
   have h1:=nil hk
   subst h1
   obtain ⟨r,rfl⟩:=one hR
   exact hp ch M' r he hq)
def sN (names:List (Bs×Bs))(tb:Bs)(cols:List Co)(j:Nat):List (Bs×Bs):=names++(cols.take j).map fun c=>(tb,c.name)
theorem uG (names tb cols):sN names tb cols 0=names:=by simp [sN]
theorem Ux (names tb cols):sN names tb cols cols.length=names++cols.map fun c=>(tb,c.name):=by simp [sN]
theorem MW (names tb cols){j:Nat}(h:j<cols.length):sN names tb cols (j+1)=sN names tb cols j++[(tb,cols[j].name)]:=by
 unfold sN
 rw [List.take_succ_eq_append_getElem h,List.map_append,List.append_assoc];rfl
theorem FC (names tb cols){j:Nat}(h:j<=cols.length):(sN names tb cols j).length=names.length+j:=by
 simp [sN];omega
theorem xX (rels:List Rel)(s:So)(l:List So)(i:Nat)(p:Pl)(names:List (Bs×Bs))(td:List Bs):rQ rels (s::l) i p names td=match rS rels s.name with
 | .error e=> .error e
 | .ok q=>if td.contains (gB s)=true then .error 7 else
  if i=0 then rQ rels l 1 q.1 (names++q.2.map fun c=>(gB s,c.name)) (td++[gB s])
  else match mL (names++q.2.map fun c=>(gB s,c.name)) s.on with
   | .error e=> .error e
   | .ok x=>rQ rels l (i+1) (.mk (nR s.k) 0 x [] [] [p,q.1]) (if s.k=2\/s.k=5 then names++q.2.map fun c=>(gB s,c.name) else names) (td++[gB s]):=rfl
def K4:LL ->LL ->Prop
 | [],_=>True
 | (b,_)::l,L=>bf b L/\K4 l L
theorem LN {T0 T:Tm}{M M':aS}{L:LL}{R0 R:RR}(h:bm M M')(hn:aJ M' L):∀ (L1:LL),K4 L1 L ->fO ⟨T0,M,L,R0⟩ ⟨T,M',L1++L,R⟩
 | [],_=>fu h hn
 | (b,cs)::L1,ha=>by
  have ih:=LN (T0:=T0) (T:=T) (R0:=R0) (R:=R) h hn L1 ha.2
  intro a v hv
  have h1:=ih a v hv
  simp only [Sh.cell] at h1 hv ⊢
  cases hm:aN M' a with
  | some u=>rw [hm] at h1;exact h1
  | none=>
   rw [hm] at h1
   by_cases W7:a.block=b
   ·exfalso
    have Al:eD L a=none:=by
     have:∀ {L:LL},bf b L ->eD L a=none:=by
      intro L
      induction L with
      | nil=>intro _;rfl
      | cons p l ih=>
       obtain ⟨k,ds⟩:=p
       intro im
       rw [eD,if_neg (by rw [W7];exact im.1.1)]
       exact ih im.2
     exact this ha.1
    have hmo:aN M a=none:=by
     cases hm2:aN M a with
     | none=>rfl
     | some u=>rw [ay h hm2] at hm;cases hm
    rw [hmo,Al] at hv
    simp at hv
   ·simp only [List.cons_append]
    rw [eD,if_neg W7]
    exact h1
theorem Xj {T0 T:Tm}{M M':aS}{L:LL}{R0 R:RR}{b b':Nat}{cs cs':List Value}(h:bm M M')(hn:aJ M' L)(hb:bf b L)(C7:bf b' L):fO ⟨T0,M,L,R0⟩ ⟨T,M',(b,cs)::(b',cs')::L,R⟩:=LN h hn [(b,cs),(b',cs')] ⟨hb,C7,trivial⟩
def YQ (rels:List Rel)(l:List So)(M:aS)(T:Tm)(b4 b6:Nat)(i:Nat)(e:dp)(h:Sh):Prop:=∃ M' N' R hv sc p cs names td,bm M M'/\aF T N'/\M' b4=none/\M' b6=none/\gR M' p cs/\h=⟨N',M',[(b6,cs),(b4,[.int .i64 0,.int .i64 0,.int .i64 0,.int .i64 0,.int .i64 0,st [],.int .i64 0,.slice none 0 0,.slice none 0 0,.slice none 0 0,.slice none 0 0])],R⟩/\
 e 7=.pointer (some ⟨sc,0,none⟩)/\RO M' sc names/\e 8=hv/\kT 9 1 rj [] R hv td/\td.length=i/\names.length<=i*1048576/\rQ rels (l.drop i) i p names td=tW rels l
theorem X1 {M:aS}{bb:Nat}{rels:List Rel}{rv sv:Value}{l:List So}(hr:RS M (gU M) 14 rels rv)(VD:M bb=some [rv])(eC:∀ r∈rels,r.cols.length<=1048576)(hs:RS M (Gx M) 10 l sv)(bq:l.length<=16)
 (cB:∀ (j:Nat) (s:So),l[j]?=some s ->0<j ->(2<=s.k/\s.k<=5)/\D6 s.on) (T:Tm):
 bV Tryz.prog 137 [.pointer (some ⟨bb,0,none⟩),sv] T M [] [] (wF aeq (tW rels l)) (rf (tW rels l)):=by
 obtain ⟨eZ,a,c,rfl,di,_,hg⟩:=ax (by decide) (fun _ _=>oY) hs
 refine az aia rfl rfl ?_
 intro bi _
 simp +contextual only [go_sem,aD,sevalprocAttr]
 intro b4 T4 eN fG iI b6 T6 pt gE um CO b7 T7 mN jv BB Ja
 have hT:=(fG.trans um).trans BB
 refine bY l.length 22 [(0,.pointer (some ⟨bb,0,none⟩)),(1,.slice a l.length c),(4,.pointer (some ⟨b4,0,none⟩)),(6,.pointer (some ⟨b6,0,none⟩)),(20,.slice a l.length c),(21,.int .i64 (l.length:Int))]
  (YQ rels l M T b4 b6)
  0 (by omega) (by simp only [aE,go_sem,sevalprocAttr]) (by simp only [go_sem,sevalprocAttr]) (aT fun he h7 mw=>aB ⟨_,T7,[],_,b7,o9,_,[],[],he,hT,mw.2.1,mw.1,Vz _,rfl,(by simp only [go_sem,sevalprocAttr]),⟨_,h7,bu,fun _=>rfl⟩,(by simp only [go_sem,sevalprocAttr]),cV,rfl,by simp,rfl⟩) ?_
 rintro i e h hi aG ht ⟨M1,N1,R1,hv,sc,p,cs,names,td,aV,pw,n4,n6,hp,rfl,e7,NC,e8,bj,hhl,yF,am⟩
 simp only [aE] at aG
 by_cases aL:i<l.length
 ·obtain ⟨b',o',cs',rfl,bQ,dV⟩:=hg i l[i] (gq aL)
  obtain ⟨aw,rfl,hon,haw⟩:=MU dV
  obtain ⟨y0,y1,y2,y3,y4,y5,y6,y7,y8,y9⟩:=aif (bQ.ext aV)
  have bK:l.drop i=l[i]::l.drop (i+1):=dq aL
  rw [bK,xX] at am
  obtain ⟨c0,c1,c2,c3,c4,c5,c6,c7,c8,c9,c10,rfl,hc⟩:=cO hp
  simp +contextual only [go_sem,aD,sevalprocAttr,aG,ht,aL,y1]
  refine bT (aa9 (l[i]).name (aH aV (dP aV) hr) (aV _ _ VD) N1) ?_ ?_
  rotate_left
  ·rintro ch M2 bh aZ ⟨er,he,rfl⟩
   rw [he] at am
   exact mD pw am.symm
  rintro v M2 bh aZ ⟨⟨q,cols⟩,hq,qs,cv,rfl,hqp,lk⟩
  rw [hq] at am
  simp only at am hqp lk
  obtain ⟨d0,d1,d2,d3,d4,d5,d6,d7,d8,d9,d10,rfl,hd⟩:=cO hqp
  replace y0:=ay bh y0
  replace y1:=ay bh y1
  replace y2:=ay bh y2
  simp only [aJ] at aZ
  obtain ⟨_,ca,cc,rfl,_⟩:=ax (by decide) (fun _ _=>fQ) lk
  simp +contextual only [go_sem,sevalprocAttr,hd,y2]
  intro b11 T11 ajE KX WV aeL
  refine eU (fun e ds h=>ds=[]/\aE e [(0,.pointer (some ⟨bb,0,none⟩)),(1,.slice (some ⟨b',o',none⟩) l.length c),(4,.pointer (some ⟨b4,0,none⟩)),(6,.pointer (some ⟨b6,0,none⟩)),(20,.slice (some ⟨b',o',none⟩) l.length c),(21,.int .i64 (l.length:Int)),(22,.int .i64 (i:Nat)),(9,.int .i64 (i:Nat)),
   (7,.pointer (some ⟨sc,0,none⟩)),(8,hv),(10,.pointer (some ⟨b',o'+i*10,none⟩)),(11,.pointer (some ⟨b11,0,none⟩)),(12,.slice ca cols.length cc),(13,st (gB l[i]))]/\h=⟨T11,M2,[(b11,[d0,d1,d2,d3,d4,d5,d6,d7,d8,d9,d10]),(b6,[c0,c1,c2,c3,c4,c5,c6,c7,c8,c9,c10]),(b4,[.int .i64 0,.int .i64 0,.int .i64 0,.int .i64 0,.int .i64 0,st [],.int .i64 0,.slice none 0 0,.slice none 0 0,.slice none 0 0,.slice none 0 0])],R1⟩) (fun S' eY=> ?_) ?_
  ·by_cases Pk:l[i].as=[]
   ·simp +contextual only [go_sem,aD,sevalprocAttr,Pk,y1]
    refine eY _ _ _ ⟨rfl,?_,rfl⟩
    simp only [aE,aG,ht,e7,e8,gB,Pk,go_sem,sevalprocAttr]
   ·simp +contextual only [go_sem,aD,sevalprocAttr,Pk]
    refine eY _ _ _ ⟨rfl,?_,rfl⟩
    simp only [aE,aG,ht,e7,e8,gB,Pk,go_sem,sevalprocAttr]
  clear aG ht e7 e8
  rintro e ds h ⟨rfl,aG,rfl⟩
  simp only [aE] at aG
  simp +contextual only [go_sem,sevalprocAttr,aG]
  refine Xg (gB l[i]) bj (by omega) fun M3 bE bB=> ?_
  have ai7:=(aV.trans bh).trans bE
  simp only [aJ] at bB
  cases YP:td.contains (gB l[i]) with
  | true=>
   rw [YP,if_pos rfl] at am
   simp +contextual only [go_sem,aD,sevalprocAttr]
   exact uy (pw.trans WV) am.symm
  | false=>
  rw [YP,if_neg (by decide)] at am
  simp +contextual only [go_sem,aD,sevalprocAttr,aG]
  intro b3 ii df
  refine cA (Tryz.underlying63) G3 Ep (x:=gB l[i]) bj rfl (fun _ _=>ff) (by intro u hu;simp only [List.mem_singleton] at hu;subst hu;rfl) ii (by omega) (by decide) ?_
  intro sj R2 ek
  obtain ⟨lv,hsm,hsn,dS⟩:=NC.ext (bh.trans bE)
  simp +contextual only [go_sem,sevalprocAttr,aG,bg hsm]
  refine lM (Nq hsn dS (by omega) T11) ?_ (fun _ _ _ _ h=>h.elim)
  rintro v M4 row dD de ⟨va,vc,vxs,rfl,hvz,hvl,bP⟩
  simp only [List.cons.injEq,and_true] at bP
  subst bP
  simp only [aJ] at de
  simp +contextual only [go_sem,aD,sevalprocAttr,aG]
  intro b14 T14 S1 qA Wr ae3
  have Pc:=ai7.trans dD
  have hNN:=((pw.trans WV).trans Wr)
  obtain ⟨hcb,akg,hcg⟩:cols.length*2<=4398046511104/\cols.length<=cc/\∀ (i:Nat) (x:Co),cols[i]?=some x ->∃ b o cs,ca=some ⟨b,o,none⟩/\At M4 b (o+i*2) cs/\ua x cs:=by
   obtain ⟨h1,a',c',h2,h3,_,h4⟩:=ax (by decide) (fun _ _=>fQ) (aH (bE.trans dD) (fun _ _ h=>h) lk)
   injection h2 with h5 h6 h7
   subst h5 h7
   exact ⟨h1,h3,h4⟩
  have aen:cols.length<=1048576:=by
   obtain ⟨x,hx,hxc⟩:=Ck hq
   rw [show cols=x.cols from hxc]
   exact eC x hx
  have n14:M4 b14=none/\M4 b11=none/\M4 b6=none/\M4 b4=none:=⟨S1,de.2.1,de.2.2.1,de.2.2.2.1⟩
  obtain ⟨LV,hLV⟩:∃ LV:List (Nat×Value),LV=[(0,.pointer (some ⟨bb,0,none⟩)),(1,.slice (some ⟨b',o',none⟩) l.length c),(4,.pointer (some ⟨b4,0,none⟩)),(6,.pointer (some ⟨b6,0,none⟩)),(20,.slice (some ⟨b',o',none⟩) l.length c),(21,.int .i64 (l.length:Int)),(22,.int .i64 (i:Nat)),(9,.int .i64 (i:Nat)),
   (8,sj),(10,.pointer (some ⟨b',o'+i*10,none⟩)),(11,.pointer (some ⟨b11,0,none⟩)),(13,st (gB l[i])),(14,.pointer (some ⟨b14,0,none⟩)),(7,.pointer (some ⟨sc,0,none⟩)),(62,.slice ca cols.length cc),(63,.int .i64 (cols.length:Int))]:=⟨_,rfl⟩
  refine bY cols.length 64 LV
   (fun j e h=>∃ N' v xs,aF T14 N'/\(∃ a c,v=.slice a (sN names (gB l[i]) cols j).length c)/\((sN names (gB l[i]) cols j)=[] ->v=.slice none 0 0)/\RL Hq (sN names (gB l[i]) cols j) xs/\
    h=⟨N',M4,[(b14,[v,.slice none 0 0,.pointer none,.pointer none]),(b11,[d0,d1,d2,d3,d4,d5,d6,d7,d8,d9,d10]),(b6,[c0,c1,c2,c3,c4,c5,c6,c7,c8,c9,c10]),(b4,[.int .i64 0,.int .i64 0,.int .i64 0,.int .i64 0,.int .i64 0,st [],.int .i64 0,.slice none 0 0,.slice none 0 0,.slice none 0 0,.slice none 0 0])],(v,187,2,xs)::R2⟩)
   0 (by omega) (by rw [hLV];simp only [aE,aG,go_sem,sevalprocAttr]) (by simp only [go_sem,sevalprocAttr]) ?_ ?_
  ·refine cY (List.Perm.swap _ _ _) (al (aB ⟨T14,.slice va names.length vc,vxs,aF.rfl',⟨va,vc,?_⟩,?_,?_,rfl⟩))
   ·rw [uG]
   ·rw [uG];exact hvz
   ·rw [uG];exact hvl
  ·rintro j e h hj ec Qk ⟨N5,v,xs,sd,⟨wa,wc,rfl⟩,hwz,AJ,rfl⟩
   rw [hLV] at ec
   simp only [aE] at ec
   by_cases tz:j<cols.length
   ·obtain ⟨bc,oc,cc',rfl,UF,hrc⟩:=hcg j cols[j] (gq tz)
    unfold ua at hrc
    subst hrc
    obtain ⟨z0,z1⟩:=At2 UF
    simp +contextual only [go_sem,aD,sevalprocAttr,ec,Qk,tz,z0,z1]
    intro b16 T16 Pa KS ahk alw
    refine aX ?_
    simp +contextual only [go_sem,sevalprocAttr,ec,Pa,KS,n14]
    intro b17 ahD pN
    have iH:=eL (fun _ _=>qX) AJ
    have cM:=FC names (gB l[i]) cols (Nat.le_of_lt tz)
    refine ⟨dK bm.rfl' ⟨Pa,n14.1,n14.2.1,n14.2.2.1,n14.2.2.2,trivial⟩ ⟨pN.1,pN.2.1,pN.2.2.1,pN.2.2.2.1,pN.2.2.2.2,trivial⟩,?_⟩
    refine gL CF CZ (.slice _ 1 _ _ _ Tryz.underlying182 (cD [] ahD trivial rfl) (zV (c:=(gB l[i],cols[j].name)) rfl)) (by rw [iH,cM];simp only [ln];omega) ?_
    intro ra rm rc jc
    have gF:=MW names (gB l[i]) cols tz
    have jA:rm=(sN names (gB l[i]) cols (j+1)).length:=by
     rw [iH] at jc
     rw [gF,List.length_append]
     simp only [ln] at jc ⊢
     omega
    subst jA
    simp +contextual only [go_sem,sevalprocAttr,Qk,KS,pN]
    refine ⟨dK bm.rfl' ⟨Pa,n14.1,n14.2.1,n14.2.2.1,n14.2.2.2,trivial⟩ ⟨pN.1,pN.2.1,pN.2.2.1,pN.2.2.2.1,pN.2.2.2.2,trivial⟩,?_⟩
    refine aR (al (al (aB ⟨cols.length - (j+1),by omega,rfl,j+1,by omega,rfl,?_,?_,T16,_,_,sd.trans ahk,⟨ra,rc,rfl⟩,?_,?_,rfl⟩)))
    ·rw [hLV]
     simp only [aE,ec,go_sem,sevalprocAttr]
    ·simp only [go_sem,sevalprocAttr,aA j (by omega)]
    ·intro h
     rw [gF] at h
     simp at h
    ·rw [gF]
     exact cP AJ (dj rfl)
   ·have Pb:j=cols.length:=by omega
    subst Pb
    have cM:=FC names (gB l[i]) cols (Nat.le_refl _)
    have YF:=Ux names (gB l[i]) cols
    have jN:(td++[gB l[i]]).length=i+1:=by rw [List.length_append,hhl];rfl
    have vv:∀ {N':Tm} {M5:aS} {e:dp} {p':Pl} {ps:List Value} {nm:List (Bs×Bs)} {sc':Nat},aF T N' ->bm M M5 ->M5 b4=none ->M5 b6=none ->gR M5 p' ps ->e 7=.pointer (some ⟨sc',0,none⟩) ->RO M5 sc' nm ->e 8=sj ->nm.length<=(i+1)*1048576 ->
     aE e [(0,.pointer (some ⟨bb,0,none⟩)),(1,.slice (some ⟨b',o',none⟩) l.length c),(4,.pointer (some ⟨b4,0,none⟩)),(6,.pointer (some ⟨b6,0,none⟩)),(20,.slice (some ⟨b',o',none⟩) l.length c),(21,.int .i64 (l.length:Int))] ->e 22=.int .i64 ((i+1:Nat):Int) ->
     rQ rels (l.drop (i+1)) (i+1) p' nm (td++[gB l[i]])=tW rels l ->
     cq ⟨N',M5,[(b6,ps),(b4,[.int .i64 0,.int .i64 0,.int .i64 0,.int .i64 0,.int .i64 0,st [],.int .i64 0,.slice none 0 0,.slice none 0 0,.slice none 0 0,.slice none 0 0])],R2⟩ fun h=>∃ m',m'<l.length - i/\LI [] l.length 22 [(0,.pointer (some ⟨bb,0,none⟩)),(1,.slice (some ⟨b',o',none⟩) l.length c),(4,.pointer (some ⟨b4,0,none⟩)),(6,.pointer (some ⟨b6,0,none⟩)),(20,.slice (some ⟨b',o',none⟩) l.length c),(21,.int .i64 (l.length:Int))] (YQ rels l M T b4 b6) m' e [] h:=by
     intro N' M5 e p' ps nm sc' h1 h2 h3 h4 h5 h6 h7 h8 h9 DX Y2 ep
     exact aB ⟨l.length - (i+1),by omega,rfl,i+1,by omega,rfl,DX,Y2,M5,N',R2,sj,sc',p',ps,nm,td++[gB l[i]],h2,h1,h3,h4,h5,rfl,h6,h7,h8,ek,jN,h9,ep⟩
    by_cases uu:i=0
    ·subst uu
     rw [if_pos rfl] at am
     simp +contextual only [go_sem,aD,sevalprocAttr,ec,Qk,tz,hd,n14,qA,KX]
     refine aR (cK (fun M5 dJ bR iG=>aT fun he ajp bU=>al (vv (hNN.trans sd) ((Pc.trans dJ).trans he) bU.2.2.1 bU.2.1 (bA (((bE.trans dD).trans dJ).trans he) _ _ hqp) ?_ ⟨_,ajp,⟨by omega,_,iG.ext he,AJ⟩,hwz⟩ ?_ (by omega) ?_ ?_ ?_)))
     ·simp only [go_sem,sevalprocAttr]
     ·simp only [ec,go_sem,sevalprocAttr]
     ·simp only [aE,ec,go_sem,sevalprocAttr]
     ·simp only [go_sem,sevalprocAttr];exact congrArg _ (by decide)
     ·rw [YF];exact am
    ·rw [if_neg uu] at am
     obtain ⟨aoj,aho⟩:=cB i l[i] (gq aL) (by omega)
     have abk:¬ ((i:Int)=0):=by omega
     replace y0:=ay (bE.trans dD) y0
     have Sm:(l[i].k=2/\nR l[i].k=4)\/(l[i].k=3/\nR l[i].k=5)\/(l[i].k=4/\nR l[i].k=6)\/(l[i].k=5/\nR l[i].k=7):=by
      have:l[i].k=2\/l[i].k=3\/l[i].k=4\/l[i].k=5:=by omega
      rcases this with h | h | h | h<;>rw [h]<;>simp [nR]
     have al8:∀ (kk:Int),l[i].k=kk ->nR l[i].k=nR kk:=fun kk h=>by rw [h]
     rcases Sm with ⟨hk,hj⟩ | ⟨hk,hj⟩ | ⟨hk,hj⟩ | ⟨hk,hj⟩
     all_goals
      simp +contextual only [go_sem,aD,sevalprocAttr,ec,Qk,tz,abk,y0,hk]
      intro g
      have Hf:∀ {M':aS},bm M4 M' ->aJ M' [(b11,[d0,d1,d2,d3,d4,d5,d6,d7,d8,d9,d10]),(b6,[c0,c1,c2,c3,c4,c5,c6,c7,c8,c9,c10]),(b4,[.int .i64 0,.int .i64 0,.int .i64 0,.int .i64 0,.int .i64 0,st [],.int .i64 0,.slice none 0 0,.slice none 0 0,.slice none 0 0,.slice none 0 0])] ->M' b11=none/\M' b6=none/\M' b4=none:=fun _ h=>⟨h.1,h.2.1,h.2.2.1⟩
      have hx0:At M4 b' (o'+i*10+3) [.int .i64 l[i].on.k,.int .i64 l[i].on.v.k,.int .i64 l[i].on.v.n,st l[i].on.v.t,st l[i].on.tab,st l[i].on.name,aw]:=(fz.1 (show At M4 b' (o'+i*10) ([.int .i64 l[i].k,st l[i].name,st l[i].as]++[.int .i64 l[i].on.k,.int .i64 l[i].on.v.k,.int .i64 l[i].on.v.n,st l[i].on.v.t,st l[i].on.tab,st l[i].on.name,aw]) from bQ.ext Pc)).2
      refine l5 (fun e ds h=>ds=[]/\aE e [(0,.pointer (some ⟨bb,0,none⟩)),(1,.slice (some ⟨b',o',none⟩) l.length c),(4,.pointer (some ⟨b4,0,none⟩)),(6,.pointer (some ⟨b6,0,none⟩)),(20,.slice (some ⟨b',o',none⟩) l.length c),(21,.int .i64 (l.length:Int))]/\e 22=.int .i64 (i:Nat)/\e 7=.pointer (some ⟨sc,0,none⟩)/\e 8=sj/\e 14=.pointer (some ⟨b14,0,none⟩)/\e 17=.int .i64 (nR l[i].k)/\
       ∃ M6 b20 x cs6,bm M4 M6/\M6 b4=none/\M6 b6=none/\M6 b20=none/\mL (names++cols.map fun c=>(gB l[i],c.name)) l[i].on=.ok x/\ij M6 x [.int .i64 x.k,.int .i64 x.v.k,.int .i64 x.v.n,st x.v.t,.int .i64 x.c,cs6]/\RO M6 b14 (names++cols.map fun c=>(gB l[i],c.name))/\
        h=⟨N5,M6,[(b20,[c0,c1,c2,c3,c4,c5,c6,c7,c8,c9,c10,d0,d1,d2,d3,d4,d5,d6,d7,d8,d9,d10]),(b11,[d0,d1,d2,d3,d4,d5,d6,d7,d8,d9,d10]),(b6,[.int .i64 (nR l[i].k),.int .i64 0,.int .i64 x.k,.int .i64 x.v.k,.int .i64 x.v.n,st x.v.t,.int .i64 x.c,cs6,.slice none 0 0,.slice none 0 0,.slice (some ⟨b20,0,none⟩) 2 2]),(b4,[.int .i64 0,.int .i64 0,.int .i64 0,.int .i64 0,.int .i64 0,st [],.int .i64 0,.slice none 0 0,.slice none 0 0,.slice none 0 0,.slice none 0 0])],R2⟩) (fun S' eY=> ?_) ?_
      ·refine eG ⟨T,M4,[(b11,[d0,d1,d2,d3,d4,d5,d6,d7,d8,d9,d10]),(b6,[c0,c1,c2,c3,c4,c5,c6,c7,c8,c9,c10]),(b4,[.int .i64 0,.int .i64 0,.int .i64 0,.int .i64 0,.int .i64 0,st [],.int .i64 0,.slice none 0 0,.slice none 0 0,.slice none 0 0,.slice none 0 0])],[]⟩ (by exact dK bm.rfl' ⟨n14.2.1,n14.2.2.1,n14.2.2.2,trivial⟩ ⟨qA.2.1,qA.2.2.1,qA.2.2.2,trivial⟩) ?_
       simp +contextual only [go_sem,sevalprocAttr,ec,n14,KX]
       have afa:∀ {M5 M6:aS},bm M4 M5 ->Sl M5 (.slice wa (sN names (gB l[i]) cols cols.length).length wc) 2 xs ->bm M5 M6 ->M6 b14=some [.slice wa (sN names (gB l[i]) cols cols.length).length wc,.slice none 0 0,.pointer none,.pointer none] ->RO M6 b14 (names++cols.map fun c=>(gB l[i],c.name)):=by
        intro M5 M6 xF iG h56 hb
        rw [<- YF]
        exact ⟨_,hb,⟨by omega,_,iG.ext h56,AJ⟩,hwz⟩
       have ET:∀ {M5:aS},bm M4 M5 ->RO M5 b14 (names++cols.map fun c=>(gB l[i],c.name)) ->bV Tryz.prog 103 [.pointer (some ⟨b14,0,none⟩),.pointer (some ⟨b',o'+i*10+3,none⟩)] N5 M5 [] [] (wF VX (mL (names++cols.map fun c=>(gB l[i],c.name)) l[i].on)) (rf (mL (names++cols.map fun c=>(gB l[i],c.name)) l[i].on)):=by
        rintro M5 xF ⟨lv5,h5,hn5,_⟩
        exact exB _ _ l[i].on (Nat.le_refl _) aho M5 N5 b14 lv5 _ _ b' _ _ hn5 h5 (hx0.ext xF) (bL (Pc.trans xF) _ _ hon)
       refine ⟨?_,?_⟩
       ·refine cL (k:=fun h'=>∃ M5,bm M4 M5/\RO M5 b14 (names++cols.map fun c=>(gB l[i],c.name))/\(M5 b11=none/\M5 b6=none/\M5 b4=none)/\h'=⟨N5,M5,[(b11,[d0,d1,d2,d3,d4,d5,d6,d7,d8,d9,d10]),(b6,[c0,c1,c2,c3,c4,c5,c6,c7,c8,c9,c10]),(b4,[.int .i64 0,.int .i64 0,.int .i64 0,.int .i64 0,.int .i64 0,st [],.int .i64 0,.slice none 0 0,.slice none 0 0,.slice none 0 0,.slice none 0 0])],R2⟩)
         (kY (cK fun M5 dJ bR iG=>aT fun he UG bU=>aB ⟨_,dJ.trans he,afa dJ iG he UG,Hf (dJ.trans he) bU,rfl⟩)) ?_ Xu.bd
        rintro h' ⟨M5,xF,US,n5,rfl⟩
        refine bT (ET xF US) ?_ ?_
        ·rintro r M6 eP bU ⟨x,hx,cs6,rfl,wV⟩
         obtain ⟨s6,rfl,YM,_⟩:=dF wV
         simp only [aJ] at bU
         simp +contextual only [go_sem,sevalprocAttr,ec,KX,YM]
         refine ⟨fu (xF.trans eP) ⟨bU.1,bU.2.1,bU.2.2.1,trivial⟩,?_⟩
         intro b20 sk gX
         refine eY _ _ _ ⟨rfl,?_,?_,?_,?_,?_,?_,M6,b20,x,s6,xF.trans eP,bU.2.2.1,bU.2.1,sk,hx,wV,US.ext eP,by rw [hj];rfl⟩
         ·simp only [aE,ec,go_sem,sevalprocAttr]
         ·simp only [ec,go_sem,sevalprocAttr]
         ·simp only [ec,go_sem,sevalprocAttr]
         ·simp only [ec,go_sem,sevalprocAttr]
         ·simp only [ec,go_sem,sevalprocAttr]
         ·rw [hj];simp only [go_sem,sevalprocAttr]
        ·rintro ch M6 eP bU ⟨er,he,rfl⟩
         rw [he] at am
         exact mD (hNN.trans sd) am.symm
       ·intro b20 sk gX
        refine ⟨Xj bm.rfl' ⟨n14.2.1,n14.2.2.1,n14.2.2.2,trivial⟩ ⟨gX.2.1,gX.2.2.1,gX.2.2.2,trivial⟩ ⟨qA.2.1,qA.2.2.1,qA.2.2.2,trivial⟩,?_⟩
        refine cL (k:=fun h'=>∃ M5,bm M4 M5/\RO M5 b14 (names++cols.map fun c=>(gB l[i],c.name))/\(M5 b20=none/\M5 b11=none/\M5 b6=none/\M5 b4=none)/\h'=⟨N5,M5,[(b20,[c0,c1,c2,c3,c4,c5,c6,c7,c8,c9,c10,d0,d1,d2,d3,d4,d5,d6,d7,d8,d9,d10]),(b11,[d0,d1,d2,d3,d4,d5,d6,d7,d8,d9,d10]),(b6,[c0,c1,c2,c3,c4,c5,c6,c7,c8,c9,c10]),(b4,[.int .i64 0,.int .i64 0,.int .i64 0,.int .i64 0,.int .i64 0,st [],.int .i64 0,.slice none 0 0,.slice none 0 0,.slice none 0 0,.slice none 0 0])],R2⟩)
         (kY (cK fun M5 dJ bR iG=>cY (List.Perm.swap _ _ _) (aT fun he UG bU=>aB ⟨_,dJ.trans he,afa dJ iG he UG,⟨bU.1,Hf (dJ.trans he) bU.2⟩,rfl⟩))) ?_ Xu.bd
        rintro h' ⟨M5,xF,US,n5,rfl⟩
        refine bT (ET xF US) ?_ ?_
        ·rintro r M6 eP bU ⟨x,hx,cs6,rfl,wV⟩
         obtain ⟨s6,rfl,YM,_⟩:=dF wV
         simp only [aJ] at bU
         simp +contextual only [go_sem,sevalprocAttr,ec,KX,gX,YM]
         refine ⟨dK (xF.trans eP) ⟨bU.2.1,bU.2.2.1,bU.2.2.2.1,trivial⟩ ⟨gX.2.1,gX.2.2.1,gX.2.2.2,trivial⟩,?_⟩
         refine eY _ _ _ ⟨rfl,?_,?_,?_,?_,?_,?_,M6,b20,x,s6,xF.trans eP,bU.2.2.2.1,bU.2.2.1,bU.1,hx,wV,US.ext eP,by rw [hj];rfl⟩
         ·simp only [aE,ec,go_sem,sevalprocAttr]
         ·simp only [ec,go_sem,sevalprocAttr]
         ·simp only [ec,go_sem,sevalprocAttr]
         ·simp only [ec,go_sem,sevalprocAttr]
         ·simp only [ec,go_sem,sevalprocAttr]
         ·rw [hj];simp only [go_sem,sevalprocAttr]
        ·rintro ch M6 eP bU ⟨er,he,rfl⟩
         rw [he] at am
         exact mD (hNN.trans sd) am.symm
      ·rintro e ds h ⟨rfl,tC,e22,e7,e8,e14,e17,M6,b20,x,s6,Vb,n4',n6',n20,hx,wV,aiu,rfl⟩
       rw [hx] at am
       simp only at am
       rw [hj] at e17
       simp only [aE] at tC
       have hMa:=((bh.trans bE).trans dD).trans Vb
       have hMb:=(bE.trans dD).trans Vb
       have Oj:∀ {M7:aS},bm M6 M7 ->M7 b20=some [c0,c1,c2,c3,c4,c5,c6,c7,c8,c9,c10,d0,d1,d2,d3,d4,d5,d6,d7,d8,d9,d10] ->gR M7 (.mk (nR l[i].k) 0 x [] [] [p,q]) [.int .i64 (nR l[i].k),.int .i64 0,.int .i64 x.k,.int .i64 x.v.k,.int .i64 x.v.n,st x.v.t,.int .i64 x.c,s6,.slice none 0 0,.slice none 0 0,.slice (some ⟨b20,0,none⟩) 2 2]:=by
        intro M7 he h20
        exact jt (cJ he _ _ wV) bu bu (tR (cs:=[c0,c1,c2,c3,c4,c5,c6,c7,c8,c9,c10]) (ds:=[d0,d1,d2,d3,d4,d5,d6,d7,d8,d9,d10]) h20 (bA (hMa.trans he) _ _ hp) (bA (hMb.trans he) _ _ hqp))
       by_cases dN:l[i].k=2\/l[i].k=5
       ·rw [if_pos dN] at am
        first
        | (exfalso;omega)
        | (simp +contextual only [go_sem,aD,sevalprocAttr,e17,e22,e14]
           refine aR (aT fun he h20 mw=>al (vv (hNN.trans sd) ((Pc.trans Vb).trans he) mw.2.2.1 mw.2.1 (Oj he h20) ?_ (aiu.ext he) ?_ (by rw [List.length_append,List.length_map];omega) ?_ ?_ am))
           ·simp only [go_sem,sevalprocAttr]
           ·simp only [e8,go_sem,sevalprocAttr]
           ·simp only [aE,tC,go_sem,sevalprocAttr]
           ·simp only [go_sem,sevalprocAttr,aA i (by omega)])
       ·rw [if_neg dN] at am
        first
        | (exfalso;omega)
        | (simp +contextual only [go_sem,aD,sevalprocAttr,e17,e22]
           refine aR (aT fun he h20 mw=>al (vv (hNN.trans sd) ((Pc.trans Vb).trans he) mw.2.2.1 mw.2.1 (Oj he h20) ?_ ((NC.ext hMa).ext he) ?_ (Nat.le_trans yF (Nat.mul_le_mul_right _ (Nat.le_succ i))) ?_ ?_ am))
           ·simp only [e7,go_sem,sevalprocAttr]
           ·simp only [e8,go_sem,sevalprocAttr]
           ·simp only [aE,tC,go_sem,sevalprocAttr]
           ·simp only [go_sem,sevalprocAttr,aA i (by omega)])
 ·have:i=l.length:=by omega
  subst this
  rw [List.drop_length] at am
  obtain ⟨c0,c1,c2,c3,c4,c5,c6,c7,c8,c9,c10,rfl,hc⟩:=cO hp
  simp +contextual only [go_sem,aD,sevalprocAttr,aG,ht,aL,hc,e7,n4,n6,gE]
  refine ak pw ⟨(p,names),am.symm,_,sc,rfl,hp,NC⟩
end Go.Proofs.YtmeeifechggoeaaGreatDoor
namespace Go.Proofs
open Go.Shelf
def Tryz.lays106_ren:Go.Shelf.Ren:=⟨fun | 106=>272 | 213=>301 | 265=>320 | n=>n,fun | 9=>9 | 3=>3 | n=>n,fun | n=>n⟩
theorem Tryz.lays106:Go.Proofs.Lays.n106 Tryz.prog Tryz.lays106_ren:={
 mixed:=by kernel_rfl
 f106:=Tryz.func272.trans (congrArg some (by kernel_rfl))
 f213:=Tryz.func301.trans (congrArg some (by kernel_rfl))
 f265:=Tryz.func320.trans (congrArg some (by kernel_rfl))
 t3:=Tryz.underlying3
 a3:=Tryz.isAgg3
 z3:=Tryz.sizeOf3
 v3:=Tryz.zeroValue3
 t9:=Tryz.underlying9
 a9:=Tryz.isAgg9
 z9:=Tryz.sizeOf9
 v9:=Tryz.zeroValue9}
open Go.RowKit in
theorem Tryz.strings_Compare (a b:ByteArray)(w:World):
 Calls Tryz.prog 272 #[.string a,.string b] w fun e w'=>e=.returned (.int .i64 (Lib.compareBytes a.data.toList b.data.toList))/\w'=w:=Any.strings_Compare Tryz.lays106 a b w
end Go.Proofs

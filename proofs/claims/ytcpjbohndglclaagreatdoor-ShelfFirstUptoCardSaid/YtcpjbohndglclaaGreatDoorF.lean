import Derived.Test.YtcpjbohndglclaaGreatDoorE
import Derived.Test.YtcpjbohndglclaaGreatDoorC
import Derived.Test.YtcpjbohndglclaaGreatDoorD
import Derived.Shelf.Strings.Builder1
import Derived.Shelf.Small.Bits
import Derived.Shelf.Small.Strs
import Derived.Shelf.Strconv.Itoa0
import Derived.Shelf.Strconv.Itoa1
import Derived.Shelf.LaysM
import Derived.Shelf.Strconv.Itoa2
import Derived.Shelf.Strconv.Itoa3
import Derived.Shelf.Strconv.ParseIntEmpty
import Derived.Shelf.Strconv.Clone
import Derived.Shelf.Strconv.SyntaxError
import Derived.Shelf.LaysC
import Derived.Shelf.Strconv.ToError
import Derived.Shelf.Strconv.Lower
import Derived.Shelf.Strconv.ParseUint10
import Derived.Shelf.Strconv.ParseUint10Empty
import Derived.Shelf.Strconv.ParseUint10Any
import Derived.Shelf.Strconv.ParseInt10
import Derived.Shelf.Strconv.RangeError
import Derived.Shelf.Strconv.ToErrorRange
import Derived.Shelf.Strconv.ParseUintEmpty
import Derived.Shelf.Strconv.ParseUint10b64
import Derived.Shelf.Strconv.ParseUint10b32
import Derived.Shelf.Strconv.ParseUint10b16
import Derived.Shelf.Strconv.ParseUint10b8
import Derived.Shelf.Strconv.ParseUint10At
import Derived.Shelf.Strconv.ParseInt10At64
import Derived.Shelf.Strconv.ParseInt10At32
import Derived.Shelf.Strconv.ParseInt10At16
import Derived.Shelf.Strconv.ParseInt10At8
import Derived.Shelf.Strconv.ParseInt10All
import Derived.Shelf.Strconv.ParseIntPublic10
import Derived.Shelf.Strings.Search1
import Derived.Shelf.Strings.Prefix
import Derived.Shelf.Strings.Fields
import Derived.Shelf.Strings.SplitShaped
import Derived.Shelf.Unicode.Latin
import Derived.Shelf.Unicode.Is16White
import Derived.Shelf.Unicode.IsSpaceAny
import Derived.Shelf.Unicode.Is16Any
import Derived.Shelf.Unicode.Is32Any
import Derived.Shelf.Unicode.ExclAny
import Derived.Ground.Names2Prog
import Derived.Shelf.Slices.Clone
import Derived.Shelf.Slices.SearchI
import Derived.Ground.SlgnProg
import Derived.Shelf.SlicesE.Clone
import Derived.Test.YtcpjbohndglclaaGreatDoorProg
import Derived.Lib.ItoaLen
import Derived.Test.YtcpjbohndglclaaGreatDoorB
set_option linter.all false
namespace Go.Proofs.YtcpjbohndglclaaGreatDoor
open Go Vc
set_option maxRecDepth 10000
def yg (t t':List Tk):Prop:=t.map (fun x=>(x.k,x.s))=t'.map (fun x=>(x.k,x.s))
theorem yg.rfl' {t:List Tk}:yg t t:=rfl
def yg.nil {t':List Tk}(h:yg [] t'):t'=[]:=by simpa [yg] using h.symm
def yg.cons {x:Tk}{t t':List Tk}(h:yg (x::t) t'):∃ x' t1,t'=x'::t1/\x'.k=x.k/\x'.s=x.s/\yg t t1:=by
 cases t' with
 | nil=>simp [yg] at h
 | cons x' t1=>
  simp only [yg,List.map_cons,List.cons.injEq,Prod.mk.injEq] at h
  exact ⟨x',t1,rfl,h.1.1.symm,h.1.2.symm,h.2⟩
def yg.tail {t t':List Tk}(h:yg t t'):yg t.tail t'.tail:=by
 cases t with
 | nil=>rw [h.nil];rfl
 | cons x t=>obtain ⟨x',t1,rfl,_,_,h⟩:=h.cons;exact h
theorem uK {t' u:List Tk}(h:t'≠[]):(t'++u).tail=t'.tail++u:=by
 cases t' with
 | nil=>exact (h rfl).elim
 | cons x t=>rfl
def yg.ne {t t':List Tk}(h:yg t t')(hn:t≠[]):t'≠[]:=by
 cases t with
 | nil=>exact (hn rfl).elim
 | cons x t=>obtain ⟨x',t1,rfl,_,_,h⟩:=h.cons;simp
def uz {r t:List Tk}(h:r.length<=t.length)(hr:r≠[]):t≠[]:=by
 rintro rfl
 exact hr (List.length_eq_zero_iff.1 (by simpa using h))
def jQ {s:Bs}{t t':List Tk}(h:yg t t'):bH s t'=bH s t:=by
 cases t with
 | nil=>rw [h.nil]
 | cons x t=>obtain ⟨x',t1,rfl,h1,h2,h⟩:=h.cons;simp only [bH,h1,h2]
theorem jP {s:Bs}{t' u:List Tk}(h:t'≠[]):bH s (t'++u)=bH s t':=by
 cases t' with
 | nil=>exact (h rfl).elim
 | cons x t=>rfl
def Aw {s:Bs}{t:List Tk}(h:bH s t=true):t≠[]:=by rintro rfl;cases h
def LK {l:List Bs}{t t':List Tk}(h:yg t t'):bE l t'=bE l t:=by
 induction l with
 | nil=>rfl
 | cons s l ih=>simp only [bE,jQ h,ih]
def LJ {l:List Bs}{t' u:List Tk}(h:t'≠[]):bE l (t'++u)=bE l t':=by
 induction l with
 | nil=>rfl
 | cons s l ih=>simp only [bE,jP h,ih]
def S9 {l:List Bs}{t:List Tk}{j:Nat}(h:bE l t=some j):t≠[]:=by
 rintro rfl
 induction l generalizing j with
 | nil=>cases h
 | cons s l ih=>
  simp only [bE,bH,Bool.false_eq_true,if_false,Option.map_eq_some_iff] at h
  obtain ⟨k,h,_⟩:=h
  exact ih h
def k9 {α:Type}(g h:List Tk ->Rs α):Prop:=∀ t t' u a r,yg t t' ->g t=.ok a r ->r.length<=t.length/\(r≠[] ->∃ r',yg r r'/\h (t'++u)=.ok a (r'++u))
def Loc {α:Type}(g:Int ->List Tk ->Rs α):Prop:=∀ en en',k9 (g en) (g en')
theorem hO {α:Type}{a:α}:k9 (fun t=> .ok a t) (fun t=> .ok a t):=by
 intro t t' u b r he h
 injection h with h1 h2;subst h1 h2
 exact ⟨Nat.le_refl _,fun _=>⟨t',he,rfl⟩⟩
def DZ {α:Type}{e:Int}{f g:List Tk ->Int}:k9 (fun t=>(.err e (f t):Rs α)) (fun t=> .err e (g t)):=by
 intro t t' u b r he h;cases h
def cM {α β:Type}{g g':List Tk ->Rs α}{f f':α ->List Tk ->Rs β}(hg:k9 g g')(hf:∀ a,k9 (f a) (f' a)):k9 (fun t=>(g t).bind (f)) (fun t=>(g' t).bind f'):=by
 intro t t' u b r he h
 have h:(g t).bind f=.ok b r:=h
 cases DN:g t with
 | err e a=>rw [DN] at h;cases h
 | out=>rw [DN] at h;cases h
 | ok a t1=>
  rw [DN] at h
  have h2:f a t1=.ok b r:=h
  obtain ⟨l1,n1⟩:=hg t t' u a t1 he DN
  obtain ⟨l2,_⟩:=hf a t1 t1 u b r rfl h2
  refine ⟨Nat.le_trans l2 l1,fun hr=> ?_⟩
  obtain ⟨t1',e1,qW⟩:=n1 (uz l2 hr)
  obtain ⟨_,n2⟩:=hf a t1 t1' u b r e1 h2
  obtain ⟨r',e2,I6⟩:=n2 hr
  refine ⟨r',e2,?_⟩
  show (g' (t'++u)).bind f'=_
  rw [qW];exact I6
def kH {α:Type}{s:Bs}{g g' k k':List Tk ->Rs α}(hg:k9 g g')(hk:k9 k k'):k9 (fun t=>if bH s t=true then g t.tail else k t) (fun t=>if bH s t=true then g' t.tail else k' t):=by
 intro t t' u b r he h
 simp only at h
 by_cases hs:bH s t=true
 ·rw [if_pos hs] at h
  have cm:=Aw hs
  have kd:=he.ne cm
  obtain ⟨l1,n1⟩:=hg t.tail t'.tail u b r he.tail h
  refine ⟨Nat.le_trans l1 (by simp),fun hr=> ?_⟩
  obtain ⟨r',e1,h1⟩:=n1 hr
  refine ⟨r',e1,?_⟩
  simp only
  rw [if_pos (by rw [jP kd,jQ he];exact hs),uK kd]
  exact h1
 ·rw [if_neg hs] at h
  obtain ⟨l1,n1⟩:=hk t t' u b r he h
  refine ⟨l1,fun hr=> ?_⟩
  obtain ⟨r',e1,h1⟩:=n1 hr
  have kd:=he.ne (uz l1 hr)
  refine ⟨r',e1,?_⟩
  simp only
  rw [if_neg (by rw [jP kd,jQ he];exact hs)]
  exact h1
def LU {α:Type}{l:List Bs}{g g':Nat ->List Tk ->Rs α}{k k':List Tk ->Rs α}(hg:∀ j,k9 (g j) (g' j))(hk:k9 k k'):
 k9 (fun t=>match bE l t with | some j=>g j t.tail | none=>k t) (fun t=>match bE l t with | some j=>g' j t.tail | none=>k' t):=by
 intro t t' u b r he h
 simp only at h
 cases hs:bE l t with
 | some j=>
  rw [hs] at h
  have cm:=S9 hs
  have kd:=he.ne cm
  obtain ⟨l1,n1⟩:=hg j t.tail t'.tail u b r he.tail h
  refine ⟨Nat.le_trans l1 (by simp),fun hr=> ?_⟩
  obtain ⟨r',e1,h1⟩:=n1 hr
  refine ⟨r',e1,?_⟩
  simp only
  rw [LJ kd,LK he,hs,uK kd]
  exact h1
 | none=>
  rw [hs] at h
  obtain ⟨l1,n1⟩:=hk t t' u b r he h
  refine ⟨l1,fun hr=> ?_⟩
  obtain ⟨r',e1,h1⟩:=n1 hr
  have kd:=he.ne (uz l1 hr)
  refine ⟨r',e1,?_⟩
  simp only
  rw [LJ kd,LK he,hs]
  exact h1
def zN {α:Type}(c:Prop)[Decidable c]{g g' k k':List Tk ->Rs α}(hg:k9 g g')(hk:k9 k k'):k9 (fun t=>if c then g t else k t) (fun t=>if c then g' t else k' t):=by
 by_cases h:c
 ·simp only [if_pos h];exact hg
 ·simp only [if_neg h];exact hk
theorem fj:∀ (l:List Bs),Loc fun en=>cj en l
 | [],en,en'=>hO
 | s::l,en,en'=>kH (fj l en en') DZ
def Gp:Loc fun en=>iV en:=by
 intro en en' t t' u a r he h
 cases t with
 | nil=>cases h
 | cons x t=>
  obtain ⟨x',t1,rfl,h1,h2,he⟩:=he.cons
  simp only [iV] at h
  split at h
  ·rename_i hk
   split at h
   ·rename_i hn
    injection h with h3 h4;subst h3 h4
    refine ⟨by simp,fun _=>⟨t1,he,?_⟩⟩
    simp only [List.cons_append,iV,h1,h2,if_pos hk,if_pos hn]
   ·cases h
  ·cases h
def X6:Loc fun en=>xp en:=by
 have key:∀ (neg:Bool) (at0 at1 en en':Int),k9 (rI neg at0 en) (rI neg at1 en'):=by
  intro neg at0 at1 en en' t t' u a r he h
  cases t with
  | nil=>cases h
  | cons x t=>
   obtain ⟨x',t1,rfl,h1,h2,he⟩:=he.cons
   simp only [rI] at h
   split at h
   ·rename_i hk
    split at h
    ·cases h
    ·rename_i hn
     injection h with h3 h4;subst h3 h4
     refine ⟨by simp,fun _=>⟨t1,he,?_⟩⟩
     simp only [List.cons_append,rI,h1,h2,if_pos hk,if_neg hn]
   ·cases h
 intro en en' t t' u a r he h
 have h:rI (bH li t) (pm en t) en (if bH li t=true then t.tail else t)=.ok a r:=h
 by_cases hs:bH li t=true
 ·have cm:=Aw hs
  have kd:=he.ne cm
  have zz:bH li (t'++u)=true:=by rw [jP kd,jQ he];exact hs
  rw [if_pos hs,hs] at h
  obtain ⟨l1,n1⟩:=key true (pm en t) (pm en' (t'++u)) en en' t.tail t'.tail u a r he.tail h
  refine ⟨Nat.le_trans l1 (by simp),fun hr=> ?_⟩
  obtain ⟨r',e1,h1⟩:=n1 hr
  refine ⟨r',e1,?_⟩
  show rI _ _ _ _=_
  rw [if_pos zz,zz,uK kd]
  exact h1
 ·rw [if_neg hs] at h
  simp only [Bool.not_eq_true] at hs
  rw [hs] at h
  obtain ⟨l1,n1⟩:=key false (pm en t) (pm en' (t'++u)) en en' t t' u a r he h
  refine ⟨l1,fun hr=> ?_⟩
  obtain ⟨r',e1,h1⟩:=n1 hr
  have kd:=he.ne (uz l1 hr)
  have zz:bH li (t'++u)=false:=by rw [jP kd,jQ he];exact hs
  refine ⟨r',e1,?_⟩
  show rI _ _ _ _=_
  rw [zz,if_neg Bool.false_ne_true]
  exact h1
def qf {k:Int}{t t':List Tk}(h:yg t t'):jk k t'=jk k t:=by
 cases t with
 | nil=>rw [h.nil]
 | cons x t=>obtain ⟨x',t1,rfl,h1,h2,h⟩:=h.cons;simp only [jk,h1]
theorem qe {k:Int}{t' u:List Tk}(h:t'≠[]):jk k (t'++u)=jk k t':=by
 cases t' with
 | nil=>exact (h rfl).elim
 | cons x t=>rfl
def UT {t t' u:List Tk}(h:yg t t')(hn:t≠[]):CP (t'++u)=CP t:=by
 cases t with
 | nil=>exact (hn rfl).elim
 | cons x t=>obtain ⟨x',t1,rfl,h1,h2,h⟩:=h.cons;simp only [List.cons_append,CP,h2]
def Lx {k:Int}{t:List Tk}(h:jk k t=true):t≠[]:=by rintro rfl;cases h
def X7 {α β:Type}{f:α ->β}{g g':List Tk ->Rs α}(hg:k9 g g'):k9 (fun t=>(g t).map f) (fun t=>(g' t).map f):=by
 have h:=cM (f:=fun a t=> .ok (f a) t) (f':=fun a t=> .ok (f a) t) hg (fun a=>hO)
 have e:∀ (g:List Tk ->Rs α),(fun t=>(g t).map f)=fun t=>(g t).bind fun a t=> .ok (f a) t:=by
  intro g;funext t;cases g t<;>rfl
 rw [e,e];exact h
def OR:Loc fun en=>jI en:=by
 intro en en'
 refine kH hO (kH hO (kH hO ?_))
 have akS:=X7 (f:=fun n=>some (⟨3,n,[]⟩:V)) (X6 en en')
 intro t t' u a r he h
 simp only at h
 by_cases h1:bH li t=true\/jk 2 t=true
 ·rw [if_pos h1] at h
  have cm:t≠[]:=by rcases h1 with h1 | h1;exact Aw h1;exact Lx h1
  have kd:=he.ne cm
  obtain ⟨l1,n1⟩:=akS t t' u a r he h
  refine ⟨l1,fun hr=> ?_⟩
  obtain ⟨r',e1,h2⟩:=n1 hr
  refine ⟨r',e1,?_⟩
  simp only
  rw [if_pos (by rw [jP kd,jQ he,qe kd,qf he];exact h1)]
  exact h2
 ·rw [if_neg h1] at h
  by_cases h3:jk 3 t=true
  ·rw [if_pos h3] at h
   have cm:=Lx h3
   have kd:=he.ne cm
   injection h with h4 h5
   subst h4 h5
   refine ⟨by simp,fun hr=>⟨t'.tail,he.tail,?_⟩⟩
   simp only
   rw [if_neg (by rw [jP kd,jQ he,qe kd,qf he];exact h1),if_pos (by rw [qe kd,qf he];exact h3),UT he cm,uK kd]
  ·rw [if_neg h3] at h
   injection h with h4 h5
   subst h4 h5
   refine ⟨Nat.le_refl _,fun hr=>⟨t',he,?_⟩⟩
   have kd:=he.ne hr
   simp only
   rw [if_neg (by rw [jP kd,jQ he,qe kd,qf he];exact h1),if_neg (by rw [qe kd,qf he];exact h3)]
def acD {x:X}:Loc fun en=>fun t=>if bH AK t=true then (cj en [sy] t.tail).bind fun _ t=> .ok (nZ 3 [nZ 16 [x]]) t else (cj en [sy] t).bind fun _ t=> .ok (nZ 16 [x]) t:=fun en en'=>
 kH (g:=fun t=>(cj en [sy] t).bind fun _ t=> .ok (nZ 3 [nZ 16 [x]]) t) (cM (fj _ en en') fun _=>hO) (cM (fj _ en en') fun _=>hO)
def acA (en:Int)(x:X)(t:List Tk):isM en x t=if bH AK t.tail=true then (cj en [sy] t.tail.tail).bind fun _ t=> .ok (nZ 3 [nZ 16 [x]]) t else (cj en [sy] t.tail).bind fun _ t=> .ok (nZ 16 [x]) t:=by
 unfold isM
 by_cases h:bH AK t.tail=true
 ·simp only [if_pos h]
 ·simp only [if_neg h]
theorem zO {g g':List Tk ->Rs X}(hg:k9 g g')(l:Lvl):∀ (k k':Nat) (x:X),k<=k' ->k9 (ky g l k x) (ky g' l k' x)
 | 0,k',x,hk=>by intro t t' u a r he h;cases h
 | k+1,0,x,hk=>by omega
 | k+1,k'+1,x,hk=>by
  have:=LU (l:=l.signs) (g:=fun j t=>(g t).bind fun y t'=>if l.once=true then .ok (nZ (l.kind+j) [x,y]) t' else ky g l k (nZ (l.kind+j) [x,y]) t')
   (g':=fun j t=>(g' t).bind fun y t'=>if l.once=true then .ok (nZ (l.kind+j) [x,y]) t' else ky g' l k' (nZ (l.kind+j) [x,y]) t') (k:=fun t=> .ok x t) (k':=fun t=> .ok x t)
   (fun j=>cM hg fun y=>zN _ hO (zO hg l k k' _ (by omega))) hO
  have e:∀ (g:List Tk ->Rs X) (k:Nat),ky g l (k+1) x=fun t=>match bE l.signs t with
   | some j=>(fun j t=>(g t).bind fun y t'=>if l.once=true then .ok (nZ (l.kind+j) [x,y]) t' else ky g l k (nZ (l.kind+j) [x,y]) t') j t.tail
   | none=>(fun t=> .ok x t) t:=by
   intro g k;funext t
   rw [ky]
   cases bE l.signs t<;>rfl
  rw [e,e];exact this
def OQ {en en':Int}{ex ex':List Tk ->Rs X}(iL:k9 ex ex'):k9 (ny en ex) (ny en' ex'):=by
 refine cM (OR en en') fun v=> ?_
 cases v with
 | some v=>exact hO
 | none=>
  simp only
  refine kH (g:=fun t=>(ex t).bind fun x t=>(cj en [kL] t).bind fun _ t=> .ok x t) (cM iL fun x=>cM (fj _ en en') fun _=>hO) ?_
  refine kH (g:=fun t=>(cj en [aaa] t).bind fun _ t=>(ex t).bind fun a t=>(cj en [Z7] t).bind fun _ t=>(ex t).bind fun b t=>(cj en [Z5] t).bind fun _ t=>(ex t).bind fun c t=>(cj en [agV] t).bind fun _ t=> .ok (nZ 17 [a,b,c]) t)
   (cM (fj _ en en') fun _=>cM iL fun _=>cM (fj _ en en') fun _=>cM iL fun _=>cM (fj _ en en') fun _=>cM iL fun _=>cM (fj _ en en') fun _=>hO) ?_
  refine kH (g:=fun t=>(cj en [sk] t).bind fun _ t=>(ex t).bind fun a t=>(cj en [kM] t).bind fun _ t=>(ex t).bind fun b t=>(cj en [kL] t).bind fun _ t=> .ok (nZ 18 [a,b]) t)
   (cM (fj _ en en') fun _=>cM iL fun _=>cM (fj _ en en') fun _=>cM iL fun _=>cM (fj _ en en') fun _=>hO) ?_
  refine kH (g:=fun t=>(cj en [sk] t).bind fun _ t=>if bH As t=true then (cj en [kL] t.tail).bind fun _ t=> .ok (nZ 19 []) t else (ex t).bind fun a t=>(cj en [kL] t).bind fun _ t=> .ok (nZ 20 [a]) t)
   (cM (fj _ en en') fun _=>kH (g:=fun t=>(cj en [kL] t).bind fun _ t=> .ok (nZ 19 []) t) (cM (fj _ en en') fun _=>hO) (cM iL fun _=>cM (fj _ en en') fun _=>hO)) ?_
  refine LU (g:=fun i t=>(cj en [sk] t).bind fun _ t=>(ex t).bind fun a t=>(cj en [kL] t).bind fun _ t=> .ok (nZ (21+i) [a]) t) (fun i=>cM (fj _ en en') fun _=>cM iL fun _=>cM (fj _ en en') fun _=>hO) ?_
  exact cM (Gp en en') fun n=>kH (g:=fun t=>(iV en t).bind fun m t=> .ok (X.mk 2 ⟨0,0,[]⟩ n m []) t) (cM (Gp en en') fun m=>hO) hO
theorem LS:∀ (f n:Nat) (op:Int),Loc fun en=>ff en f n op
 | 0,n,op,en,en'=>by intro t t' u a r he h;cases h
 | f+1,n,op,en,en'=>by
  have ih:=LS f
  by_cases h7:n=7
  ·have e:∀ en,ff en (f+1) n op=ny en (fun t=>if op+1>100 then .err 4 (pm en t) else ff en f 0 (op+1) t):=by
    intro en;funext t;rw [ff,if_pos h7]
   show k9 (ff en (f+1) n op) (ff en' (f+1) n op)
   rw [e,e]
   exact OQ (zN _ DZ (ih 0 (op+1) en en'))
  by_cases h2:n=2
  ·have e:∀ en,ff en (f+1) n op=fun t=>if bH AK t=true then (fun t=>if op+1>100 then .err 4 (pm en t) else (ff en f 2 (op+1) t).bind fun x t=> .ok (nZ 3 [x]) t) t.tail else ff en f 3 op t:=by
    intro en;funext t;rw [ff,if_neg h7,if_pos h2]
   show k9 (ff en (f+1) n op) (ff en' (f+1) n op)
   rw [e,e]
   exact kH (zN _ DZ (cM (ih 2 (op+1) en en') fun x=>hO)) (ih 3 op en en')
  ·by_cases h3:n=3
   ·have e:∀ en,ff en (f+1) n op=fun t=>(ff en f (n+1) op t).bind fun x t=>if bH wIs t=true then (fun t=>if bH AK t=true then (cj en [sy] t.tail).bind fun _ t=> .ok (nZ 3 [nZ 16 [x]]) t else (cj en [sy] t).bind fun _ t=> .ok (nZ 16 [x]) t) t.tail
     else (fun t=>ky (ff en f (n+1) op) (ir n) (t.length+1) x t) t:=by
     intro en;funext t;rw [ff,if_neg h7,if_neg h2]
     congr 1;funext x t
     by_cases hi:bH wIs t=true
     ·rw [if_pos ⟨h3,hi⟩,if_pos hi,acA]
     ·rw [if_neg (fun h=>hi h.2),if_neg hi]
    show k9 (ff en (f+1) n op) (ff en' (f+1) n op)
    rw [e,e]
    refine cM (ih (n+1) op en en') fun x=>kH (acD en en') ?_
    intro t t' u a r he h
    have bu:t.length=t'.length:=by have:=congrArg List.length he;simpa [yg] using this
    exact zO (ih (n+1) op en en') (ir n) (t.length+1) ((t'++u).length+1) x (by rw [List.length_append];omega) t t' u a r he h
   ·have e:∀ en,ff en (f+1) n op=fun t=>(ff en f (n+1) op t).bind fun x t=>(fun t=>ky (ff en f (n+1) op) (ir n) (t.length+1) x t) t:=by
     intro en;funext t;rw [ff,if_neg h7,if_neg h2]
     congr 1;funext x t
     rw [if_neg (fun h=>h3 h.1)]
    show k9 (ff en (f+1) n op) (ff en' (f+1) n op)
    rw [e,e]
    refine cM (ih (n+1) op en en') fun x=> ?_
    intro t t' u a r he h
    have bu:t.length=t'.length:=by have:=congrArg List.length he;simpa [yg] using this
    exact zO (ih (n+1) op en en') (ir n) (t.length+1) ((t'++u).length+1) x (by rw [List.length_append];omega) t t' u a r he h
section
variable {en en':Int} {ex ex':List Tk ->Rs X}
end
theorem LX {g:List Tk ->Rs X}(hg:∀ t,g t≠ .out)(cX:∀ t a r,g t=.ok a r ->r.length<=t.length)(l:Lvl):∀ (k:Nat) (x:X) (t:List Tk),t.length<k ->ky g l k x t≠ .out
 | 0,x,t,h=>by omega
 | k+1,x,t,h=>by
  rw [ky]
  cases hi:bE l.signs t with
  | none=>simp
  | some j=>
   simp only
   cases DN:g t.tail with
   | out=>exact (hg _ DN).elim
   | err e a=>simp [Rs.bind]
   | ok y t'=>
    simp only [Rs.bind]
    split
    ·simp
    ·refine LX hg cX l k _ t' ?_
     have:=cX _ _ _ DN
     have cm:=S9 hi
     have:t.tail.length<t.length:=by
      cases t with
      | nil=>exact (cm rfl).elim
      | cons _ _=>simp
     omega
def TS {en:Int}{ex:List Tk ->Rs X}(iL:∀ t,ex t≠ .out)(t:List Tk):ny en ex t≠ .out:=by
 have hn:∀ {α:Type} {l t} {f:Unit ->List Tk ->Rs α},(∀ a t,f a t≠ .out) ->(cj en l t).bind f≠ .out:=fun h=>bB ei h
 have hx:∀ {α:Type} {t} {f:X ->List Tk ->Rs α},(∀ a t,f a t≠ .out) ->(ex t).bind f≠ .out:=fun h=>bB (iL _) h
 unfold ny
 refine bB CZ fun v t=> ?_
 cases v with
 | some v=>simp
 | none=>
  simp only
  split
  ·exact hx fun _ _=>hn fun _ _=>by simp
  split
  ·exact hn fun _ _=>hx fun _ _=>hn fun _ _=>hx fun _ _=>hn fun _ _=>hx fun _ _=>hn fun _ _=>by simp
  split
  ·exact hn fun _ _=>hx fun _ _=>hn fun _ _=>hx fun _ _=>hn fun _ _=>by simp
  split
  ·refine hn fun _ _=> ?_
   split
   ·exact hn fun _ _=>by simp
   ·exact hx fun _ _=>hn fun _ _=>by simp
  split
  ·exact hn fun _ _=>hx fun _ _=>hn fun _ _=>by simp
  ·refine bB jv fun _ _=> ?_
   split
   ·exact bB jv fun _ _=>by simp
   ·simp
def aaH {en:Int}{f n:Nat}{op:Int}{t:List Tk}{a r}(h:ff en f n op t=.ok a r):r.length<=t.length:=(LS f n op en en t t [] a r rfl h).1
theorem vh {en:Int}:∀ (f n:Nat) (op:Int),n<=7 ->op<=100 ->9*(101 - op)+8 - n<f ->∀ t,ff en f n op t≠ .out
 | 0,n,op,h1,h2,h3,t=>by omega
 | f+1,n,op,h1,h2,h3,t=>by
  rw [ff]
  split
  ·rename_i h7
   refine TS (fun t=> ?_) t
   split
   ·simp
   ·exact vh f 0 (op+1) (by omega) (by omega) (by omega) t
  split
  ·rename_i h7 I6
   split
   ·split
    ·simp
    ·exact bB (vh f 2 (op+1) (by omega) (by omega) (by omega) _) fun _ _=>by simp
   ·exact vh f 3 op (by omega) (by omega) (by omega) t
  ·rename_i h7 I6
   refine bB (vh f (n+1) op (by omega) h2 (by omega) t) fun x t=> ?_
   split
   ·unfold isM
    exact bB ei fun _ _=>by simp
   ·exact LX (fun t=>vh f (n+1) op (by omega) h2 (by omega) t) (fun t a r h=>aaH h) _ _ _ _ (by omega)
def exF (en:Int)(t:List Tk):Rs X:=wE en 1000 0 t
def aa6 {en:Int}(t:List Tk):exF en t≠ .out:=by
 unfold exF wE
 split
 ·simp
 ·exact vh 1000 0 (0+1) (by omega) (by omega) (by omega) t
section
variable {en:Int} {ex:List Tk ->Rs X}
def X5 (iL:∀ t,ex t≠ .out)(t:List Tk):Cg en ex t≠ .out:=by
 refine bB (iL t) fun x t=> ?_
 split
 ·exact bB jv fun _ _=>by simp
 ·simp
def CH (iL:∀ t,ex t≠ .out)(k:Int)(t:List Tk):mZ en ex k t≠ .out:=by
 refine bB jv fun n t=>bB ?_ fun a t=> ?_
 ·unfold asM;split
  ·exact jv
  ·simp
 ·split
  ·exact bB ei fun _ _=>bB (iL _) fun _ _=>by simp
  ·simp
theorem Gj (iL:∀ t,ex t≠ .out):∀ (lR:Nat) (t:List Tk),zK en ex lR t≠ .out
 | 0,t=>by
  rw [re]
  refine bB Gi fun k t=> ?_
  unfold vJ;split<;>simp
 | n+1,t=>by
  rw [re]
  refine bB Gi fun k t=> ?_
  unfold vJ
  split
  ·exact bB (CH iL k t) fun _ _=>bB (Gj iL n _) fun _ _=>by simp
  ·simp
def D8 (iL:∀ t,ex t≠ .out){w:Bs}{t:List Tk}:D7 ex w t≠ .out:=by
 unfold D7;split
 ·exact iL _
 ·simp
def UC (iL:∀ t,ex t≠ .out)(t:List Tk):xt en ex t≠ .out:=by
 refine bB ei fun _ t0=>bB ?_ fun items t=> ?_
 ·split
  ·simp
  ·exact oB (fun t=>X5 iL t)
 ·refine bB ei fun _ _=>bB (CH iL 1 _) fun _ _=>bB (Gj iL 3 _) fun _ _=>bB (D8 iL) fun _ _=>bB ?_ fun _ _=>bB (D8 iL) fun _ _=>by simp
  unfold acO;split
  ·exact bB ei fun _ _=>oB iL
  ·simp
theorem Hf (iL:∀ t,ex t≠ .out):∀ (lR:Nat) (k:Int) (t:List Tk),wY en ex lR k t≠ .out
 | 0,k,t=>by unfold wY;split<;>simp
 | n+1,k,t=>by
  rw [wY]
  split
  ·exact bB (UC iL t) fun _ _=>bB Mw fun k' t'=>bB (Hf iL n k' t') fun _ _=>by simp
  ·simp
def GW (iL:∀ t,ex t≠ .out)(t:List Tk):o8 en ex t≠ .out:=by
 refine bB (UC iL t) fun _ _=>bB Mw fun _ _=>bB (Hf iL 3 _ _) fun _ _=>bB ?_ fun _ _=>by simp
 unfold JV
 split
 ·refine bB ei fun _ _=>bB (oB iL) fun _ _=>bB ei fun _ _=>bB ?_ fun _ _=>by simp
  unfold acB
  refine bB LO fun _ _=> ?_
  split<;>simp
 ·simp
def YD (iL:∀ t,ex t≠ .out)(t:List Tk):qA en ex t≠ .out:=by
 unfold qA
 split
 ·split
  ·exact bB jv fun _ _=>bB ei fun _ _=>bB (GW iL _) fun _ _=>by simp
  ·exact bB ei fun _ _=>bB jv fun _ _=>bB ei fun _ _=>bB (oB fun _=>yE) fun _ _=>bB ei fun _ _=>by simp
 split
 ·exact bB ei fun _ _=>bB jv fun _ _=>bB ei fun _ _=>bB (oB fun _=>Mn) fun _ _=>by simp
 split
 ·exact bB ei fun _ _=>bB jv fun _ _=>bB (D8 iL) fun _ _=>by simp
 ·exact bB ei fun _ _=>bB (GW iL _) fun _ _=>by simp
end
def kP (en:Int):Nat ->List Tk ->Rs (List Stm)
 | lR,t=>if t=[] then .ok [] [] else match lR with
  | 0=> .err 5 (pm en t)
  | r+1=>(qA en (exF en) t).bind fun s t=>(cj en [Mq] t).bind fun _ t=>(kP en r t).bind fun l t=> .ok (s::l) t
def UK (en:Int)(lR:Nat)(t:List Tk):Rs (List Stm):=match lR with
 | 0=> .err 5 (pm en t)
 | r+1=>(qA en (exF en) t).bind fun s t=>(cj en [Mq] t).bind fun _ t=>(kP en r t).bind fun l t=> .ok (s::l) t
theorem Hm (en:Int)(lR:Nat)(t:List Tk)(h:t≠[]):kP en lR t=UK en lR t:=by
 cases lR<;>(rw [kP,if_neg h];rfl)
theorem Kj (en:Int)(lR:Nat):kP en lR []=.ok [] []:=by cases lR<;>rfl
def mY (s:Bs):List Stm×Int×Int:=match ru s with
 | .error x=>([],x.1,x.2)
 | .ok ts=>match kP s.length 60 ts with
  | .err e a=>([],e,a)
  | .out=>([],0,0)
  | .ok l _=>if (kS l).1≠0 then ([],(kS l).1,0) else (l,0,0)
theorem G4 {T dr ts post}:(Pe T dr ts post).ret=Uh T ts post:=(rfl)
theorem qw {T dr ts post}:(Pe T dr ts post).pan=Mg T post:=(rfl)
theorem Ee {T dr ts post}:(Pe T dr ts post).dr=dr:=(rfl)
def yh {T post}(ops:List Oper)(h:(ops.all fun o=>match o.dst with | some d=>d !=2 && d !=3 | none=>true)=true):wm (Mg T post) ops:=by
 intro o ho d hd ch e v ds h' hp
 have:=List.all_eq_true.1 h o ho
 rw [hd] at this
 simp at this
 obtain ⟨b2,b3,ag,er,a,h1,h2,h3,h4,h5,h6⟩:=hp
 unfold upd at h3 h4
 rw [if_neg (fun h=>this.1 h.symm)] at h3
 rw [if_neg (fun h=>this.2 h.symm)] at h4
 exact ⟨b2,b3,ag,er,a,h1,h2,h3,h4,h5,h6⟩
def Bn {M:aR}{x:Stm}{cs:List Value}(h:mD M x cs):∀ u∈cs,u.oneCell'=true:=by
 obtain ⟨c,q,r,w,h1,⟨p,o,g,q1,q2,q3,rfl⟩,h3,h4,rfl⟩:=h
 intro u hu
 simp only [nn,List.mem_cons] at hu
 rcases hu with rfl | rfl | rfl | rfl | rfl | rfl | rfl | rfl | rfl | hu
 ·rfl
 ·rfl
 ·exact (dy h1).1
 ·exact (dy q1).1
 ·exact (dy q2).1
 ·exact (dy q3).1
 ·rfl
 ·exact (dy h3).1
 ·rfl
 ·exact lG h4 u hu
def Ab (s:Bs):ep:=fun r M' _ _=>∃ sv,r=.tuple ⟨[sv,Xg (mY s).2.1 (mY s).2.2]⟩/\RS M' (mD M') 16 (mY s).1 sv
def uD {T N:Tm}{M:aR}{s:Bs}{A B:LL}{R:RR}{b2 b3:Nat}{v1 v2 v3:Value}{er a:Int}{ag:Array Value}{e:dx}(hr:mY s=([],er,a))(hT:aG T N)(DM:ag.toList=[])(e2:e 2=.pointer (some ⟨b2,0,none⟩))(e3:e 3=.pointer (some ⟨b3,0,none⟩)):
 Mg T (Ab s) (sf er a) e [rdD b2 b3 ag] ⟨N,M,A++(b3,[v2,v3])::(b2,[v1])::B,R⟩:=by
 refine ⟨b2,b3,ag,er,a,rfl,DM,e2,e3,rfl,gS A (bY (dk (L':=B++[(b2,[v1]),(b3,[v2,v3])]) ?_ (gS B (aC ⟨hT,rfl,⟨_,_,_,rfl⟩,?_⟩))))⟩
 ·refine List.Perm.trans (List.Perm.swap _ _ _) ?_
  exact List.perm_append_comm (l₁:=[(b2,[v1]),(b3,[v2,v3])])
 ·refine ⟨.slice none 0 0,?_,?_⟩
  ·rw [hr]
  ·rw [hr];exact bz
def qp {s:Bs}{M:aR}{L:LL}{R:RR}{l:List Stm}{er a:Int}{sv:Value}(hr:mY s=(l,er,a))(cH:RS M (mD M) 16 l sv):Ab s (.tuple ⟨[sv,.agg ⟨[.int .i64 er,.int .i64 a]⟩]⟩) M L R:=⟨sv,by rw [hr];rfl,by rw [hr];exact cH⟩
def KT {M:aR}(s:Bs)(hg:eS M):Ct Tryz.prog 11 [st s] M [] [] (Ab s) aM:=by
 intro T
 refine W6 F11.bd Tryz.func11 rfl (by rw [F11.nt];exact Nat.le_of_ble_eq_true rfl) (dr:=[(6,.take 1<| .take 0<| .eff 2 false (.eff 3 false (.eff 4 true (.eff 5 true (.done)<| .no)<| .no)<| .no)<| .no),(10,.take 0<| .take 1<| .take 2<| .eff 3 false (.eff 4 true (.done)<| .no)<| .no),(11,.take 0<| .take 1<| .eff 2 false (.eff 3 true (.done)<| .no)<| .no)]) (by kernel_rfl) F11.rs ?_
 rw [F11.rs]
 simp +contextual only [go_sem,sevalprocAttr]
 intro b2 T2 dO dA ef b3 T3 gK cZ fU gB
 have hT:=dA.trans fU
 have uu:ru s=ru s:=rfl
 refine bX (N8 s T3) ?_ ?_
 rotate_left
 ·rintro ch M1 aW bD ⟨er,a,lL,rfl⟩
  rw [qw]
  refine uD (A:=[]) (B:=[]) (by unfold mY;rw [lL]) hT rfl ?_ ?_
  ·simp only [go_sem,sevalprocAttr]
  ·simp only [go_sem,sevalprocAttr]
 rintro lv M1 aW bD ⟨ts,XX,hl⟩
 simp only [aJ,and_true] at bD
 have wL:mY s=match kP s.length 60 ts with
  | .err e a=>([],e,a)
  | .out=>([],0,0)
  | .ok l _=>if (kS l).1≠0 then ([],(kS l).1,0) else (l,0,0):=by unfold mY;rw [XX]<;>rfl
 obtain ⟨lo1,lo2⟩:=dy hl
 have lo2m:=lo2
 simp only [Value.cells] at lo2m
 simp +contextual only [go_sem,aD,sevalprocAttr,lo2m]
 intro pb T4 Zm ui fE ape
 generalize hen:(s.length:Int)=en at wL ⊢
 have lM:=hg.ext aW
 refine ⟨fun m e ds h=>(∃ ag,ds=[rdD b2 b3 ag]/\ag.toList=[])/\e 2=.pointer (some ⟨b2,0,none⟩)/\e 3=.pointer (some ⟨b3,0,none⟩)/\e 4=.pointer (some ⟨pb,0,none⟩)/\
  ∃ M' t lv' acc a c xs,m+acc.length=60/\bm M1 M'/\M' b3=none/\M' b2=none/\M' pb=none/\RS M' gQ 3 t lv'/\RL (mD M') acc xs/\(acc=[] ->a=none/\c=0)/\
   kP en 60 ts=(kP en m t).bind (fun l t=> .ok (acc++l) t)/\
   h=⟨T4,M',(b3,[.int .i64 0,.int .i64 0])::(b2,[.slice a acc.length c])::pL pb lv' en 0,[(.slice a acc.length c,60,16,xs)]⟩,
  dk (List.perm_append_comm (l₁:=[(pb,[lv,.int .i64 en,.int .i64 0])]) (l₂:=[(b3,_),(b2,_)])) (eF (aC ⟨60,⟨_,rfl,rfl⟩,?_,?_,?_,M1,ts,lv,[],none,0,[],rfl,bm.rfl',bD.1,bD.2,Zm,hl,rfl,fun _=>⟨rfl,rfl⟩,?_,rfl⟩)),?_⟩
 ·simp only [go_sem,sevalprocAttr]
 ·simp only [go_sem,sevalprocAttr]
 ·simp only [go_sem,sevalprocAttr]
 ·cases kP en 60 ts<;>rfl
 clear bD hl lo1 lo2 XX uu Zm
 rintro m e ds h ⟨⟨ag,rfl,DM⟩,e2,e3,e4,M2,t,lv1,acc,a,c,xs,hm,bh,n3,n2,np,hl,fq,us,am,rfl⟩
 have Sp:=hT.trans fE
 have agr:=eJ (fun _ _=>gb) fq
 rcases jH hl with ⟨rfl,ta,tc,rfl⟩ | ⟨tk,tr,tb,tof,tc,rfl,rfl,htc,h0,h1,h2⟩
 ·rw [Kj] at am
  simp only [Rs.bind,List.append_nil] at am
  rw [am] at wL
  simp only at wL
  simp +contextual only [go_sem,aD,sevalprocAttr,e2,e4,n2,np,cZ,ui]
  refine cD (k:=fun h'=>∃ M',bm M2 M'/\aJ M' ((b3,[.int .i64 0,.int .i64 0])::(b2,[.slice a acc.length c])::pL pb (.slice ta 0 tc) en 0)/\Sl M' (.slice a acc.length c) 16 xs/\h'=⟨T4,M',(b3,[.int .i64 0,.int .i64 0])::(b2,[.slice a acc.length c])::pL pb (.slice ta 0 tc) en 0,[]⟩)
   (cP fun M3 bG bC iR=>aC ⟨M3,bG,bC,iR,rfl⟩) ?_ F27.bd
  rintro h' ⟨M3,bG,bC,iR,rfl⟩
  have cH:RS M3 (mD M3) 16 acc (.slice a acc.length c):=⟨by omega,xs,iR,dl (fun x cs h=>eY bG _ _ h) fq⟩
  refine aF (Fq (lM.ext (bh.trans bG)) cH T4) ?_
  rintro v M4 dz de rfl
  simp only [aJ,aK] at de
  simp +contextual only [go_sem,sevalprocAttr,Xg]
  intro b5 T5 jz eg ko nq
  rw [dM]
  by_cases hw:(kS acc).1=0
  ·rw [if_neg (fun h=>h hw)] at wL
   simp +contextual only [go_sem,sevalprocAttr,Ee,qw,hw]
   refine ⟨yh _ rfl,aT ?_⟩
   simp +contextual only [go_sem,sevalprocAttr,G4,e2,e3,hw,de,eg,cZ]
   refine ⟨fW.refl _,b2,b3,ag,rfl,DM,?_⟩
   simp +contextual only [go_sem,sevalprocAttr,e2,e3,de,eg,cZ]
   exact ak (Sp.trans ko) (qp wL (aH dz (eY dz) cH))
  ·rw [if_pos hw] at wL
   simp +contextual only [go_sem,sevalprocAttr,Ee,qw,hw]
   refine ⟨yh _ rfl,eG ⟨T,fun _=>none,[(b5,_)],[]⟩ (gH jz) ?_⟩
   simp +contextual only [go_sem,sevalprocAttr,G4,e2,e3,hw,eg,cZ]
   refine ⟨gH jz,b2,b3,ag,rfl,DM,?_⟩
   simp +contextual only [go_sem,sevalprocAttr,e2,e3,de,eg,cZ]
   exact ak (Sp.trans ko) (qp wL bz)
 ·rw [Hm en m (tk::tr) (by simp)] at am
  have Jj:∀ {er ar:Int},kP en 60 ts=.err er ar ->mY s=([],er,ar):=fun h=>by rw [wL,h]
  cases m with
  | zero=>
   have ab0:(acc.length:Int)=60:=by omega
   have lL:kP en 60 ts=.err 5 (pm en (tk::tr)):=am
   simp +contextual only [go_sem,aD,sevalprocAttr,e2,e4,n2,np,cZ,ui,ab0]
   refine l4 [(b3,_),(b2,_)] hl ?_
   simp +contextual only [go_sem,sevalprocAttr]
   refine bX (gU 5 _ M2 T4) (fun _ _ _ _ h=>h.elim) ?_
   rintro ch M3 bG bC rfl
   rw [qw]
   refine uD (A:=[]) (Jj lL) Sp DM ?_ ?_
   ·simp only [e2,go_sem,sevalprocAttr]
   ·simp only [e3,go_sem,sevalprocAttr]
  | succ m=>
   have ab0:¬ (acc.length:Int)=60:=by omega
   simp only [UK,Rs.bind_assoc] at am
   simp +contextual only [go_sem,aD,sevalprocAttr,Ee,qw,e2,e4,n2,np,cZ,ui,ab0]
   refine ⟨yh _ rfl,eG ⟨T,fun _=>none,[(b2,[.slice a acc.length c])],[]⟩ ?_ ?_⟩
   ·exact jX [(b3,_)] n2 ⟨⟨cZ.2,cZ.1⟩,trivial⟩
   simp +contextual only [go_sem,sevalprocAttr,e2,e4]
   have xh:=lM.ext bh
   have cm:=YD (en:=en) (ex:=exF en) (fun t=>aa6 t) (tk::tr)
   have iL:Y5 en pb (exF en) 0:=KY (NM 1000) (by decide) (by decide)
   refine td [(b3,_),(b2,_)] (W7 xh hl iL cm T4) ?_ ?_
   rotate_left
   ·rintro er ar M3 lv' op' bG qZ
    refine uD (A:=[]) (Jj (by rw [am,qZ];rfl)) Sp DM ?_ ?_
    ·simp only [e2,go_sem,sevalprocAttr]
    ·simp only [e3,go_sem,sevalprocAttr]
   rintro v M3 x t2 lv2 bG bC qZ fD ⟨cs,rfl,hx⟩
   rw [qZ] at am
   simp only [Rs.bind] at am
   have cK:=gb hx
   simp only [nn,aJ,aK] at bC
   simp +contextual only [go_sem,sevalprocAttr,cK]
   refine ⟨jX [(b3,_)] bC.2.1 ⟨⟨cZ.2,cZ.1⟩,trivial⟩,?_⟩
   intro b8 pp eC
   refine ⟨jX [(b8,_),(b3,_)] bC.2.1 ⟨⟨eC.2.1.2,eC.2.1.1⟩,⟨cZ.2,cZ.1⟩,trivial⟩,?_⟩
   refine gX Mk L7 (.slice _ 1 _ _ _ Tryz.underlying42 (cF [] pp trivial (by rw [cK])) (Bn hx)) (by rw [cK,agr];omega) ?_
   intro ra rm rc jl
   have jm:rm=(acc++[x]).length:=by
    rw [cK,agr] at jl
    rw [List.length_append]
    simp only [ln]
    omega
   subst jm
   have fB:=cS (dl (fun x cs h=>eY bG _ _ h) fq) (dm hx)
   simp +contextual only [go_sem,sevalprocAttr,e2,e4,cZ,eC]
   intro b9 qY gY
   refine dh F26.bd fun M4 dz akt de=> ?_
   have kx:=aH dz (fun _ _ h=>h) fD
   have hsm:RS M4 rC 1 [Mq] (.slice (some ⟨b9,0,none⟩) 1 1):=dE (fun _ _=>fu) akt (kV [Mq]) rfl (by decide)
   refine td [(b8,_),(b3,_),(b2,_)] (vp kx hsm T4) ?_ ?_
   rotate_left
   ·rintro er ar M5 lv' op' dN jo
    refine uD (A:=[(b8,_)]) (Jj (by rw [am,jo];try rfl)) (Sp) DM ?_ ?_
    ·simp only [e2,go_sem,sevalprocAttr]
    ·simp only [e3,go_sem,sevalprocAttr]
   rintro v M5 u5 t5 lv5 dN bS jo iq rfl
   rw [jo] at am
   simp only at am
   simp only [nn,aJ,aK] at bS
   simp +contextual only [go_sem,sevalprocAttr]
   rw [eL]
   refine al (aC ⟨m,by omega,⟨ag,rfl,DM⟩,?_,?_,?_,M5,t5,lv5,acc++[x],ra,rc,xs++cs,?_,((bh.trans bG).trans dz).trans dN,bS.2.1,bS.2.2.1,bS.2.2.2,iq,?_,?_,?_,rfl⟩)
   ·simp only [e2,go_sem,sevalprocAttr]
   ·simp only [e3,go_sem,sevalprocAttr]
   ·simp only [e4,go_sem,sevalprocAttr]
   ·rw [List.length_append];simp only [ln];omega
   ·exact dl (fun x cs h=>eY (dz.trans dN) _ _ h) fB
   ·intro h;simp at h
   ·rw [am]
    cases kP en m t5<;>simp [Rs.bind]
open Go.ChangeMaps
open Go.ChangeShapes Go.WideShapes Go.ChangeAt Go.RowKit
set_option maxRecDepth 100000
theorem I2:Tryz.prog.globalNamed "strings.asciiSpace"=some 1:=by kernel_rfl
theorem I3:(Tryz.prog.globals[1]?).map (·.type)=some 325:=by kernel_rfl
def agP {W:World}{l:List (String×DataW Unit)}(hl:(l.filter fun x=>x.1== "strings.asciiSpace")=[("strings.asciiSpace",Lib.tabData .u8 Lib.asciiSpaceTab)])(h:laidMetH Tryz.prog l W):Lib.TabIs Tryz.prog W "strings.asciiSpace" .u8 Lib.asciiSpaceTab:=by
 have h1:=laidMetH.filter (fun x=>x.1== "strings.asciiSpace") h
 rw [hl] at h1
 have h1:laidMet Tryz.prog [("strings.asciiSpace",Lib.tabData .u8 Lib.asciiSpaceTab)] W:=h1
 exact Lib.tabIs_of_head (rest:=[]) I2 I3 Tryz.underlying325 (by kernel_rfl) (by kernel_rfl) (by kernel_rfl) h1
def OW {W:World}{name:String}{k:IntKind}{zs:List Int}{g:Nat}(hg:Tryz.prog.globalNamed name=some g)(h:Lib.TabIs Tryz.prog W name k zs):ms W g=some (zs.map fun z=>Value.int k z):=by
 unfold Lib.TabIs World.var? at h
 rw [hg] at h
 simp only [Option.bind_some] at h
 split at h
 ·rename_i cs t f hc
  injection h with h
  rw [zU hc,h]
 ·cases h
def Xh {W:World}{l:List (String×DataW Unit)}(h1:(l.filter fun x=>x.1== "strings.asciiSpace")=[("strings.asciiSpace",Lib.tabData .u8 Lib.asciiSpaceTab)])(hL:laidMetH Tryz.prog l W):eS (ms W):=by
 intro g hg
 obtain rfl:=Option.some.inj (I2.symm.trans hg)
 exact OW I2 (agP h1 hL)
set_option maxRecDepth 10000
theorem Ki:Hh Tryz.prog 27=some [1,1,2]:=by kernel_rfl
def aa4 (k n:Int)(t:ByteArray):iX Tryz.prog .eql 27 (.agg ⟨[.int .i64 k,.int .i64 n,.string t]⟩) (.agg ⟨[.int .i64 k,.int .i64 n,.string t]⟩)=some (.bool true):=by
 show (match Hh Tryz.prog 27 with | some ks=>(IV ks _ _).map Value.bool | none=>none)=_
 rw [Ki];simp [IV,Zc]
def acF (k n:Int)(t:ByteArray):iX Tryz.prog .neq 27 (.agg ⟨[.int .i64 k,.int .i64 n,.string t]⟩) (.agg ⟨[.int .i64 k,.int .i64 n,.string t]⟩)=some (.bool false):=by
 show (match Hh Tryz.prog 27 with | some ks=>(IV ks _ _).map fun r=>Value.bool (!r) | none=>none)=_
 rw [Ki];simp [IV,Zc]
def H6 {M:aR}{b o:Nat}{v0 v1 v2 v3 v4 v5 v6 v7 v8 v9 v10 v11 v12 v13 v14 v15 v16 v17 v18 v19 v20:Value}(h:At M b o [v0,v1,v2,v3,v4,v5,v6,v7,v8,v9,v10,v11,v12,v13,v14,v15,v16,v17,v18,v19,v20]):aN M ⟨b,o,none⟩=some v0/\aN M ⟨b,o+1,none⟩=some v1/\aN M ⟨b,o+2,none⟩=some v2/\aN M ⟨b,o+3,none⟩=some v3/\aN M ⟨b,o+4,none⟩=some v4/\aN M ⟨b,o+5,none⟩=some v5/\aN M ⟨b,o+6,none⟩=some v6/\aN M ⟨b,o+7,none⟩=some v7/\aN M ⟨b,o+8,none⟩=some v8/\aN M ⟨b,o+9,none⟩=some v9/\aN M ⟨b,o+10,none⟩=some v10/\aN M ⟨b,o+11,none⟩=some v11/\aN M ⟨b,o+12,none⟩=some v12/\aN M ⟨b,o+13,none⟩=some v13/\aN M ⟨b,o+14,none⟩=some v14/\aN M ⟨b,o+15,none⟩=some v15/\aN M ⟨b,o+16,none⟩=some v16/\aN M ⟨b,o+17,none⟩=some v17/\aN M ⟨b,o+18,none⟩=some v18/\aN M ⟨b,o+19,none⟩=some v19/\aN M ⟨b,o+20,none⟩=some v20:=
 ⟨h.1,h.2.1,h.2.2.1,h.2.2.2.1,h.2.2.2.2.1,h.2.2.2.2.2.1,h.2.2.2.2.2.2.1,h.2.2.2.2.2.2.2.1,h.2.2.2.2.2.2.2.2.1,h.2.2.2.2.2.2.2.2.2.1,h.2.2.2.2.2.2.2.2.2.2.1,h.2.2.2.2.2.2.2.2.2.2.2.1,h.2.2.2.2.2.2.2.2.2.2.2.2.1,h.2.2.2.2.2.2.2.2.2.2.2.2.2.1,h.2.2.2.2.2.2.2.2.2.2.2.2.2.2.1,h.2.2.2.2.2.2.2.2.2.2.2.2.2.2.2.1,h.2.2.2.2.2.2.2.2.2.2.2.2.2.2.2.2.1,h.2.2.2.2.2.2.2.2.2.2.2.2.2.2.2.2.2.1,h.2.2.2.2.2.2.2.2.2.2.2.2.2.2.2.2.2.2.1,h.2.2.2.2.2.2.2.2.2.2.2.2.2.2.2.2.2.2.2.1,h.2.2.2.2.2.2.2.2.2.2.2.2.2.2.2.2.2.2.2.2.1⟩
def ahW {M:aR}{b o:Nat}{v0 v1 v2 v3 v4 v5 v6 v7 v8 v9:Value}(h:At M b o [v0,v1,v2,v3,v4,v5,v6,v7,v8,v9]):aN M ⟨b,o,none⟩=some v0/\aN M ⟨b,o+1,none⟩=some v1/\aN M ⟨b,o+2,none⟩=some v2/\aN M ⟨b,o+3,none⟩=some v3/\aN M ⟨b,o+4,none⟩=some v4/\aN M ⟨b,o+5,none⟩=some v5/\aN M ⟨b,o+6,none⟩=some v6/\aN M ⟨b,o+7,none⟩=some v7/\aN M ⟨b,o+8,none⟩=some v8/\aN M ⟨b,o+9,none⟩=some v9:=
 ⟨h.1,h.2.1,h.2.2.1,h.2.2.2.1,h.2.2.2.2.1,h.2.2.2.2.2.1,h.2.2.2.2.2.2.1,h.2.2.2.2.2.2.2.1,h.2.2.2.2.2.2.2.2.1,h.2.2.2.2.2.2.2.2.2.1⟩
def At8 {M:aR}{b o:Nat}{v0 v1 v2 v3 v4 v5 v6 v7:Value}(h:At M b o [v0,v1,v2,v3,v4,v5,v6,v7]):aN M ⟨b,o,none⟩=some v0/\aN M ⟨b,o+1,none⟩=some v1/\aN M ⟨b,o+2,none⟩=some v2/\aN M ⟨b,o+3,none⟩=some v3/\aN M ⟨b,o+4,none⟩=some v4/\aN M ⟨b,o+5,none⟩=some v5/\aN M ⟨b,o+6,none⟩=some v6/\aN M ⟨b,o+7,none⟩=some v7:=
 ⟨h.1,h.2.1,h.2.2.1,h.2.2.2.1,h.2.2.2.2.1,h.2.2.2.2.2.1,h.2.2.2.2.2.2.1,h.2.2.2.2.2.2.2.1⟩
def Ql {M:aR}{s:Se}{cs:List Value}(h:HS M s cs):∃ ai aj af ag aw ah ap aq,cs=[.bool s.distinct,.bool s.star,.slice ai s.items.length aj,.slice af s.src.length ag,.bool s.hasW,.bool s.hasH,.int .i64 s.wh.k,.int .i64 s.wh.v.k,.int .i64 s.wh.v.n,st s.wh.v.t,st s.wh.tab,st s.wh.name,aw,.int .i64 s.hv.k,.int .i64 s.hv.v.k,.int .i64 s.hv.v.n,st s.hv.v.t,st s.hv.tab,st s.hv.name,ah,.slice ap s.group.length aq]/\RS M (AP M) 8 s.items (.slice ai s.items.length aj)/\RS M (EQ M) 10 s.src (.slice af s.src.length ag)/\
 RX M s.wh [.int .i64 s.wh.k,.int .i64 s.wh.v.k,.int .i64 s.wh.v.n,st s.wh.v.t,st s.wh.tab,st s.wh.name,aw]/\RX M s.hv [.int .i64 s.hv.k,.int .i64 s.hv.v.k,.int .i64 s.hv.v.n,st s.hv.v.t,st s.hv.tab,st s.hv.name,ah]/\RS M (RX M) 7 s.group (.slice ap s.group.length aq)/\aw.oneCell'=true/\ah.oneCell'=true:=by
 obtain ⟨i,f,w,hh,g,h1,h2,h3,h4,h5,rfl⟩:=h
 obtain ⟨_,ai,aj,rfl,_⟩:=ax (by decide) (fun _ _=>kU) h1
 obtain ⟨_,af,ag,rfl,_⟩:=ax (by decide) (fun _ _=>oK) h2
 obtain ⟨_,ap,aq,rfl,_⟩:=ax (by decide) (fun _ _=>dX) h5
 obtain ⟨aw,rfl,k1,_⟩:=bZ h3
 obtain ⟨ah,rfl,k2,_⟩:=bZ h4
 exact ⟨ai,aj,af,ag,aw,ah,ap,aq,rfl,h1,h2,h3,h4,h5,k1,k2⟩
def MY {M:aR}{s:So}{cs:List Value}(h:EQ M s cs):∃ aw,cs=[.int .i64 s.k,st s.name,st s.as,.int .i64 s.on.k,.int .i64 s.on.v.k,.int .i64 s.on.v.n,st s.on.v.t,st s.on.tab,st s.on.name,aw]/\RX M s.on [.int .i64 s.on.k,.int .i64 s.on.v.k,.int .i64 s.on.v.n,st s.on.v.t,st s.on.tab,st s.on.name,aw]/\aw.oneCell'=true:=by
 obtain ⟨c,h1,rfl⟩:=h
 obtain ⟨aw,rfl,k1,_⟩:=bZ h1
 exact ⟨aw,rfl,h1,k1⟩
def nL {M:aR}{s:It}{cs:List Value}(h:AP M s cs):∃ aw,cs=[.int .i64 s.x.k,.int .i64 s.x.v.k,.int .i64 s.x.v.n,st s.x.v.t,st s.x.tab,st s.x.name,aw,st s.as]/\RX M s.x [.int .i64 s.x.k,.int .i64 s.x.v.k,.int .i64 s.x.v.n,st s.x.v.t,st s.x.tab,st s.x.name,aw]/\aw.oneCell'=true:=by
 obtain ⟨c,h1,rfl⟩:=h
 obtain ⟨aw,rfl,k1,_⟩:=bZ h1
 exact ⟨aw,rfl,h1,k1⟩
def At2 {M:aR}{b o:Nat}{v0 v1:Value}(h:At M b o [v0,v1]):aN M ⟨b,o,none⟩=some v0/\aN M ⟨b,o+1,none⟩=some v1:=
 ⟨h.1,h.2.1⟩
def xC {M:aR}{b o:Nat}{v0:Value}(h:At M b o [v0]):aN M ⟨b,o,none⟩=some v0:=h.1
theorem fZ {c:Co}{cs}(h:tF c cs):cs.length=2:=by unfold tF at h;subst h;rfl
theorem tL {M:aR}{l:List V}{cs}(h:MZ M l cs):cs.length=1:=by obtain ⟨s,_,rfl⟩:=h;rfl
def nM {M:aR}{s:Stm}{cs:List Value}(h:mD M s cs):∃ ac ad ap aq ao an ar ae au av aw,cs=[.int .i64 s.k,st s.name,.slice ac s.cols.length ad,.slice ap s.q.parts.length aq,.slice ao s.q.ops.length an,.slice ar s.q.order.length ae,.int .i64 s.q.limit,.slice au s.rows.length av,.bool s.hasW,.int .i64 s.wh.k,.int .i64 s.wh.v.k,.int .i64 s.wh.v.n,st s.wh.v.t,st s.wh.tab,st s.wh.name,aw]/\RS M tF 2 s.cols (.slice ac s.cols.length ad)/\RQ M s.q [.slice ap s.q.parts.length aq,.slice ao s.q.ops.length an,.slice ar s.q.order.length ae,.int .i64 s.q.limit]/\
 RS M (MZ M) 1 s.rows (.slice au s.rows.length av)/\RX M s.wh [.int .i64 s.wh.k,.int .i64 s.wh.v.k,.int .i64 s.wh.v.n,st s.wh.v.t,st s.wh.tab,st s.wh.name,aw]/\aw.oneCell'=true:=by
 obtain ⟨c,qq,r,w,h1,h2,h3,h4,rfl⟩:=h
 obtain ⟨_,ac,ad,rfl,_⟩:=ax (by decide) (fun _ _=>fZ) h1
 obtain ⟨_,au,av,rfl,_⟩:=ax (by decide) (fun _ _=>tL) h3
 obtain ⟨aw,rfl,k1,_⟩:=bZ h4
 obtain ⟨p,o,rr,g1,g2,g3,rfl⟩:=h2
 obtain ⟨_,ap,aq,rfl,_⟩:=ax (by decide) (fun _ _=>lF) g1
 obtain ⟨_,ao,an,rfl,_⟩:=ax (by decide) (fun _ _=>cE) g2
 obtain ⟨_,ar,ae,rfl,_⟩:=ax (by decide) (fun _ _=>dX) g3
 exact ⟨ac,ad,ap,aq,ao,an,ar,ae,au,av,aw,rfl,h1,⟨_,_,_,g1,g2,g3,rfl⟩,h3,h4,k1⟩
theorem E7 {N:Tm}{M:aR}{L:LL}{R:RR}{b:Nat}:∀ (xs:List Value) (o i:Nat),At M b (o+i) xs ->Sh.cells ⟨N,M,L,R⟩ ⟨b,o,none⟩ i xs.length=some xs
 | [],o,i,h=>rfl
 | x::xs,o,i,h=>by
  rw [List.length_cons,sF,E7 xs o (i+1) h.2]
  have:Sh.cell ⟨N,M,L,R⟩ ⟨b,o+i,none⟩=some x:=by simp only [Sh.cell,h.1]
  rw [this];rfl
theorem KG {α:Type}{r:α ->List Value ->Prop}(hr:∀ x cs,r x cs ->∀ u∈cs,u.oneCell'=true):∀ {l xs},RL r l xs ->∀ u∈xs,u.oneCell'=true
 | [],xs,h,u,hu=>by have:xs=[]:=h;subst this;cases hu
 | x::l,xs,h,u,hu=>by
  obtain ⟨cs,rest,rfl,h1,h2⟩:=h
  rcases xY hu with hu | hu
  ·exact hr x cs h1 u hu
  ·exact KG hr h2 u hu
def gE {P:Program}{tx e':TypeId}{α:Type}{r:α ->List Value ->Prop}{sz:Nat}{M:aR}{l:List α}{v:Value}(hu:P.underlying tx=some (.slice e'))(ed:∀ x cs,r x cs ->cs.length=sz)(hr:∀ x cs,r x cs ->∀ u∈cs,u.oneCell'=true)(hs:RS M r sz l v):
 ∃ xs,xs.length=l.length*sz/\RL r l xs/\∀ N L R,Srcs P tx sz ⟨N,M,L,R⟩ v xs:=by
 obtain ⟨_,xs,h,hl⟩:=hs
 refine ⟨xs,eJ ed hl,hl,fun N L R=> ?_⟩
 rcases h with ⟨a,c,rfl,rfl,wH⟩ | ⟨b,o,n,c,rfl,cX,hn,ha⟩
 ·cases a with
  | none=>rw [wH rfl];exact .nil 0 e' hu
  | some a=>exact .slice a 0 c [] e' hu (by rw [Nat.zero_mul];rfl) (fun u hu=>by cases hu)
 ·refine .slice _ n c xs e' hu ?_ (KG hr hl)
  rw [<- hn]
  exact E7 xs o 0 ha
theorem cS {α:Type}{r:α ->List Value ->Prop}:∀ {l m:List α} {xs ys:List Value},RL r l xs ->RL r m ys ->RL r (l++m) (xs++ys)
 | [],m,xs,ys,h,h'=>by have:xs=[]:=h;subst this;exact h'
 | x::l,m,xs,ys,h,h'=>by
  obtain ⟨cs,rest,rfl,h1,h2⟩:=h
  exact ⟨cs,rest++ys,by rw [List.append_assoc],h1,cS h2 h'⟩
def kY {α:Type}(el:TypeId)(sz:Nat)(r:α ->List Value ->Prop)(R0 R:RR)(fv:Value)(acc:List α):Prop:=
 (acc=[]/\fv=.slice none 0 0/\R=R0)\/∃ a c xs,fv=.slice a acc.length c/\RL r acc xs/\R=(fv,el,sz,xs)::R0
section
variable {α:Type} {el:TypeId} {sz:Nat} {r:α ->List Value ->Prop} {R0 R:RR} {fv:Value} {acc:List α}
theorem cV:kY el sz r R0 R0 (.slice none 0 0) []:=.inl ⟨rfl,rfl,rfl⟩
theorem eI (h:kY el sz r R0 R fv acc):∃ a c,fv=.slice a acc.length c:=by
 rcases h with ⟨rfl,rfl,_⟩ | ⟨a,c,xs,rfl,_⟩
 ·exact ⟨_,_,rfl⟩
 ·exact ⟨_,_,rfl⟩
def fY {r':α ->List Value ->Prop}(hr:∀ x cs,r x cs ->r' x cs)(h:kY el sz r R0 R fv acc):kY el sz r' R0 R fv acc:=by
 rcases h with ⟨h1,h2,h3⟩ | ⟨a,c,xs,h1,h2,h3⟩
 ·exact .inl ⟨h1,h2,h3⟩
 ·exact .inr ⟨a,c,xs,h1,dl hr h2,h3⟩
theorem cB {P:Program}{F:Fi}{s:List Vc.Item}{e:dx}{ds:List Deferred}{dd:Option Nat}{T:Tm}{M:aR}{L:LL}{t:TypeId}{z:List Value}{b:Nat}{x:α}{cs:List Value}(hu:P.underlying t=some (.slice el))(bN:dY P t=some (el,sz,z))(ce:kz P t=true)
 (h:kY el sz r R0 R fv acc) (hx:r x cs) (bu:∀ x cs,r x cs ->cs.length=sz) (dB:∀ u∈cs,u.oneCell'=true) (hb:M b=none) (hl:acc.length*sz+sz<=4398046511104) (dK:0<sz)
 (k:∀ fv' R',kY el sz r R0 R' fv' (acc++[x]) ->cA P F s (cI e dd fv') ds ⟨T,M,(b,cs)::L,R'⟩ ⟨⟩):om P F t t fv (.slice (some ⟨b,0,none⟩) 1 1) dd s e ds ⟨T,M,(b,cs)::L,R⟩ ⟨⟩:=by
 have cK:=bu x cs hx
 rcases h with ⟨rfl,rfl,rfl⟩ | ⟨a,c,xs,rfl,h3,rfl⟩
 ·refine mO bN ce (.slice _ 1 _ _ _ hu (cF [] hb trivial (by rw [cK,Nat.one_mul])) dB) (by rw [cK];simp at hl;omega) ?_
  intro ra rm rc jl
  have:rm=1:=by
   rw [cK] at jl
   exact Nat.eq_of_mul_eq_mul_right dK (by omega)
  subst this
  exact k _ _ (.inr ⟨_,_,_,rfl,dm hx,rfl⟩)
 ·have iY:=eJ bu h3
  refine gX bN ce (.slice _ 1 _ _ _ hu (cF [] hb trivial (by rw [cK,Nat.one_mul])) dB) (by rw [cK,iY];omega) ?_
  intro ra rm rc jl
  have:rm=(acc++[x]).length:=by
   rw [cK,iY] at jl
   rw [List.length_append]
   refine Nat.eq_of_mul_eq_mul_right dK ?_
   rw [Nat.add_mul]
   simpa using jl
  subst this
  exact k _ _ (.inr ⟨_,_,_,rfl,cS h3 (dm hx),rfl⟩)
def ct {N:Tm}{M:aR}{L:LL}{k:Sh ->Prop}(h:kY el sz r R0 R fv acc)(hb:acc.length*sz<=4398046511104)(dK:0<sz)(bj:aJ M L)(hk:∀ M',bm M M' ->aJ M' L ->RS M' r sz acc fv ->cq ⟨N,M',L,R0⟩ k):cq ⟨N,M,L,R⟩ k:=by
 rcases h with ⟨rfl,rfl,rfl⟩ | ⟨a,c,xs,rfl,h3,rfl⟩
 ·exact hk M bm.rfl' bj bz
 ·exact cP (fun M' hM ut iR=>hk M' hM ut ⟨hb,xs,iR,h3⟩) dK
end
theorem pN {α:Type}{el:TypeId}{sz:Nat}{r:α ->List Value ->Prop}{R0 R:RR}{fv:Value}{acc l:List α}{P:Program}{F:Fi}{s:List Vc.Item}{e:dx}{ds:List Deferred}{dd:Option Nat}{T:Tm}{M:aR}{L:LL}{t:TypeId}{z ys:List Value}{y:Value}(bN:dY P t=some (el,sz,z))(ce:kz P t=true)
 (h:kY el sz r R0 R fv acc) (xn:RL r l ys) (hs:∀ R,Srcs P t sz ⟨T,M,L,R⟩ y ys) (bu:∀ x cs,r x cs ->cs.length=sz) (hl:acc.length*sz+l.length*sz<=4398046511104) (dK:0<sz)
 (k:∀ fv' R',kY el sz r R0 R' fv' (acc++l) ->cA P F s (cI e dd fv') ds ⟨T,M,L,R'⟩ ⟨⟩):om P F t t fv y dd s e ds ⟨T,M,L,R⟩ ⟨⟩:=by
 have H4:=eJ bu xn
 rcases h with ⟨rfl,rfl,rfl⟩ | ⟨a,c,xs,rfl,h3,rfl⟩
 ·refine mO bN ce (hs _) (by rw [H4];simp at hl;omega) ?_
  intro ra rm rc jl
  have:rm=([]++l).length:=by
   rw [H4] at jl
   exact Nat.eq_of_mul_eq_mul_right dK (by simpa using jl)
  subst this
  exact k _ _ (.inr ⟨_,_,_,rfl,by simpa using xn,rfl⟩)
 ·have iY:=eJ bu h3
  refine gX bN ce (hs _) (by rw [H4,iY];omega) ?_
  intro ra rm rc jl
  have:rm=(acc++l).length:=by
   rw [H4,iY] at jl
   rw [List.length_append]
   refine Nat.eq_of_mul_eq_mul_right dK ?_
   rw [Nat.add_mul]
   simpa using jl
  subst this
  exact k _ _ (.inr ⟨_,_,_,rfl,cS h3 xn,rfl⟩)
inductive Ex where
 | mk (k:Int) (v:V) (c:Int) (kids:List Ex)
namespace Ex
def k:Ex ->Int | mk k _ _ _=>k
def v:Ex ->V | mk _ v _ _=>v
def c:Ex ->Int | mk _ _ c _=>c
def kids:Ex ->List Ex | mk _ _ _ l=>l
end Ex
mutual
def hY (M:aR):Ex ->List Value ->Prop
 | .mk k v c kids,cs=>∃ s xs,cs=[.int .i64 k,.int .i64 v.k,.int .i64 v.n,st v.t,.int .i64 c,s]/\kids.length*6<=4398046511104/\Sl M s 6 xs/\Dc M kids xs
def Dc (M:aR):List Ex ->List Value ->Prop
 | [],xs=>xs=[]
 | x::l,xs=>∃ cs rest,xs=cs++rest/\hY M x cs/\Dc M l rest
end
theorem KD {M:aR}:∀ {l xs},Dc M l xs ↔ RL (hY M) l xs
 | [],_=>by simp [Dc,RL]
 | x::l,xs=>by simp only [Dc,RL,KD (l:=l)]
def iZ {M:aR}{x:Ex}{cs}:hY M x cs ↔ ∃ s,cs=[.int .i64 x.k,.int .i64 x.v.k,.int .i64 x.v.n,st x.v.t,.int .i64 x.c,s]/\RS M (hY M) 6 x.kids s:=by
 obtain ⟨k,v,c,kids⟩:=x
 simp only [hY,RS,Ex.k,Ex.v,Ex.c,Ex.kids,KD]
 constructor
 ·rintro ⟨s,xs,h1,h0,h2,h3⟩;exact ⟨s,h1,h0,xs,h2,h3⟩
 ·rintro ⟨s,h1,h0,xs,h2,h3⟩;exact ⟨s,xs,h1,h0,h2,h3⟩
theorem dS {M:aR}{x:Ex}{cs}(h:hY M x cs):cs.length=6:=by
 obtain ⟨s,rfl,_⟩:=iZ.1 h;rfl
mutual
theorem cN {M M':aR}(he:bm M M'):∀ (x:Ex) (cs:List Value),hY M x cs ->hY M' x cs
 | .mk _ _ _ kids,_,h=>by
  obtain ⟨s,xs,h1,h0,h2,h3⟩:=h
  exact ⟨s,xs,h1,h0,h2.ext he,EI he kids xs h3⟩
theorem EI {M M':aR}(he:bm M M'):∀ (l:List Ex) (xs:List Value),Dc M l xs ->Dc M' l xs
 | [],_,h=>h
 | x::l,_,h=>by
  obtain ⟨cs,rest,h1,h2,h3⟩:=h
  exact ⟨cs,rest,h1,cN he x cs h2,EI he l rest h3⟩
end
def dG {M:aR}{x:Ex}{cs:List Value}(h:hY M x cs):∃ s,cs=[.int .i64 x.k,.int .i64 x.v.k,.int .i64 x.v.n,st x.v.t,.int .i64 x.c,s]/\s.oneCell'=true/\RS M (hY M) 6 x.kids s:=by
 obtain ⟨s,rfl,hs⟩:=iZ.1 h
 exact ⟨s,rfl,(dy hs).1,hs⟩
def nK {M:aR}{x:Ex}{cs:List Value}(h:hY M x cs):∀ u∈cs,u.oneCell'=true:=by
 obtain ⟨s,rfl,h1,_⟩:=dG h
 intro u hu
 simp only [mn] at hu
 rcases hu with rfl | rfl | rfl | rfl | rfl | rfl<;>first | rfl | exact h1
structure Ag where
 k:Int
 x:Ex
def AV (M:aR)(a:Ag)(cs:List Value):Prop:=∃ c,hY M a.x c/\cs=.int .i64 a.k::c
def mM {M:aR}{a:Ag}{cs}(h:AV M a cs):cs.length=7:=by
 obtain ⟨c,h1,rfl⟩:=h;simp [dS h1]
def qI {M M':aR}(he:bm M M')(a:Ag)(cs)(h:AV M a cs):AV M' a cs:=by
 obtain ⟨c,h1,h2⟩:=h;exact ⟨c,cN he _ _ h1,h2⟩
inductive Pl where
 | mk (k n:Int) (x:Ex) (xs:List Ex) (ags:List Ag) (kids:List Pl)
namespace Pl
def k:Pl ->Int | mk k _ _ _ _ _=>k
def n:Pl ->Int | mk _ n _ _ _ _=>n
def x:Pl ->Ex | mk _ _ x _ _ _=>x
def xs:Pl ->List Ex | mk _ _ _ l _ _=>l
def ags:Pl ->List Ag | mk _ _ _ _ l _=>l
def kids:Pl ->List Pl | mk _ _ _ _ _ l=>l
end Pl
mutual
def gP (M:aR):Pl ->List Value ->Prop
 | .mk k n x xs ags kids,cs=>∃ xc xv av s ys,cs=[.int .i64 k,.int .i64 n]++(xc++[xv,av,s])/\hY M x xc/\RS M (hY M) 6 xs xv/\RS M (AV M) 7 ags av/\kids.length*11<=4398046511104/\Sl M s 11 ys/\De M kids ys
def De (M:aR):List Pl ->List Value ->Prop
 | [],xs=>xs=[]
 | x::l,xs=>∃ cs rest,xs=cs++rest/\gP M x cs/\De M l rest
end
theorem Df {M:aR}:∀ {l xs},De M l xs ↔ RL (gP M) l xs
 | [],_=>by simp [De,RL]
 | x::l,xs=>by simp only [De,RL,Df (l:=l)]
def jV {M:aR}{p:Pl}{cs}:gP M p cs ↔ ∃ xc xv av s,cs=[.int .i64 p.k,.int .i64 p.n]++(xc++[xv,av,s])/\hY M p.x xc/\RS M (hY M) 6 p.xs xv/\RS M (AV M) 7 p.ags av/\RS M (gP M) 11 p.kids s:=by
 obtain ⟨k,n,x,xs,ags,kids⟩:=p
 constructor
 ·intro h
  obtain ⟨xc,xv,av,s,ys,h1,h2,h3,h4,h5,h6,h7⟩:=h
  exact ⟨xc,xv,av,s,h1,h2,h3,h4,h5,ys,h6,Df.1 h7⟩
 ·rintro ⟨xc,xv,av,s,h1,h2,h3,h4,h5,ys,h6,h7⟩
  exact ⟨xc,xv,av,s,ys,h1,h2,h3,h4,h5,h6,Df.2 h7⟩
def jx {M:aR}{p:Pl}{cs}(h:gP M p cs):cs.length=11:=by
 obtain ⟨xc,xv,av,s,rfl,h1,_⟩:=jV.1 h;simp [dS h1]
mutual
theorem bA {M M':aR}(he:bm M M'):∀ (p:Pl) (cs:List Value),gP M p cs ->gP M' p cs
 | .mk _ _ _ _ _ kids,_,h=>by
  obtain ⟨xc,xv,av,s,ys,h1,h2,h3,h4,h5,h6,h7⟩:=h
  exact ⟨xc,xv,av,s,ys,h1,cN he _ _ h2,aH he (cN he) h3,aH he (qI he) h4,h5,h6.ext he,EO he kids ys h7⟩
theorem EO {M M':aR}(he:bm M M'):∀ (l:List Pl) (xs:List Value),De M l xs ->De M' l xs
 | [],_,h=>h
 | x::l,_,h=>by
  obtain ⟨cs,rest,h1,h2,h3⟩:=h
  exact ⟨cs,rest,h1,bA he x cs h2,EO he l rest h3⟩
end
structure Rel where
 name:Bs
 cols:List Co
 view:Bool
 plan:Pl
def ig (M:aR)(r:Rel)(cs:List Value):Prop:=∃ c p,RS M tF 2 r.cols c/\gP M r.plan p/\cs=[st r.name,c,.bool r.view]++p
def ii {M:aR}{r:Rel}{cs}(h:ig M r cs):cs.length=14:=by
 obtain ⟨c,p,_,h2,rfl⟩:=h;simp [jx h2]
def dV {M M':aR}(he:bm M M')(r:Rel)(cs)(h:ig M r cs):ig M' r cs:=by
 obtain ⟨c,p,h1,h2,h3⟩:=h;exact ⟨c,p,aH he (fun _ _ h=>h) h1,bA he _ _ h2,h3⟩
def C5:V:=⟨0,0,[]⟩
def dR:Ex:=.mk 0 C5 0 []
def bQ (v:V):V:=if v.k=1 then ⟨1,0,[]⟩ else if v.k=4 then ⟨4,0,v.t⟩ else ⟨v.k,v.n,[]⟩
def Uw (a b:V):Bool:=decide (a.k=b.k) && (decide (a.n=b.n) && decide (a.t=b.t))
mutual
def oM:X ->X ->Bool
 | .mk k v tab name kids,.mk k' v' tab' name' kids'=>decide (k=k') && (if k=1 then Uw (bQ v) (bQ v') else if k=2 then decide (tab=tab') && decide (name=name') else oL kids kids')
def oL:List X ->List X ->Bool
 | [],[]=>true
 | x::l,y::m=>oM x y && oL l m
 | _,_=>false
end
def nz (tab name:Bs):Nat ->Option Nat ->List (Bs×Bs) ->Option (Option Nat)
 | _,k,[]=>some k
 | i,k,c::l=>if c.2=name/\(tab=[]\/c.1=tab) then (match k with | none=>nz tab name (i+1) (some i) l | some _=>none) else nz tab name (i+1) k l
def qm (l:List (Bs×Bs))(tab name:Bs):Except Int Nat:=match nz tab name 0 none l with
 | some (some i)=> .ok i
 | _=> .error 7
def Nw (i:Nat):Ex:=.mk 2 C5 i []
mutual
def mQ (names:List (Bs×Bs)):X ->Except Int Ex
 | .mk k v tab name kids=>if 19<=k then .error 8 else if k=2 then (match qm names tab name with | .ok i=> .ok (Nw i) | .error e=> .error e) else if k=1 then .ok (.mk 1 v 0 [])
  else match eN names kids with | .ok l=> .ok (.mk k C5 0 l) | .error e=> .error e
def eN (names:List (Bs×Bs)):List X ->Except Int (List Ex)
 | []=> .ok []
 | x::l=>match mQ names x with
  | .error e=> .error e
  | .ok y=>match eN names l with | .ok m=> .ok (y::m) | .error e=> .error e
end
def Ip (names:List (Bs×Bs))(kids:List X):Except Int Ex:=match kids with
 | []=> .ok dR
 | x::_=>mQ names x
mutual
def rQ (names:List (Bs×Bs))(aV:List X):X ->List Ag ->Except Int (Ex×List Ag)
 | .mk k v tab name kids,ags=>match aV.findIdx? (fun y=>oM (.mk k v tab name kids) y) with
  | some i=> .ok (Nw i,ags)
  | none=>if 19<=k then (match Ip names kids with | .ok a=> .ok (Nw (aV.length+ags.length),ags++[⟨k - 18,a⟩]) | .error e=> .error e)
   else if k=2 then .error 8 else if k=1 then .ok (.mk 1 v 0 [],ags)
   else match fS names aV kids ags with | .ok l=> .ok (.mk k C5 0 l.1,l.2) | .error e=> .error e
def fS (names:List (Bs×Bs))(aV:List X):List X ->List Ag ->Except Int (List Ex×List Ag)
 | [],ags=> .ok ([],ags)
 | x::l,ags=>match rQ names aV x ags with
  | .error e=> .error e
  | .ok y=>match fS names aV l y.2 with | .ok m=> .ok (y.1::m.1,m.2) | .error e=> .error e
end
mutual
def rE:X ->Bool
 | .mk k _ _ _ kids=>decide (19<=k) || Xx kids
def Xx:List X ->Bool
 | []=>false
 | x::l=>rE x || Xx l
end
def bO (rels:List Rel):List (List Int):=(rels.filter fun r=> !r.view).map fun r=>r.cols.map (·.ty)
def qn (k:Int)(p:Pl):Pl:=.mk k 0 dR [] [] [p]
def Me (k:Int)(p q:Pl):Pl:=.mk k 0 dR [] [] [p,q]
def AD (n:Nat):Pl:=.mk 1 n dR [] [] []
def tV (name:Bs):Nat ->List Rel ->Option (Pl×List Co)
 | _,[]=>none
 | n,r::l=>if r.name=name then some (if r.view=true then r.plan else AD n,r.cols) else tV name (if r.view=true then n else n+1) l
def rR (rels:List Rel)(name:Bs):Except Int (Pl×List Co):=match tV name 0 rels with | some x=> .ok x | none=> .error 7
def gJ (s:So):Bs:=if s.as=[] then s.name else s.as
def nY (k:Int):Int:=if k=2 then 4 else if k=3 then 5 else if k=4 then 6 else if k=5 then 7 else 0
def rS (rels:List Rel):List So ->Nat ->Pl ->List (Bs×Bs) ->List Bs ->Except Int (Pl×List (Bs×Bs))
 | [],_,p,names,_=> .ok (p,names)
 | s::l,i,p,names,tz=>match rR rels s.name with
  | .error e=> .error e
  | .ok q=>if tz.contains (gJ s)=true then .error 7 else
   if i=0 then rS rels l 1 q.1 (names++q.2.map fun c=>(gJ s,c.name)) (tz++[gJ s])
   else match mQ (names++q.2.map fun c=>(gJ s,c.name)) s.on with
    | .error e=> .error e
    | .ok x=>rS rels l (i+1) (.mk (nY s.k) 0 x [] [] [p,q.1]) (if s.k=2\/s.k=5 then names++q.2.map fun c=>(gJ s,c.name) else names) (tz++[gJ s])
def pj:Pl:=.mk 0 0 dR [] [] []
def ue (rels:List Rel)(l:List So):Except Int (Pl×List (Bs×Bs)):=rS rels l 0 pj [] []
def xH (x:It)(i:Nat):Bs:=if x.as≠[] then x.as else if x.x.k=2 then x.x.name else 99::Lib.decDigits (i+1)
def jc:Nat ->List It ->List Bs
 | _,[]=>[]
 | i,x::l=>xH x i::jc (i+1) l
def oS (x:Ex)(p:Pl):Pl:=.mk 2 0 x [] [] [p]
def mf (s:Se):Bool:=(decide (0<s.group.length) || s.hasH) || (!s.star && s.items.any fun i=>rE i.x)
def Cn (names:List (Bs×Bs))(h:Bool)(x:X):Except Int Ex:=if h=true then mQ names x else .ok dR
def Cp (names:List (Bs×Bs))(aV:List X)(h:Bool)(x:X)(ags:List Ag):Except Int (Ex×List Ag):=if h=true then rQ names aV x ags else .ok (dR,ags)
def oT (s:Se)(p:Pl)(names:List (Bs×Bs)):Except Int Pl:=if s.star=true then .error 8 else
 match eN names s.group with
 | .error e=> .error e
 | .ok aV=>match fS names s.group (s.items.map (·.x)) [] with
  | .error e=> .error e
  | .ok it=>match Cp names s.group s.hasH s.hv it.2 with
   | .error e=> .error e
   | .ok h=>let g:Pl:=.mk 12 0 dR aV h.2 [p]
    .ok (.mk 3 0 dR it.1 [] [if s.hasH=true then oS h.1 g else g])
def zR (s:Se)(p:Pl)(names:List (Bs×Bs)):Except Int Pl:=if s.star=true then .ok p else
 match eN names (s.items.map (·.x)) with
 | .error e=> .error e
 | .ok l=> .ok (.mk 3 0 dR l [] [p])
def th (rels:List Rel)(s:Se):Except Int (Pl×List Bs):=match ue rels s.src with
 | .error e=> .error e
 | .ok f=>match Cn f.2 s.hasW s.wh with
  | .error e=> .error e
  | .ok w=>let p:=if s.hasW=true then oS w f.1 else f.1
   match (if mf s=true then oT s p f.2 else zR s p f.2) with
   | .error e=> .error e
   | .ok q=> .ok (if s.distinct=true then qn 11 q else q,if s.star=true then f.2.map (·.2) else jc 0 s.items)
def YA (op:Int)(a b:Pl):Pl:=if op=1 then Me 8 a b else if op=2 then qn 11 (Me 8 a b) else if op=4 then qn 10 (Me 9 (qn 11 a) (qn 11 b)) else qn 10 (Me 9 a b)
def j6 (rels:List Rel)(ops:List Int):Nat ->Pl ->List Bs ->List Se ->Except Int (Pl×List Bs)
 | _,p,names,[]=> .ok (p,names)
 | i,p,names,s::l=>match th rels s with
  | .error e=> .error e
  | .ok r=>if i=0 then j6 rels ops 1 r.1 r.2 l else j6 rels ops (i+1) (YA (ops.getD (i - 1) 0) p r.1) names l
def Ep (q:Q)(r:Pl×List Bs):Except Int Pl:=if 0<=q.limit then (match eN (r.2.map fun n=>([],n)) q.order with
 | .error e=> .error e
 | .ok xs=> .ok (.mk 13 q.limit dR xs [] [r.1])) else .ok r.1
def jF (rels:List Rel)(q:Q):Except Int (Pl×List Bs):=match j6 rels q.ops 0 pj [] q.parts with
 | .error e=> .error e
 | .ok r=>match Ep q r with
  | .error e=> .error e
  | .ok p=> .ok (p,r.2)
def gA (k:Int):Int:=if k=1\/k=2 then 0 else if k=3\/k=16 then 1 else if (4<=k/\k<=15)\/k=18 then 2 else if k=17 then 3 else -1
def kf (a b:Int):Option Int:=if a=b\/b=1 then some a else if a=1 then some b else none
def tY (a eB:Int):Bool:=(kf a eB).isSome
def vK (k:Int)(t:List Int):Except Int Int:=
 if k<=5 then (if t.all (tY · 2)=true then .ok 2 else .error 9)
 else if k<=11 then (if (kf (t.getD 0 0) (t.getD 1 0)).isSome=true then .ok 2 else .error 9)
 else if k<=14 then (if t.all (tY · 3)=true then .ok 3 else .error 9)
 else if k=15 then (if t.all (tY · 4)=true then .ok 4 else .error 9)
 else if k=17 then (match kf (t.getD 1 0) (t.getD 2 0) with | some o=>if tY (t.getD 0 0) 2=true then .ok o else .error 9 | none=> .error 9)
 else (match kf (t.getD 0 0) (t.getD 1 0) with | some o=> .ok o | none=> .error 9)
mutual
def py (cols:List Int)(bI n:Nat):Ex ->Except Int Int×Nat
 | .mk k v c kids=>if 200<n+1\/20<bI then (.error 4,n+1) else if gA k<0 then (.error 1,n+1) else if (kids.length:Int)≠gA k then (.error 5,n+1)
  else match nD cols (bI+1) (n+1) kids with
   | (.error e,m)=>(.error e,m)
   | (.ok t,m)=>(if k=1 then (if eR v=0 then .ok v.k else .error (eR v)) else if k=2 then (if 0<=c/\c<cols.length then .ok (cols.getD c.toNat 0) else .error 7) else if k=16 then .ok 2 else vK k t,m)
def nD (cols:List Int)(bI n:Nat):List Ex ->Except Int (List Int)×Nat
 | []=>(.ok [],n)
 | x::l=>match py cols bI n x with
  | (.error e,m)=>(.error e,m)
  | (.ok t,m)=>match nD cols bI m l with
   | (.error e,m')=>(.error e,m')
   | (.ok ts,m')=>(.ok (t::ts),m')
end
def lm (cols:List Int)(x:Ex):Except Int Int:=if 16<cols.length then .error 5 else if cols.all (fun t=>decide (1<=t/\t<=4))=true then (py cols 1 0 x).1 else .error 1
def iG (cols:List Int):List Ex ->Except Int (List Int)
 | []=> .ok []
 | x::l=>match lm cols x with
  | .error e=> .error e
  | .ok t=>match iG cols l with | .ok ts=> .ok (t::ts) | .error e=> .error e
def eX (cols:List Int)(xs:List Ex):Except Int (List Int):=if 8<xs.length then .error 5 else iG cols xs
def vd (cols:List Int)(a:Ag):Except Int Int:=if a.k<1\/5<a.k then .error 1 else if a.k=1 then .ok 3 else match lm cols a.x with
 | .error e=> .error e
 | .ok u=>if a.k=3/\u≠3/\u≠1 then .error 9 else .ok (if 4<=a.k then u else 3)
def jp (cols:List Int):List Ag ->Except Int (List Int)
 | []=> .ok []
 | a::l=>match vd cols a with
  | .error e=> .error e
  | .ok t=>match jp cols l with | .ok ts=> .ok (t::ts) | .error e=> .error e
def rO (cols:List Int)(x:Ex):Except Int Unit:=match lm cols x with
 | .error e=> .error e
 | .ok t=>if t=2\/t=1 then .ok () else .error 9
def iF (k:Int):Int:=if k=1 then 0 else if 4<=k/\k<=9 then 2 else if 1<k/\k<=13 then 1 else -1
def lC:List Int ->List Int ->Except Int (List Int)
 | t::a,u::b=>match kf t u with
  | none=> .error 9
  | some o=>match lC a b with | .ok l=> .ok (o::l) | .error e=> .error e
 | _,_=> .ok []
def oE (a b:List Int):Except Int (List Int):=if a.length≠b.length then .error 8 else lC a b
def lj (tables:List (List Int))(k n:Int)(x:Ex)(xs:List Ex)(ags:List Ag)(c:List (List Int)):Except Int (List Int):=
 let a:=c.getD 0 []
 let b:=c.getD 1 []
 if k=1 then (if 0<=n/\n<tables.length then .ok (tables.getD n.toNat []) else .error 7)
 else if k=2 then (match rO a x with | .ok _=> .ok a | .error e=> .error e)
 else if k=3 then eX a xs
 else if k=8\/k=9 then oE a b
 else if k=10\/k=11 then .ok a
 else if k=12 then (if 8<xs.length+ags.length then .error 5 else match eX a xs with
  | .error e=> .error e
  | .ok ks=>match jp a ags with | .ok g=> .ok (ks++g) | .error e=> .error e)
 else if k=13 then (match eX a xs with
  | .error e=> .error e
  | .ok _=>if n<0\/50<n then .error 3 else .ok a)
 else if 8<(a++b).length then .error 5
 else match rO (a++b) x with
  | .error e=> .error e
  | .ok _=> .ok (if k=5\/k=6 then a else a++b)
mutual
def eV (tables:List (List Int))(bI m:Nat):Pl ->Except Int (List Int)×Nat
 | .mk k n x xs ags kids=>if 60<m+1\/15<bI then (.error 4,m+1) else if iF k<0 then (.error 1,m+1) else if (kids.length:Int)≠iF k then (.error 5,m+1)
  else match gT tables (bI+1) (m+1) kids with
   | (.error e,m')=>(.error e,m')
   | (.ok c,m')=>(lj tables k n x xs ags c,m')
def gT (tables:List (List Int))(bI m:Nat):List Pl ->Except Int (List (List Int))×Nat
 | []=>(.ok [],m)
 | p::l=>match eV tables bI m p with
  | (.error e,m')=>(.error e,m')
  | (.ok c,m')=>match gT tables bI m' l with
   | (.error e,m'')=>(.error e,m'')
   | (.ok cs,m'')=>(.ok (c::cs),m'')
end
def xB:List (List Int) ->Int
 | []=>0
 | t::l=>if 8<t.length then 5 else if t.all (fun k=>decide (1<=k/\k<=4))=true then xB l else 1
def fH (tables:List (List Int))(p:Pl):Except Int (List Int):=if 8<tables.length then .error 5 else if xB tables≠0 then .error (xB tables) else (eV tables 1 0 p).1
def uQ:List Bs ->List Int ->List Co
 | n::l,t::m=>⟨n,t⟩::uQ l m
 | _,_=>[]
def iN (rels:List Rel)(q:Q):Except Int (Pl×List Co):=match jF rels q with
 | .error e=> .error e
 | .ok r=>match fH (bO rels) r.1 with
  | .error e=> .error e
  | .ok t=> .ok (r.1,uQ r.2 t)
def GH (e:Int):List PanicEntry:=[{v:=.iface 172 (.agg #[.int .i64 e]),recovered:=false}]
theorem Fs (e:Int)(M:aR)(T:Tm):bU Tryz.prog 141 [.int .i64 e] T M [] [] (fun _ _ _ _=>False) (fun ch _ _ _=>ch=GH e):=by
 refine az aij rfl rfl ?_
 intro _ _
 simp +contextual only [go_sem,sevalprocAttr]
 exact ak aG.rfl' rfl
def HR (c:Bs×Bs)(cs:List Value):Prop:=cs=[st c.1,st c.2]
theorem qJ {c:Bs×Bs}{cs}(h:HR c cs):cs.length=2:=by rw [h];rfl
def wU {α:Type}(enc:α ->Value ->aR ->Prop)(res:Except Int α):ep:=fun v M' _ _=>∃ a,res=.ok a/\enc a v M'
def rK {α:Type}(res:Except Int α):mC:=fun ch _ _ _=>∃ e,res=.error e/\ch=GH e
theorem mW {α:Type}{T N:Tm}{M:aR}{L:LL}{R:RR}{dr ts e post}{res:Except Int α}{c:Int}(hT:aG T N)(h:res=.error c):(fi Tryz.prog T dr ts (aV []) 0 post (rK res)).pan (GH c) e [] ⟨N,M,L,R⟩:=by
 rw [l9,j5]
 exact ak hT ⟨c,h,rfl⟩
def vu {α:Type}{T N:Tm}{M:aR}{L:LL}{R:RR}{dr ts e post d s}{res:Except Int α}{c:Int}(hT:aG T N)(h:res=.error c):dp Tryz.prog (fi Tryz.prog T dr ts (aV []) 0 post (rK res)) 141 [.int .i64 c] d s e [] ⟨N,M,L,R⟩ ⟨⟩:=by
 refine bX (Fs c M N) (fun _ _ _ _ h=>h.elim) ?_
 rintro ch M1 aW bD rfl
 exact mW hT h
theorem GO (tab name:Bs)(i:Nat)(k:Option Nat)(c:Bs×Bs)(l:List (Bs×Bs)):nz tab name i k (c::l)=if c.2=name/\(tab=[]\/c.1=tab) then (match k with | none=>nz tab name (i+1) (some i) l | some _=>none) else nz tab name (i+1) k l:=by
 cases k<;>rfl
def ql:Option Nat ->Int | none=> -1 | some i=>(i:Int)
theorem WV {M:aR}{names:List (Bs×Bs)}{lv kv av rv:Value}{sb b o:Nat}{x:X}{cs:List Value}(hl:RS M HR 2 names lv)(Ga:M sb=some [lv,kv,av,rv])(ha:At M b o cs)(hx:RX M x cs)(T:Tm):
 bU Tryz.prog 158 [.pointer (some ⟨sb,0,none⟩),.pointer (some ⟨b,o,none⟩)] T M [] [] (wU (fun (i:Nat) v _=>v=.int .i64 (i:Int)) (qm names x.tab x.name)) (rK (qm names x.tab x.name)):=by
 obtain ⟨s,hs,m0,m1,m2,m3,m4,m5,m6⟩:=wq hx ha
 obtain ⟨fp,la,c,rfl,cX,_,gl⟩:=ax (by decide) (fun _ _=>qJ) hl
 have abD:nz x.tab x.name 0 none names=none ->qm names x.tab x.name=.error 7:=fun h=>by unfold qm;rw [h]
 have afn:nz x.tab x.name 0 none names=some none ->qm names x.tab x.name=.error 7:=fun h=>by unfold qm;rw [h]
 refine az air rfl rfl ?_
 intro bj _
 simp +contextual only [go_sem,aD,sevalprocAttr,bg Ga]
 refine aO names.length 13 [(0,.pointer (some ⟨sb,0,none⟩)),(1,.pointer (some ⟨b,o,none⟩)),(11,.slice la names.length c),(12,.int .i64 (names.length:Int))] (fun i e h=>∃ T' k,aG T T'/\h=⟨T',M,[],[]⟩/\e 5=.int .i64 (ql k)/\nz x.tab x.name i k (names.drop i)=nz x.tab x.name 0 none names) 0 (by omega) (by simp only [aE,go_sem,sevalprocAttr]) (by simp only [go_sem,sevalprocAttr]) ⟨T,none,aG.rfl',rfl,by simp only [go_sem,sevalprocAttr,ql],rfl⟩ ?_
 rintro i e h hi aI ht ⟨T1,k,cY,rfl,e5,am⟩
 simp only [aE] at aI
 by_cases aL:i<names.length
 ·obtain ⟨b',o',cs',rfl,bP,eh⟩:=gl i names[i] (gq aL)
  unfold HR at eh;subst eh
  obtain ⟨y0,y1⟩:=At2 bP
  have bK:names.drop i=names[i]::names.drop (i+1):=dq aL
  rw [bK,GO] at am
  simp +contextual only [go_sem,aD,sevalprocAttr,aI,ht,aL,y0,y1]
  intro b7 T7 mU B5 Ja
  refine aT ?_
  have hT:=cY.trans B5
  by_cases PY:names[i].2=x.name/\(x.tab=[]\/names[i].1=x.tab)
  ·rw [if_pos PY] at am
   have gC:(names[i].2=x.name/\x.tab=[]/\True)\/(names[i].2=x.name/\¬ x.tab=[]/\names[i].1=x.tab):=by
    by_cases h2:x.tab=[]
    ·exact .inl ⟨PY.1,h2,trivial⟩
    ·exact .inr ⟨PY.1,h2,PY.2.resolve_left h2⟩
   rcases gC with ⟨h1,h2,h3⟩ | ⟨h1,h2,h3⟩
   all_goals
    cases k with
    | none=>
     simp only at am
     simp +contextual only [go_sem,aD,sevalprocAttr,aI,ht,m4,m5,mU,e5,ql,h1,h2,h3]
     refine aS (al (aC ⟨names.length - (i+1),by omega,rfl,i+1,by omega,?_,?_,?_,T7,some i,hT,rfl,?_,am⟩))
     ·rfl
     ·simp only [aE,aI,go_sem,sevalprocAttr]
     ·simp only [go_sem,sevalprocAttr,aA i (by omega)]
     ·simp only [go_sem,sevalprocAttr]
    | some j=>
     simp only at am
     simp +contextual only [go_sem,aD,sevalprocAttr,aI,m4,m5,mU,e5,ql,h1,h2,h3]
     exact vu hT (abD am.symm)
  ·rw [if_neg PY] at am
   have gC:(¬ names[i].2=x.name/\True/\True)\/(names[i].2=x.name/\¬ x.tab=[]/\¬ names[i].1=x.tab):=by
    by_cases h1:names[i].2=x.name
    ·exact .inr ⟨h1,fun h2=>PY ⟨h1,.inl h2⟩,fun h3=>PY ⟨h1,.inr h3⟩⟩
    ·exact .inl ⟨h1,trivial,trivial⟩
   rcases gC with ⟨h1,h2,h3⟩ | ⟨h1,h2,h3⟩
   all_goals
    simp +contextual only [go_sem,aD,sevalprocAttr,aI,ht,m4,m5,mU,h1,h2,h3]
    refine aS (al (aC ⟨names.length - (i+1),by omega,rfl,i+1,by omega,?_,?_,?_,T7,k,hT,rfl,?_,am⟩))
    ·rfl
    ·simp only [aE,aI,go_sem,sevalprocAttr]
    ·simp only [go_sem,sevalprocAttr,aA i (by omega)]
    ·simp only [e5,go_sem,sevalprocAttr]
 ·have:i=names.length:=by omega
  subst this
  rw [List.drop_length] at am
  cases k with
  | none=>
   simp +contextual only [go_sem,aD,sevalprocAttr,aI,ht,aL,e5,ql]
   exact vu cY (afn am.symm)
  | some j=>
   have hj:¬ (j:Int)<0:=by omega
   simp +contextual only [go_sem,aD,sevalprocAttr,aI,ht,aL,e5,ql,hj]
   refine ak cY ⟨j,?_,rfl⟩
   unfold qm
   rw [<- am];rfl
def aa3 (k n:Int)(t:Bs)(k' n':Int)(t':Bs):iX Tryz.prog .eql 27 (.agg ⟨[.int .i64 k,.int .i64 n,.string (bs t)]⟩) (.agg ⟨[.int .i64 k',.int .i64 n',.string (bs t')]⟩)=some (.bool (Uw ⟨k,n,t⟩ ⟨k',n',t'⟩)):=by
 show (match Hh Tryz.prog 27 with | some ks=>(IV ks _ _).map Value.bool | none=>none)=_
 rw [Ki];simp only [IV,Zc,Uw,QK,Option.map]
 cases decide (k=k')<;>cases decide (n=n')<;>cases decide (t=t')<;>simp
theorem iO {M:aR}(T:Tm):bU Tryz.prog 164 [] T M [] [] (fun r _ _ _=>r=.agg ⟨[.int .i64 1,.int .i64 0,st []]⟩) aM:=by
 refine az aiw rfl rfl ?_
 intro _ _
 simp +contextual only [go_sem,sevalprocAttr]
 intro b1 T1 fO cY gu
 exact ak cY rfl
theorem l7 {M:aR}(v:V)(T:Tm):bU Tryz.prog 163 [.agg ⟨[.int .i64 v.k,.int .i64 v.n,st v.t]⟩] T M [] [] (fun r _ _ _=>r=.agg ⟨[.int .i64 (bQ v).k,.int .i64 (bQ v).n,st (bQ v).t]⟩) aM:=by
 obtain ⟨k,n,t⟩:=v
 unfold bQ
 refine az aiv rfl rfl ?_
 intro bj _
 by_cases h1:k=1
 ·subst h1
  simp +contextual only [go_sem,aD,sevalprocAttr]
  intro b1 T1 fO cY gu b2 T2 dO fz dA ef
  refine aF (iO T2) ?_
  rintro v M1 aW bD rfl
  simp only [aJ,and_true] at bD
  simp +contextual only [go_sem,sevalprocAttr,bD]
  exact ak (cY.trans dA) rfl
 by_cases h4:k=4
 ·subst h4
  simp +contextual only [go_sem,aD,sevalprocAttr]
  intro b1 T1 fO cY gu b2 T2 dO fz dA ef
  exact ak (cY.trans dA) rfl
 simp +contextual only [go_sem,aD,sevalprocAttr,h1,h4]
 intro b1 T1 fO cY gu b2 T2 dO fz dA ef
 exact ak (cY.trans dA) rfl
def At7 {M:aR}{b o:Nat}{v0 v1 v2 v3 v4 v5 v6:Value}(h:At M b o [v0,v1,v2,v3,v4,v5,v6]):aN M ⟨b,o,none⟩=some v0/\aN M ⟨b,o+1,none⟩=some v1/\aN M ⟨b,o+2,none⟩=some v2/\aN M ⟨b,o+3,none⟩=some v3/\aN M ⟨b,o+4,none⟩=some v4/\aN M ⟨b,o+5,none⟩=some v5/\aN M ⟨b,o+6,none⟩=some v6:=
 ⟨h.1,h.2.1,h.2.2.1,h.2.2.2.1,h.2.2.2.2.1,h.2.2.2.2.2.1,h.2.2.2.2.2.2.1⟩
theorem yo:∀ {l m:List X},¬ l.length=m.length ->oL l m=false
 | [],[],h=>(h rfl).elim
 | [],_::_,_=>rfl
 | _::_,[],_=>rfl
 | x::l,y::m,h=>by
  rw [oL,yo (l:=l) (m:=m) (fun h1=>h (by simp [h1])),Bool.and_false]
def SmB (x:X):Prop:=∀ (M:aR) (T:Tm) (b o b' o':Nat) (y:X) (cs cs':List Value),At M b o cs ->RX M x cs ->At M b' o' cs' ->RX M y cs' ->
 bU Tryz.prog 156 [.pointer (some ⟨b,o,none⟩),.pointer (some ⟨b',o',none⟩)] T M [] [] (fun r _ _ _=>r=.bool (oM x y)) aM
theorem Rv {x y:X}(h:SmB x){M:aR}{cs cs':List Value}(hx:RX M x cs)(hy:RX M y cs')(T:Tm):bU Tryz.prog 214 [.agg ⟨cs⟩,.agg ⟨cs'⟩] T M [] [] (fun r _ _ _=>r=.bool (oM x y)) aM:=by
 have hl:=dX hx
 have jL:=dX hy
 refine az ai5 rfl rfl ?_
 intro bj _
 simp +contextual only [go_sem,sevalprocAttr]
 intro b2 T2 dO dA ef b3 T3 gK cZ fU gB
 refine jh aam.bd fun M1 aW hL1=> ?_
 obtain ⟨A2,Jd,_⟩:=hL1
 refine aF (h M1 T3 b2 0 b3 0 y _ _ (jJ Jd _ 0 (by simp)) (bL aW _ _ hx) (jJ A2 _ 0 (by simp)) (bL aW _ _ hy)) ?_
 rintro v M2 bh _ rfl
 simp +contextual only [go_sem,sevalprocAttr]
 exact ak (dA.trans fU) rfl
def NQ {l m:List X}(h:∀ x∈l,SmB x){M:aR}{v1 v2:Value}(h1:RS M (RX M) 7 l v1)(h2:RS M (RX M) 7 m v2)(T:Tm):
 bU Tryz.prog 213 [v1,v2,.func (.func 214) #[] #[]] T M [] [] (fun r _ _ _=>r=.bool (oL l m)) aM:=by
 obtain ⟨apz,a1,c1,rfl,aqd,_,lM⟩:=ax (by decide) (fun _ _=>dX) h1
 obtain ⟨Ou,a2,c2,rfl,pq,_,xh⟩:=ax (by decide) (fun _ _=>dX) h2
 refine az ai4 rfl rfl ?_
 intro bj _
 by_cases bu:l.length=m.length
 ·simp +contextual only [go_sem,aD,sevalprocAttr,bu]
  refine aO m.length 17 [(1,.slice a2 m.length c2),(2,.func (.func 214) #[] #[]),(15,.slice a1 m.length c1),(16,.int .i64 (m.length:Int))] (fun i e h=>∃ T' M',aG T T'/\bm M M'/\h=⟨T',M',[],[]⟩/\oL (l.drop i) (m.drop i)=oL l m) 0 (by omega) (by simp only [aE,bu,go_sem,sevalprocAttr]) (by simp only [go_sem,sevalprocAttr]) ⟨T,M,aG.rfl',bm.rfl',rfl,rfl⟩ ?_
  rintro i e h hi aI ht ⟨T1,M1,cY,aW,rfl,am⟩
  simp only [aE] at aI
  by_cases aL:i<m.length
  ·have lN:i<l.length:=by omega
   obtain ⟨p1,o1,cs1,rfl,zj,DT⟩:=lM i l[i] (gq lN)
   obtain ⟨p2,o2,cs2,rfl,oU,zB⟩:=xh i m[i] (gq aL)
   have AR:l.drop i=l[i]::l.drop (i+1):=dq lN
   have hdm:m.drop i=m[i]::m.drop (i+1):=dq aL
   rw [AR,hdm,oL] at am
   obtain ⟨s1,Zu,iQ,_⟩:=bZ DT
   obtain ⟨s2,hf2,nW,_⟩:=bZ zB
   subst Zu hf2
   obtain ⟨y0,y1,y2,y3,y4,y5,y6⟩:=At7 (zj.ext aW)
   obtain ⟨z0,z1,z2,z3,z4,z5,z6⟩:=At7 (oU.ext aW)
   simp +contextual only [go_sem,aD,sevalprocAttr,aI,ht,aL,y0,y1,y2,y3,y4,y5,y6,z0,z1,z2,z3,z4,z5,z6,iQ,nW]
   intro b8 T8 pp nE sP b9 T9 qY gY uR pY
   refine aF (Rv (h l[i] (gm lN)) (bL aW _ _ DT) (bL aW _ _ zB) T9) ?_
   rintro v M2 bh _ rfl
   have hT:=(cY.trans nE).trans uR
   cases hb:oM l[i] m[i] with
   | true=>
    rw [hb,Bool.true_and] at am
    simp +contextual only [go_sem,aD,sevalprocAttr,ht]
    refine aS (bM (aC ⟨m.length - (i+1),by omega,rfl,i+1,by omega,rfl,?_,?_,T9,M2,hT,aW.trans bh,rfl,am⟩))
    ·simp only [aE,aI,go_sem,sevalprocAttr]
    ·simp only [go_sem,sevalprocAttr,aA i (by omega)]
   | false=>
    rw [hb,Bool.false_and] at am
    simp +contextual only [go_sem,aD,sevalprocAttr]
    exact ak hT (by rw [<- am])
  ·have:i=m.length:=by omega
   subst this
   have un:l.drop m.length=[]:=by rw [<- bu];exact List.drop_length
   rw [List.drop_length,un] at am
   simp +contextual only [go_sem,aD,sevalprocAttr,aI,ht,aL]
   exact ak cY (by rw [<- am];rfl)
 ·have cm:¬ (l.length:Int)=m.length:=by omega
  have:oL l m=false:=yo bu
  simp +contextual only [go_sem,aD,sevalprocAttr,cm]
  exact ak aG.rfl' (by rw [this])
theorem NW:∀ (sz:Nat) (x:X),SizeOf.sizeOf x<=sz ->SmB x:=by
 intro sz
 induction sz with
 | zero=>intro x hx;cases x;simp at hx
 | succ sz ih=>
  intro x ed M T b o b' o' y cs cs' ha hx ha' hy
  obtain ⟨s,hs,m0,m1,m2,m3,m4,m5,m6⟩:=wq hx ha
  obtain ⟨s',zz,n0,n1,n2,n3,n4,n5,n6⟩:=wq hy ha'
  cases x with | mk k v tab name kids=>
  cases y with | mk k' v' tab' name' kids'=>
  simp only [X.k,X.v,X.tab,X.name,X.kids] at m0 m1 m2 m3 m4 m5 m6 hs n0 n1 n2 n3 n4 n5 n6 zz
  rw [oM]
  refine az aam rfl rfl ?_
  intro bj _
  by_cases hk:k=k'
  ·subst hk
   by_cases h1:k=1
   ·subst h1
    simp +contextual only [go_sem,sevalprocAttr]
    refine aT ?_
    simp +contextual only [go_sem,aD,sevalprocAttr,m0,n0]
    refine aT ?_
    simp +contextual only [go_sem,sevalprocAttr,m1,m2,m3,n1,n2,n3]
    refine aF (l7 v T) ?_
    rintro r M1 aW _ rfl
    replace n1:=ay aW n1
    replace n2:=ay aW n2
    replace n3:=ay aW n3
    simp +contextual only [go_sem,sevalprocAttr]
    refine ⟨qN aW,?_⟩
    refine aF (l7 v' T) ?_
    rintro r M2 bh _ rfl
    simp +contextual only [go_sem,sevalprocAttr,aa3]
    refine ⟨qN (aW.trans bh),?_⟩
    exact ak aG.rfl' rfl
   ·by_cases h2:k=2
    ·subst h2
     simp +contextual only [go_sem,sevalprocAttr]
     refine aT ?_
     simp +contextual only [go_sem,aD,sevalprocAttr,m0,n0]
     refine aT ?_
     simp +contextual only [go_sem,sevalprocAttr,m4,m5,n4,n5]
     by_cases ht:tab=tab'
     ·rw [if_pos ht]
      refine ak aG.rfl' ?_
      subst ht
      simp
     ·rw [if_neg ht]
      refine ak aG.rfl' ?_
      simp
    ·simp +contextual only [go_sem,sevalprocAttr]
     refine aT ?_
     simp +contextual only [go_sem,aD,sevalprocAttr,m0,n0,h1,h2]
     refine aT ?_
     simp +contextual only [go_sem,sevalprocAttr,m6,n6]
     refine aF (NQ (fun x hx=>ih x ?_) hs zz T) ?_
     ·have h1:=List.sizeOf_lt_of_mem hx
      simp only [X.mk.sizeOf_spec] at ed
      omega
     rintro r M1 aW _ rfl
     simp +contextual only [go_sem,sevalprocAttr]
     exact ak aG.rfl' (by simp [h1,h2])
  ·simp +contextual only [go_sem,sevalprocAttr]
   refine aT ?_
   simp +contextual only [go_sem,aD,sevalprocAttr,m0,n0,hk]
   exact ak aG.rfl' rfl
mutual
def GB:X ->Prop
 | .mk k v tab name kids=>(kids.length:Int)=rZ k/\(k=1 ->1<=v.k/\v.k<=4)/\acH kids
def acH:List X ->Prop
 | []=>True
 | x::l=>GB x/\acH l
end
theorem zV:∀ {l:List X},acH l ->∀ x∈l,GB x
 | _::_,h,_,hy=>by
  rcases lQ hy with rfl | hy
  ·exact h.1
  ·exact zV h.2 _ hy
def Gk (k:Int):rZ k<=3:=by unfold rZ;repeat' split<;>omega
theorem acR {a:Option Addr}:iX Tryz.prog .neq 180 (.pointer a) (.pointer none)=some (.bool (!a.isNone)):=by
 show (if zJ Tryz.prog 180=true then some (Value.bool (!a.isNone)) else none)=_
 rw [if_pos (by kernel_rfl)]
theorem agH {a:Option Addr}:iX Tryz.prog .eql 180 (.pointer a) (.pointer none)=some (.bool a.isNone):=by
 show (if zJ Tryz.prog 180=true then some (Value.bool a.isNone) else none)=_
 rw [if_pos (by kernel_rfl)]
theorem zL:∀ {L:LL} {M:aR} {a:Addr} {o:Option Value},aJ M L ->eE L a=some o ->M a.block=none
 | (b,cs)::L,M,a,o,hn,h=>by
  by_cases hb:a.block=b
  ·rw [hb];exact hn.1
  ·rw [eE,if_neg hb] at h
   exact zL hn.2 h
def dL {T0 T:Tm}{M M':aR}{L:LL}{R0 R:RR}(h:bm M M')(hn:aJ M' L):fW ⟨T0,M,L,R0⟩ ⟨T,M',L,R⟩:=by
 intro a v hv
 simp only [Sh.cell] at hv ⊢
 cases hm:aN M a with
 | some u=>
  rw [hm] at hv
  rw [ay h hm];exact hv
 | none=>
  rw [hm] at hv
  cases hl:eE L a with
  | none=>rw [hl] at hv;simp at hv
  | some o=>
   have hb:=zL hn hl
   have:aN M' a=none:=by
    obtain ⟨k,f,sp⟩:=a
    unfold aN
    cases sp with
    | none=>simp only at hb ⊢;rw [hb];rfl
    | some q=>simp
   rw [this]
   rw [hl] at hv
   exact hv
def dJ {T0 T:Tm}{M M':aR}{L:LL}{R0 R:RR}{b:Nat}{cs:List Value}(h:bm M M')(hn:aJ M' L)(hb:bf b L):fW ⟨T0,M,L,R0⟩ ⟨T,M',(b,cs)::L,R⟩:=by
 intro a v hv
 have h1:=dL (T:=T) (R:=R) h hn a v hv
 simp only [Sh.cell] at h1 hv ⊢
 cases hm:aN M' a with
 | some u=>rw [hm] at h1;exact h1
 | none=>
  rw [hm] at h1
  cases hl:eE L a with
  | none=>rw [hl] at h1;simp at h1
  | some o=>
   have cm:a.block≠b:=fun Xq=>by
    have:∀ {L:LL},bf b L ->eE L a=none:=by
     intro L
     induction L with
     | nil=>intro _;rfl
     | cons p l ih=>
      obtain ⟨k,ds⟩:=p
      intro iC
      rw [eE,if_neg (by rw [Xq];exact iC.1.1)]
      exact ih iC.2
    rw [this hb] at hl;cases hl
   rw [eE,if_neg cm]
   exact h1
def Xb (y:Ex)(v:Value)(M:aR):Prop:=∃ cs,v=.agg ⟨cs⟩/\hY M y cs
def fN (M:aR):hY M dR [.int .i64 0,.int .i64 0,.int .i64 0,st [],.int .i64 0,.slice none 0 0]:=iZ.2 ⟨_,rfl,bz⟩
def IB (M:aR)(i:Nat):hY M (Nw i) [.int .i64 2,.int .i64 0,.int .i64 0,st [],.int .i64 (i:Int),.slice none 0 0]:=iZ.2 ⟨_,rfl,bz⟩
def Tv (M:aR)(v:V):hY M (.mk 1 v 0 []) [.int .i64 1,.int .i64 v.k,.int .i64 v.n,st v.t,.int .i64 0,.slice none 0 0]:=iZ.2 ⟨_,rfl,bz⟩
def rL {α:Type}(acc:List α):Except Int (List α) ->Except Int (List α)
 | .ok l=> .ok (acc++l)
 | .error e=> .error e
theorem qt {α:Type}(r:Except Int (List α)):rL [] r=r:=by cases r<;>rfl
def BC {α:Type}(a:α):Except Int (List α) ->Except Int (List α)
 | .ok l=> .ok (a::l)
 | .error e=> .error e
theorem oe {α:Type}(acc:List α)(a:α)(r:Except Int (List α)):rL (acc++[a]) r=rL acc (BC a r):=by
 cases r with
 | ok l=>simp [rL,BC]
 | error e=>rfl
theorem BT {names:List (Bs×Bs)}{x:X}{l:List X}{y:Ex}(h:mQ names x=.ok y):eN names (x::l)=BC y (eN names l):=by
 rw [eN,h]
 cases eN names l<;>rfl
def yT {names:List (Bs×Bs)}{x:X}{l:List X}{e:Int}(h:mQ names x=.error e):eN names (x::l)=.error e:=by
 rw [eN,h]
def ExB (names:List (Bs×Bs))(x:X):Prop:=∀ (M:aR) (T:Tm) (sb:Nat) (lv kv av:Value) (b o:Nat) (cs:List Value),RS M HR 2 names lv ->M sb=some [lv,kv,av,.pointer none] ->At M b o cs ->RX M x cs ->
 bU Tryz.prog 102 [.pointer (some ⟨sb,0,none⟩),.pointer (some ⟨b,o,none⟩)] T M [] [] (wU Xb (mQ names x)) (rK (mQ names x))
def Dz {names:List (Bs×Bs)}{l:List X}(h:∀ x∈l,ExB names x)(bu:l.length<=1048576){M:aR}{sb:Nat}{lv kv av sv:Value}(hl:RS M HR 2 names lv)(Ga:M sb=some [lv,kv,av,.pointer none])(hs:RS M (RX M) 7 l sv)(T:Tm):
 bU Tryz.prog 93 [.pointer (some ⟨sb,0,none⟩),sv] T M [] [] (wU (fun l v M=>RS M (hY M) 6 l v) (eN names l)) (rK (eN names l)):=by
 obtain ⟨fp,a,c,rfl,cX,_,hg⟩:=ax (by decide) (fun _ _=>dX) hs
 refine az F93 rfl rfl ?_
 intro bj _
 simp +contextual only [go_sem,aD,sevalprocAttr]
 refine aO l.length 9 [(0,.pointer (some ⟨sb,0,none⟩)),(1,.slice a l.length c),(7,.slice a l.length c),(8,.int .i64 (l.length:Int))] (fun i e h=>∃ M' fv R acc,bm M M'/\h=⟨T,M',[],R⟩/\e 5=fv/\acc.length=i/\kY 116 6 (hY M') [] R fv acc/\rL acc (eN names (l.drop i))=eN names l) 0 (by omega) (by simp only [aE,go_sem,sevalprocAttr]) (by simp only [go_sem,sevalprocAttr]) ⟨M,_,_,[],bm.rfl',rfl,by simp only [go_sem,sevalprocAttr],rfl,cV,qt _⟩ ?_
 rintro i e h hi aI ht ⟨M1,fv,R,acc,aW,rfl,e5,js,bq,am⟩
 simp only [aE] at aI
 by_cases aL:i<l.length
 ·obtain ⟨b',o',cs',rfl,bP,eh⟩:=hg i l[i] (gq aL)
  have bK:l.drop i=l[i]::l.drop (i+1):=dq aL
  rw [bK] at am
  simp +contextual only [go_sem,aD,sevalprocAttr,aI,ht,aL]
  refine bX (h l[i] (gm aL) M1 T sb lv kv av b' _ cs' (aH aW (fun _ _ h=>h) hl) (aW _ _ Ga) (bP.ext aW) (bL aW _ _ eh)) ?_ ?_
  ·rintro v M2 bh aZ ⟨y,hy,cs,rfl,zC⟩
   rw [BT hy,<- oe] at am
   have cK:=dS zC
   simp +contextual only [go_sem,sevalprocAttr,e5,cK]
   intro b6 pA
   refine cB (Tryz.underlying114) Am zW (fY (cN bh) bq) zC (fun _ _=>dS) (nK zC) pA (by omega) (by decide) ?_
   intro fv' R' bw
   simp +contextual only [go_sem,sevalprocAttr,ht]
   refine aS (al (aC ⟨l.length - (i+1),by omega,rfl,i+1,by omega,rfl,?_,?_,M2,fv',R',acc++[y],aW.trans bh,rfl,?_,?_,bw,am⟩))
   ·simp only [aE,aI,go_sem,sevalprocAttr]
   ·simp only [go_sem,sevalprocAttr,aA i (by omega)]
   ·simp only [go_sem,sevalprocAttr]
   ·rw [List.length_append,js];rfl
  ·rintro ch M2 bh aZ ⟨er,he,rfl⟩
   rw [yT he] at am
   exact mW aG.rfl' am.symm
 ·have:i=l.length:=by omega
  subst this
  rw [List.drop_length,eN] at am
  simp +contextual only [go_sem,aD,sevalprocAttr,aI,ht,aL,e5]
  refine ct bq (by omega) (by decide) bj fun M2 bh aZ cH=>ak aG.rfl' ⟨acc,?_,?_⟩
  ·rw [<- am];simp [rL]
  ·exact aH bm.rfl' (cN bh) cH
theorem NL {M:aR}{sb:Nat}{lv kv av xv:Value}(Ga:M sb=some [lv,kv,av,.pointer none])(T:Tm):
 bU Tryz.prog 157 [.pointer (some ⟨sb,0,none⟩),xv] T M [] [] (fun _ _ _ _=>False) (rK (.error 8:Except Int Ex)):=by
 refine az aea rfl rfl ?_
 intro bj _
 simp +contextual only [go_sem,aD,sevalprocAttr,bg Ga,agH]
 intro b4 T4 eH fE iJ
 exact vu fE rfl
def exB (names:List (Bs×Bs)):∀ (sz:Nat) (x:X),SizeOf.sizeOf x<=sz ->GB x ->ExB names x:=by
 intro sz
 induction sz with
 | zero=>intro x hx;cases x;simp at hx
 | succ sz ih=>
  intro x ed ce M T sb lv kv av b o cs hl Ga ha hx
  obtain ⟨s,hs,m0,m1,m2,m3,m4,m5,m6⟩:=wq hx ha
  cases x with | mk k v tab name kids=>
  have zA:=hx
  simp only [X.k,X.v,X.tab,X.name,X.kids] at m0 m1 m2 m3 m4 m5 m6 hs
  obtain ⟨rV,_,OD⟩:=ce
  have FV:=Gk k
  obtain ⟨E,hE⟩:∃ E,E=mQ names (.mk k v tab name kids):=⟨_,rfl⟩
  rw [<- hE]
  rw [mQ] at hE
  refine az V1 rfl rfl ?_
  intro bj _
  simp +contextual only [go_sem,aD,sevalprocAttr,bg Ga,m0,acR]
  intro b3 T3 gK fU gB b4 T4 eH em fE iJ
  have hT:=fU.trans fE
  by_cases FM:19<=k
  ·rw [if_pos FM] at hE
   simp +contextual only [go_sem,sevalprocAttr,FM]
   refine bX (NL Ga T4) (fun _ _ _ _ h=>h.elim) ?_
   rintro ch M1 aW bD ⟨er,he,rfl⟩
   injection he with he
   subst he
   exact mW hT hE
  rw [if_neg FM] at hE
  by_cases h2:k=2
  ·subst h2
   rw [if_pos rfl] at hE
   simp +contextual only [go_sem,sevalprocAttr]
   refine bX (WV hl Ga ha hx T4) ?_ ?_
   ·rintro r M1 aW bD ⟨i,hi,rfl⟩
    simp only [X.tab,X.name] at hi
    rw [hi] at hE
    simp only [aJ,and_true] at bD
    simp +contextual only [go_sem,sevalprocAttr,bD]
    exact ak hT ⟨_,hE,_,rfl,IB _ _⟩
   ·rintro ch M1 aW bD ⟨er,he,rfl⟩
    simp only [X.tab,X.name] at he
    rw [he] at hE
    exact mW hT hE
  rw [if_neg h2] at hE
  by_cases h1:k=1
  ·subst h1
   rw [if_pos rfl] at hE
   simp +contextual only [go_sem,sevalprocAttr,eH,m1,m2,m3]
   exact ak hT ⟨_,hE,_,rfl,Tv _ v⟩
  rw [if_neg h1] at hE
  simp +contextual only [go_sem,sevalprocAttr,FM,h1,h2]
  refine aT ?_
  simp +contextual only [go_sem,sevalprocAttr,gK,em,m0,m6]
  refine bX (Dz (fun x hx=>ih x (by
   have h1:=List.sizeOf_lt_of_mem hx
   simp only [X.mk.sizeOf_spec] at ed
   omega) (zV OD x hx)) (by omega) hl Ga hs T4) ?_ ?_
  ·rintro r M1 aW bD ⟨l,hl,cH⟩
   rw [hl] at hE
   simp only [aJ,and_true] at bD
   obtain ⟨r1,r2⟩:=dy cH
   have r2m:=r2
   simp only [Value.cells] at r2m
   simp +contextual only [go_sem,sevalprocAttr,bD,r1,r2m]
   refine ⟨dL aW ⟨bD.1,bD.2,trivial⟩,?_⟩
   exact ak hT ⟨_,hE,_,rfl,iZ.2 ⟨_,rfl,cH⟩⟩
  ·rintro ch M1 aW bD ⟨er,he,rfl⟩
   rw [he] at hE
   exact mW hT hE
def o9 {F:Fi}{f:FuncId}{args:List Value}{dd:Option Nat}{s:List Vc.Item}{e:dx}{ds:List Deferred}{N:Tm}{M:aR}(L1:LL){b:Nat}{cs:List Value}{L2:LL}{R:RR}(hb:du Tryz.prog f=true)
 (h:∀ M',bm M M' ->M' b=some cs ->aJ M' (L1++L2) ->dp Tryz.prog F f args dd s e ds ⟨N,M',L1++L2,R⟩ ⟨⟩):dp Tryz.prog F f args dd s e ds ⟨N,M,L1++(b,cs)::L2,R⟩ ⟨⟩:=
 cD (k:=fun h'=>∃ M',bm M M'/\M' b=some cs/\aJ M' (L1++L2)/\h'=⟨N,M',L1++L2,R⟩) (dk List.perm_middle (aU fun he h1 h2=>aC ⟨_,he,h1,h2,rfl⟩))
  (by rintro h' ⟨M',he,h1,h2,rfl⟩;exact h M' he h1 h2) hb
theorem BD {p:X ->Bool}{l:List X}{gf:FuncId}{fa fc:List Value}{M:aR}{lv:Value}(hs:RS M (RX M) 7 l lv)(afp:du Tryz.prog gf=true)
 (hf:∀ x∈l,∀ (M':aR) (T:Tm) (cs:List Value),bm M M' ->RX M' x cs ->bU Tryz.prog gf (fa++(.agg ⟨cs⟩::fc)) T M' [] [] (fun r _ _ _=>r=.bool (p x)) aM) (T:Tm):
 bU Tryz.prog 154 [lv,.func (.func gf) ⟨fa⟩ ⟨fc⟩] T M [] [] (fun r _ _ _=>r=.int .i64 (ql (l.findIdx? p))) aM:=by
 obtain ⟨fp,a,c,rfl,cX,_,hg⟩:=ax (by decide) (fun _ _=>dX) hs
 refine az ad8 rfl rfl ?_
 intro bj _
 simp +contextual only [go_sem,aD,sevalprocAttr]
 refine aO l.length 8 [(0,.slice a l.length c),(1,.func (.func gf) ⟨fa⟩ ⟨fc⟩),(7,.int .i64 (l.length:Int))] (fun i e h=>∃ M',bm M M'/\h=⟨T,M',[],[]⟩/\l.findIdx? p=((l.drop i).findIdx? p).map (·+i)) 0 (by omega) (by simp only [aE,go_sem,sevalprocAttr]) (by simp only [go_sem,sevalprocAttr]) ⟨M,bm.rfl',rfl,by simp⟩ ?_
 rintro i e h hi aI ht ⟨M1,aW,rfl,am⟩
 simp only [aE] at aI
 by_cases aL:i<l.length
 ·obtain ⟨p1,o1,cs1,rfl,zj,DT⟩:=hg i l[i] (gq aL)
  have AR:l.drop i=l[i]::l.drop (i+1):=dq aL
  rw [AR,List.findIdx?_cons] at am
  obtain ⟨s1,Zu,iQ,_⟩:=bZ DT
  subst Zu
  obtain ⟨y0,y1,y2,y3,y4,y5,y6⟩:=At7 (zj.ext aW)
  simp +contextual only [go_sem,aD,sevalprocAttr,aI,ht,aL,y0,y1,y2,y3,y4,y5,y6]
  refine aF (hf l[i] (gm aL) M1 T _ aW (bL aW _ _ DT)) ?_
  rintro v M2 bh _ rfl
  cases hb:p l[i] with
  | true=>
   rw [hb] at am
   simp +contextual only [go_sem,aD,sevalprocAttr]
   exact ak aG.rfl' (by rw [am];simp [ql])
  | false=>
   rw [hb] at am
   simp +contextual only [go_sem,aD,sevalprocAttr,ht]
   refine bT aL ?_ ?_ ⟨M2,aW.trans bh,rfl,?_⟩
   ·simp only [aE,aI,go_sem,sevalprocAttr]
   ·simp only [go_sem,sevalprocAttr,aA i (by omega)]
   ·rw [am]
    cases (l.drop (i+1)).findIdx? p<;>simp;omega
 ·have:i=l.length:=by omega
  subst this
  rw [List.drop_length] at am
  simp +contextual only [go_sem,aD,sevalprocAttr,aI,ht,aL]
  exact ak aG.rfl' (by rw [am];rfl)
def GK {α:Type}(p:α ->Bool):∀ (l:List α),decide ((0:Int)<=ql (l.findIdx? p))=l.any p:=by
 intro l
 cases h:l.findIdx? p with
 | none=>
  have:∀ x∈l,p x=false:=by
   rw [List.findIdx?_eq_none_iff] at h
   simpa using h
  rw [List.any_eq_false.2 (by simpa using this)]
  rfl
 | some i=>
  have hi:=List.findIdx?_eq_some_iff_getElem.1 h
  obtain ⟨aL,hp,_⟩:=hi
  rw [List.any_eq_true.2 ⟨l[i],gm aL,hp⟩]
  simp [ql]
def Dv {p:X ->Bool}{l:List X}{gf:FuncId}{fa fc:List Value}{M:aR}{lv:Value}(hs:RS M (RX M) 7 l lv)(afp:du Tryz.prog gf=true)
 (hf:∀ x∈l,∀ (M':aR) (T:Tm) (cs:List Value),bm M M' ->RX M' x cs ->bU Tryz.prog gf (fa++(.agg ⟨cs⟩::fc)) T M' [] [] (fun r _ _ _=>r=.bool (p x)) aM) (T:Tm):
 bU Tryz.prog 196 [lv,.func (.func gf) ⟨fa⟩ ⟨fc⟩] T M [] [] (fun r _ _ _=>r=.bool (l.any p)) aM:=by
 refine az aiU rfl rfl ?_
 intro bj _
 simp +contextual only [go_sem,sevalprocAttr]
 refine aF (BD hs afp hf T) ?_
 rintro v M1 aW _ rfl
 simp +contextual only [go_sem,sevalprocAttr]
 exact ak aG.rfl' (by rw [GK])
def SpX (x:X):Prop:=∀ (M:aR) (T:Tm) (b o:Nat) (cs:List Value),At M b o cs ->RX M x cs ->bU Tryz.prog 140 [.pointer (some ⟨b,o,none⟩)] T M [] [] (fun r _ _ _=>r=.bool (rE x)) aM
theorem IQ {x:X}(h:SpX x){M:aR}{cs:List Value}(hx:RX M x cs)(T:Tm):bU Tryz.prog 197 [.agg ⟨cs⟩] T M [] [] (fun r _ _ _=>r=.bool (rE x)) aM:=by
 have hl:=dX hx
 refine az aee rfl rfl ?_
 intro bj _
 simp +contextual only [go_sem,sevalprocAttr]
 intro b2 T2 dO dA ef
 refine dh aak.bd fun M1 aW Jd bD=> ?_
 refine aF (h M1 T2 b2 0 _ (jJ Jd _ 0 (by simp)) (bL aW _ _ hx)) ?_
 rintro v M2 bh _ rfl
 simp +contextual only [go_sem,sevalprocAttr]
 exact ak dA rfl
theorem FR:∀ (l:List X),Xx l=l.any rE
 | []=>rfl
 | x::l=>by rw [Xx,List.any_cons,FR l]
def spX:∀ (sz:Nat) (x:X),SizeOf.sizeOf x<=sz ->SpX x:=by
 intro sz
 induction sz with
 | zero=>intro x hx;cases x;simp at hx
 | succ sz ih=>
  intro x ed M T b o cs ha hx
  obtain ⟨s,hs,m0,m1,m2,m3,m4,m5,m6⟩:=wq hx ha
  cases x with | mk k v tab name kids=>
  simp only [X.k,X.v,X.tab,X.name,X.kids] at m0 m1 m2 m3 m4 m5 m6 hs
  refine az aak rfl rfl ?_
  intro bj _
  by_cases FM:19<=k
  ·simp +contextual only [go_sem,sevalprocAttr,m0,FM]
   exact ak aG.rfl' (by rw [rE];simp [FM])
  ·simp +contextual only [go_sem,sevalprocAttr,m0,m6,FM]
   refine aF (Dv (p:=rE) (fa:=[]) (fc:=[]) hs aee.bd (fun x hx M' T' cs mG hc=>IQ (ih x ?_) hc T') T) ?_
   ·have h1:=List.sizeOf_lt_of_mem hx
    simp only [X.mk.sizeOf_spec] at ed
    omega
   rintro r M1 aW _ rfl
   simp +contextual only [go_sem,sevalprocAttr]
   exact ak aG.rfl' (by rw [rE,FR];simp [FM])
def VY (M:aR)(ab:Nat)(L:LL)(R:RR)(ags:List Ag):Prop:=∃ a c xs,L=[(ab,[.slice a ags.length c])]/\R=[(.slice a ags.length c,281,7,xs)]/\RL (AV M) ags xs
def Kw {M M':aR}(he:bm M M'){ab L R ags}(h:VY M ab L R ags):VY M' ab L R ags:=by
 obtain ⟨a,c,xs,h1,h2,h3⟩:=h
 exact ⟨a,c,xs,h1,h2,dl (qI he) h3⟩
def TU {α:Type}(ab:Nat)(enc:α ->Value ->aR ->Prop)(res:Except Int (α×List Ag)):ep:=fun v M' L' R'=>∃ a ags,res=.ok (a,ags)/\enc a v M'/\VY M' ab L' R' ags
def GM {α:Type}{T N:Tm}{M:aR}{L1 L:LL}{R1 R:RR}{dr ts e post}{ks:List Nat}{n:Nat}{res:Except Int α}{c:Int}(hT:aG T N)(hk:aV L=ks)(hn:R.length=n)(h:res=.error c):(fi Tryz.prog T dr ts ks n post (rK res)).pan (GH c) e [] ⟨N,M,L1++L,R1++R⟩:=by
 rw [l9,j5]
 refine gS L1 ?_
 induction R1 with
 | nil=>exact aQ hT hk hn ⟨c,h,rfl⟩
 | cons r R1 ih=>exact mK ih
def aa7 {α:Type}{T N:Tm}{M:aR}{L1 L:LL}{R1 R:RR}{dr ts e post d s}{ks:List Nat}{n:Nat}{res:Except Int α}{c:Int}(hT:aG T N)(hk:aV L=ks)(hn:R.length=n)(h:res=.error c):
 dp Tryz.prog (fi Tryz.prog T dr ts ks n post (rK res)) 141 [.int .i64 c] d s e [] ⟨N,M,L1++L,R1++R⟩ ⟨⟩:=by
 refine bX (Fs c M N) (fun _ _ _ _ h=>h.elim) ?_
 rintro ch M1 aW bD rfl
 exact GM hT hk hn h
structure Gs (M:aR) (sb ab rb:Nat) (names:List (Bs×Bs)) (aV:List X) (lv kv cv kw aw:Value):Prop where
 s:M sb=some [cv,kv,.pointer (some ⟨ab,0,none⟩),.pointer (some ⟨rb,0,none⟩)]
 r:M rb=some [lv,kw,aw,.pointer none]
 n:RS M HR 2 names lv
 k:RS M (RX M) 7 aV kv
def Gs.ext {M M':aR}(he:bm M M'){sb ab rb names aV lv kv cv kw aw}(h:Gs M sb ab rb names aV lv kv cv kw aw):Gs M' sb ab rb names aV lv kv cv kw aw:=
 ⟨he _ _ h.s,he _ _ h.r,aH he (fun _ _ h=>h) h.n,aH he (bL he) h.k⟩
def Nm (names:List (Bs×Bs))(nk:Nat)(k:Int)(kids:List X)(ags:List Ag):Except Int (Ex×List Ag):=match Ip names kids with
 | .ok a=> .ok (Nw (nk+ags.length),ags++[⟨k - 18,a⟩])
 | .error e=> .error e
def QF {names nk k kids ags e}(h:Ip names kids=.error e):Nm names nk k kids ags=.error e:=by unfold Nm;rw [h]
def Wu {names nk k kids ags a}(h:Ip names kids=.ok a):Nm names nk k kids ags=.ok (Nw (nk+ags.length),ags++[⟨k - 18,a⟩]):=by unfold Nm;rw [h]
theorem V5 {M:aR}{k:Int}{y:Ex}{cs:List Value}(h:hY M y cs):AV M ⟨k,y⟩ (.int .i64 k::cs):=⟨cs,h,rfl⟩
def aaV {M:aR}{sb ab rb:Nat}{names:List (Bs×Bs)}{keys':List X}{lv kv cv kw aw:Value}{k:Int}{v:V}{tab name:Bs}{kids:List X}{b o:Nat}{cs:List Value}{ags:List Ag}{L:LL}{R:RR}(hG:Gs M sb ab rb names keys' lv kv cv kw aw)
 (ha:At M b o cs) (hx:RX M (.mk k v tab name kids) cs) (ce:GB (.mk k v tab name kids)) (hk:19<=k) (hA:VY M ab L R ags) (bu:ags.length<=1048576) (rV:keys'.length<=1048576) (T:Tm):
 bU Tryz.prog 157 [.pointer (some ⟨sb,0,none⟩),.pointer (some ⟨b,o,none⟩)] T M L R (TU ab Xb (Nm names keys'.length k kids ags)) (rK (Nm names keys'.length k kids ags)):=by
 obtain ⟨s,hs,m0,m1,m2,m3,m4,m5,m6⟩:=wq hx ha
 simp only [X.k,X.v,X.tab,X.name,X.kids] at m0 m1 m2 m3 m4 m5 m6 hs
 obtain ⟨XJ,_,OD⟩:=ce
 have ap7:k<=23:=by
  unfold rZ at XJ
  repeat' split at XJ
  all_goals omega
 obtain ⟨fp,sa,sc,rfl,cX,_,hg⟩:=ax (by decide) (fun _ _=>dX) hs
 obtain ⟨aa,ac,xs,rfl,rfl,fq⟩:=hA
 have iY:=eJ (fun _ _=>mM) fq
 refine az aea rfl rfl ?_
 intro bj _
 simp only [aJ,and_true] at bj
 have w1:IntKind.i64.wrap (k - 19)=k - 19:=bJ (by omega) (by omega)
 have w2:IntKind.i64.wrap (k - 19+1)=k - 18:=by rw [bJ (by omega) (by omega)];omega
 simp +contextual only [go_sem,sevalprocAttr,bg hG.s,agH]
 intro b4 T4 eH em fE iJ
 rw [dM,if_neg (by decide),EY]
 simp +contextual only [go_sem,sevalprocAttr,m0,m6,w1,w2]
 intro b5 T5 jz eg ko nq
 have hT:=fE.trans ko
 refine fg (fun e ds h=>ds=[]/\e 0=.pointer (some ⟨sb,0,none⟩)/\e 4=.pointer (some ⟨b4,0,none⟩)/\e 5=.pointer (some ⟨b5,0,none⟩)/\∃ M' y c0 c1 c2 c3 c4 c5,bm M M'/\Ip names kids=.ok y/\hY M' y [c0,c1,c2,c3,c4,c5]/\(∀ u∈[c0,c1,c2,c3,c4,c5],u.oneCell'=true)/\M' b5=none/\M' b4=none/\M' ab=none/\
  h=⟨T5,M',[(b5,[.int .i64 (k - 18),c0,c1,c2,c3,c4,c5]),(b4,[.int .i64 0,.int .i64 0,.int .i64 0,st [],.int .i64 0,.slice none 0 0]),(ab,[.slice aa ags.length ac])],[(.slice aa ags.length ac,281,7,xs)]⟩) (fun S' fh=> ?_) ?_
 ·cases kids with
  | nil=>
   have hz:¬ ((0:Int)<(([]:List X).length:Int)):=by decide
   simp +contextual only [go_sem,aD,sevalprocAttr]
   refine fh _ _ _ ⟨rfl,?_,?_,?_,M,dR,_,_,_,_,_,_,bm.rfl',rfl,fN M,?_,jz,eH,bj,rfl⟩
   ·simp only [go_sem,sevalprocAttr]
   ·simp only [go_sem,sevalprocAttr]
   ·simp only [go_sem,sevalprocAttr]
   ·exact nK (fN M)
  | cons x0 kr=>
   have hz:(0:Int)<((x0::kr:List X).length:Int):=by simp only [List.length_cons];omega
   have hz2:(1:Int)<=((x0::kr:List X).length:Int):=by simp only [List.length_cons];omega
   obtain ⟨b',o',cs',rfl,bP,eh⟩:=hg 0 x0 rfl
   rw [Nat.zero_mul,Nat.add_zero] at bP
   simp +contextual only [go_sem,aD,sevalprocAttr]
   refine aT ?_
   simp +contextual only [go_sem,sevalprocAttr,bg hG.s,m6]
   refine bX (exB names _ x0 (Nat.le_refl _) OD.1 M T5 rb lv kw aw b' o' cs' hG.n hG.r bP eh) ?_ ?_
   ·rintro r M1 aW bD ⟨y,hy,cs1,rfl,zC⟩
    obtain ⟨s1,rfl,iQ,_⟩:=dG zC
    simp only [aJ] at bD
    simp +contextual only [go_sem,sevalprocAttr,iQ]
    refine ⟨dL aW ⟨bD.1,bD.2.1,bD.2.2.1,trivial⟩,?_⟩
    refine fh _ _ _ ⟨rfl,?_,?_,?_,M1,y,_,_,_,_,_,_,aW,?_,zC,nK zC,bD.1,bD.2.1,bD.2.2.1,rfl⟩
    ·simp only [go_sem,sevalprocAttr]
    ·simp only [go_sem,sevalprocAttr]
    ·simp only [go_sem,sevalprocAttr]
    ·simp only [Ip];exact hy
   ·rintro ch M1 aW bD ⟨er,he,rfl⟩
    refine GM (L1:=[(b5,_),(b4,_)]) (R1:=[]) hT rfl rfl ?_
    exact QF (by simp only [Ip];exact he)
 ·rintro e ds h ⟨rfl,e0,e4,e5,M1,y,c0,c1,c2,c3,c4,c5,aW,hy,zC,dB,n5,n4,na,rfl⟩
  have hG1:=hG.ext aW
  have agv:=dl (fun x cs h=>qI aW x cs h) fq
  simp +contextual only [go_sem,sevalprocAttr]
  refine aT ?_
  simp +contextual only [go_sem,sevalprocAttr,e0,e5,bg hG1.s,n5,na,em,eg]
  intro b6 pA gR
  refine ⟨dJ bm.rfl' ⟨n5,n4,na,trivial⟩ ⟨gR.1,gR.2.1,gR.2.2,trivial⟩,?_⟩
  have DM:=V5 (k:=k - 18) zC
  have agu:=eJ (fun _ _=>mM) agv
  refine gX Ul TH (.slice _ 1 _ _ _ Tryz.underlying117 (cF [] pA trivial rfl) (by
   intro u hu
   rcases lQ hu with rfl | hu
   ·rfl
   ·exact dB u hu)) (by rw [agu];simp only [ln];omega) ?_
  intro ra rm rc jl
  have jm:rm=(ags++[⟨k - 18,y⟩]:List Ag).length:=by
   rw [agu] at jl
   simp only [List.length_append,ln] at jl ⊢
   omega
  subst jm
  obtain ⟨_,ka,kc,rfl,_⟩:=ax (by decide) (fun _ _=>dX) hG1.k
  have w3:IntKind.i64.wrap ((keys'.length:Int)+((ags++[⟨k - 18,y⟩]:List Ag).length:Int))=((keys'.length+ags.length+1:Nat):Int):=by
   rw [bJ (by simp only [List.length_append,ln];omega) (by simp only [List.length_append,ln];omega)]
   simp only [List.length_append,ln];omega
  have w4:IntKind.i64.wrap (((keys'.length+ags.length+1:Nat):Int) - 1)=((keys'.length+ags.length:Nat):Int):=by
   rw [bJ (by omega) (by omega)];omega
  simp +contextual only [go_sem,sevalprocAttr,em,eg,gR]
  refine ⟨dJ bm.rfl' ⟨n5,n4,na,trivial⟩ ⟨gR.1,gR.2.1,gR.2.2,trivial⟩,?_⟩
  refine aT ?_
  simp +contextual only [go_sem,sevalprocAttr,e0,e4,bg hG1.s,n4,na,em,eg,gR,w3,w4]
  refine al (al (al (aQ hT rfl rfl ⟨_,_,Wu hy,⟨_,rfl,IB _ _⟩,ra,rc,_,rfl,rfl,cS agv (dm DM)⟩)))
def Ai {F:Fi}{f:FuncId}{args:List Value}{dd:Option Nat}{s:List Vc.Item}{e:dx}{ds:List Deferred}{N:Tm}{M:aR}(L1:LL){Lp:LL}(R1:RR){Rp:RR}{post:ep}{pan:mC}
 (hc:bU Tryz.prog f args N M Lp Rp post pan)
 (hn:∀ v M' L' R',bm M M' ->aV L'=aV Lp ->R'.length=Rp.length ->aJ M' (L1++L') ->post v M' L' R' ->cA Tryz.prog F s (cI e dd v) ds ⟨N,M',L1++L',R1++R'⟩ ⟨⟩)
 (hp:∀ ch M' L' R',bm M M' ->aV L'=aV Lp ->R'.length=Rp.length ->pan ch M' L' R' ->F.pan ch e ds ⟨N,M',L1++L',R1++R'⟩):dp Tryz.prog F f args dd s e ds ⟨N,M,L1++Lp,R1++Rp⟩ ⟨⟩:=by
 have key:∀ (L2:LL) (R2:RR),L2=L1++Lp++[] ->R2=R1++Rp++[] ->dp Tryz.prog F f args dd s e ds ⟨N,M,L2,R2⟩ ⟨⟩:=by
  rintro _ _ rfl rfl
  refine gO L1 Lp [] R1 Rp [] hc (fun v M' L' R' hM hk hR bj hq=> ?_) (fun ch M' L' R' hM hk hR bj hq=> ?_)
  ·have k2:∀ (L2:LL) (R2:RR),L2=L1++L' ->R2=R1++R' ->cA Tryz.prog F s (cI e dd v) ds ⟨N,M',L2,R2⟩ ⟨⟩:=by
    rintro _ _ rfl rfl
    exact hn v M' L' R' hM hk hR (by simpa using bj) hq
   exact k2 _ _ (by simp) (by simp)
  ·have:=hp ch M' L' R' hM hk hR hq
   simpa using this
 exact key _ _ (by simp) (by simp)
theorem vP {α:Type}{F:Fi}{f:FuncId}{args:List Value}{dd:Option Nat}{s:List Vc.Item}{e:dx}{ds:List Deferred}{N:Tm}{M:aR}{el:TypeId}{sz:Nat}{r:α ->List Value ->Prop}{R0 R:RR}{fv:Value}{acc:List α}{post:ep}{pan:mC}(L1:LL){Lp:LL}
 (hc:bU Tryz.prog f args N M Lp R0 post pan) (h:kY el sz r R0 R fv acc)
 (hn:∀ v M' L' R0' R',bm M M' ->aV L'=aV Lp ->R0'.length=R0.length ->aJ M' (L1++L') ->post v M' L' R0' ->kY el sz r R0' R' fv acc ->cA Tryz.prog F s (cI e dd v) ds ⟨N,M',L1++L',R'⟩ ⟨⟩)
 (hp:∀ ch M' L' R1 R0',bm M M' ->aV L'=aV Lp ->R0'.length=R0.length ->pan ch M' L' R0' ->F.pan ch e ds ⟨N,M',L1++L',R1++R0'⟩):dp Tryz.prog F f args dd s e ds ⟨N,M,L1++Lp,R⟩ ⟨⟩:=by
 have key:∀ (R1:RR) (R2:RR) (L2:LL),L2=L1++Lp++[] ->R2=R1++R0++[] ->(∀ R0',kY el sz r R0' (R1++R0') fv acc) ->dp Tryz.prog F f args dd s e ds ⟨N,M,L2,R2⟩ ⟨⟩:=by
  rintro R1 _ _ rfl rfl bq
  refine gO L1 Lp [] R1 R0 [] hc (fun v M' L' R' hM hk hR bj hq=> ?_) (fun ch M' L' R' hM hk hR bj hq=> ?_)
  ·have k2:∀ (L2:LL) (R2:RR),L2=L1++L' ->R2=R1++R' ->cA Tryz.prog F s (cI e dd v) ds ⟨N,M',L2,R2⟩ ⟨⟩:=by
    rintro _ _ rfl rfl
    exact hn v M' L' R' _ hM hk hR (by simpa using bj) hq (bq R')
   exact k2 _ _ (by simp) (by simp)
  ·have:=hp ch M' L' R1 R' hM hk hR hq
   simpa using this
 rcases h with ⟨rfl,rfl,rfl⟩ | ⟨a,c,xs,rfl,h3,rfl⟩
 ·exact key [] _ _ (by simp) (by simp) fun R0'=> .inl ⟨rfl,rfl,rfl⟩
 ·exact key [(.slice a acc.length c,el,sz,xs)] _ _ (by simp) (by simp) fun R0'=> .inr ⟨a,c,xs,rfl,h3,rfl⟩
mutual
def IA:X ->Nat
 | .mk _ _ _ _ kids=>1+yC kids
def yC:List X ->Nat
 | []=>0
 | x::l=>IA x+yC l
end
mutual
theorem qT {names:List (Bs×Bs)}{aV:List X}:∀ (x:X) (ags:List Ag) (y:Ex) (ags':List Ag),rQ names aV x ags=.ok (y,ags') ->ags'.length<=ags.length+IA x
 | .mk k v tab name kids,ags,y,ags',h=>by
  rw [rQ] at h
  rw [IA]
  split at h
  ·injection h with h;injection h with h1 h2;subst h2;omega
  ·split at h
   ·split at h
    ·injection h with h;injection h with h1 h2;subst h2;simp
    ·cases h
   ·split at h
    ·cases h
    ·split at h
     ·injection h with h;injection h with h1 h2;subst h2;omega
     ·split at h
      ·rename_i l hl
       injection h with h;injection h with h1 h2;subst h2
       have:=yV kids ags l.1 l.2 hl
       omega
      ·cases h
theorem yV {names:List (Bs×Bs)}{aV:List X}:∀ (l:List X) (ags:List Ag) (ys:List Ex) (ags':List Ag),fS names aV l ags=.ok (ys,ags') ->ags'.length<=ags.length+yC l
 | [],ags,ys,ags',h=>by
  rw [fS] at h
  injection h with h;injection h with h1 h2;subst h2;omega
 | x::l,ags,ys,ags',h=>by
  rw [fS] at h
  rw [yC]
  split at h
  ·cases h
  ·rename_i y hy
   split at h
   ·rename_i m hm
    injection h with h;injection h with h1 h2;subst h2
    have h1:=qT x ags y.1 y.2 hy
    have h2:=yV l y.2 m.1 m.2 hm
    omega
   ·cases h
end
def GP {α:Type}(acc:List α):Except Int (List α×List Ag) ->Except Int (List α×List Ag)
 | .ok (l,g)=> .ok (acc++l,g)
 | .error e=> .error e
def Q3 {α:Type}(a:α):Except Int (List α×List Ag) ->Except Int (List α×List Ag)
 | .ok (l,g)=> .ok (a::l,g)
 | .error e=> .error e
theorem GQ {α:Type}(r:Except Int (List α×List Ag)):GP [] r=r:=by cases r<;>rfl
theorem Cu {α:Type}(acc:List α)(a:α)(r:Except Int (List α×List Ag)):GP (acc++[a]) r=GP acc (Q3 a r):=by
 cases r with
 | ok l=>simp [GP,Q3]
 | error e=>rfl
theorem BU {names:List (Bs×Bs)}{aV:List X}{x:X}{l:List X}{ags ags':List Ag}{y:Ex}(h:rQ names aV x ags=.ok (y,ags')):fS names aV (x::l) ags=Q3 y (fS names aV l ags'):=by
 rw [fS,h]
 simp only
 cases fS names aV l ags'<;>rfl
def yU {names:List (Bs×Bs)}{aV:List X}{x:X}{l:List X}{ags:List Ag}{e:Int}(h:rQ names aV x ags=.error e):fS names aV (x::l) ags=.error e:=by
 rw [fS,h]
def ExG (names:List (Bs×Bs))(keys':List X)(x:X):Prop:=∀ (M:aR) (T:Tm) (sb ab rb:Nat) (lv kv cv kw aw:Value) (b o:Nat) (cs:List Value) (ags:List Ag) (L:LL) (R:RR),Gs M sb ab rb names keys' lv kv cv kw aw ->At M b o cs ->RX M x cs ->VY M ab L R ags ->ags.length+IA x<=1048576 ->
 bU Tryz.prog 102 [.pointer (some ⟨sb,0,none⟩),.pointer (some ⟨b,o,none⟩)] T M L R (TU ab Xb (rQ names keys' x ags)) (rK (rQ names keys' x ags))
theorem tD {M:aR}{ab:Nat}{L:LL}{R:RR}{ags:List Ag}(h:VY M ab L R ags):aV L=[ab]/\R.length=1:=by
 obtain ⟨a,c,xs,rfl,rfl,_⟩:=h
 exact ⟨rfl,rfl⟩
def WN {names:List (Bs×Bs)}{keys':List X}{l:List X}(h:∀ x∈l,ExG names keys' x)(bu:l.length<=1048576){M:aR}{sb ab rb:Nat}{lv kv cv kw aw sv:Value}{ags:List Ag}{L:LL}{R:RR}(hG:Gs M sb ab rb names keys' lv kv cv kw aw)(hs:RS M (RX M) 7 l sv)(hA:VY M ab L R ags)(Jh:ags.length+yC l<=1048576)(T:Tm):
 bU Tryz.prog 93 [.pointer (some ⟨sb,0,none⟩),sv] T M L R (TU ab (fun l v M=>RS M (hY M) 6 l v) (fS names keys' l ags)) (rK (fS names keys' l ags)):=by
 obtain ⟨fp,a,c,rfl,cX,_,hg⟩:=ax (by decide) (fun _ _=>dX) hs
 obtain ⟨nU,uT⟩:=tD hA
 refine az F93 rfl rfl ?_
 intro bj _
 simp +contextual only [go_sem,aD,sevalprocAttr]
 refine aO l.length 9 [(0,.pointer (some ⟨sb,0,none⟩)),(1,.slice a l.length c),(7,.slice a l.length c),(8,.int .i64 (l.length:Int))] (fun i e h=>∃ M' L' R0 R' fv acc agi,bm M M'/\h=⟨T,M',L',R'⟩/\aJ M' L'/\e 5=fv/\acc.length=i/\VY M' ab L' R0 agi/\kY 116 6 (hY M') R0 R' fv acc/\agi.length+yC (l.drop i)<=1048576/\GP acc (fS names keys' (l.drop i) agi)=fS names keys' l ags) 0 (by omega) (by simp only [aE,go_sem,sevalprocAttr]) (by simp only [go_sem,sevalprocAttr]) ⟨M,L,R,R,_,[],ags,bm.rfl',rfl,bj,by simp only [go_sem,sevalprocAttr],rfl,hA,cV,Jh,GQ _⟩ ?_
 rintro i e h hi aI ht ⟨M1,L1,R0,R1,fv,acc,agi,aW,rfl,bD,e5,js,hA1,bq,Zq,am⟩
 simp only [aE] at aI
 obtain ⟨EB,hr1⟩:=tD hA1
 by_cases aL:i<l.length
 ·obtain ⟨b',o',cs',rfl,bP,eh⟩:=hg i l[i] (gq aL)
  have bK:l.drop i=l[i]::l.drop (i+1):=dq aL
  rw [bK] at am Zq
  rw [yC] at Zq
  simp +contextual only [go_sem,aD,sevalprocAttr,aI,ht,aL]
  refine vP [] (h l[i] (gm aL) M1 T sb ab rb lv kv cv kw aw b' _ cs' agi L1 R0 (hG.ext aW) (bP.ext aW) (bL aW _ _ eh) hA1 (by omega)) bq ?_ ?_
  ·rintro v M2 L2 R2 R3 bh lr hr2 aZ ⟨y,ag2,hy,⟨cs,rfl,zC⟩,PR⟩ fB
   rw [BU hy,<- Cu] at am
   have uo:=qT _ _ _ _ hy
   have cK:=dS zC
   simp only [List.nil_append] at aZ
   simp +contextual only [go_sem,sevalprocAttr,e5,cK]
   intro b6 pA gR
   refine cB (Tryz.underlying114) Am zW (fY (cN bh) fB) zC (fun _ _=>dS) (nK zC) pA (by omega) (by decide) ?_
   intro fv' R' bw
   simp +contextual only [go_sem,sevalprocAttr,ht]
   refine aS (al (aC ⟨l.length - (i+1),by omega,rfl,i+1,by omega,rfl,?_,?_,M2,L2,R2,R',fv',acc++[y],ag2,aW.trans bh,rfl,aZ,?_,?_,PR,bw,by omega,am⟩))
   ·simp only [aE,aI,go_sem,sevalprocAttr]
   ·simp only [go_sem,sevalprocAttr,aA i (by omega)]
   ·simp only [go_sem,sevalprocAttr]
   ·rw [List.length_append,js];rfl
  ·rintro ch M2 L2 R2 R3 bh lr hr2 ⟨er,he,rfl⟩
   rw [yU he] at am
   exact GM (L1:=[]) (R1:=R2) aG.rfl' ((lr.trans EB).trans nU.symm) (by omega) am.symm
 ·have:i=l.length:=by omega
  subst this
  rw [List.drop_length,fS] at am
  simp +contextual only [go_sem,aD,sevalprocAttr,aI,ht,aL,e5]
  refine ct bq (by omega) (by decide) bD fun M2 bh aZ cH=>aQ aG.rfl' (EB.trans nU.symm) (by omega) ⟨acc,agi,?_,?_,Kw bh hA1⟩
  ·rw [<- am];simp [GP]
  ·exact aH bm.rfl' (cN bh) cH
theorem NR {x y:X}{M:aR}{b3 b o:Nat}{cs cs':List Value}(h3:M b3=some [.pointer (some ⟨b,o,none⟩)])(ha:At M b o cs)(hx:RX M x cs)(hy:RX M y cs')(T:Tm):
 bU Tryz.prog 155 [.agg ⟨cs'⟩,.pointer (some ⟨b3,0,none⟩)] T M [] [] (fun r _ _ _=>r=.bool (oM x y)) aM:=by
 have hl:=dX hy
 refine az ad9 rfl rfl ?_
 intro bj _
 simp +contextual only [go_sem,sevalprocAttr,bg h3]
 intro b2 T2 dO dA ef
 refine dh aam.bd fun M1 aW Jd bD=> ?_
 refine aF (NW _ x (Nat.le_refl _) M1 T2 b o b2 0 y _ _ (ha.ext aW) (bL aW _ _ hx) (jJ Jd _ 0 (by simp)) (bL aW _ _ hy)) ?_
 rintro v M2 bh _ rfl
 simp +contextual only [go_sem,sevalprocAttr]
 exact ak dA rfl
def exG (names:List (Bs×Bs))(keys':List X)(rV:keys'.length<=1048576):∀ (sz:Nat) (x:X),SizeOf.sizeOf x<=sz ->GB x ->ExG names keys' x:=by
 intro sz
 induction sz with
 | zero=>intro x hx;cases x;simp at hx
 | succ sz ih=>
  intro x ed ce M T sb ab rb lv kv cv kw aw b o cs ags L R hG ha hx hA Jh
  obtain ⟨s,hs,m0,m1,m2,m3,m4,m5,m6⟩:=wq hx ha
  obtain ⟨nU,uT⟩:=tD hA
  cases x with | mk k v tab name kids=>
  have zA:=hx
  simp only [X.k,X.v,X.tab,X.name,X.kids] at m0 m1 m2 m3 m4 m5 m6 hs
  obtain ⟨XJ,ab2,OD⟩:=ce
  have FV:=Gk k
  rw [IA] at Jh
  obtain ⟨E,hE⟩:∃ E,E=rQ names keys' (.mk k v tab name kids) ags:=⟨_,rfl⟩
  rw [<- hE]
  rw [rQ] at hE
  refine az V1 rfl rfl ?_
  intro bj _
  simp +contextual only [go_sem,sevalprocAttr,bg hG.s,acR]
  intro b3 T3 gK cZ fU gB b4 T4 eH em fE iJ
  have hT:=fU.trans fE
  rw [dM,if_pos (by rfl)]
  simp +contextual only [go_sem,sevalprocAttr,bg hG.s]
  refine o9 [(b4,_)] ad8.bd fun M1 aW A2 bD=> ?_
  have hG1:=hG.ext aW
  have PT:=ha.ext aW
  have DT:=bL aW _ _ hx
  refine aF (BD (p:=fun y=>oM (.mk k v tab name kids) y) (fa:=[]) (fc:=[.pointer (some ⟨b3,0,none⟩)]) hG1.k ad9.bd (fun y _ M' T' cs mG hc=>NR (mG _ _ A2) (PT.ext mG) (bL mG _ _ DT) hc T') T4) ?_
  rintro r M2 bh aZ rfl
  have eb:=aW.trans bh
  replace A2:=bh _ _ A2
  have hG2:=hG.ext eb
  have ha2:=ha.ext eb
  have zB:=bL eb _ _ hx
  have nW:=aH eb (bL eb) hs
  have PR:=Kw eb hA
  replace m0:=ay eb m0
  replace m1:=ay eb m1
  replace m2:=ay eb m2
  replace m3:=ay eb m3
  replace m6:=ay eb m6
  simp only [nn,aJ] at aZ
  cases hf:keys'.findIdx? (fun y=>oM (.mk k v tab name kids) y) with
  | some j=>
   rw [hf] at hE
   simp only at hE
   simp +contextual only [go_sem,aD,sevalprocAttr,ql,aZ]
   exact al (aQ hT rfl rfl ⟨_,_,hE,⟨_,rfl,IB _ _⟩,PR⟩)
  | none=>
   rw [hf] at hE
   simp only at hE
   by_cases FM:19<=k
   ·rw [if_pos FM] at hE
    simp +contextual only [go_sem,aD,sevalprocAttr,ql,bg A2,m0,FM]
    refine Ai [(b4,_)] [] (aaV hG2 ha2 zB ⟨XJ,ab2,OD⟩ FM PR (by omega) rV T4) ?_ ?_
    ·rintro r M3 L3 R3 bG zq XS bC ⟨y,ag3,hy,⟨cs3,rfl,zC⟩,hA3⟩
     obtain ⟨s3,rfl,F2,_⟩:=dG zC
     simp only [nn,aJ] at bC
     simp +contextual only [go_sem,sevalprocAttr,bC,F2]
     refine al (aQ hT zq XS ⟨y,ag3,?_,⟨_,rfl,zC⟩,hA3⟩)
     rw [hE];exact hy
    ·rintro ch M3 L3 R3 bG zq XS ⟨er,he,rfl⟩
     exact GM (L1:=[(b4,_)]) (R1:=[]) hT zq XS (hE.trans he)
   rw [if_neg FM] at hE
   by_cases h2:k=2
   ·subst h2
    rw [if_pos rfl] at hE
    simp +contextual only [go_sem,aD,sevalprocAttr,ql,bg A2,m0,FM,acR,bg hG2.s]
    exact aa7 (L1:=[(b4,_)]) (R1:=[]) hT rfl rfl hE
   rw [if_neg h2] at hE
   by_cases h1:k=1
   ·subst h1
    rw [if_pos rfl] at hE
    simp +contextual only [go_sem,aD,sevalprocAttr,ql,aZ,bg A2,m0,m1,m2,m3,FM]
    exact al (aQ hT rfl rfl ⟨_,_,hE,⟨_,rfl,Tv _ v⟩,PR⟩)
   rw [if_neg h1] at hE
   simp +contextual only [go_sem,aD,sevalprocAttr,ql,bg A2,m0,FM,h1,h2]
   refine eG ⟨T,M2,[],[]⟩ (qN bm.rfl') ?_
   simp +contextual only [go_sem,sevalprocAttr,bg A2,m0,m6]
   refine Ai [(b4,_)] [] (WN (fun x hx=>ih x (by
    have h1:=List.sizeOf_lt_of_mem hx
    simp only [X.mk.sizeOf_spec] at ed
    omega) (zV OD x hx)) (by omega) hG2 nW PR (by omega) T4) ?_ ?_
   ·rintro r M3 L3 R3 bG zq XS bC ⟨l,ag3,hl,cH,hA3⟩
    rw [hl] at hE
    simp only at hE
    obtain ⟨r1,r2⟩:=dy cH
    have r2m:=r2
    simp only [Value.cells] at r2m
    simp only [nn,aJ] at bC
    simp +contextual only [go_sem,sevalprocAttr,bC,r1,r2m]
    refine ⟨qN bG,al (aQ hT zq XS ⟨.mk k C5 0 l,ag3,hE,⟨_,rfl,iZ.2 ⟨r,rfl,cH⟩⟩,hA3⟩)⟩
   ·rintro ch M3 L3 R3 bG zq XS ⟨er,he,rfl⟩
    rw [he] at hE
    exact GM (L1:=[(b4,_)]) (R1:=[]) hT zq XS hE
abbrev O3 (p:Pl)(s1 xv av s:Value):List Value:=[.int .i64 p.k,.int .i64 p.n,.int .i64 p.x.k,.int .i64 p.x.v.k,.int .i64 p.x.v.n,st p.x.v.t,.int .i64 p.x.c,s1,xv,av,s]
def dj {M:aR}{p:Pl}{cs:List Value}(h:gP M p cs):∃ s1 a1 n1 a2 n2 a3 n3,cs=O3 p s1 (.slice a1 p.xs.length n1) (.slice a2 p.ags.length n2) (.slice a3 p.kids.length n3)/\s1.oneCell'=true/\
 RS M (hY M) 6 p.x.kids s1/\RS M (hY M) 6 p.xs (.slice a1 p.xs.length n1)/\RS M (AV M) 7 p.ags (.slice a2 p.ags.length n2)/\RS M (gP M) 11 p.kids (.slice a3 p.kids.length n3):=by
 obtain ⟨xc,xv,av,s,rfl,h1,h2,h3,h4⟩:=jV.1 h
 obtain ⟨s1,rfl,iQ,hk⟩:=dG h1
 obtain ⟨_,a1,n1,rfl,_⟩:=ax (by decide) (fun _ _=>dS) h2
 obtain ⟨_,a2,n2,rfl,_⟩:=ax (by decide) (fun _ _=>mM) h3
 obtain ⟨_,a3,n3,rfl,_⟩:=ax (by decide) (fun _ _=>jx) h4
 exact ⟨s1,a1,n1,a2,n2,a3,n3,rfl,iQ,hk,h2,h3,h4⟩
def yk {M:aR}{p:Pl}{cs:List Value}(h:gP M p cs):∀ u∈cs,u.oneCell'=true:=by
 obtain ⟨s1,a1,n1,a2,n2,a3,n3,rfl,h1,_⟩:=dj h
 intro u hu
 simp only [O3,mn] at hu
 rcases hu with rfl | rfl | rfl | rfl | rfl | rfl | rfl | rfl | rfl | rfl | rfl<;>first | rfl | exact h1
def iz {M:aR}{r:Rel}{cs:List Value}(h:ig M r cs):∃ ca cn s1 a1 n1 a2 n2 a3 n3,cs=[st r.name,.slice ca r.cols.length cn,.bool r.view,.int .i64 r.plan.k,.int .i64 r.plan.n,.int .i64 r.plan.x.k,.int .i64 r.plan.x.v.k,.int .i64 r.plan.x.v.n,st r.plan.x.v.t,.int .i64 r.plan.x.c,s1,.slice a1 r.plan.xs.length n1,.slice a2 r.plan.ags.length n2,.slice a3 r.plan.kids.length n3]/\
 s1.oneCell'=true/\RS M tF 2 r.cols (.slice ca r.cols.length cn)/\gP M r.plan (O3 r.plan s1 (.slice a1 r.plan.xs.length n1) (.slice a2 r.plan.ags.length n2) (.slice a3 r.plan.kids.length n3)):=by
 obtain ⟨c,p,h1,h2,rfl⟩:=h
 obtain ⟨_,ca,cn,rfl,_⟩:=ax (by decide) (fun _ _=>fZ) h1
 obtain ⟨s1,a1,n1,a2,n2,a3,n3,rfl,iQ,_⟩:=dj h2
 exact ⟨ca,cn,s1,a1,n1,a2,n2,a3,n3,rfl,iQ,h1,h2⟩
def C7 {M:aR}{b o:Nat}{v0 v1 v2 v3 v4 v5 v6 v7 v8 v9 v10 v11 v12 v13:Value}(h:At M b o [v0,v1,v2,v3,v4,v5,v6,v7,v8,v9,v10,v11,v12,v13]):aN M ⟨b,o,none⟩=some v0/\aN M ⟨b,o+1,none⟩=some v1/\aN M ⟨b,o+2,none⟩=some v2/\aN M ⟨b,o+3,none⟩=some v3/\aN M ⟨b,o+4,none⟩=some v4/\aN M ⟨b,o+5,none⟩=some v5/\aN M ⟨b,o+6,none⟩=some v6/\aN M ⟨b,o+7,none⟩=some v7/\aN M ⟨b,o+8,none⟩=some v8/\aN M ⟨b,o+9,none⟩=some v9/\aN M ⟨b,o+10,none⟩=some v10/\aN M ⟨b,o+11,none⟩=some v11/\aN M ⟨b,o+12,none⟩=some v12/\aN M ⟨b,o+13,none⟩=some v13:=by
 obtain ⟨h0,h1,h2,h3,h4,h5,h6,h7,h8,h9,I4,Zf,eb,tw,_⟩:=h
 exact ⟨h0,h1,h2,h3,h4,h5,h6,h7,h8,h9,I4,Zf,eb,tw⟩
def aa1 (p:Pl)(v:Value)(M:aR):Prop:=∃ cs,v=.agg ⟨cs⟩/\gP M p cs
def aeI (r:Pl×List Co)(v:Value)(M:aR):Prop:=∃ cs cv,v=.tuple ⟨[.agg ⟨cs⟩,cv]⟩/\gP M r.1 cs/\RS M tF 2 r.2 cv
def Y1 (M:aR):gP M pj [.int .i64 0,.int .i64 0,.int .i64 0,.int .i64 0,.int .i64 0,st [],.int .i64 0,.slice none 0 0,.slice none 0 0,.slice none 0 0,.slice none 0 0]:=
 jV.2 ⟨_,_,_,_,rfl,fN M,bz,bz,bz⟩
def UR (M:aR)(n:Nat):gP M (AD n) [.int .i64 1,.int .i64 (n:Int),.int .i64 0,.int .i64 0,.int .i64 0,st [],.int .i64 0,.slice none 0 0,.slice none 0 0,.slice none 0 0,.slice none 0 0]:=
 jV.2 ⟨_,_,_,_,rfl,fN M,bz,bz,bz⟩
theorem yW (name:Bs)(n:Nat)(r:Rel)(l:List Rel):tV name n (r::l)=if r.name=name then some (if r.view=true then r.plan else AD n,r.cols) else tV name (if r.view=true then n else n+1) l:=rfl
def aaX {M:aR}{bb:Nat}{rels:List Rel}{rv:Value}(name:Bs)(hr:RS M (ig M) 14 rels rv)(XD:M bb=some [rv])(T:Tm):
 bU Tryz.prog 193 [.pointer (some ⟨bb,0,none⟩),st name] T M [] [] (wU aeI (rR rels name)) (rK (rR rels name)):=by
 obtain ⟨fp,a,c,rfl,cX,_,hg⟩:=ax (by decide) (fun _ _=>ii) hr
 have abD:tV name 0 rels=none ->rR rels name=.error 7:=fun h=>by unfold rR;rw [h]
 have Ca:∀ {x},tV name 0 rels=some x ->rR rels name=.ok x:=fun h=>by unfold rR;rw [h]
 refine az aiR rfl rfl ?_
 intro bj _
 simp +contextual only [go_sem,aD,sevalprocAttr,bg XD]
 intro b4 T4 eH fE iJ
 refine aO rels.length 14 [(1,st name),(4,.pointer (some ⟨b4,0,none⟩)),(12,.slice a rels.length c),(13,.int .i64 (rels.length:Int))] (fun i e h=>∃ T' n,aG T4 T'/\h=⟨T',M,[(b4,[.int .i64 0,.int .i64 0,.int .i64 0,.int .i64 0,.int .i64 0,st [],.int .i64 0,.slice none 0 0,.slice none 0 0,.slice none 0 0,.slice none 0 0])],[]⟩/\e 6=.int .i64 ((n:Nat):Int)/\n<=i/\tV name n (rels.drop i)=tV name 0 rels) 0 (by omega) (by simp only [aE,go_sem,sevalprocAttr]) (by simp only [go_sem,sevalprocAttr]) ⟨T4,0,aG.rfl',rfl,by simp only [go_sem,sevalprocAttr],by omega,rfl⟩ ?_
 rintro i e h hi aI ht ⟨T1,n,cY,rfl,e6,hni,am⟩
 simp only [aE] at aI
 by_cases aL:i<rels.length
 ·obtain ⟨b',o',cs',rfl,bP,eh⟩:=hg i rels[i] (gq aL)
  obtain ⟨ca,cn,s1,a1,n1,a2,n2,a3,n3,rfl,iQ,eD,tA⟩:=iz eh
  obtain ⟨y0,y1,y2,y3,y4,y5,y6,y7,y8,y9,y10,y11,y12,y13⟩:=C7 bP
  have bK:rels.drop i=rels[i]::rels.drop (i+1):=dq aL
  rw [bK,yW] at am
  have hT:=fE.trans cY
  by_cases hn:rels[i].name=name
  ·rw [if_pos hn] at am
   cases hv:rels[i].view with
   | true=>
    rw [hv,if_pos rfl] at am
    simp +contextual only [go_sem,aD,sevalprocAttr,aI,ht,aL,y0,y1,y2,y3,y4,y5,y6,y7,y8,y9,y10,y11,y12,y13,iQ,hn,hv]
    intro b8 T8 pp eC nE sP
    refine eG ⟨T,fun _=>none,[(b8,_)],[]⟩ (gH pp) ?_
    simp +contextual only [go_sem,sevalprocAttr,aI,eH,iQ,eC]
    exact ⟨gH pp,ak (hT.trans nE) ⟨_,Ca am.symm,_,_,rfl,tA,eD⟩⟩
   | false=>
    rw [hv,if_neg (by decide)] at am
    simp +contextual only [go_sem,aD,sevalprocAttr,aI,ht,aL,y0,y1,y2,y3,y4,y5,y6,y7,y8,y9,y10,y11,y12,y13,iQ,hn,hv]
    intro b8 T8 pp eC nE sP
    refine eG ⟨T,fun _=>none,[(b8,_)],[]⟩ (gH pp) ?_
    simp +contextual only [go_sem,sevalprocAttr,aI,eH,eC,e6]
    exact ⟨gH pp,ak (hT.trans nE) ⟨_,Ca am.symm,_,_,rfl,UR M n,eD⟩⟩
  ·rw [if_neg hn] at am
   cases hv:rels[i].view with
   | true=>
    rw [hv,if_pos rfl] at am
    simp +contextual only [go_sem,aD,sevalprocAttr,aI,ht,aL,y0,y1,y2,y3,y4,y5,y6,y7,y8,y9,y10,y11,y12,y13,iQ,hn,hv]
    intro b8 T8 pp eC nE sP
    refine aS (al (aC ⟨rels.length - (i+1),by omega,rfl,i+1,by omega,rfl,?_,?_,T8,n,cY.trans nE,rfl,?_,by omega,am⟩))
    ·simp only [aE,aI,go_sem,sevalprocAttr]
    ·simp only [go_sem,sevalprocAttr,aA i (by omega)]
    ·simp only [e6,go_sem,sevalprocAttr]
   | false=>
    rw [hv,if_neg (by decide)] at am
    simp +contextual only [go_sem,aD,sevalprocAttr,aI,ht,aL,y0,y1,y2,y3,y4,y5,y6,y7,y8,y9,y10,y11,y12,y13,iQ,hn,hv,e6]
    intro b8 T8 pp eC nE sP
    refine aS (al (aC ⟨rels.length - (i+1),by omega,rfl,i+1,by omega,rfl,?_,?_,T8,n+1,cY.trans nE,rfl,?_,by omega,am⟩))
    ·simp only [aE,aI,go_sem,sevalprocAttr]
    ·simp only [go_sem,sevalprocAttr,aA i (by omega)]
    ·simp only [go_sem,sevalprocAttr,aA n (by omega)]
 ·have:i=rels.length:=by omega
  subst this
  rw [List.drop_length] at am
  simp +contextual only [go_sem,aD,sevalprocAttr,aI,ht,aL]
  exact vu (fE.trans cY) (abD am.symm)
theorem cT {M:aR}{p:Pl}{cs:List Value}(h:gP M p cs):∃ c0 c1 c2 c3 c4 c5 c6 c7 c8 c9 c10,cs=[c0,c1,c2,c3,c4,c5,c6,c7,c8,c9,c10]/\c0.oneCell'=true/\c1.oneCell'=true/\c2.oneCell'=true/\c3.oneCell'=true/\c4.oneCell'=true/\c5.oneCell'=true/\c6.oneCell'=true/\c7.oneCell'=true/\c8.oneCell'=true/\c9.oneCell'=true/\c10.oneCell'=true:=by
 obtain ⟨s1,a1,n1,a2,n2,a3,n3,rfl,h1,_⟩:=dj h
 exact ⟨_,_,_,_,_,_,_,_,_,_,_,rfl,rfl,rfl,rfl,rfl,rfl,rfl,rfl,h1,rfl,rfl,rfl⟩
theorem jB {M:aR}{k n:Int}{x:Ex}{xs:List Ex}{ags:List Ag}{kids:List Pl}{s1 xv av s:Value}(hx:hY M x [.int .i64 x.k,.int .i64 x.v.k,.int .i64 x.v.n,st x.v.t,.int .i64 x.c,s1])(h2:RS M (hY M) 6 xs xv)(h3:RS M (AV M) 7 ags av)(h4:RS M (gP M) 11 kids s):
 gP M (.mk k n x xs ags kids) [.int .i64 k,.int .i64 n,.int .i64 x.k,.int .i64 x.v.k,.int .i64 x.v.n,st x.v.t,.int .i64 x.c,s1,xv,av,s]:=jV.2 ⟨_,_,_,_,rfl,hx,h2,h3,h4⟩
def kW {M:aR}{b:Nat}{p:Pl}{cs:List Value}(hb:M b=some cs)(hp:gP M p cs):RS M (gP M) 11 [p] (.slice (some ⟨b,0,none⟩) 1 1):=dE (fun _ _=>jx) hb (dm hp) rfl (by decide)
def tJ {M:aR}{b:Nat}{p q:Pl}{cs ds:List Value}(hb:M b=some (cs++ds))(hp:gP M p cs)(hq:gP M q ds):RS M (gP M) 11 [p,q] (.slice (some ⟨b,0,none⟩) 2 2):=dE (fun _ _=>jx) hb ⟨cs,ds,rfl,hp,dm hq⟩ rfl (by decide)
def BE {M:aR}{x:Ex}{p:Pl}{cs ds:List Value}(hx:hY M x cs)(hp:gP M p ds)(T:Tm):bU Tryz.prog 137 [.agg ⟨cs⟩,.agg ⟨ds⟩] T M [] [] (fun r M' _ _=>aa1 (oS x p) r M') aM:=by
 obtain ⟨s0,rfl,tB,nU⟩:=dG hx
 obtain ⟨s1,a1,n1,a2,n2,a3,n3,rfl,iQ,_⟩:=dj hp
 refine az ad3 rfl rfl ?_
 intro bj _
 simp +contextual only [go_sem,sevalprocAttr,tB]
 intro b2 T2 dO dA ef b3 T3 gK cZ fU gB b4 T4 eH em fE iJ b5 jz eg
 exact aU fun he h5 _=>ak ((dA.trans fU).trans fE) ⟨_,rfl,jB (cN he _ _ hx) bz bz (kW h5 (bA he _ _ hp))⟩
def DB {M:aR}{p:Pl}{ds:List Value}(hp:gP M p ds)(T:Tm):bU Tryz.prog 143 [.agg ⟨ds⟩] T M [] [] (fun r M' _ _=>aa1 (qn 11 p) r M') aM:=by
 obtain ⟨s1,a1,n1,a2,n2,a3,n3,rfl,iQ,_⟩:=dj hp
 refine az ad4 rfl rfl ?_
 intro bj _
 simp +contextual only [go_sem,sevalprocAttr]
 intro b2 T2 dO dA ef b3 T3 gK cZ fU gB b5 jz eg
 exact aU fun he h5 _=>ak (dA.trans fU) ⟨_,rfl,jB (fN _) bz bz (kW h5 (bA he _ _ hp))⟩
def WQ {M:aR}{op:Int}{p q:Pl}{cs ds:List Value}(hp:gP M p cs)(hq:gP M q ds)(T:Tm):bU Tryz.prog 92 [.int .i64 op,.agg ⟨cs⟩,.agg ⟨ds⟩] T M [] [] (fun r M' _ _=>aa1 (YA op p q) r M') aM:=by
 obtain ⟨c0,c1,c2,c3,c4,c5,c6,c7,c8,c9,c10,rfl,hc⟩:=cT hp
 obtain ⟨d0,d1,d2,d3,d4,d5,d6,d7,d8,d9,d10,rfl,hd⟩:=cT hq
 unfold YA
 refine az F92 rfl rfl ?_
 intro bj _
 by_cases h1:op=1
 ·subst h1
  simp +contextual only [go_sem,aD,sevalprocAttr]
  intro b2 T2 dO dA ef b3 T3 gK cZ fU gB b4 T4 eH em fE iJ b5 jz eg
  exact aU fun he h5 _=>ak ((dA.trans fU).trans fE) ⟨_,rfl,jB (fN _) bz bz (tJ h5 (bA he _ _ hp) (bA he _ _ hq))⟩
 by_cases h2:op=2
 ·subst h2
  simp +contextual only [go_sem,aD,sevalprocAttr]
  intro b2 T2 dO dA ef b3 T3 gK cZ fU gB b4 T4 eH em fE iJ b5 jz eg
  refine dh ad4.bd fun M1 he h5 bD=> ?_
  refine aF (DB (jB (k:=8) (n:=0) (fN _) bz bz (tJ h5 (bA he _ _ hp) (bA he _ _ hq))) T4) ?_
  rintro r M2 bh aZ ⟨c2,rfl,h2⟩
  obtain ⟨e0,e1,e2,e3,e4,e5,e6,e7,e8,e9,e10,rfl,he⟩:=cT h2
  simp only [aJ] at aZ
  simp +contextual only [go_sem,sevalprocAttr,aZ,he]
  exact ak ((dA.trans fU).trans fE) ⟨_,rfl,h2⟩
 by_cases h4:op=4
 ·subst h4
  simp +contextual only [go_sem,aD,sevalprocAttr]
  intro b2 T2 dO dA ef b3 T3 gK cZ fU gB b4 T4 eH em fE iJ
  refine aT ?_
  simp +contextual only [go_sem,sevalprocAttr,dO,gK,cZ,em]
  refine aF (DB hp T4) ?_
  rintro r M2 bh aZ ⟨_,rfl,h2⟩
  obtain ⟨e0,e1,e2,e3,e4,e5,e6,e7,e8,e9,e10,rfl,he⟩:=cT h2
  simp only [aJ] at aZ
  simp +contextual only [go_sem,sevalprocAttr]
  refine ⟨dL bh ⟨aZ.1,aZ.2.1,aZ.2.2.1,trivial⟩,?_⟩
  refine aF (DB (bA bh _ _ hq) T4) ?_
  rintro r M3 bG bC ⟨_,rfl,h3⟩
  obtain ⟨f0,f1,f2,f3,f4,f5,f6,f7,f8,f9,f10,rfl,hf⟩:=cT h3
  simp only [aJ] at bC
  simp +contextual only [go_sem,sevalprocAttr,bC,he,hf,cZ,em]
  intro b5 jz eg b6 pA gR
  refine dk (List.Perm.swap _ _ _) (aU fun zk h5 _=>aU fun pC h6 _=>ak ((dA.trans fU).trans fE) ⟨_,rfl,jB (fN _) bz bz (kW h6 (jB (fN _) bz bz ?_))⟩)
  exact tJ (cs:=[e0,e1,e2,e3,e4,e5,e6,e7,e8,e9,e10]) (ds:=[f0,f1,f2,f3,f4,f5,f6,f7,f8,f9,f10]) (pC _ _ h5) (bA ((bG.trans zk).trans pC) _ _ h2) (bA (zk.trans pC) _ _ h3)
 ·simp +contextual only [go_sem,aD,sevalprocAttr,h1,h2,h4]
  intro b2 T2 dO dA ef b3 T3 gK cZ fU gB b4 T4 eH em fE iJ b5 jz eg b6 pA gR
  refine dk (List.Perm.swap _ _ _) (aU fun zk h5 _=>aU fun pC h6 _=>ak ((dA.trans fU).trans fE) ⟨_,rfl,jB (fN _) bz bz (kW h6 (jB (fN _) bz bz ?_))⟩)
  exact tJ (cs:=[c0,c1,c2,c3,c4,c5,c6,c7,c8,c9,c10]) (ds:=[d0,d1,d2,d3,d4,d5,d6,d7,d8,d9,d10]) (pC _ _ h5) (bA (zk.trans pC) _ _ hp) (bA (zk.trans pC) _ _ hq)
end Go.Proofs.YtcpjbohndglclaaGreatDoor
namespace Go.Proofs
open Go.Shelf
def Tryz.lays171_ren:Go.Shelf.Ren:=⟨fun | 171=>198 | 243=>230 | 246=>256 | 283=>287 | 284=>288 | 285=>289 | 286=>290 | 129=>310 | 317=>309 | 318=>311 | 319=>312 | 320=>313 | 337=>328 | 338=>329 | n=>n,fun | 3=>3 | 9=>9 | 2=>2 | 4=>4 | 171=>397 | 0=>0 | 53=>329 | 37=>145 | 5=>5 | 173=>400 | 212=>419 | 51=>352 | 20=>20 | 213=>420 | 46=>332 | 232=>443 | 233=>444 | n=>n,fun | 17=>5 | 18=>6 | 19=>7 | n=>n⟩
def Tryz.lays171:Go.Proofs.Lays.n171 Tryz.prog Tryz.lays171_ren:={
 mixed:=by kernel_rfl
 f129:=Tryz.func310.trans (congrArg some (by kernel_rfl))
 f171:=Tryz.func198.trans (congrArg some (by kernel_rfl))
 f243:=Tryz.func230.trans (congrArg some (by kernel_rfl))
 f246:=Tryz.func256.trans (congrArg some (by kernel_rfl))
 f283:=Tryz.func287.trans (congrArg some (by kernel_rfl))
 f284:=Tryz.func288.trans (congrArg some (by kernel_rfl))
 f285:=Tryz.func289.trans (congrArg some (by kernel_rfl))
 f286:=Tryz.func290.trans (congrArg some (by kernel_rfl))
 f317:=Tryz.func309.trans (congrArg some (by kernel_rfl))
 f318:=Tryz.func311.trans (congrArg some (by kernel_rfl))
 f319:=Tryz.func312.trans (congrArg some (by kernel_rfl))
 f320:=Tryz.func313.trans (congrArg some (by kernel_rfl))
 f337:=Tryz.func328.trans (congrArg some (by kernel_rfl))
 f338:=Tryz.func329.trans (congrArg some (by kernel_rfl))
 t0:=Tryz.underlying0
 a0:=Tryz.isAgg0
 z0:=Tryz.sizeOf0
 v0:=Tryz.zeroValue0
 t2:=Tryz.underlying2
 a2:=Tryz.isAgg2
 z2:=Tryz.sizeOf2
 v2:=Tryz.zeroValue2
 t3:=Tryz.underlying3
 a3:=Tryz.isAgg3
 z3:=Tryz.sizeOf3
 v3:=Tryz.zeroValue3
 t4:=Tryz.underlying4
 a4:=Tryz.isAgg4
 z4:=Tryz.sizeOf4
 v4:=Tryz.zeroValue4
 t5:=Tryz.underlying5
 a5:=Tryz.isAgg5
 z5:=Tryz.sizeOf5
 v5:=Tryz.zeroValue5
 t9:=Tryz.underlying9
 a9:=Tryz.isAgg9
 z9:=Tryz.sizeOf9
 v9:=Tryz.zeroValue9
 t20:=Tryz.underlying20
 a20:=Tryz.isAgg20
 z20:=Tryz.sizeOf20
 v20:=Tryz.zeroValue20
 t37:=Tryz.underlying145
 a37:=Tryz.isAgg145
 z37:=Tryz.sizeOf145
 v37:=Tryz.zeroValue145
 t46:=Tryz.underlying332
 a46:=Tryz.isAgg332
 z46:=Tryz.sizeOf332
 v46:=Tryz.zeroValue332
 t51:=Tryz.underlying352
 a51:=Tryz.isAgg352
 z51:=Tryz.sizeOf352
 v51:=Tryz.zeroValue352
 t53:=Tryz.underlying329
 a53:=Tryz.isAgg329
 z53:=Tryz.sizeOf329
 v53:=Tryz.zeroValue329
 t171:=Tryz.underlying397
 a171:=Tryz.isAgg397
 z171:=Tryz.sizeOf397
 v171:=Tryz.zeroValue397
 t173:=Tryz.underlying400
 a173:=Tryz.isAgg400
 z173:=Tryz.sizeOf400
 v173:=Tryz.zeroValue400
 t212:=Tryz.underlying419
 a212:=Tryz.isAgg419
 z212:=Tryz.sizeOf419
 v212:=Tryz.zeroValue419
 t213:=Tryz.underlying420
 a213:=Tryz.isAgg420
 z213:=Tryz.sizeOf420
 t232:=Tryz.underlying443
 a232:=Tryz.isAgg443
 z232:=Tryz.sizeOf443
 v232:=Tryz.zeroValue443
 t233:=Tryz.underlying444
 a233:=Tryz.isAgg444
 z233:=Tryz.sizeOf444
 v233:=Tryz.zeroValue444
 g17:=by kernel_rfl
 g18:=by kernel_rfl
 g19:=by kernel_rfl}
open Go.RowKit Go.Sort Go.Lib in
theorem Tryz.strconv_Itoa_small (i:Nat)(hi:i<100)(w:World):
 Calls Tryz.prog 198 #[.int .i64 i] w fun e w'=>e=.returned (.string ⟨(Lib.decDigits i).toArray⟩)/\w'=w:=Any.strconv_Itoa_small Tryz.lays171 i hi w
end Go.Proofs
namespace Go.Proofs.YtcpjbohndglclaaGreatDoor
open Go Vc
set_option maxRecDepth 10000
theorem QJ:du Tryz.prog 198=true:=by kernel_rfl
def Q9 {M:aR}(n:Nat)(hn:n<100)(T:Tm):bU Tryz.prog 198 [.int .i64 (n:Int)] T M [] [] (fun r M' _ _=>r=st (Lib.decDigits n)/\M'=M) aM:=by
 refine xM QJ (fun w hw=>Calls.mono (Tryz.strconv_Itoa_small n hn w) ?_) T
 rintro e w' ⟨rfl,rfl⟩
 exact ⟨rfl,kh.rfl'⟩
def Oe (i:Nat)(h:i<50):(Lib.decDigits (i+1)).length<=20:=by rw [Lib.decDigits_length];exact Lib.nDigits_le20 _ (by omega)
def IE {M:aR}{x:It}{cs:List Value}(hx:AP M x cs)(i:Nat)(hi:i<50)(T:Tm):bU Tryz.prog 142 [.agg ⟨cs⟩,.int .i64 (i:Int)] T M [] [] (fun r _ _ _=>r=st (xH x i)) aM:=by
 obtain ⟨aw,rfl,_,h1⟩:=nL hx
 unfold xH
 refine az aik rfl rfl ?_
 intro bj _
 have w1:=aA i (by omega)
 by_cases ha:x.as=[]
 ·by_cases hk:x.x.k=2
  ·simp +contextual only [go_sem,aD,sevalprocAttr,ha,hk]
   intro b2 T2 dO dA ef
   exact ak dA (by simp)
  ·simp +contextual only [go_sem,aD,sevalprocAttr,ha,hk,w1]
   intro b2 T2 dO dA ef
   refine aF (Q9 (i+1) (by omega) T2) ?_
   rintro r M1 aW _ ⟨rfl,rfl⟩
   have hd:(Lib.decDigits (i+1)).length<=20:=Oe i hi
   have XG:1+(Lib.decDigits (i+1)).length<=9223372036854775807:=by omega
   simp +contextual only [go_sem,sevalprocAttr,XG,vi]
   exact ak dA (by simp [ha,hk])
 ·simp +contextual only [go_sem,aD,sevalprocAttr,ha]
  intro b2 T2 dO dA ef
  exact ak dA (by simp)
theorem yi {c:Bs×Bs}{cs}(h:HR c cs):∀ u∈cs,u.oneCell'=true:=by
 rw [h]
 intro u hu
 simp only [mn] at hu
 rcases hu with rfl | rfl<;>rfl
def NN {M:aR}{names:List (Bs×Bs)}{lv:Value}(hl:RS M HR 2 names lv)(us:names=[] ->lv=.slice none 0 0)(bu:names.length<=16777216)(T:Tm):
 PN Tryz.prog 194 [lv] T M [] [] 1 (fun v _ _ R'=>∃ a c xs,v=.slice a names.length c/\(names=[] ->v=.slice none 0 0)/\RL HR names xs/\R'=[(v,186,2,xs)]) aM:=by
 refine l6 aiS rfl rfl ?_
 intro bj _
 by_cases h0:names=[]
 ·subst h0
  rw [us rfl]
  simp +contextual only [go_sem,aD,sevalprocAttr]
  exact eF (aQ aG.rfl' rfl rfl ⟨none,0,[],rfl,by simp,rfl,rfl⟩)
 ·obtain ⟨fp,a,c,rfl,cX,wH,gl⟩:=ax (by decide) (fun _ _=>qJ) hl
  obtain ⟨p,hp⟩:∃ p,a=some p:=by
   cases names with
   | nil=>exact (h0 rfl).elim
   | cons x l=>obtain ⟨b,o,cs,h,_⟩:=gl 0 x rfl;exact ⟨_,h⟩
  subst hp
  obtain ⟨ys,H4,xn,xl⟩:=gE (P:=Tryz.prog) Tryz.underlying181 (fun _ _=>qJ) (fun _ _ h=>yi h) hl
  have dK:0<names.length:=List.length_pos_iff.2 h0
  simp +contextual only [go_sem,aD,sevalprocAttr]
  intro b hb
  refine ld (n:=0) (xs:=[]) Ef D6 (xl _ _ _) rfl (by omega) (by simp only [List.length_nil];omega) ?_
  intro ra rm rc jl
  have jm:rm=names.length:=by simp only [List.length_nil] at jl;omega
  subst jm
  simp +contextual only [go_sem,sevalprocAttr]
  exact al (aQ aG.rfl' rfl rfl ⟨ra,rc,ys,rfl,fun h=>(h0 h).elim,xn,by simp⟩)
def QD (M:aR)(sc:Nat)(names:List (Bs×Bs)):Prop:=∃ lv,M sc=some [lv,.slice none 0 0,.pointer none,.pointer none]/\RS M HR 2 names lv/\(names=[] ->lv=.slice none 0 0)
def QD.ext {M M':aR}(he:bm M M'){sc names}(h:QD M sc names):QD M' sc names:=by
 obtain ⟨lv,h1,h2,h3⟩:=h
 exact ⟨lv,he _ _ h1,aH he (fun _ _ h=>h) h2,h3⟩
def aeK (r:Pl×List (Bs×Bs))(v:Value)(M:aR):Prop:=∃ cs sc,v=.tuple ⟨[.agg ⟨cs⟩,.pointer (some ⟨sc,0,none⟩)]⟩/\gP M r.1 cs/\QD M sc r.2
theorem BW {name:Bs}:∀ {rels:List Rel} {n:Nat} {r:Pl×List Co},tV name n rels=some r ->∃ x∈rels,r.2=x.cols
 | [],_,_,h=>by cases h
 | x::l,n,r,h=>by
  rw [yW] at h
  split at h
  ·injection h with h;subst h;exact ⟨x,by simp,rfl⟩
  ·obtain ⟨y,hy,he⟩:=BW h
   exact ⟨y,by simp [hy],he⟩
def BX {name:Bs}{rels:List Rel}{r:Pl×List Co}(h:rR rels name=.ok r):∃ x∈rels,r.2=x.cols:=by
 unfold rR at h
 split at h
 ·rename_i y hy;injection h with h;subst h;exact BW hy
 ·cases h
def Xt {F:Fi}{s:List Vc.Item}{e:dx}{ds:List Deferred}{dd:Option Nat}{N:Tm}{M:aR}{L:LL}{R:RR}{hv:Value}{tz:List Bs}{el:TypeId}(x:Bs)(h:kY el 1 rC [] R hv tz)(bu:tz.length<=1000)
 (k:∀ M',bm M M' ->aJ M' L ->cA Tryz.prog F s (cI e dd (.bool (tz.contains x))) ds ⟨N,M',L,R⟩ ⟨⟩):dp Tryz.prog F 117 [hv,.string (bs x)] dd s e ds ⟨N,M,L,R⟩ ⟨⟩:=by
 rcases h with ⟨rfl,rfl,rfl⟩ | ⟨a,c,xs,rfl,h3,rfl⟩
 ·refine aF (pS x bz N) ?_
  rintro v M1 aW bj rfl
  exact k M1 aW bj
 ·have key:∀ (L2:LL) (R2:RR),L2=L++[]++[] ->R2=[]++[(.slice a tz.length c,el,1,xs)]++[] ->dp Tryz.prog F 117 [.slice a tz.length c,.string (bs x)] dd s e ds ⟨N,M,L2,R2⟩ ⟨⟩:=by
   rintro _ _ rfl rfl
   refine gO L [] [] [] [_] [] (Q4 (Q:=fun r=>r=.bool (tz.contains x)) (by decide) adY.bd fun M' mG iR=>pS x ⟨by omega,xs,iR,h3⟩ N) ?_ (fun _ _ _ _ _ _ _ _ h=>h.elim)
   rintro v M1 L1 R1 aW hk hr bj ⟨rfl,rfl⟩
   have:L1=[]:=by simpa [aV] using hk
   subst this
   have k2:∀ (L2:LL) (R2:RR),L2=L ->R2=[(.slice a tz.length c,el,1,xs)] ->cA Tryz.prog F s (cI e dd (.bool (tz.contains x))) ds ⟨N,M1,L2,R2⟩ ⟨⟩:=by
    rintro _ _ rfl rfl
    exact k M1 aW (by simpa using bj)
   exact k2 _ _ (by simp) (by simp)
  exact key _ _ (by simp) (by simp)
def oq {F:Fi}{f:FuncId}{args:List Value}{dd:Option Nat}{s:List Vc.Item}{e:dx}{ds:List Deferred}{N:Tm}{M:aR}{L:LL}{R:RR}{post:ep}{pan:mC}(hc:PN Tryz.prog f args N M [] [] 1 post pan)
 (hn:∀ v M' row,bm M M' ->aJ M' L ->post v M' [] [row] ->cA Tryz.prog F s (cI e dd v) ds ⟨N,M',L,row::R⟩ ⟨⟩)
 (hp:∀ ch M' row,bm M M' ->pan ch M' [] [row] ->F.pan ch e ds ⟨N,M',L,row::R⟩):dp Tryz.prog F f args dd s e ds ⟨N,M,L,R⟩ ⟨⟩:=by
 have nil:∀ {L':LL},aV L'=aV [] ->L'=[]:=fun h=>by simpa [aV] using h
 have one:∀ {R':RR},R'.length=1 ->∃ r,R'=[r]:=fun {R'} h=>by
  cases R' with
  | nil=>cases h
  | cons r l=>cases l with
   | nil=>exact ⟨r,rfl⟩
   | cons _ _=>simp at h
 exact O7 (F:=F) (s:=s) (e:=e) (ds:=ds) (dd:=dd) (N:=N) [] [] L [] [] R hc
  (fun v M' L' R' he hk hR bj hq=>by
   have h1:=nil hk
   subst h1
   obtain ⟨r,rfl⟩:=one hR
   exact hn v M' r he bj hq)
  (fun ch M' L' R' he hk hR bj hq=>by
   have h1:=nil hk
   subst h1
   obtain ⟨r,rfl⟩:=one hR
   exact hp ch M' r he hq)
def sK (names:List (Bs×Bs))(tb:Bs)(cols:List Co)(j:Nat):List (Bs×Bs):=names++(cols.take j).map fun c=>(tb,c.name)
def vr (names tb cols):sK names tb cols 0=names:=by simp [sK]
def RT (names tb cols):sK names tb cols cols.length=names++cols.map fun c=>(tb,c.name):=by simp [sK]
theorem Od (names tb cols){j:Nat}(h:j<cols.length):sK names tb cols (j+1)=sK names tb cols j++[(tb,cols[j].name)]:=by
 unfold sK
 rw [List.take_succ_eq_append_getElem h,List.map_append,List.append_assoc];rfl
def FD (names tb cols){j:Nat}(h:j<=cols.length):(sK names tb cols j).length=names.length+j:=by
 simp [sK];omega
theorem ze (rels:List Rel)(s:So)(l:List So)(i:Nat)(p:Pl)(names:List (Bs×Bs))(tz:List Bs):rS rels (s::l) i p names tz=match rR rels s.name with
 | .error e=> .error e
 | .ok q=>if tz.contains (gJ s)=true then .error 7 else
  if i=0 then rS rels l 1 q.1 (names++q.2.map fun c=>(gJ s,c.name)) (tz++[gJ s])
  else match mQ (names++q.2.map fun c=>(gJ s,c.name)) s.on with
   | .error e=> .error e
   | .ok x=>rS rels l (i+1) (.mk (nY s.k) 0 x [] [] [p,q.1]) (if s.k=2\/s.k=5 then names++q.2.map fun c=>(gJ s,c.name) else names) (tz++[gJ s]):=rfl
def KO:LL ->LL ->Prop
 | [],_=>True
 | (b,_)::l,L=>bf b L/\KO l L
theorem KN {T0 T:Tm}{M M':aR}{L:LL}{R0 R:RR}(h:bm M M')(hn:aJ M' L):∀ (L1:LL),KO L1 L ->fW ⟨T0,M,L,R0⟩ ⟨T,M',L1++L,R⟩
 | [],_=>dL h hn
 | (b,cs)::L1,ha=>by
  have ih:=KN (T0:=T0) (T:=T) (R0:=R0) (R:=R) h hn L1 ha.2
  intro a v hv
  have h1:=ih a v hv
  simp only [Sh.cell] at h1 hv ⊢
  cases hm:aN M' a with
  | some u=>rw [hm] at h1;exact h1
  | none=>
   rw [hm] at h1
   by_cases Xq:a.block=b
   ·exfalso
    have HY:eE L a=none:=by
     have:∀ {L:LL},bf b L ->eE L a=none:=by
      intro L
      induction L with
      | nil=>intro _;rfl
      | cons p l ih=>
       obtain ⟨k,ds⟩:=p
       intro iC
       rw [eE,if_neg (by rw [Xq];exact iC.1.1)]
       exact ih iC.2
     exact this ha.1
    have hmo:aN M a=none:=by
     cases hm2:aN M a with
     | none=>rfl
     | some u=>rw [ay h hm2] at hm;cases hm
    rw [hmo,HY] at hv
    simp at hv
   ·simp only [List.cons_append]
    rw [eE,if_neg Xq]
    exact h1
theorem Dj {T0 T:Tm}{M M':aR}{L:LL}{R0 R:RR}{b b':Nat}{cs cs':List Value}(h:bm M M')(hn:aJ M' L)(hb:bf b L)(A1:bf b' L):fW ⟨T0,M,L,R0⟩ ⟨T,M',(b,cs)::(b',cs')::L,R⟩:=KN h hn [(b,cs),(b',cs')] ⟨hb,A1,trivial⟩
def Y7 (rels:List Rel)(l:List So)(M:aR)(T:Tm)(b4 b6:Nat)(i:Nat)(e:dx)(h:Sh):Prop:=∃ M' N' R hv sc p cs names tz,bm M M'/\aG T N'/\M' b4=none/\M' b6=none/\gP M' p cs/\h=⟨N',M',[(b6,cs),(b4,[.int .i64 0,.int .i64 0,.int .i64 0,.int .i64 0,.int .i64 0,st [],.int .i64 0,.slice none 0 0,.slice none 0 0,.slice none 0 0,.slice none 0 0])],R⟩/\
 e 7=.pointer (some ⟨sc,0,none⟩)/\QD M' sc names/\e 8=hv/\kY 9 1 rC [] R hv tz/\tz.length=i/\names.length<=i*1048576/\rS rels (l.drop i) i p names tz=ue rels l
def WW {M:aR}{bb:Nat}{rels:List Rel}{rv sv:Value}{l:List So}(hr:RS M (ig M) 14 rels rv)(XD:M bb=some [rv])(eD:∀ r∈rels,r.cols.length<=1048576)(hs:RS M (EQ M) 10 l sv)(bu:l.length<=16)
 (ce:∀ (j:Nat) (s:So),l[j]?=some s ->0<j ->(2<=s.k/\s.k<=5)/\GB s.on) (T:Tm):
 bU Tryz.prog 136 [.pointer (some ⟨bb,0,none⟩),sv] T M [] [] (wU aeK (ue rels l)) (rK (ue rels l)):=by
 obtain ⟨fp,a,c,rfl,cX,_,hg⟩:=ax (by decide) (fun _ _=>oK) hs
 refine az aaj rfl rfl ?_
 intro bj _
 simp +contextual only [go_sem,aD,sevalprocAttr]
 intro b4 T4 eH fE iJ b6 T6 pA gR ug DL b7 T7 mU jD B5 Ja
 have hT:=(fE.trans ug).trans B5
 refine bR l.length 22 [(0,.pointer (some ⟨bb,0,none⟩)),(1,.slice a l.length c),(4,.pointer (some ⟨b4,0,none⟩)),(6,.pointer (some ⟨b6,0,none⟩)),(20,.slice a l.length c),(21,.int .i64 (l.length:Int))]
  (Y7 rels l M T b4 b6)
  0 (by omega) (by simp only [aE,go_sem,sevalprocAttr]) (by simp only [go_sem,sevalprocAttr]) (aU fun he h7 mI=>aC ⟨_,T7,[],_,b7,pj,_,[],[],he,hT,mI.2.1,mI.1,Y1 _,rfl,(by simp only [go_sem,sevalprocAttr]),⟨_,h7,bz,fun _=>rfl⟩,(by simp only [go_sem,sevalprocAttr]),cV,rfl,by simp,rfl⟩) ?_
 rintro i e h hi aI ht ⟨M1,N1,R1,hv,sc,p,cs,names,tz,aW,pz,n4,n6,hp,rfl,e7,OF,e8,bq,hhl,zu,am⟩
 simp only [aE] at aI
 by_cases aL:i<l.length
 ·obtain ⟨b',o',cs',rfl,bP,eh⟩:=hg i l[i] (gq aL)
  obtain ⟨aw,rfl,hon,haw⟩:=MY eh
  obtain ⟨y0,y1,y2,y3,y4,y5,y6,y7,y8,y9⟩:=ahW (bP.ext aW)
  have bK:l.drop i=l[i]::l.drop (i+1):=dq aL
  rw [bK,ze] at am
  obtain ⟨c0,c1,c2,c3,c4,c5,c6,c7,c8,c9,c10,rfl,hc⟩:=cT hp
  simp +contextual only [go_sem,aD,sevalprocAttr,aI,ht,aL,y1]
  refine bX (aaX (l[i]).name (aH aW (dV aW) hr) (aW _ _ XD) N1) ?_ ?_
  rotate_left
  ·rintro ch M2 bh aZ ⟨er,he,rfl⟩
   rw [he] at am
   exact mW pz am.symm
  rintro v M2 bh aZ ⟨⟨q,cols⟩,hq,qs,cv,rfl,hqp,lz⟩
  rw [hq] at am
  simp only at am hqp lz
  obtain ⟨d0,d1,d2,d3,d4,d5,d6,d7,d8,d9,d10,rfl,hd⟩:=cT hqp
  replace y0:=ay bh y0
  replace y1:=ay bh y1
  replace y2:=ay bh y2
  simp only [aJ] at aZ
  obtain ⟨_,ca,cc,rfl,_⟩:=ax (by decide) (fun _ _=>fZ) lz
  simp +contextual only [go_sem,sevalprocAttr,hd,y2]
  intro b11 T11 aki Lm Xn ae5
  refine fg (fun e ds h=>ds=[]/\aE e [(0,.pointer (some ⟨bb,0,none⟩)),(1,.slice (some ⟨b',o',none⟩) l.length c),(4,.pointer (some ⟨b4,0,none⟩)),(6,.pointer (some ⟨b6,0,none⟩)),(20,.slice (some ⟨b',o',none⟩) l.length c),(21,.int .i64 (l.length:Int)),(22,.int .i64 (i:Nat)),(9,.int .i64 (i:Nat)),
   (7,.pointer (some ⟨sc,0,none⟩)),(8,hv),(10,.pointer (some ⟨b',o'+i*10,none⟩)),(11,.pointer (some ⟨b11,0,none⟩)),(12,.slice ca cols.length cc),(13,st (gJ l[i]))]/\h=⟨T11,M2,[(b11,[d0,d1,d2,d3,d4,d5,d6,d7,d8,d9,d10]),(b6,[c0,c1,c2,c3,c4,c5,c6,c7,c8,c9,c10]),(b4,[.int .i64 0,.int .i64 0,.int .i64 0,.int .i64 0,.int .i64 0,st [],.int .i64 0,.slice none 0 0,.slice none 0 0,.slice none 0 0,.slice none 0 0])],R1⟩) (fun S' fh=> ?_) ?_
  ·by_cases PU:l[i].as=[]
   ·simp +contextual only [go_sem,aD,sevalprocAttr,PU,y1]
    refine fh _ _ _ ⟨rfl,?_,rfl⟩
    simp only [aE,aI,ht,e7,e8,gJ,PU,go_sem,sevalprocAttr]
   ·simp +contextual only [go_sem,aD,sevalprocAttr,PU]
    refine fh _ _ _ ⟨rfl,?_,rfl⟩
    simp only [aE,aI,ht,e7,e8,gJ,PU,go_sem,sevalprocAttr]
  clear aI ht e7 e8
  rintro e ds h ⟨rfl,aI,rfl⟩
  simp only [aE] at aI
  simp +contextual only [go_sem,sevalprocAttr,aI]
  refine Xt (gJ l[i]) bq (by omega) fun M3 bG bC=> ?_
  have ajJ:=(aW.trans bh).trans bG
  simp only [aJ] at bC
  cases Lv:tz.contains (gJ l[i]) with
  | true=>
   rw [Lv,if_pos rfl] at am
   simp +contextual only [go_sem,aD,sevalprocAttr]
   exact vu (pz.trans Xn) am.symm
  | false=>
  rw [Lv,if_neg (by decide)] at am
  simp +contextual only [go_sem,aD,sevalprocAttr,aI]
  intro b3 gK cZ
  refine cB (Tryz.underlying62) G8 GE (x:=gJ l[i]) bq rfl (fun _ _=>fu) (by intro u hu;simp only [List.mem_singleton] at hu;subst hu;rfl) gK (by omega) (by decide) ?_
  intro nu R2 fB
  obtain ⟨lv,hsm,hsn,ed⟩:=OF.ext (bh.trans bG)
  simp +contextual only [go_sem,sevalprocAttr,aI,bg hsm]
  refine oq (NN hsn ed (by omega) T11) ?_ (fun _ _ _ _ h=>h.elim)
  rintro v M4 row dz de ⟨va,vc,vxs,rfl,hvz,hvl,bN⟩
  simp only [List.cons.injEq,and_true] at bN
  subst bN
  simp only [aJ] at de
  simp +contextual only [go_sem,aD,sevalprocAttr,aI]
  intro b14 T14 Sx pZ Xo ae6
  have Lg:=ajJ.trans dz
  have hNN:=((pz.trans Xn).trans Xo)
  obtain ⟨hcb,akD,hcg⟩:cols.length*2<=4398046511104/\cols.length<=cc/\∀ (i:Nat) (x:Co),cols[i]?=some x ->∃ b o cs,ca=some ⟨b,o,none⟩/\At M4 b (o+i*2) cs/\tF x cs:=by
   obtain ⟨h1,a',c',h2,h3,_,h4⟩:=ax (by decide) (fun _ _=>fZ) (aH (bG.trans dz) (fun _ _ h=>h) lz)
   injection h2 with h5 h6 h7
   subst h5 h7
   exact ⟨h1,h3,h4⟩
  have afw:cols.length<=1048576:=by
   obtain ⟨x,hx,hxc⟩:=BX hq
   rw [show cols=x.cols from hxc]
   exact eD x hx
  have n14:M4 b14=none/\M4 b11=none/\M4 b6=none/\M4 b4=none:=⟨Sx,de.2.1,de.2.2.1,de.2.2.2.1⟩
  obtain ⟨LV,hLV⟩:∃ LV:List (Nat×Value),LV=[(0,.pointer (some ⟨bb,0,none⟩)),(1,.slice (some ⟨b',o',none⟩) l.length c),(4,.pointer (some ⟨b4,0,none⟩)),(6,.pointer (some ⟨b6,0,none⟩)),(20,.slice (some ⟨b',o',none⟩) l.length c),(21,.int .i64 (l.length:Int)),(22,.int .i64 (i:Nat)),(9,.int .i64 (i:Nat)),
   (8,nu),(10,.pointer (some ⟨b',o'+i*10,none⟩)),(11,.pointer (some ⟨b11,0,none⟩)),(13,st (gJ l[i])),(14,.pointer (some ⟨b14,0,none⟩)),(7,.pointer (some ⟨sc,0,none⟩)),(62,.slice ca cols.length cc),(63,.int .i64 (cols.length:Int))]:=⟨_,rfl⟩
  refine bR cols.length 64 LV
   (fun j e h=>∃ N' v xs,aG T14 N'/\(∃ a c,v=.slice a (sK names (gJ l[i]) cols j).length c)/\((sK names (gJ l[i]) cols j)=[] ->v=.slice none 0 0)/\RL HR (sK names (gJ l[i]) cols j) xs/\
    h=⟨N',M4,[(b14,[v,.slice none 0 0,.pointer none,.pointer none]),(b11,[d0,d1,d2,d3,d4,d5,d6,d7,d8,d9,d10]),(b6,[c0,c1,c2,c3,c4,c5,c6,c7,c8,c9,c10]),(b4,[.int .i64 0,.int .i64 0,.int .i64 0,.int .i64 0,.int .i64 0,st [],.int .i64 0,.slice none 0 0,.slice none 0 0,.slice none 0 0,.slice none 0 0])],(v,186,2,xs)::R2⟩)
   0 (by omega) (by rw [hLV];simp only [aE,aI,go_sem,sevalprocAttr]) (by simp only [go_sem,sevalprocAttr]) ?_ ?_
  ·refine dk (List.Perm.swap _ _ _) (al (aC ⟨T14,.slice va names.length vc,vxs,aG.rfl',⟨va,vc,?_⟩,?_,?_,rfl⟩))
   ·rw [vr]
   ·rw [vr];exact hvz
   ·rw [vr];exact hvl
  ·rintro j e h hj dI EE ⟨N5,v,xs,sO,⟨wa,wc,rfl⟩,hwz,H2,rfl⟩
   rw [hLV] at dI
   simp only [aE] at dI
   by_cases um:j<cols.length
   ·obtain ⟨bc,oc,cc',rfl,Sw,hrc⟩:=hcg j cols[j] (gq um)
    unfold tF at hrc
    subst hrc
    obtain ⟨z0,z1⟩:=At2 Sw
    simp +contextual only [go_sem,aD,sevalprocAttr,dI,EE,um,z0,z1]
    intro b16 T16 Oq Ln aj4 amG
    refine aT ?_
    simp +contextual only [go_sem,sevalprocAttr,dI,Oq,Ln,n14]
    intro b17 akj qd
    have iY:=eJ (fun _ _=>qJ) H2
    have cK:=FD names (gJ l[i]) cols (Nat.le_of_lt um)
    refine ⟨dJ bm.rfl' ⟨Oq,n14.1,n14.2.1,n14.2.2.1,n14.2.2.2,trivial⟩ ⟨qd.1,qd.2.1,qd.2.2.1,qd.2.2.2.1,qd.2.2.2.2,trivial⟩,?_⟩
    refine gX Ef D6 (.slice _ 1 _ _ _ Tryz.underlying181 (cF [] akj trivial rfl) (yi (c:=(gJ l[i],cols[j].name)) rfl)) (by rw [iY,cK];simp only [ln];omega) ?_
    intro ra rm rc jl
    have eP:=Od names (gJ l[i]) cols um
    have jm:rm=(sK names (gJ l[i]) cols (j+1)).length:=by
     rw [iY] at jl
     rw [eP,List.length_append]
     simp only [ln] at jl ⊢
     omega
    subst jm
    simp +contextual only [go_sem,sevalprocAttr,EE,Ln,qd]
    refine ⟨dJ bm.rfl' ⟨Oq,n14.1,n14.2.1,n14.2.2.1,n14.2.2.2,trivial⟩ ⟨qd.1,qd.2.1,qd.2.2.1,qd.2.2.2.1,qd.2.2.2.2,trivial⟩,?_⟩
    refine aS (al (al (aC ⟨cols.length - (j+1),by omega,rfl,j+1,by omega,rfl,?_,?_,T16,_,_,sO.trans aj4,⟨ra,rc,rfl⟩,?_,?_,rfl⟩)))
    ·rw [hLV]
     simp only [aE,dI,go_sem,sevalprocAttr]
    ·simp only [go_sem,sevalprocAttr,aA j (by omega)]
    ·intro h
     rw [eP] at h
     simp at h
    ·rw [eP]
     exact cS H2 (dm rfl)
   ·have PZ:j=cols.length:=by omega
    subst PZ
    have cK:=FD names (gJ l[i]) cols (Nat.le_refl _)
    have Zo:=RT names (gJ l[i]) cols
    have js:(tz++[gJ l[i]]).length=i+1:=by rw [List.length_append,hhl];rfl
    have vC:∀ {N':Tm} {M5:aR} {e:dx} {p':Pl} {ps:List Value} {nm:List (Bs×Bs)} {sc':Nat},aG T N' ->bm M M5 ->M5 b4=none ->M5 b6=none ->gP M5 p' ps ->e 7=.pointer (some ⟨sc',0,none⟩) ->QD M5 sc' nm ->e 8=nu ->nm.length<=(i+1)*1048576 ->
     aE e [(0,.pointer (some ⟨bb,0,none⟩)),(1,.slice (some ⟨b',o',none⟩) l.length c),(4,.pointer (some ⟨b4,0,none⟩)),(6,.pointer (some ⟨b6,0,none⟩)),(20,.slice (some ⟨b',o',none⟩) l.length c),(21,.int .i64 (l.length:Int))] ->e 22=.int .i64 ((i+1:Nat):Int) ->
     rS rels (l.drop (i+1)) (i+1) p' nm (tz++[gJ l[i]])=ue rels l ->
     cq ⟨N',M5,[(b6,ps),(b4,[.int .i64 0,.int .i64 0,.int .i64 0,.int .i64 0,.int .i64 0,st [],.int .i64 0,.slice none 0 0,.slice none 0 0,.slice none 0 0,.slice none 0 0])],R2⟩ fun h=>∃ m',m'<l.length - i/\LI [] l.length 22 [(0,.pointer (some ⟨bb,0,none⟩)),(1,.slice (some ⟨b',o',none⟩) l.length c),(4,.pointer (some ⟨b4,0,none⟩)),(6,.pointer (some ⟨b6,0,none⟩)),(20,.slice (some ⟨b',o',none⟩) l.length c),(21,.int .i64 (l.length:Int))] (Y7 rels l M T b4 b6) m' e [] h:=by
     intro N' M5 e p' ps nm sc' h1 h2 h3 h4 h5 h6 h7 h8 h9 I4 Zf eb
     exact aC ⟨l.length - (i+1),by omega,rfl,i+1,by omega,rfl,I4,Zf,M5,N',R2,nu,sc',p',ps,nm,tz++[gJ l[i]],h2,h1,h3,h4,h5,rfl,h6,h7,h8,fB,js,h9,eb⟩
    by_cases vE:i=0
    ·subst vE
     rw [if_pos rfl] at am
     simp +contextual only [go_sem,aD,sevalprocAttr,dI,EE,um,hd,n14,pZ,Lm]
     refine aS (cP (fun M5 dN bS iR=>aU fun he ajK bW=>al (vC (hNN.trans sO) ((Lg.trans dN).trans he) bW.2.2.1 bW.2.1 (bA (((bG.trans dz).trans dN).trans he) _ _ hqp) ?_ ⟨_,ajK,⟨by omega,_,iR.ext he,H2⟩,hwz⟩ ?_ (by omega) ?_ ?_ ?_)))
     ·simp only [go_sem,sevalprocAttr]
     ·simp only [dI,go_sem,sevalprocAttr]
     ·simp only [aE,dI,go_sem,sevalprocAttr]
     ·simp only [go_sem,sevalprocAttr];exact congrArg _ (by decide)
     ·rw [Zo];exact am
    ·rw [if_neg vE] at am
     obtain ⟨ap8,alo⟩:=ce i l[i] (gq aL) (by omega)
     have abT:¬ ((i:Int)=0):=by omega
     replace y0:=ay (bG.trans dz) y0
     have SM:(l[i].k=2/\nY l[i].k=4)\/(l[i].k=3/\nY l[i].k=5)\/(l[i].k=4/\nY l[i].k=6)\/(l[i].k=5/\nY l[i].k=7):=by
      have:l[i].k=2\/l[i].k=3\/l[i].k=4\/l[i].k=5:=by omega
      rcases this with h | h | h | h<;>rw [h]<;>simp [nY]
     have am3:∀ (kk:Int),l[i].k=kk ->nY l[i].k=nY kk:=fun kk h=>by rw [h]
     rcases SM with ⟨hk,hj⟩ | ⟨hk,hj⟩ | ⟨hk,hj⟩ | ⟨hk,hj⟩
     all_goals
      simp +contextual only [go_sem,aD,sevalprocAttr,dI,EE,um,abT,y0,hk]
      intro g
      have FY:∀ {M':aR},bm M4 M' ->aJ M' [(b11,[d0,d1,d2,d3,d4,d5,d6,d7,d8,d9,d10]),(b6,[c0,c1,c2,c3,c4,c5,c6,c7,c8,c9,c10]),(b4,[.int .i64 0,.int .i64 0,.int .i64 0,.int .i64 0,.int .i64 0,st [],.int .i64 0,.slice none 0 0,.slice none 0 0,.slice none 0 0,.slice none 0 0])] ->M' b11=none/\M' b6=none/\M' b4=none:=fun _ h=>⟨h.1,h.2.1,h.2.2.1⟩
      have hx0:At M4 b' (o'+i*10+3) [.int .i64 l[i].on.k,.int .i64 l[i].on.v.k,.int .i64 l[i].on.v.n,st l[i].on.v.t,st l[i].on.tab,st l[i].on.name,aw]:=(fF.1 (show At M4 b' (o'+i*10) ([.int .i64 l[i].k,st l[i].name,st l[i].as]++[.int .i64 l[i].on.k,.int .i64 l[i].on.v.k,.int .i64 l[i].on.v.n,st l[i].on.v.t,st l[i].on.tab,st l[i].on.name,aw]) from bP.ext Lg)).2
      refine l8 (fun e ds h=>ds=[]/\aE e [(0,.pointer (some ⟨bb,0,none⟩)),(1,.slice (some ⟨b',o',none⟩) l.length c),(4,.pointer (some ⟨b4,0,none⟩)),(6,.pointer (some ⟨b6,0,none⟩)),(20,.slice (some ⟨b',o',none⟩) l.length c),(21,.int .i64 (l.length:Int))]/\e 22=.int .i64 (i:Nat)/\e 7=.pointer (some ⟨sc,0,none⟩)/\e 8=nu/\e 14=.pointer (some ⟨b14,0,none⟩)/\e 17=.int .i64 (nY l[i].k)/\
       ∃ M6 b20 x cs6,bm M4 M6/\M6 b4=none/\M6 b6=none/\M6 b20=none/\mQ (names++cols.map fun c=>(gJ l[i],c.name)) l[i].on=.ok x/\hY M6 x [.int .i64 x.k,.int .i64 x.v.k,.int .i64 x.v.n,st x.v.t,.int .i64 x.c,cs6]/\QD M6 b14 (names++cols.map fun c=>(gJ l[i],c.name))/\
        h=⟨N5,M6,[(b20,[c0,c1,c2,c3,c4,c5,c6,c7,c8,c9,c10,d0,d1,d2,d3,d4,d5,d6,d7,d8,d9,d10]),(b11,[d0,d1,d2,d3,d4,d5,d6,d7,d8,d9,d10]),(b6,[.int .i64 (nY l[i].k),.int .i64 0,.int .i64 x.k,.int .i64 x.v.k,.int .i64 x.v.n,st x.v.t,.int .i64 x.c,cs6,.slice none 0 0,.slice none 0 0,.slice (some ⟨b20,0,none⟩) 2 2]),(b4,[.int .i64 0,.int .i64 0,.int .i64 0,.int .i64 0,.int .i64 0,st [],.int .i64 0,.slice none 0 0,.slice none 0 0,.slice none 0 0,.slice none 0 0])],R2⟩) (fun S' fh=> ?_) ?_
      ·refine eG ⟨T,M4,[(b11,[d0,d1,d2,d3,d4,d5,d6,d7,d8,d9,d10]),(b6,[c0,c1,c2,c3,c4,c5,c6,c7,c8,c9,c10]),(b4,[.int .i64 0,.int .i64 0,.int .i64 0,.int .i64 0,.int .i64 0,st [],.int .i64 0,.slice none 0 0,.slice none 0 0,.slice none 0 0,.slice none 0 0])],[]⟩ (by exact dJ bm.rfl' ⟨n14.2.1,n14.2.2.1,n14.2.2.2,trivial⟩ ⟨pZ.2.1,pZ.2.2.1,pZ.2.2.2,trivial⟩) ?_
       simp +contextual only [go_sem,sevalprocAttr,dI,n14,Lm]
       have agh:∀ {M5 M6:aR},bm M4 M5 ->Sl M5 (.slice wa (sK names (gJ l[i]) cols cols.length).length wc) 2 xs ->bm M5 M6 ->M6 b14=some [.slice wa (sK names (gJ l[i]) cols cols.length).length wc,.slice none 0 0,.pointer none,.pointer none] ->QD M6 b14 (names++cols.map fun c=>(gJ l[i],c.name)):=by
        intro M5 M6 xR iR h56 hb
        rw [<- Zo]
        exact ⟨_,hb,⟨by omega,_,iR.ext h56,H2⟩,hwz⟩
       have FU:∀ {M5:aR},bm M4 M5 ->QD M5 b14 (names++cols.map fun c=>(gJ l[i],c.name)) ->bU Tryz.prog 102 [.pointer (some ⟨b14,0,none⟩),.pointer (some ⟨b',o'+i*10+3,none⟩)] N5 M5 [] [] (wU Xb (mQ (names++cols.map fun c=>(gJ l[i],c.name)) l[i].on)) (rK (mQ (names++cols.map fun c=>(gJ l[i],c.name)) l[i].on)):=by
        rintro M5 xR ⟨lv5,h5,hn5,_⟩
        exact exB _ _ l[i].on (Nat.le_refl _) alo M5 N5 b14 lv5 _ _ b' _ _ hn5 h5 (hx0.ext xR) (bL (Lg.trans xR) _ _ hon)
       refine ⟨?_,?_⟩
       ·refine cD (k:=fun h'=>∃ M5,bm M4 M5/\QD M5 b14 (names++cols.map fun c=>(gJ l[i],c.name))/\(M5 b11=none/\M5 b6=none/\M5 b4=none)/\h'=⟨N5,M5,[(b11,[d0,d1,d2,d3,d4,d5,d6,d7,d8,d9,d10]),(b6,[c0,c1,c2,c3,c4,c5,c6,c7,c8,c9,c10]),(b4,[.int .i64 0,.int .i64 0,.int .i64 0,.int .i64 0,.int .i64 0,st [],.int .i64 0,.slice none 0 0,.slice none 0 0,.slice none 0 0,.slice none 0 0])],R2⟩)
         (mK (cP fun M5 dN bS iR=>aU fun he Sy bW=>aC ⟨_,dN.trans he,agh dN iR he Sy,FY (dN.trans he) bW,rfl⟩)) ?_ V1.bd
        rintro h' ⟨M5,xR,SZ,n5,rfl⟩
        refine bX (FU xR SZ) ?_ ?_
        ·rintro r M6 eO bW ⟨x,hx,cs6,rfl,xm⟩
         obtain ⟨s6,rfl,ZK,_⟩:=dG xm
         simp only [aJ] at bW
         simp +contextual only [go_sem,sevalprocAttr,dI,Lm,ZK]
         refine ⟨dL (xR.trans eO) ⟨bW.1,bW.2.1,bW.2.2.1,trivial⟩,?_⟩
         intro b20 sR il
         refine fh _ _ _ ⟨rfl,?_,?_,?_,?_,?_,?_,M6,b20,x,s6,xR.trans eO,bW.2.2.1,bW.2.1,sR,hx,xm,SZ.ext eO,by rw [hj];rfl⟩
         ·simp only [aE,dI,go_sem,sevalprocAttr]
         ·simp only [dI,go_sem,sevalprocAttr]
         ·simp only [dI,go_sem,sevalprocAttr]
         ·simp only [dI,go_sem,sevalprocAttr]
         ·simp only [dI,go_sem,sevalprocAttr]
         ·rw [hj];simp only [go_sem,sevalprocAttr]
        ·rintro ch M6 eO bW ⟨er,he,rfl⟩
         rw [he] at am
         exact mW (hNN.trans sO) am.symm
       ·intro b20 sR il
        refine ⟨Dj bm.rfl' ⟨n14.2.1,n14.2.2.1,n14.2.2.2,trivial⟩ ⟨il.2.1,il.2.2.1,il.2.2.2,trivial⟩ ⟨pZ.2.1,pZ.2.2.1,pZ.2.2.2,trivial⟩,?_⟩
        refine cD (k:=fun h'=>∃ M5,bm M4 M5/\QD M5 b14 (names++cols.map fun c=>(gJ l[i],c.name))/\(M5 b20=none/\M5 b11=none/\M5 b6=none/\M5 b4=none)/\h'=⟨N5,M5,[(b20,[c0,c1,c2,c3,c4,c5,c6,c7,c8,c9,c10,d0,d1,d2,d3,d4,d5,d6,d7,d8,d9,d10]),(b11,[d0,d1,d2,d3,d4,d5,d6,d7,d8,d9,d10]),(b6,[c0,c1,c2,c3,c4,c5,c6,c7,c8,c9,c10]),(b4,[.int .i64 0,.int .i64 0,.int .i64 0,.int .i64 0,.int .i64 0,st [],.int .i64 0,.slice none 0 0,.slice none 0 0,.slice none 0 0,.slice none 0 0])],R2⟩)
         (mK (cP fun M5 dN bS iR=>dk (List.Perm.swap _ _ _) (aU fun he Sy bW=>aC ⟨_,dN.trans he,agh dN iR he Sy,⟨bW.1,FY (dN.trans he) bW.2⟩,rfl⟩))) ?_ V1.bd
        rintro h' ⟨M5,xR,SZ,n5,rfl⟩
        refine bX (FU xR SZ) ?_ ?_
        ·rintro r M6 eO bW ⟨x,hx,cs6,rfl,xm⟩
         obtain ⟨s6,rfl,ZK,_⟩:=dG xm
         simp only [aJ] at bW
         simp +contextual only [go_sem,sevalprocAttr,dI,Lm,il,ZK]
         refine ⟨dJ (xR.trans eO) ⟨bW.2.1,bW.2.2.1,bW.2.2.2.1,trivial⟩ ⟨il.2.1,il.2.2.1,il.2.2.2,trivial⟩,?_⟩
         refine fh _ _ _ ⟨rfl,?_,?_,?_,?_,?_,?_,M6,b20,x,s6,xR.trans eO,bW.2.2.2.1,bW.2.2.1,bW.1,hx,xm,SZ.ext eO,by rw [hj];rfl⟩
         ·simp only [aE,dI,go_sem,sevalprocAttr]
         ·simp only [dI,go_sem,sevalprocAttr]
         ·simp only [dI,go_sem,sevalprocAttr]
         ·simp only [dI,go_sem,sevalprocAttr]
         ·simp only [dI,go_sem,sevalprocAttr]
         ·rw [hj];simp only [go_sem,sevalprocAttr]
        ·rintro ch M6 eO bW ⟨er,he,rfl⟩
         rw [he] at am
         exact mW (hNN.trans sO) am.symm
      ·rintro e ds h ⟨rfl,up,e22,e7,e8,e14,e17,M6,b20,x,s6,VM,n4',n6',n20,hx,xm,alJ,rfl⟩
       rw [hx] at am
       simp only at am
       rw [hj] at e17
       simp only [aE] at up
       have hMa:=((bh.trans bG).trans dz).trans VM
       have hMb:=(bG.trans dz).trans VM
       have OA:∀ {M7:aR},bm M6 M7 ->M7 b20=some [c0,c1,c2,c3,c4,c5,c6,c7,c8,c9,c10,d0,d1,d2,d3,d4,d5,d6,d7,d8,d9,d10] ->gP M7 (.mk (nY l[i].k) 0 x [] [] [p,q]) [.int .i64 (nY l[i].k),.int .i64 0,.int .i64 x.k,.int .i64 x.v.k,.int .i64 x.v.n,st x.v.t,.int .i64 x.c,s6,.slice none 0 0,.slice none 0 0,.slice (some ⟨b20,0,none⟩) 2 2]:=by
        intro M7 he h20
        exact jB (cN he _ _ xm) bz bz (tJ (cs:=[c0,c1,c2,c3,c4,c5,c6,c7,c8,c9,c10]) (ds:=[d0,d1,d2,d3,d4,d5,d6,d7,d8,d9,d10]) h20 (bA (hMa.trans he) _ _ hp) (bA (hMb.trans he) _ _ hqp))
       by_cases dO:l[i].k=2\/l[i].k=5
       ·rw [if_pos dO] at am
        first
        | (exfalso;omega)
        | (simp +contextual only [go_sem,aD,sevalprocAttr,e17,e22,e14]
           refine aS (aU fun he h20 mI=>al (vC (hNN.trans sO) ((Lg.trans VM).trans he) mI.2.2.1 mI.2.1 (OA he h20) ?_ (alJ.ext he) ?_ (by rw [List.length_append,List.length_map];omega) ?_ ?_ am))
           ·simp only [go_sem,sevalprocAttr]
           ·simp only [e8,go_sem,sevalprocAttr]
           ·simp only [aE,up,go_sem,sevalprocAttr]
           ·simp only [go_sem,sevalprocAttr,aA i (by omega)])
       ·rw [if_neg dO] at am
        first
        | (exfalso;omega)
        | (simp +contextual only [go_sem,aD,sevalprocAttr,e17,e22]
           refine aS (aU fun he h20 mI=>al (vC (hNN.trans sO) ((Lg.trans VM).trans he) mI.2.2.1 mI.2.1 (OA he h20) ?_ ((OF.ext hMa).ext he) ?_ (Nat.le_trans zu (Nat.mul_le_mul_right _ (Nat.le_succ i))) ?_ ?_ am))
           ·simp only [e7,go_sem,sevalprocAttr]
           ·simp only [e8,go_sem,sevalprocAttr]
           ·simp only [aE,up,go_sem,sevalprocAttr]
           ·simp only [go_sem,sevalprocAttr,aA i (by omega)])
 ·have:i=l.length:=by omega
  subst this
  rw [List.drop_length] at am
  obtain ⟨c0,c1,c2,c3,c4,c5,c6,c7,c8,c9,c10,rfl,hc⟩:=cT hp
  simp +contextual only [go_sem,aD,sevalprocAttr,aI,ht,aL,hc,e7,n4,n6,gR]
  refine ak pz ⟨(p,names),am.symm,_,sc,rfl,hp,OF⟩
def hvC (s:Se):Nat:=if s.hasH=true then IA s.hv else 0
def acr {s:Se}(h:s.hasH=true):IA s.hv=hvC s:=by unfold hvC;rw [if_pos h]
structure OkSe (s:Se):Prop where
 src:s.src.length<=16
 on:∀ (j:Nat) (x:So),s.src[j]?=some x ->0<j ->(2<=x.k/\x.k<=5)/\GB x.on
 wh:s.hasW=true ->GB s.wh
 grp:s.group.length<=1000/\∀ x∈s.group,GB x
 its:s.star=false ->s.items.length<=40/\∀ x∈s.items,GB x.x
 hv:s.hasH=true ->GB s.hv
 cnt:s.star=false ->yC (s.items.map (·.x))+hvC s<=100000
def qx (s:Se)(p:Pl)(names:List (Bs×Bs)):Except Int (Pl×List Bs):=match (if mf s=true then oT s p names else zR s p names) with
 | .error e=> .error e
 | .ok q=> .ok (if s.distinct=true then qn 11 q else q,if s.star=true then names.map (·.2) else jc 0 s.items)
def Uy {rels:List Rel}{s:Se}{e:Int}(h:ue rels s.src=.error e):th rels s=.error e:=by unfold th;rw [h]
def Pj {rels:List Rel}{s:Se}{f:Pl×List (Bs×Bs)}{e:Int}(h:ue rels s.src=.ok f)(hw:Cn f.2 s.hasW s.wh=.error e):th rels s=.error e:=by unfold th;rw [h];simp only;rw [hw]
theorem Mr {rels:List Rel}{s:Se}{f:Pl×List (Bs×Bs)}{w:Ex}(h:ue rels s.src=.ok f)(hw:Cn f.2 s.hasW s.wh=.ok w):th rels s=qx s (if s.hasW=true then oS w f.1 else f.1) f.2:=by
 unfold th qx;rw [h];simp only;rw [hw]<;>rfl
theorem vv {rels:List Rel}(hc:∀ r∈rels,r.cols.length<=1048576):∀ (l:List So) (i:Nat) (p:Pl) (names:List (Bs×Bs)) (tz:List Bs) (r:Pl×List (Bs×Bs)),rS rels l i p names tz=.ok r ->r.2.length<=names.length+l.length*1048576
 | [],i,p,names,tz,r,h=>by
  rw [rS] at h
  injection h with h;subst h;simp
 | s::l,i,p,names,tz,r,h=>by
  rw [ze] at h
  rw [List.length_cons,Nat.add_mul,Nat.one_mul]
  split at h
  ·cases h
  ·rename_i q hq
   obtain ⟨x,hx,hxc⟩:=BX hq
   have hq2:q.2.length<=1048576:=by rw [hxc];exact hc x hx
   split at h
   ·cases h
   ·split at h
    ·have:=vv hc l _ _ _ _ _ h
     rw [List.length_append,List.length_map] at this
     omega
    ·split at h
     ·cases h
     ·have:=vv hc l _ _ _ _ _ h
      split at this
      ·rw [List.length_append,List.length_map] at this
       omega
      ·exact Nat.le_trans this (Nat.add_le_add_left (Nat.le_add_right _ _) _)
def B0 {rels:List Rel}(hc:∀ r∈rels,r.cols.length<=1048576){l:List So}{r:Pl×List (Bs×Bs)}(h:ue rels l=.ok r):r.2.length<=l.length*1048576:=by
 have:=vv hc l 0 pj [] [] r h
 simpa using this
def C8 {M:aR}{b:Nat}{cs:List Value}(h:M b=some cs):At M b 0 cs:=jJ h cs 0 (by simp)
theorem IR {x:It}{M:aR}{cs:List Value}(hx:AP M x cs)(T:Tm):bU Tryz.prog 139 [.agg ⟨cs⟩] T M [] [] (fun r _ _ _=>r=.bool (rE x.x)) aM:=by
 have hl:=kU hx
 obtain ⟨aw,rfl,H3,h1⟩:=nL hx
 refine az aii rfl rfl ?_
 intro bj _
 simp +contextual only [go_sem,sevalprocAttr]
 intro b2 T2 dO dA ef
 refine dh aak.bd fun M1 aW Jd bD=> ?_
 refine aF (spX _ x.x (Nat.le_refl _) M1 T2 b2 0 _ (fF.1 (show At M1 b2 0 ([.int .i64 x.x.k,.int .i64 x.x.v.k,.int .i64 x.x.v.n,st x.x.v.t,st x.x.tab,st x.x.name,aw]++[st x.as]) from C8 Jd)).1 (bL aW _ _ H3)) ?_
 rintro v M2 bh _ rfl
 simp +contextual only [go_sem,sevalprocAttr]
 exact ak dA rfl
theorem ND {l:List It}{M:aR}{lv:Value}(hs:RS M (AP M) 8 l lv)(T:Tm):
 bU Tryz.prog 195 [lv,.func (.func 139) ⟨[]⟩ ⟨[]⟩] T M [] [] (fun r _ _ _=>r=.int .i64 (ql (l.findIdx? fun i=>rE i.x))) aM:=by
 obtain ⟨fp,a,c,rfl,cX,_,hg⟩:=ax (by decide) (fun _ _=>kU) hs
 refine az aiT rfl rfl ?_
 intro bj _
 simp +contextual only [go_sem,aD,sevalprocAttr]
 refine aO l.length 8 [(0,.slice a l.length c),(1,.func (.func 139) ⟨[]⟩ ⟨[]⟩),(7,.int .i64 (l.length:Int))] (fun i e h=>∃ M',bm M M'/\h=⟨T,M',[],[]⟩/\(l.findIdx? fun i=>rE i.x)=((l.drop i).findIdx? fun i=>rE i.x).map (·+i)) 0 (by omega) (by simp only [aE,go_sem,sevalprocAttr]) (by simp only [go_sem,sevalprocAttr]) ⟨M,bm.rfl',rfl,by simp⟩ ?_
 rintro i e h hi aI ht ⟨M1,aW,rfl,am⟩
 simp only [aE] at aI
 by_cases aL:i<l.length
 ·obtain ⟨p1,o1,cs1,rfl,zj,DT⟩:=hg i l[i] (gq aL)
  have AR:l.drop i=l[i]::l.drop (i+1):=dq aL
  rw [AR,List.findIdx?_cons] at am
  obtain ⟨s1,Zu,zB,iQ⟩:=nL DT
  subst Zu
  obtain ⟨y0,y1,y2,y3,y4,y5,y6,y7⟩:=At8 (zj.ext aW)
  simp +contextual only [go_sem,aD,sevalprocAttr,aI,ht,aL,y0,y1,y2,y3,y4,y5,y6,y7]
  refine aF (IR (jU aW _ _ DT) T) ?_
  rintro v M2 bh _ rfl
  cases hb:rE l[i].x with
  | true=>
   rw [hb] at am
   simp +contextual only [go_sem,aD,sevalprocAttr]
   exact ak aG.rfl' (by rw [am];simp [ql])
  | false=>
   rw [hb] at am
   simp +contextual only [go_sem,aD,sevalprocAttr,ht]
   refine bT aL ?_ ?_ ⟨M2,aW.trans bh,rfl,?_⟩
   ·simp only [aE,aI,go_sem,sevalprocAttr]
   ·simp only [go_sem,sevalprocAttr,aA i (by omega)]
   ·rw [am]
    cases (l.drop (i+1)).findIdx? (fun i=>rE i.x)<;>simp;omega
 ·have:i=l.length:=by omega
  subst this
  rw [List.drop_length] at am
  simp +contextual only [go_sem,aD,sevalprocAttr,aI,ht,aL]
  exact ak aG.rfl' (by rw [am];rfl)
def Du {l:List It}{M:aR}{lv:Value}(hs:RS M (AP M) 8 l lv)(T:Tm):
 bU Tryz.prog 138 [lv,.func (.func 139) ⟨[]⟩ ⟨[]⟩] T M [] [] (fun r _ _ _=>r=.bool (l.any fun i=>rE i.x)) aM:=by
 refine az aih rfl rfl ?_
 intro bj _
 simp +contextual only [go_sem,sevalprocAttr]
 refine aF (ND hs T) ?_
 rintro v M1 aW _ rfl
 simp +contextual only [go_sem,sevalprocAttr]
 exact ak aG.rfl' (by rw [GK])
end Go.Proofs.YtcpjbohndglclaaGreatDoor

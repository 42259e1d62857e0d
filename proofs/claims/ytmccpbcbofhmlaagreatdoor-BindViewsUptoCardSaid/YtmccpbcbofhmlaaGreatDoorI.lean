import Derived.Test.YtmccpbcbofhmlaaGreatDoorH
import Derived.Test.YtmccpbcbofhmlaaGreatDoorD
import Derived.Test.YtmccpbcbofhmlaaGreatDoorE
import Derived.Deep.Slices
import Derived.ChangeFn
import GoSem.ClaimJoined
import Derived.Test.YtmccpbcbofhmlaaGreatDoorRows
import Derived.Test.YtmccpbcbofhmlaaGreatDoorCards
import Derived.Test.YtmccpbcbofhmlaaGreatDoorTie
import Derived.ProofKit
import Derived.OpenShut
import Derived.Deep.DeepHandedRow
import Derived.Deep.DeepWitnessRowRef
import Derived.Lib.LaidTab
import Derived.LaidSub
import Derived.LaidLaws
import Derived.Shelf.Vars
import Derived.ChangeMaps5
import Derived.ReadAgain
import Derived.Test.YtmccpbcbofhmlaaGreatDoorC
import Derived.Shelf.Strings.Builder1
import Derived.Shelf.Strings.Builder2
import Derived.Shelf.Small.Strs
import Derived.Shelf.Strconv.Itoa0
import Derived.Shelf.Strconv.Itoa1
import Derived.Shelf.LaysM
import Derived.Shelf.Strconv.Itoa2
import Derived.Shelf.Strconv.Itoa3
import Derived.Shelf.Strconv.Itoa4
import Derived.Shelf.Strconv.ParseIntEmpty
import Derived.Shelf.Strconv.Clone
import Derived.Shelf.Strconv.SyntaxError
import Derived.Shelf.LaysC
import Derived.Shelf.Strconv.ToError
import Derived.Shelf.Strconv.Lower
import Derived.Shelf.Strconv.ParseUint10
import Derived.Shelf.Strconv.ParseUint10Empty
import Derived.Shelf.Strconv.ParseUint10Any
import Derived.Shelf.Strconv.ParseInt10
import Derived.Shelf.Strconv.RangeError
import Derived.Shelf.Strconv.ToErrorRange
import Derived.Shelf.Strconv.ParseUintEmpty
import Derived.Shelf.Strconv.ParseUint10b64
import Derived.Shelf.Strconv.ParseUint10b32
import Derived.Shelf.Strconv.ParseUint10b16
import Derived.Shelf.Strconv.ParseUint10b8
import Derived.Shelf.Strconv.ParseUint10At
import Derived.Shelf.Strconv.ParseInt10At64
import Derived.Shelf.Strconv.ParseInt10At32
import Derived.Shelf.Strconv.ParseInt10At16
import Derived.Shelf.Strconv.ParseInt10At8
import Derived.Shelf.Strconv.ParseInt10All
import Derived.Shelf.Strconv.ParseIntPublic10
import Derived.Shelf.Strings.Search1
import Derived.Shelf.Strings.Search2
import Derived.Shelf.Strings.Search3
import Derived.Shelf.Strings.Count
import Derived.Shelf.Strings.Shaped
import Derived.Shelf.Strings.Prefix
import Derived.Shelf.Strings.Split
import Derived.Shelf.Strings.Fields
import Derived.Shelf.Strings.Replace
import Derived.Shelf.Unicode.Latin
import Derived.Shelf.Unicode.DecodeSlow
import Derived.Shelf.Unicode.Is16White
import Derived.Shelf.Unicode.IsSpaceAny
import Derived.Shelf.Unicode.Is16Any
import Derived.Shelf.Unicode.Is32Any
import Derived.Shelf.Unicode.ExclAny
import Derived.Test.YtmccpbcbofhmlaaGreatDoorProg
set_option linter.all false
namespace Go.Proofs.YtmccpbcbofhmlaaGreatDoor
open Go Vc
set_option maxRecDepth 10000
mutual
def ix (tables:List (List Int)):Pl ->Nat
 | .mk k n x xs ags kids=>yd tables k n xs ags (nA tables kids)
def nA (tables:List (List Int)):List Pl ->List Nat
 | []=>[]
 | p::l=>ix tables p::nA tables l
def yd (tables:List (List Int))(k n:Int)(xs:List Ex)(ags:List Ag)(c:List Nat):Nat:=
 if k=1 then (tables.getD n.toNat []).length else if k=3 then xs.length else if k=12 then xs.length+ags.length else if k=4\/k=7 then c.getD 0 0+c.getD 1 0 else c.getD 0 0
end
theorem sy {cols:List Int}:∀ {xs:List Ex} {t:List Int},ge cols xs=.ok t ->t.length=xs.length
 | [],t,h=>by injection h with h;subst h;rfl
 | x::l,t,h=>by
  rw [ge] at h
  split at h
  ·cases h
  ·split at h
   ·rename_i ts CW
    injection h with h;subst h
    rw [List.length_cons,List.length_cons,sy CW]
   ·cases h
theorem s9 {cols:List Int}{xs:List Ex}{t:List Int}(h:dZ cols xs=.ok t):t.length=xs.length:=by
 unfold dZ at h
 split at h
 ·cases h
 ·exact sy h
theorem vl {cols:List Int}:∀ {l:List Ag} {t:List Int},fx cols l=.ok t ->t.length=l.length
 | [],t,h=>by injection h with h;subst h;rfl
 | x::l,t,h=>by
  rw [fx] at h
  split at h
  ·cases h
  ·split at h
   ·rename_i ts CW
    injection h with h;subst h
    rw [List.length_cons,List.length_cons,vl CW]
   ·cases h
theorem uR:∀ {a b t:List Int},a.length=b.length ->j1 a b=.ok t ->t.length=a.length
 | [],[],t,_,h=>by injection h with h;subst h;rfl
 | x::a,y::b,t,hl,h=>by
  rw [j1] at h
  split at h
  ·cases h
  ·split at h
   ·rename_i ts CW
    injection h with h;subst h
    rw [List.length_cons,List.length_cons,uR (by simpa using hl) CW]
   ·cases h
theorem Dx {α β:Type}(f:α ->β)(l:List α)(i:Nat)(d:α):(l.map f).getD i (f d)=f (l.getD i d):=by
 simp only [List.getD,List.getElem?_map]
 cases l[i]?<;>rfl
theorem GA {tables:List (List Int)}{k n:Int}{x:Ex}{xs:List Ex}{ags:List Ag}{c:List (List Int)}{t:List Int}(hk:¬ gd k<0)(h:jK tables k n x xs ags c=.ok t):t.length=yd tables k n xs ags (c.map List.length):=by
 have e0:(c.map List.length).getD 0 0=(c.getD 0 []).length:=Dx List.length c 0 []
 have e1:(c.map List.length).getD 1 0=(c.getD 1 []).length:=Dx List.length c 1 []
 unfold yd
 rw [e0,e1]
 unfold jK at h
 simp only at h
 generalize c.getD 0 []=a at h ⊢
 generalize c.getD 1 []=b at h ⊢
 by_cases k1:k=1
 ·subst k1
  simp only [if_true] at h
  split at h
  ·injection h with h;subst h;rfl
  ·cases h
 rw [if_neg k1] at h
 rw [if_neg k1]
 by_cases k2:k=2
 ·subst k2
  simp only [if_true] at h
  split at h
  ·injection h with h;subst h;rfl
  ·cases h
 rw [if_neg k2] at h
 by_cases k3:k=3
 ·subst k3
  simp only [if_true] at h
  rw [if_pos rfl]
  exact s9 h
 rw [if_neg k3] at h
 rw [if_neg k3]
 by_cases k8:k=8\/k=9
 ·rw [if_pos k8] at h
  rw [if_neg (by omega),if_neg (by omega)]
  unfold lz at h
  split at h
  ·cases h
  ·rename_i hl
   exact uR (Classical.not_not.1 hl) h
 rw [if_neg k8] at h
 by_cases k10:k=10\/k=11
 ·rw [if_pos k10] at h
  rw [if_neg (by omega),if_neg (by omega)]
  injection h with h;subst h;rfl
 rw [if_neg k10] at h
 by_cases k12:k=12
 ·rw [if_pos k12] at h
  rw [if_pos k12]
  split at h
  ·cases h
  ·split at h
   ·cases h
   ·rename_i ks hks
    split at h
    ·rename_i g hg
     injection h with h;subst h
     rw [List.length_append,s9 hks,vl hg]
    ·cases h
 rw [if_neg k12] at h
 rw [if_neg k12]
 by_cases k13:k=13
 ·rw [if_pos k13] at h
  rw [if_neg (by omega)]
  split at h
  ·cases h
  ·split at h
   ·cases h
   ·injection h with h;subst h;rfl
 rw [if_neg k13] at h
 split at h
 ·cases h
 ·split at h
  ·cases h
  ·injection h with h
   subst h
   have h47:k=4\/k=5\/k=6\/k=7:=by
    unfold gd at hk
    rw [if_neg k1] at hk
    split at hk
    ·omega
    ·split at hk
     ·omega
     ·omega
   rcases h47 with rfl | rfl | rfl | rfl<;>simp
mutual
theorem sP {tables:List (List Int)}:∀ (p:Pl) (bq m m':Nat) (t:List Int),ek tables bq m p=(.ok t,m') ->t.length=ix tables p
 | .mk k n x xs ags kids,bq,m,m',t,h=>by
  rw [ek] at h
  split at h
  ·cases h
  ·split at h
   ·cases h
   ·rename_i hk
    split at h
    ·cases h
    ·split at h
     ·cases h
     ·rename_i c m2 hc
      injection h with h1 h2
      rw [ix,<- uP kids (bq+1) (m+1) m2 c hc]
      exact GA hk h1
theorem uP {tables:List (List Int)}:∀ (l:List Pl) (bq m m':Nat) (c:List (List Int)),fM tables bq m l=(.ok c,m') ->c.map List.length=nA tables l
 | [],bq,m,m',c,h=>by
  rw [fM] at h
  injection h with h1 h2
  injection h1 with h1
  subst h1;rfl
 | p::l,bq,m,m',c,h=>by
  rw [fM] at h
  split at h
  ·cases h
  ·rename_i t m1 ht
   split at h
   ·cases h
   ·rename_i cs m2 iE
    injection h with h1 h2
    injection h1 with h1
    subst h1
    rw [List.map_cons,nA,sP p bq m m1 t ht,uP l bq m1 m2 cs iE]
end
theorem ul {tables:List (List Int)}{p:Pl}{t:List Int}(h:gh tables p=.ok t):t.length=ix tables p:=by
 unfold gh at h
 split at h
 ·cases h
 ·split at h
  ·cases h
  ·exact sP p 1 0 (ek tables 1 0 p).2 t (Prod.ext h rfl)
def ro (rels:List Rel):Prop:=∀ r∈rels,r.view=true ->∃ t,gh (bQ rels) r.plan=.ok t/\t.length=r.cols.length
theorem CS (r:Rel)(l:List Rel):bQ (r::l)=if r.view=true then bQ l else r.cols.map (·.ty)::bQ l:=by
 unfold bQ
 cases hv:r.view<;>simp [hv]
theorem uj {T:List (List Int)}{name:Bs}:∀ (l:List Rel) (pre:List (List Int)),T=pre++bQ l ->(∀ r∈l,r.view=true ->∃ t,gh T r.plan=.ok t/\t.length=r.cols.length) ->
 ∀ q,iR name pre.length l=some q ->ix T q.1=q.2.length
 | [],_,_,_,_,h=>by cases h
 | r::l,pre,hT,hr,q,h=>by
  rw [iR] at h
  rw [CS] at hT
  split at h
  ·injection h with h
   subst h
   cases hv:r.view with
   | true=>
    simp only [if_true]
    obtain ⟨t,ht,hl⟩:=hr r (List.mem_cons_self ..) hv
    rw [<- ul ht,hl]
   | false=>
    rw [hv,if_neg (by decide)] at hT
    simp only [Bool.false_eq_true,if_false]
    rw [Cs,ix,yd,if_pos rfl,hT]
    simp
  ·cases hv:r.view with
   | true=>
    rw [hv,if_pos rfl] at hT
    rw [hv] at h
    simp only [if_true] at h
    exact uj l pre hT (fun r' h'=>hr r' (p5 h')) q h
   | false=>
    rw [hv,if_neg (by decide)] at hT
    rw [hv] at h
    simp only [Bool.false_eq_true,if_false] at h
    refine uj (name:=name) l (pre++[r.cols.map (·.ty)]) (by rw [hT];simp) (fun r' h'=>hr r' (p5 h')) q ?_
    rw [List.length_append];exact h
theorem MJ {rels:List Rel}(hr:ro rels){name:Bs}{q:Pl×List Co}(h:mc rels name=.ok q):ix (bQ rels) q.1=q.2.length:=by
 unfold mc at h
 split at h
 ·rename_i x hx
  injection h with h;subst h
  exact uj rels [] rfl hr x hx
 ·cases h
theorem pT {rels:List Rel}(hr:ro rels):∀ (l:List So) (i:Nat) (p:Pl) (names:List (Bs×Bs)) (had:List Bs) (r:Pl×List (Bs×Bs)),(∀ (j:Nat) (s:So),l[j]?=some s ->0<i+j ->2<=s.k/\s.k<=5) ->(i=0 ->names=[]) ->(0<i ->ix (bQ rels) p=names.length) ->(l=[] ->0<i) ->
 j0 rels l i p names had=.ok r ->ix (bQ rels) r.1=r.2.length
 | [],i,p,names,had,r,_,_,hw,hi,h=>by
  rw [j0] at h
  injection h with h;subst h
  exact hw (hi rfl)
 | s::l,i,p,names,had,r,hk,h0,hw,_,h=>by
  rw [j0] at h
  split at h
  ·cases h
  ·rename_i q hq
   have Li:=MJ hr hq
   split at h
   ·cases h
   ·split at h
    ·rename_i rU
     subst rU
     rw [h0 rfl,List.nil_append] at h
     refine pT hr l 1 _ _ _ r (fun j s' hj _=>hk (j+1) s' hj (by omega)) (fun h=>by omega) (fun _=> ?_) (fun _=>by omega) h
     rw [Li,List.length_map]
    ·rename_i rU
     split at h
     ·cases h
     ·rename_i x hx
      have hks:=hk 0 s rfl (by omega)
      have hp:=hw (by omega)
      refine pT hr l (i+1) _ _ _ r (fun j s' hj _=>hk (j+1) s' hj (by omega)) (fun h=>by omega) (fun _=> ?_) (fun _=>by omega) h
      rw [ix,nA,nA,nA,yd]
      have h4:s.k=2\/s.k=3\/s.k=4\/s.k=5:=by omega
      rcases h4 with h4 | h4 | h4 | h4<;>simp [h4,kU,hp,Li]
theorem wE {names:List (Bs×Bs)}:∀ {l:List X} {t:List Ex},dn names l=.ok t ->t.length=l.length
 | [],t,h=>by rw [dn] at h;injection h with h;subst h;rfl
 | x::l,t,h=>by
  rw [dn] at h
  split at h
  ·cases h
  ·split at h
   ·rename_i m hm
    injection h with h;subst h
    rw [List.length_cons,List.length_cons,wE hm]
   ·cases h
theorem r9 {names:List (Bs×Bs)}{keys:List X}:∀ {l:List X} {ags:List Ag} {t:List Ex×List Ag},dP names keys l ags=.ok t ->t.1.length=l.length
 | [],ags,t,h=>by rw [dP] at h;injection h with h;subst h;rfl
 | x::l,ags,t,h=>by
  rw [dP] at h
  split at h
  ·cases h
  ·split at h
   ·rename_i m hm
    injection h with h;subst h
    simp only [List.length_cons]
    rw [r9 hm]
   ·cases h
theorem mH:∀ (l:List It) (i:Nat),(eT i l).length=l.length
 | [],_=>rfl
 | x::l,i=>by rw [eT,List.length_cons,List.length_cons,mH l]
theorem H7 (T:List (List Int))(x:Ex)(p:Pl):ix T (gz x p)=ix T p:=by
 unfold gz
 rw [ix,nA,nA,yd]
 simp
theorem ng (T:List (List Int))(p:Pl){k:Int}(h:k=10\/k=11):ix T (jy k p)=ix T p:=by
 unfold jy
 rw [ix,nA,nA,yd]
 rcases h with rfl | rfl<;>simp
theorem qg (T:List (List Int))(p q:Pl){k:Int}(h:k=8\/k=9):ix T (qU k p q)=ix T p:=by
 unfold qU
 rw [ix,nA,nA,nA,yd]
 rcases h with rfl | rfl<;>simp
theorem WI (T:List (List Int))(op:Int)(p q:Pl):ix T (Er op p q)=ix T p:=by
 unfold Er
 split
 ·exact qg T p q (.inl rfl)
 ·split
  ·rw [ng T _ (.inr rfl),qg T p q (.inl rfl)]
  ·split
   ·rw [ng T _ (.inl rfl),qg T _ _ (.inr rfl),ng T _ (.inr rfl)]
   ·rw [ng T _ (.inl rfl),qg T p q (.inr rfl)]
def JA (l:List So):Prop:=l≠[]/\∀ (j:Nat) (s:So),l[j]?=some s ->0<j ->2<=s.k/\s.k<=5
theorem S0 {rels:List Rel}(hr:ro rels){s:Se}(hs:JA s.src){r:Pl×List Bs}(h:mt rels s=.ok r):ix (bQ rels) r.1=r.2.length:=by
 unfold mt at h
 split at h
 ·cases h
 ·rename_i f hf
  have hfw:ix (bQ rels) f.1=f.2.length:=pT hr s.src 0 jw [] [] f (fun j s' hj h0=>hs.2 j s' hj (by omega)) (fun _=>rfl) (fun h=>by omega) (fun h=>(hs.1 h).elim) hf
  split at h
  ·cases h
  ·rename_i w hw
   simp only at h
   have hp:ix (bQ rels) (if s.hasW=true then gz w f.1 else f.1)=f.2.length:=by
    split
    ·rw [H7,hfw]
    ·exact hfw
   generalize (if s.hasW=true then gz w f.1 else f.1)=p at h hp
   split at h
   ·cases h
   ·rename_i q hq
    injection h with h
    subst h
    have hd:ix (bQ rels) (if s.distinct=true then jy 11 q else q)=ix (bQ rels) q:=by
     split
     ·exact ng _ q (.inr rfl)
     ·rfl
    show ix _ (if s.distinct=true then jy 11 q else q)=(if s.star=true then f.2.map (·.2) else eT 0 s.items).length
    rw [hd]
    split at hq
    ·unfold j2 at hq
     split at hq
     ·cases hq
     ·rename_i kE
      rw [if_neg kE,mH]
      split at hq
      ·cases hq
      ·split at hq
       ·cases hq
       ·rename_i it Kq
        split at hq
        ·cases hq
        ·injection hq with hq
         subst hq
         rw [ix,nA,nA,yd]
         simp only [if_true]
         rw [if_neg (by decide),r9 Kq,List.length_map]
    ·unfold oI at hq
     split at hq
     ·rename_i kE
      injection hq with hq
      subst hq
      rw [if_pos kE,List.length_map,hp]
     ·rename_i kE
      rw [if_neg kE,mH]
      split at hq
      ·cases hq
      ·rename_i l hl
       injection hq with hq
       subst hq
       rw [ix,nA,nA,yd]
       simp only [if_true]
       rw [if_neg (by decide),wE hl,List.length_map]
theorem rD {rels:List Rel}(hr:ro rels){ops:List Int}:∀ (l:List Se) (i:Nat) (p:Pl) (names:List Bs) (r:Pl×List Bs),(∀ s∈l,JA s.src) ->(0<i ->ix (bQ rels) p=names.length) ->(l=[] ->0<i) ->
 fA rels ops i p names l=.ok r ->ix (bQ rels) r.1=r.2.length
 | [],i,p,names,r,_,hw,hi,h=>by
  rw [fA] at h
  injection h with h;subst h
  exact hw (hi rfl)
 | s::l,i,p,names,r,hs,hw,_,h=>by
  rw [fA] at h
  split at h
  ·cases h
  ·rename_i q hq
   have Li:=S0 hr (hs s (List.mem_cons_self ..)) hq
   split at h
   ·exact rD hr l 1 _ _ r (fun s' h'=>hs s' (p5 h')) (fun _=>Li) (fun _=>by omega) h
   ·rename_i rU
    exact rD hr l (i+1) _ _ r (fun s' h'=>hs s' (p5 h')) (fun _=>by rw [WI];exact hw (by omega)) (fun _=>by omega) h
theorem yC {rels:List Rel}(hr:ro rels){q:Q}(h0:q.parts≠[])(hs:∀ s∈q.parts,JA s.src){r:Pl×List Bs}(h:gR rels q=.ok r):ix (bQ rels) r.1=r.2.length:=by
 unfold gR at h
 split at h
 ·cases h
 ·rename_i r0 tB
  have hw:=rD hr q.parts 0 jw [] r0 hs (fun h=>by omega) (fun h=>(h0 h).elim) tB
  split at h
  ·cases h
  ·rename_i p hp
   injection h with h;subst h
   show ix _ p=r0.2.length
   unfold s8 at hp
   split at hp
   ·split at hp
    ·cases hp
    ·injection hp with hp
     subst hp
     rw [ix,nA,nA,yd]
     simpa using hw
   ·injection hp with hp
    subst hp
    exact hw
theorem xZ:∀ (l:List Bs) (m:List Int),l.length=m.length ->(ns l m).length=m.length/\(ns l m).map (·.ty)=m
 | [],[],_=>⟨rfl,rfl⟩
 | a::l,t::m,h=>by
  obtain ⟨h1,h2⟩:=xZ l m (by simpa using h)
  exact ⟨by rw [ns,List.length_cons,List.length_cons,h1],by rw [ns,List.map_cons,h2]⟩
theorem Gj {rels:List Rel}(hr:ro rels){q:Q}(h0:q.parts≠[])(hs:∀ s∈q.parts,JA s.src){r:Pl×List Co}(h:gT rels q=.ok r):∃ t,gh (bQ rels) r.1=.ok t/\r.2.map (·.ty)=t/\r.2.length=t.length:=by
 unfold gT at h
 split at h
 ·cases h
 ·rename_i b hb
  have hw:=yC hr h0 hs hb
  split at h
  ·cases h
  ·rename_i t ht
   injection h with h
   subst h
   have hz:=xZ b.2 t (by rw [<- hw,ul ht])
   exact ⟨t,ht,hz.2,hz.1⟩
theorem nR {M M':aS}(he:bh M M'){q:Q}{cs:List Value}(h:RQ M q cs):RQ M' q cs:=by
 obtain ⟨pv,ov,dv,h1,h2,h3,h4⟩:=h
 exact ⟨pv,ov,dv,aL he (jb he) h1,aL he (fun _ _ h=>h) h2,aL he (bB he) h3,h4⟩
theorem GB {rels:List Rel}(h:BV rels):ro rels:=fun r hr hv=>⟨_,(h.1 r hr).2 hv,by simp⟩
theorem XJ {rels:List Rel}{q:Q}(hr:BV rels)(hq:jn q=0):∀ r t,gR rels q=.ok r ->gh (bQ rels) r.1=.ok t ->t.length<=r.2.length:=by
 intro r t h1 h2
 obtain ⟨_,hp,_,_,hs⟩:=tW hq
 have h3:=yC (GB hr) hp (fun s Dm=>⟨(hs s Dm).2.1,fun j x hj h0=>((hs s Dm).1.on j x hj h0).1⟩) h1
 rw [ul h2,h3]
 exact Nat.le_refl _
theorem VY {M:aS}{b o:Nat}{x:Stm}{cs:List Value}(h:ss M x cs)(ha:At M b o cs):∃ c r,RS M sA 2 x.cols c/\RS M (YM M) 1 x.rows r/\
 aQ M ⟨b,o,none⟩=some (.int .i64 x.k)/\aQ M ⟨b,o+1,none⟩=some (st x.name)/\aQ M ⟨b,o+2,none⟩=some c/\(∃ q,RQ M x.q q/\At M b (o+3) q)/\
 aQ M ⟨b,o+7,none⟩=some r/\aQ M ⟨b,o+8,none⟩=some (.bool x.hasW)/\∃ w,RX M x.wh w/\At M b (o+9) w:=by
 obtain ⟨c,q,r,w,h1,h2,h3,h4,rfl⟩:=h
 rw [gb,gb,gb,PX h2] at ha
 obtain ⟨⟨a0,a1,a2,_⟩,aq,⟨a7,a8,_⟩,aw⟩:=ha
 exact ⟨c,r,h1,h3,a0,a1,a2,⟨q,h2,aq⟩,a7,a8,w,h4,aw⟩
def Ez:List Co ->Int | []=>0 | c::l=>qH (ee [c.name]) (if c.ty<2\/4<c.ty then 1 else Ez l)
def Fg:List V ->Int | []=>0 | v::l=>qH (gC v) (Fg l)
def A5:List (List V) ->Int | []=>0 | r::l=>if (r.length:Int)<1\/8<(r.length:Int) then 5 else qH (Fg r) (A5 l)
def Af (s:Stm):Int:=
 if s.k<1\/5<s.k then 1 else if s.k=5 then jn s.q else qH (ee [s.name]) (
  if s.k=2 then jn s.q
  else if s.k=1 then (if (s.cols.length:Int)<1\/8<(s.cols.length:Int) then 5 else Ez s.cols)
  else if s.k=3 then (if (s.rows.length:Int)<1\/400<(s.rows.length:Int) then 5 else A5 s.rows)
  else if s.k=4 then (if s.hasW=true then gt s.wh else 0) else 0)
theorem PS {M:aS}{b o:Nat}{x:Stm}{cs:List Value}(hg:eX M)(hx:ss M x cs)(ha:At M b o cs):Ct Tryz.prog 87 [.pointer (some ⟨b,o,none⟩)] M [] [] (fun r _ _ _=>r=.int .i64 (Af x)) aO:=by
 intro T
 obtain ⟨cv,rv,hc,hr,m0,m1,m2,⟨qc,hq,haq⟩,m7,m8,wc,hw,haw⟩:=VY hx ha
 obtain ⟨Ve,ca,cc,rfl,cO,_,adD⟩:=aF (by decide) (fun _ _ h=>by unfold sA at h;subst h;rfl) hc
 obtain ⟨hrb,ra,rc,rfl,Lh,_,adZ⟩:=aF (by decide) (fun _ _ h=>by obtain ⟨_,_,rfl⟩:=h;rfl) hr
 obtain ⟨sw,rfl,ow,w0,w1,w2,w3,w4,w5,w6⟩:=my hw haw
 obtain ⟨S,hS⟩:∃ S,S=Af x:=⟨_,rfl⟩
 rw [<- hS]
 unfold Af at hS
 refine aC F87 rfl rfl ?_
 intro bi _
 by_cases k0:x.k<1\/5<x.k
 ·rw [if_pos k0] at hS
  simp +contextual only [go_sem,sevalprocAttr,m0]
  rw [cd]
  by_cases k1:x.k<1
  ·simp +contextual only [go_sem,sevalprocAttr,k1]
   exact am aH.rfl' (by rw [hS])
  ·have k2:5<x.k:=by omega
   simp +contextual only [go_sem,sevalprocAttr,k1,k2]
   exact am aH.rfl' (by rw [hS])
 rw [if_neg k0] at hS
 have k1:¬ x.k<1:=fun h=>k0 (.inl h)
 have k2:¬ 5<x.k:=fun h=>k0 (.inr h)
 by_cases k5:x.k=5
 ·rw [if_pos k5] at hS
  simp +contextual only [go_sem,aE,sevalprocAttr,m0,k5]
  refine aD (Au hg hq haq T) ?_
  rintro v M2 bg _ rfl
  simp +contextual only [go_sem,sevalprocAttr]
  exact am aH.rfl' (by rw [hS])
 rw [if_neg k5] at hS
 simp +contextual only [go_sem,aE,sevalprocAttr,m0,m1,k1,k2,k5]
 intro b1 fD
 refine di Pg.bd fun M1 aV Wd bG=> ?_
 have hl:RS M1 pX 1 [x.name] (.slice (some ⟨b1,0,none⟩) 1 1):=cK (fun _ _=>ep) Wd (kq [x.name]) rfl (by decide)
 refine aD (sd (hg.ext aV) hl T) ?_
 rintro v M2 bg _ rfl
 have eh:=aV.trans bg
 by_cases hE:ee [x.name]=0
 ·rw [hE,gS] at hS
  have n0:=ay eh m0
  by_cases c2:x.k=2
  ·rw [if_pos c2] at hS
   simp +contextual only [go_sem,aE,sevalprocAttr,hE,n0,c2]
   refine aD (Au (hg.ext eh) (Pn eh _ _ hq) (haq.ext eh) T) ?_
   rintro v M3 bM _ rfl
   simp +contextual only [go_sem,sevalprocAttr]
   exact am aH.rfl' (by rw [hS])
  rw [if_neg c2] at hS
  by_cases c1:x.k=1
  ·rw [if_pos c1] at hS
   have n2:=ay eh m2
   by_cases cl:(x.cols.length:Int)<1\/8<(x.cols.length:Int)
   ·rw [if_pos cl] at hS
    by_cases cl1:(x.cols.length:Int)<1
    ·simp +contextual only [go_sem,aE,sevalprocAttr,hE,n0,c1,n2,cl1]
     exact am aH.rfl' (by rw [hS])
    ·have cl2:8<(x.cols.length:Int):=by omega
     simp +contextual only [go_sem,aE,sevalprocAttr,hE,n0,c1,n2,cl1,cl2]
     exact am aH.rfl' (by rw [hS])
   rw [if_neg cl] at hS
   have cl1:¬ (x.cols.length:Int)<1:=fun h=>cl (.inl h)
   have cl2:¬ 8<(x.cols.length:Int):=fun h=>cl (.inr h)
   simp +contextual only [go_sem,aE,sevalprocAttr,hE,n0,c1,n2,cl1,cl2]
   refine aY x.cols.length 73 [(71,.slice ca x.cols.length cc),(72,.int .i64 (x.cols.length:Int))]
    (fun i e h=>∃ N M',aH T N/\bh M M'/\h=⟨N,M',[],[]⟩/\S=Ez (x.cols.drop i))
    0 (by omega) (by simp only [aG,go_sem,sevalprocAttr]) (by simp only [go_sem,sevalprocAttr]) ⟨T,M2,aH.rfl',eh,rfl,hS⟩ ?_
   clear hS
   rintro i e h hi aI ht ⟨N,M3,hN,bM,rfl,hS⟩
   simp only [aG] at aI
   by_cases aN:i<x.cols.length
   ·obtain ⟨b',o',cs',rfl,cG,cC⟩:=adD i x.cols[i] (gq aN)
    unfold sA at cC;subst cC
    have bA:x.cols.drop i=x.cols[i]::x.cols.drop (i+1):=dq aN
    have q0:=ay bM cG.1
    have q1:=ay bM cG.2.1
    rw [bA,Ez] at hS
    simp +contextual only [go_sem,aE,sevalprocAttr,aI,ht,aN,q0,q1]
    intro b5 N5 mp CU o9 b7 iN iV
    refine di Pg.bd fun M4 dh aaF cE=> ?_
    have hl:RS M4 pX 1 [x.cols[i].name] (.slice (some ⟨b7,0,none⟩) 1 1):=cK (fun _ _=>ep) aaF (kq [x.cols[i].name]) rfl (by decide)
    refine aD (sd (hg.ext (bM.trans dh)) hl N5) ?_
    rintro v M5 dF bE rfl
    simp only [aJ,and_true] at bE
    by_cases tE:ee [x.cols[i].name]=0
    ·rw [tE,gS] at hS
     by_cases t1:x.cols[i].ty<2
     ·rw [if_pos (.inl t1)] at hS
      simp +contextual only [go_sem,aE,sevalprocAttr,tE,bE,t1]
      exact am (hN.trans CU) (by rw [hS])
     ·by_cases t2:4<x.cols[i].ty
      ·rw [if_pos (.inr t2)] at hS
       simp +contextual only [go_sem,aE,sevalprocAttr,tE,bE,t1,t2]
       exact am (hN.trans CU) (by rw [hS])
      ·rw [if_neg (by omega)] at hS
       simp +contextual only [go_sem,aE,sevalprocAttr,ht,tE,bE,t1,t2]
       rw [dB]
       refine ak (az ⟨x.cols.length - (i+1),by omega,rfl,i+1,by omega,rfl,?_,?_,N5,M5,hN.trans CU,(bM.trans dh).trans dF,rfl,hS⟩)
       ·simp only [aG,aI,go_sem,sevalprocAttr]
       ·simp only [go_sem,sevalprocAttr,aB i (by omega)]
    ·rw [bO tE] at hS
     simp +contextual only [go_sem,aE,sevalprocAttr,tE]
     exact am (hN.trans CU) (by rw [hS])
   ·have:i=x.cols.length:=by omega
    subst this
    rw [List.drop_length,Ez] at hS
    simp +contextual only [go_sem,aE,sevalprocAttr,aI,ht,aN]
    exact am hN (by rw [hS])
  rw [if_neg c1] at hS
  by_cases c3:x.k=3
  ·rw [if_pos c3] at hS
   have n7:=ay eh m7
   by_cases cl:(x.rows.length:Int)<1\/400<(x.rows.length:Int)
   ·rw [if_pos cl] at hS
    by_cases cl1:(x.rows.length:Int)<1
    ·simp +contextual only [go_sem,aE,sevalprocAttr,hE,n0,c3,n7,cl1]
     exact am aH.rfl' (by rw [hS])
    ·have cl2:400<(x.rows.length:Int):=by omega
     simp +contextual only [go_sem,aE,sevalprocAttr,hE,n0,c3,n7,cl1,cl2]
     exact am aH.rfl' (by rw [hS])
   rw [if_neg cl] at hS
   have cl1:¬ (x.rows.length:Int)<1:=fun h=>cl (.inl h)
   have cl2:¬ 400<(x.rows.length:Int):=fun h=>cl (.inr h)
   simp +contextual only [go_sem,aE,sevalprocAttr,hE,n0,c3,n7,cl1,cl2]
   refine aY x.rows.length 114 [(112,.slice ra x.rows.length rc),(113,.int .i64 (x.rows.length:Int))]
    (fun i e h=>∃ N M',aH T N/\bh M M'/\h=⟨N,M',[],[]⟩/\S=A5 (x.rows.drop i))
    0 (by omega) (by simp only [aG,go_sem,sevalprocAttr]) (by simp only [go_sem,sevalprocAttr]) ⟨T,M2,aH.rfl',eh,rfl,hS⟩ ?_
   clear hS
   rintro i e h hi aI ht ⟨N,M3,hN,bM,rfl,hS⟩
   simp only [aG] at aI
   by_cases aN:i<x.rows.length
   ·obtain ⟨b',o',cs',rfl,cG,sv,wj,rfl⟩:=adZ i x.rows[i] (gq aN)
    have bA:x.rows.drop i=x.rows[i]::x.rows.drop (i+1):=dq aN
    have q0:=ay bM cG.1
    rw [Nat.mul_one] at q0
    rw [bA,A5] at hS
    obtain ⟨hvb,va,vc,rfl,hvl,_,acj⟩:=aF (by decide) (fun _ _ h=>fO h) wj
    by_cases rl:(x.rows[i].length:Int)<1\/8<(x.rows[i].length:Int)
    ·rw [if_pos rl] at hS
     by_cases rl1:(x.rows[i].length:Int)<1
     ·simp +contextual only [go_sem,aE,sevalprocAttr,aI,ht,aN,q0,rl1]
      exact am hN (by rw [hS])
     ·have rl2:8<(x.rows[i].length:Int):=by omega
      simp +contextual only [go_sem,aE,sevalprocAttr,aI,ht,aN,q0,rl1,rl2]
      exact am hN (by rw [hS])
    rw [if_neg rl] at hS
    have rl1:¬ (x.rows[i].length:Int)<1:=fun h=>rl (.inl h)
    have rl2:¬ 8<(x.rows[i].length:Int):=fun h=>rl (.inr h)
    simp +contextual only [go_sem,aE,sevalprocAttr,aI,ht,aN,q0,rl1,rl2]
    refine aY x.rows[i].length 128 [(112,.slice (some ⟨b',o',none⟩) x.rows.length rc),(113,.int .i64 (x.rows.length:Int)),(114,.int .i64 (i:Int)),(126,.slice va x.rows[i].length vc),(127,.int .i64 (x.rows[i].length:Int))]
     (fun j e h=>∃ N M',aH T N/\bh M M'/\h=⟨N,M',[],[]⟩/\S=qH (Fg (x.rows[i].drop j)) (A5 (x.rows.drop (i+1))))
     0 (by omega) (by simp only [aG,aI,ht,go_sem,sevalprocAttr]) (by simp only [go_sem,sevalprocAttr]) ⟨N,M3,hN,bM,rfl,hS⟩ ?_
    clear hS aI ht e hN bM q0
    rintro j e h hj aI htj ⟨N,M4,hN,dh,rfl,hS⟩
    simp only [aG] at aI
    by_cases qJ:j<x.rows[i].length
    ·obtain ⟨bv,ov,cv',rfl,aam,rj⟩:=acj j x.rows[i][j] (gq qJ)
     unfold RV V.cs at rj;subst rj
     have ZF:x.rows[i].drop j=x.rows[i][j]::x.rows[i].drop (j+1):=dq qJ
     have q0:=ay dh aam.1
     have q1:=ay dh aam.2.1
     have q2:=ay dh aam.2.2.1
     rw [ZF,Fg] at hS
     simp +contextual only [go_sem,aE,sevalprocAttr,aI,htj,qJ,q0,q1,q2]
     intro b10 N10 aaT acd Yg
     refine aD (iU x.rows[i][j] M4 N10) ?_
     rintro v M5 dF bE rfl
     by_cases tE:gC x.rows[i][j]=0
     ·rw [tE,gS] at hS
      simp +contextual only [go_sem,aE,sevalprocAttr,htj,tE]
      rw [dB]
      refine ak (az ⟨x.rows[i].length - (j+1),by omega,rfl,j+1,by omega,rfl,?_,?_,N10,M5,hN.trans acd,dh.trans dF,rfl,hS⟩)
      ·simp only [aG,aI,go_sem,sevalprocAttr]
      ·simp only [go_sem,sevalprocAttr,aB j (by omega)]
     ·rw [bO tE,bO tE] at hS
      simp +contextual only [go_sem,aE,sevalprocAttr,tE]
      exact am (hN.trans acd) (by rw [hS])
    ·have:j=x.rows[i].length:=by omega
     subst this
     rw [List.drop_length,Fg,gS] at hS
     simp +contextual only [go_sem,aE,sevalprocAttr,aI,htj,qJ]
     refine cI aN ?_ ?_ ⟨N,M4,hN,dh,rfl,hS⟩
     ·simp only [aG,aI,go_sem,sevalprocAttr]
     ·simp only [go_sem,sevalprocAttr,aB i (by omega)]
   ·have:i=x.rows.length:=by omega
    subst this
    rw [List.drop_length,A5] at hS
    simp +contextual only [go_sem,aE,sevalprocAttr,aI,ht,aN]
    exact am hN (by rw [hS])
  rw [if_neg c3] at hS
  by_cases c4:x.k=4
  ·rw [if_pos c4] at hS
   cases hW:x.hasW with
   | true=>
    rw [if_pos hW] at hS
    rw [hW] at m8
    simp +contextual only [go_sem,aE,sevalprocAttr,hE,n0,c4,ay eh m8,ay eh w0,ay eh w1,ay eh w2,ay eh w3,ay eh w4,ay eh w5,ay eh w6]
    refine aD (nP (hg.ext eh) (bB eh _ _ hw) T) ?_
    rintro v M3 bM _ rfl
    simp +contextual only [go_sem,sevalprocAttr]
    exact am aH.rfl' (by rw [hS])
   | false=>
    rw [if_neg (by rw [hW];exact Bool.false_ne_true)] at hS
    rw [hW] at m8
    simp +contextual only [go_sem,aE,sevalprocAttr,hE,n0,c4,ay eh m8]
    exact am aH.rfl' (by rw [hS])
  ·rw [if_neg c4] at hS
   simp +contextual only [go_sem,aE,sevalprocAttr,hE,n0,c2,c1,c3,c4]
   exact am aH.rfl' (by rw [hS])
 ·rw [bO hE] at hS
  simp +contextual only [go_sem,aE,sevalprocAttr,hE]
  exact am aH.rfl' (by rw [hS])
def wM:Nat ->List Stm ->Int×Nat | _,[]=>(0,0) | i,s::l=>if Af s≠0 then (Af s,i) else wM (i+1) l
def om (l:List Stm):Int×Nat:=if 60<(l.length:Int) then (5,0) else wM 0 l
theorem RP {M:aS}{l:List Stm}{sv:Value}(hg:eX M)(hs:RS M (ss M) 16 l sv):Ct Tryz.prog 42 [sv] M [] [] (fun r _ _ _=>r=flt (om l).1 ((om l).2:Int)) aO:=by
 intro T
 obtain ⟨hb,a,c,rfl,dJ,_,fU⟩:=aF (by decide) (fun _ _=>pi) hs
 obtain ⟨S,hS⟩:∃ S,S=om l:=⟨_,rfl⟩
 rw [<- hS]
 unfold om at hS
 refine aC F42 rfl rfl ?_
 intro bi _
 simp +contextual only [go_sem,aE,sevalprocAttr]
 intro b2 T2 ey dV fG
 by_cases h60:60<(l.length:Int)
 ·rw [if_pos h60] at hS
  simp +contextual only [go_sem,sevalprocAttr,h60]
  exact am dV (by rw [hS];rfl)
 rw [if_neg h60] at hS
 simp +contextual only [go_sem,sevalprocAttr,h60]
 refine aY l.length 11 [(0,.slice a l.length c),(2,.pointer (some ⟨b2,0,none⟩)),(10,.int .i64 l.length)] (fun i e h=>∃ M',bh M M'/\M' b2=none/\h=⟨T2,M',[(b2,[.int .i64 0,.int .i64 0])],[]⟩/\S=wM i (l.drop i)) 0 (by omega) (by simp only [aG,go_sem,sevalprocAttr]) (by simp only [go_sem,sevalprocAttr]) ⟨M,bh.rfl',ey,rfl,hS⟩ ?_
 clear hS
 rintro i e h hi aI ht ⟨M1,aV,n2,rfl,hS⟩
 simp only [aG] at aI
 by_cases aN:i<l.length
 ·obtain ⟨b,o,cs,rfl,cG,cC⟩:=fU i l[i] (gq aN)
  have bA:l.drop i=l[i]::l.drop (i+1):=dq aN
  rw [bA,wM] at hS
  simp +contextual only [go_sem,aE,sevalprocAttr,aI,ht,aN]
  refine aD (PS (hg.ext aV) (pP aV _ _ cC) (cG.ext aV) T2) ?_
  rintro v M2 bg aZ rfl
  simp only [aJ,and_true] at aZ
  by_cases hE:Af l[i]=0
  ·rw [if_neg (fun h=>h hE)] at hS
   simp +contextual only [go_sem,aE,sevalprocAttr,ht,hE]
   refine cI aN ?_ ?_ ⟨M2,aV.trans bg,aZ,rfl,hS⟩
   ·simp only [aG,aI,go_sem,sevalprocAttr]
   ·simp only [go_sem,sevalprocAttr,aB i (by omega)]
  ·rw [if_pos hE] at hS
   simp +contextual only [go_sem,aE,sevalprocAttr,aI,hE,aZ]
   exact am dV (by rw [hS];rfl)
 ·have:i=l.length:=by omega
  subst this
  rw [List.drop_length,wM] at hS
  simp +contextual only [go_sem,aE,sevalprocAttr,aI,ht,aN,n2]
  exact am dV (by rw [hS];rfl)
def wK (t t':List Tk):Prop:=t.map (fun x=>(x.k,x.s))=t'.map (fun x=>(x.k,x.s))
theorem wK.rfl' {t:List Tk}:wK t t:=rfl
theorem wK.nil {t':List Tk}(h:wK [] t'):t'=[]:=by simpa [wK] using h.symm
theorem wK.cons {x:Tk}{t t':List Tk}(h:wK (x::t) t'):∃ x' t1,t'=x'::t1/\x'.k=x.k/\x'.s=x.s/\wK t t1:=by
 cases t' with
 | nil=>simp [wK] at h
 | cons x' t1=>
  simp only [wK,List.map_cons,List.cons.injEq,Prod.mk.injEq] at h
  exact ⟨x',t1,rfl,h.1.1.symm,h.1.2.symm,h.2⟩
theorem wK.tail {t t':List Tk}(h:wK t t'):wK t.tail t'.tail:=by
 cases t with
 | nil=>rw [h.nil];rfl
 | cons x t=>obtain ⟨x',t1,rfl,_,_,h⟩:=h.cons;exact h
theorem rY {t' u:List Tk}(h:t'≠[]):(t'++u).tail=t'.tail++u:=by
 cases t' with
 | nil=>exact (h rfl).elim
 | cons x t=>rfl
theorem wK.ne {t t':List Tk}(h:wK t t')(hn:t≠[]):t'≠[]:=by
 cases t with
 | nil=>exact (hn rfl).elim
 | cons x t=>obtain ⟨x',t1,rfl,_,_,h⟩:=h.cons;simp
theorem sZ {r t:List Tk}(h:r.length<=t.length)(hr:r≠[]):t≠[]:=by
 rintro rfl
 exact hr (List.length_eq_zero_iff.1 (by simpa using h))
theorem jz {s:Bs}{t t':List Tk}(h:wK t t'):bH s t'=bH s t:=by
 cases t with
 | nil=>rw [h.nil]
 | cons x t=>obtain ⟨x',t1,rfl,h1,h2,h⟩:=h.cons;simp only [bH,h1,h2]
theorem ju {s:Bs}{t' u:List Tk}(h:t'≠[]):bH s (t'++u)=bH s t':=by
 cases t' with
 | nil=>exact (h rfl).elim
 | cons x t=>rfl
theorem wC {s:Bs}{t:List Tk}(h:bH s t=true):t≠[]:=by rintro rfl;cases h
theorem KS {l:List Bs}{t t':List Tk}(h:wK t t'):bD l t'=bD l t:=by
 induction l with
 | nil=>rfl
 | cons s l ih=>simp only [bD,jz h,ih]
theorem KZ {l:List Bs}{t' u:List Tk}(h:t'≠[]):bD l (t'++u)=bD l t':=by
 induction l with
 | nil=>rfl
 | cons s l ih=>simp only [bD,ju h,ih]
theorem Qd {l:List Bs}{t:List Tk}{j:Nat}(h:bD l t=some j):t≠[]:=by
 rintro rfl
 induction l generalizing j with
 | nil=>cases h
 | cons s l ih=>
  simp only [bD,bH,Bool.false_eq_true,if_false,Option.map_eq_some_iff] at h
  obtain ⟨k,h,_⟩:=h
  exact ih h
def kK {α:Type}(g h:List Tk ->Rs α):Prop:=∀ t t' u a r,wK t t' ->g t=.ok a r ->r.length<=t.length/\(r≠[] ->∃ r',wK r r'/\h (t'++u)=.ok a (r'++u))
def Loc {α:Type}(g:Int ->List Tk ->Rs α):Prop:=∀ en en',kK (g en) (g en')
theorem gB {α:Type}{a:α}:kK (fun t=> .ok a t) (fun t=> .ok a t):=by
 intro t t' u b r he h
 injection h with h1 h2;subst h1 h2
 exact ⟨Nat.le_refl _,fun _=>⟨t',he,rfl⟩⟩
theorem Dc {α:Type}{e:Int}{f g:List Tk ->Int}:kK (fun t=>(.err e (f t):Rs α)) (fun t=> .err e (g t)):=by
 intro t t' u b r he h;cases h
theorem cF {α β:Type}{g g':List Tk ->Rs α}{f f':α ->List Tk ->Rs β}(hg:kK g g')(hf:∀ a,kK (f a) (f' a)):kK (fun t=>(g t).bind (f)) (fun t=>(g' t).bind f'):=by
 intro t t' u b r he h
 have h:(g t).bind f=.ok b r:=h
 cases GF:g t with
 | err e a=>rw [GF] at h;cases h
 | out=>rw [GF] at h;cases h
 | ok a t1=>
  rw [GF] at h
  have h2:f a t1=.ok b r:=h
  obtain ⟨l1,n1⟩:=hg t t' u a t1 he GF
  obtain ⟨l2,_⟩:=hf a t1 t1 u b r rfl h2
  refine ⟨Nat.le_trans l2 l1,fun hr=> ?_⟩
  obtain ⟨t1',e1,qC⟩:=n1 (sZ l2 hr)
  obtain ⟨_,n2⟩:=hf a t1 t1' u b r e1 h2
  obtain ⟨r',e2,Ib⟩:=n2 hr
  refine ⟨r',e2,?_⟩
  show (g' (t'++u)).bind f'=_
  rw [qC];exact Ib
theorem ki {α:Type}{s:Bs}{g g' k k':List Tk ->Rs α}(hg:kK g g')(hk:kK k k'):kK (fun t=>if bH s t=true then g t.tail else k t) (fun t=>if bH s t=true then g' t.tail else k' t):=by
 intro t t' u b r he h
 simp only at h
 by_cases hs:bH s t=true
 ·rw [if_pos hs] at h
  have cD:=wC hs
  have jR:=he.ne cD
  obtain ⟨l1,n1⟩:=hg t.tail t'.tail u b r he.tail h
  refine ⟨Nat.le_trans l1 (by simp),fun hr=> ?_⟩
  obtain ⟨r',e1,h1⟩:=n1 hr
  refine ⟨r',e1,?_⟩
  simp only
  rw [if_pos (by rw [ju jR,jz he];exact hs),rY jR]
  exact h1
 ·rw [if_neg hs] at h
  obtain ⟨l1,n1⟩:=hk t t' u b r he h
  refine ⟨l1,fun hr=> ?_⟩
  obtain ⟨r',e1,h1⟩:=n1 hr
  have jR:=he.ne (sZ l1 hr)
  refine ⟨r',e1,?_⟩
  simp only
  rw [if_neg (by rw [ju jR,jz he];exact hs)]
  exact h1
theorem JW {α:Type}{l:List Bs}{g g':Nat ->List Tk ->Rs α}{k k':List Tk ->Rs α}(hg:∀ j,kK (g j) (g' j))(hk:kK k k'):
 kK (fun t=>match bD l t with | some j=>g j t.tail | none=>k t) (fun t=>match bD l t with | some j=>g' j t.tail | none=>k' t):=by
 intro t t' u b r he h
 simp only at h
 cases hs:bD l t with
 | some j=>
  rw [hs] at h
  have cD:=Qd hs
  have jR:=he.ne cD
  obtain ⟨l1,n1⟩:=hg j t.tail t'.tail u b r he.tail h
  refine ⟨Nat.le_trans l1 (by simp),fun hr=> ?_⟩
  obtain ⟨r',e1,h1⟩:=n1 hr
  refine ⟨r',e1,?_⟩
  simp only
  rw [KZ jR,KS he,hs,rY jR]
  exact h1
 | none=>
  rw [hs] at h
  obtain ⟨l1,n1⟩:=hk t t' u b r he h
  refine ⟨l1,fun hr=> ?_⟩
  obtain ⟨r',e1,h1⟩:=n1 hr
  have jR:=he.ne (sZ l1 hr)
  refine ⟨r',e1,?_⟩
  simp only
  rw [KZ jR,KS he,hs]
  exact h1
theorem wJ {α:Type}(c:Prop)[Decidable c]{g g' k k':List Tk ->Rs α}(hg:kK g g')(hk:kK k k'):kK (fun t=>if c then g t else k t) (fun t=>if c then g' t else k' t):=by
 by_cases h:c
 ·simp only [if_pos h];exact hg
 ·simp only [if_neg h];exact hk
theorem eP:∀ (l:List Bs),Loc fun en=>bU en l
 | [],en,en'=>gB
 | s::l,en,en'=>ki (eP l en en') Dc
theorem Ft:Loc fun en=>ij en:=by
 intro en en' t t' u a r he h
 cases t with
 | nil=>cases h
 | cons x t=>
  obtain ⟨x',t1,rfl,h1,h2,he⟩:=he.cons
  simp only [ij] at h
  split at h
  ·rename_i hk
   split at h
   ·rename_i hn
    injection h with h3 h4;subst h3 h4
    refine ⟨by simp,fun _=>⟨t1,he,?_⟩⟩
    simp only [List.cons_append,ij,h1,h2,if_pos hk,if_pos hn]
   ·cases h
  ·cases h
theorem VB:Loc fun en=>vF en:=by
 have key:∀ (neg:Bool) (at0 at1 en en':Int),kK (qN neg at0 en) (qN neg at1 en'):=by
  intro neg at0 at1 en en' t t' u a r he h
  cases t with
  | nil=>cases h
  | cons x t=>
   obtain ⟨x',t1,rfl,h1,h2,he⟩:=he.cons
   simp only [qN] at h
   split at h
   ·rename_i hk
    split at h
    ·cases h
    ·rename_i hn
     injection h with h3 h4;subst h3 h4
     refine ⟨by simp,fun _=>⟨t1,he,?_⟩⟩
     simp only [List.cons_append,qN,h1,h2,if_pos hk,if_neg hn]
   ·cases h
 intro en en' t t' u a r he h
 have h:qN (bH kF t) (oP en t) en (if bH kF t=true then t.tail else t)=.ok a r:=h
 by_cases hs:bH kF t=true
 ·have cD:=wC hs
  have jR:=he.ne cD
  have Dm:bH kF (t'++u)=true:=by rw [ju jR,jz he];exact hs
  rw [if_pos hs,hs] at h
  obtain ⟨l1,n1⟩:=key true (oP en t) (oP en' (t'++u)) en en' t.tail t'.tail u a r he.tail h
  refine ⟨Nat.le_trans l1 (by simp),fun hr=> ?_⟩
  obtain ⟨r',e1,h1⟩:=n1 hr
  refine ⟨r',e1,?_⟩
  show qN _ _ _ _=_
  rw [if_pos Dm,Dm,rY jR]
  exact h1
 ·rw [if_neg hs] at h
  simp only [Bool.not_eq_true] at hs
  rw [hs] at h
  obtain ⟨l1,n1⟩:=key false (oP en t) (oP en' (t'++u)) en en' t t' u a r he h
  refine ⟨l1,fun hr=> ?_⟩
  obtain ⟨r',e1,h1⟩:=n1 hr
  have jR:=he.ne (sZ l1 hr)
  have Dm:bH kF (t'++u)=false:=by rw [ju jR,jz he];exact hs
  refine ⟨r',e1,?_⟩
  show qN _ _ _ _=_
  rw [Dm,if_neg Bool.false_ne_true]
  exact h1
theorem pe {k:Int}{t t':List Tk}(h:wK t t'):iI k t'=iI k t:=by
 cases t with
 | nil=>rw [h.nil]
 | cons x t=>obtain ⟨x',t1,rfl,h1,h2,h⟩:=h.cons;simp only [iI,h1]
theorem o6 {k:Int}{t' u:List Tk}(h:t'≠[]):iI k (t'++u)=iI k t':=by
 cases t' with
 | nil=>exact (h rfl).elim
 | cons x t=>rfl
theorem Tq {t t' u:List Tk}(h:wK t t')(hn:t≠[]):Br (t'++u)=Br t:=by
 cases t with
 | nil=>exact (hn rfl).elim
 | cons x t=>obtain ⟨x',t1,rfl,h1,h2,h⟩:=h.cons;simp only [List.cons_append,Br,h2]
theorem Js {k:Int}{t:List Tk}(h:iI k t=true):t≠[]:=by rintro rfl;cases h
theorem UM {α β:Type}{f:α ->β}{g g':List Tk ->Rs α}(hg:kK g g'):kK (fun t=>(g t).map f) (fun t=>(g' t).map f):=by
 have h:=cF (f:=fun a t=> .ok (f a) t) (f':=fun a t=> .ok (f a) t) hg (fun a=>gB)
 have e:∀ (g:List Tk ->Rs α),(fun t=>(g t).map f)=fun t=>(g t).bind fun a t=> .ok (f a) t:=by
  intro g;funext t;cases g t<;>rfl
 rw [e,e];exact h
theorem Oa:Loc fun en=>jm en:=by
 intro en en'
 refine ki gB (ki gB (ki gB ?_))
 have aiz:=UM (f:=fun n=>some (⟨3,n,[]⟩:V)) (VB en en')
 intro t t' u a r he h
 simp only at h
 by_cases h1:bH kF t=true\/iI 2 t=true
 ·rw [if_pos h1] at h
  have cD:t≠[]:=by rcases h1 with h1 | h1;exact wC h1;exact Js h1
  have jR:=he.ne cD
  obtain ⟨l1,n1⟩:=aiz t t' u a r he h
  refine ⟨l1,fun hr=> ?_⟩
  obtain ⟨r',e1,h2⟩:=n1 hr
  refine ⟨r',e1,?_⟩
  simp only
  rw [if_pos (by rw [ju jR,jz he,o6 jR,pe he];exact h1)]
  exact h2
 ·rw [if_neg h1] at h
  by_cases h3:iI 3 t=true
  ·rw [if_pos h3] at h
   have cD:=Js h3
   have jR:=he.ne cD
   injection h with h4 h5
   subst h4 h5
   refine ⟨by simp,fun hr=>⟨t'.tail,he.tail,?_⟩⟩
   simp only
   rw [if_neg (by rw [ju jR,jz he,o6 jR,pe he];exact h1),if_pos (by rw [o6 jR,pe he];exact h3),Tq he cD,rY jR]
  ·rw [if_neg h3] at h
   injection h with h4 h5
   subst h4 h5
   refine ⟨Nat.le_refl _,fun hr=>⟨t',he,?_⟩⟩
   have jR:=he.ne hr
   simp only
   rw [if_neg (by rw [ju jR,jz he,o6 jR,pe he];exact h1),if_neg (by rw [o6 jR,pe he];exact h3)]
theorem Zp {x:X}:Loc fun en=>fun t=>if bH yp t=true then (bU en [qR] t.tail).bind fun _ t=> .ok (mL 3 [mL 16 [x]]) t else (bU en [qR] t).bind fun _ t=> .ok (mL 16 [x]) t:=fun en en'=>
 ki (g:=fun t=>(bU en [qR] t).bind fun _ t=> .ok (mL 3 [mL 16 [x]]) t) (cF (eP _ en en') fun _=>gB) (cF (eP _ en en') fun _=>gB)
theorem aay (en:Int)(x:X)(t:List Tk):isM en x t=if bH yp t.tail=true then (bU en [qR] t.tail.tail).bind fun _ t=> .ok (mL 3 [mL 16 [x]]) t else (bU en [qR] t.tail).bind fun _ t=> .ok (mL 16 [x]) t:=by
 unfold isM
 by_cases h:bH yp t.tail=true
 ·simp only [if_pos h]
 ·simp only [if_neg h]
theorem wP {g g':List Tk ->Rs X}(hg:kK g g')(l:Lvl):∀ (k k':Nat) (x:X),k<=k' ->kK (jZ g l k x) (jZ g' l k' x)
 | 0,k',x,hk=>by intro t t' u a r he h;cases h
 | k+1,0,x,hk=>by omega
 | k+1,k'+1,x,hk=>by
  have:=JW (l:=l.signs) (g:=fun j t=>(g t).bind fun y t'=>if l.once=true then .ok (mL (l.kind+j) [x,y]) t' else jZ g l k (mL (l.kind+j) [x,y]) t')
   (g':=fun j t=>(g' t).bind fun y t'=>if l.once=true then .ok (mL (l.kind+j) [x,y]) t' else jZ g' l k' (mL (l.kind+j) [x,y]) t') (k:=fun t=> .ok x t) (k':=fun t=> .ok x t)
   (fun j=>cF hg fun y=>wJ _ gB (wP hg l k k' _ (by omega))) gB
  have e:∀ (g:List Tk ->Rs X) (k:Nat),jZ g l (k+1) x=fun t=>match bD l.signs t with
   | some j=>(fun j t=>(g t).bind fun y t'=>if l.once=true then .ok (mL (l.kind+j) [x,y]) t' else jZ g l k (mL (l.kind+j) [x,y]) t') j t.tail
   | none=>(fun t=> .ok x t) t:=by
   intro g k;funext t
   rw [jZ]
   cases bD l.signs t<;>rfl
  rw [e,e];exact this
theorem NH {en en':Int}{ex ex':List Tk ->Rs X}(ib:kK ex ex'):kK (mF en ex) (mF en' ex'):=by
 refine cF (Oa en en') fun v=> ?_
 cases v with
 | some v=>exact gB
 | none=>
  simp only
  refine ki (g:=fun t=>(ex t).bind fun x t=>(bU en [kh] t).bind fun _ t=> .ok x t) (cF ib fun x=>cF (eP _ en en') fun _=>gB) ?_
  refine ki (g:=fun t=>(bU en [Xu] t).bind fun _ t=>(ex t).bind fun a t=>(bU en [XI] t).bind fun _ t=>(ex t).bind fun b t=>(bU en [X8] t).bind fun _ t=>(ex t).bind fun c t=>(bU en [adU] t).bind fun _ t=> .ok (mL 17 [a,b,c]) t)
   (cF (eP _ en en') fun _=>cF ib fun _=>cF (eP _ en en') fun _=>cF ib fun _=>cF (eP _ en en') fun _=>cF ib fun _=>cF (eP _ en en') fun _=>gB) ?_
  refine ki (g:=fun t=>(bU en [qZ] t).bind fun _ t=>(ex t).bind fun a t=>(bU en [kg] t).bind fun _ t=>(ex t).bind fun b t=>(bU en [kh] t).bind fun _ t=> .ok (mL 18 [a,b]) t)
   (cF (eP _ en en') fun _=>cF ib fun _=>cF (eP _ en en') fun _=>cF ib fun _=>cF (eP _ en en') fun _=>gB) ?_
  refine ki (g:=fun t=>(bU en [qZ] t).bind fun _ t=>if bH xz t=true then (bU en [kh] t.tail).bind fun _ t=> .ok (mL 19 []) t else (ex t).bind fun a t=>(bU en [kh] t).bind fun _ t=> .ok (mL 20 [a]) t)
   (cF (eP _ en en') fun _=>ki (g:=fun t=>(bU en [kh] t).bind fun _ t=> .ok (mL 19 []) t) (cF (eP _ en en') fun _=>gB) (cF ib fun _=>cF (eP _ en en') fun _=>gB)) ?_
  refine JW (g:=fun i t=>(bU en [qZ] t).bind fun _ t=>(ex t).bind fun a t=>(bU en [kh] t).bind fun _ t=> .ok (mL (21+i) [a]) t) (fun i=>cF (eP _ en en') fun _=>cF ib fun _=>cF (eP _ en en') fun _=>gB) ?_
  exact cF (Ft en en') fun n=>ki (g:=fun t=>(ij en t).bind fun m t=> .ok (X.mk 2 ⟨0,0,[]⟩ n m []) t) (cF (Ft en en') fun m=>gB) gB
theorem JB:∀ (f n:Nat) (op:Int),Loc fun en=>eO en f n op
 | 0,n,op,en,en'=>by intro t t' u a r he h;cases h
 | f+1,n,op,en,en'=>by
  have ih:=JB f
  by_cases h7:n=7
  ·have e:∀ en,eO en (f+1) n op=mF en (fun t=>if op+1>100 then .err 4 (oP en t) else eO en f 0 (op+1) t):=by
    intro en;funext t;rw [eO,if_pos h7]
   show kK (eO en (f+1) n op) (eO en' (f+1) n op)
   rw [e,e]
   exact NH (wJ _ Dc (ih 0 (op+1) en en'))
  by_cases h2:n=2
  ·have e:∀ en,eO en (f+1) n op=fun t=>if bH yp t=true then (fun t=>if op+1>100 then .err 4 (oP en t) else (eO en f 2 (op+1) t).bind fun x t=> .ok (mL 3 [x]) t) t.tail else eO en f 3 op t:=by
    intro en;funext t;rw [eO,if_neg h7,if_pos h2]
   show kK (eO en (f+1) n op) (eO en' (f+1) n op)
   rw [e,e]
   exact ki (wJ _ Dc (cF (ih 2 (op+1) en en') fun x=>gB)) (ih 3 op en en')
  ·by_cases h3:n=3
   ·have e:∀ en,eO en (f+1) n op=fun t=>(eO en f (n+1) op t).bind fun x t=>if bH wIs t=true then (fun t=>if bH yp t=true then (bU en [qR] t.tail).bind fun _ t=> .ok (mL 3 [mL 16 [x]]) t else (bU en [qR] t).bind fun _ t=> .ok (mL 16 [x]) t) t.tail
     else (fun t=>jZ (eO en f (n+1) op) (gM n) (t.length+1) x t) t:=by
     intro en;funext t;rw [eO,if_neg h7,if_neg h2]
     congr 1;funext x t
     by_cases hi:bH wIs t=true
     ·rw [if_pos ⟨h3,hi⟩,if_pos hi,aay]
     ·rw [if_neg (fun h=>hi h.2),if_neg hi]
    show kK (eO en (f+1) n op) (eO en' (f+1) n op)
    rw [e,e]
    refine cF (ih (n+1) op en en') fun x=>ki (Zp en en') ?_
    intro t t' u a r he h
    have bw:t.length=t'.length:=by have:=congrArg List.length he;simpa [wK] using this
    exact wP (ih (n+1) op en en') (gM n) (t.length+1) ((t'++u).length+1) x (by rw [List.length_append];omega) t t' u a r he h
   ·have e:∀ en,eO en (f+1) n op=fun t=>(eO en f (n+1) op t).bind fun x t=>(fun t=>jZ (eO en f (n+1) op) (gM n) (t.length+1) x t) t:=by
     intro en;funext t;rw [eO,if_neg h7,if_neg h2]
     congr 1;funext x t
     rw [if_neg (fun h=>h3 h.1)]
    show kK (eO en (f+1) n op) (eO en' (f+1) n op)
    rw [e,e]
    refine cF (ih (n+1) op en en') fun x=> ?_
    intro t t' u a r he h
    have bw:t.length=t'.length:=by have:=congrArg List.length he;simpa [wK] using this
    exact wP (ih (n+1) op en en') (gM n) (t.length+1) ((t'++u).length+1) x (by rw [List.length_append];omega) t t' u a r he h
section
variable {en en':Int} {ex ex':List Tk ->Rs X}
end
theorem Ka {g:List Tk ->Rs X}(hg:∀ t,g t≠ .out)(dJ:∀ t a r,g t=.ok a r ->r.length<=t.length)(l:Lvl):∀ (k:Nat) (x:X) (t:List Tk),t.length<k ->jZ g l k x t≠ .out
 | 0,x,t,h=>by omega
 | k+1,x,t,h=>by
  rw [jZ]
  cases hi:bD l.signs t with
  | none=>simp
  | some j=>
   simp only
   cases GF:g t.tail with
   | out=>exact (hg _ GF).elim
   | err e a=>simp [Rs.bind]
   | ok y t'=>
    simp only [Rs.bind]
    split
    ·simp
    ·refine Ka hg dJ l k _ t' ?_
     have:=dJ _ _ _ GF
     have cD:=Qd hi
     have:t.tail.length<t.length:=by
      cases t with
      | nil=>exact (cD rfl).elim
      | cons _ _=>simp
     omega
theorem QL {en:Int}{ex:List Tk ->Rs X}(ib:∀ t,ex t≠ .out)(t:List Tk):mF en ex t≠ .out:=by
 have hn:∀ {α:Type} {l t} {f:Unit ->List Tk ->Rs α},(∀ a t,f a t≠ .out) ->(bU en l t).bind f≠ .out:=fun h=>bz eb h
 have hx:∀ {α:Type} {t} {f:X ->List Tk ->Rs α},(∀ a t,f a t≠ .out) ->(ex t).bind f≠ .out:=fun h=>bz (ib _) h
 unfold mF
 refine bz AR fun v t=> ?_
 cases v with
 | some v=>simp
 | none=>
  simp only
  split
  ·exact hx fun _ _=>hn fun _ _=>by simp
  split
  ·exact hn fun _ _=>hx fun _ _=>hn fun _ _=>hx fun _ _=>hn fun _ _=>hx fun _ _=>hn fun _ _=>by simp
  split
  ·exact hn fun _ _=>hx fun _ _=>hn fun _ _=>hx fun _ _=>hn fun _ _=>by simp
  split
  ·refine hn fun _ _=> ?_
   split
   ·exact hn fun _ _=>by simp
   ·exact hx fun _ _=>hn fun _ _=>by simp
  split
  ·exact hn fun _ _=>hx fun _ _=>hn fun _ _=>by simp
  ·refine bz iZ fun _ _=> ?_
   split
   ·exact bz iZ fun _ _=>by simp
   ·simp
theorem aax {en:Int}{f n:Nat}{op:Int}{t:List Tk}{a r}(h:eO en f n op t=.ok a r):r.length<=t.length:=(JB f n op en en t t [] a r rfl h).1
theorem tX {en:Int}:∀ (f n:Nat) (op:Int),n<=7 ->op<=100 ->9*(101 - op)+8 - n<f ->∀ t,eO en f n op t≠ .out
 | 0,n,op,h1,h2,h3,t=>by omega
 | f+1,n,op,h1,h2,h3,t=>by
  rw [eO]
  split
  ·rename_i h7
   refine QL (fun t=> ?_) t
   split
   ·simp
   ·exact tX f 0 (op+1) (by omega) (by omega) (by omega) t
  split
  ·rename_i h7 Ib
   split
   ·split
    ·simp
    ·exact bz (tX f 2 (op+1) (by omega) (by omega) (by omega) _) fun _ _=>by simp
   ·exact tX f 3 op (by omega) (by omega) (by omega) t
  ·rename_i h7 Ib
   refine bz (tX f (n+1) op (by omega) h2 (by omega) t) fun x t=> ?_
   split
   ·unfold isM
    exact bz eb fun _ _=>by simp
   ·exact Ka (fun t=>tX f (n+1) op (by omega) h2 (by omega) t) (fun t a r h=>aax h) _ _ _ _ (by omega)
def exF (en:Int)(t:List Tk):Rs X:=vq en 1000 0 t
theorem aaY {en:Int}(t:List Tk):exF en t≠ .out:=by
 unfold exF vq
 split
 ·simp
 ·exact tX 1000 0 (0+1) (by omega) (by omega) (by omega) t
section
variable {en:Int} {ex:List Tk ->Rs X}
theorem UK (ib:∀ t,ex t≠ .out)(t:List Tk):AB en ex t≠ .out:=by
 refine bz (ib t) fun x t=> ?_
 split
 ·exact bz iZ fun _ _=>by simp
 ·simp
theorem AZ (ib:∀ t,ex t≠ .out)(k:Int)(t:List Tk):mi en ex k t≠ .out:=by
 refine bz iZ fun n t=>bz ?_ fun a t=> ?_
 ·unfold asM;split
  ·exact iZ
  ·simp
 ·split
  ·exact bz eb fun _ _=>bz (ib _) fun _ _=>by simp
  ·simp
theorem Gr (ib:∀ t,ex t≠ .out):∀ (lk:Nat) (t:List Tk),ye en ex lk t≠ .out
 | 0,t=>by
  rw [qr]
  refine bz Ff fun k t=> ?_
  unfold uf;split<;>simp
 | n+1,t=>by
  rw [qr]
  refine bz Ff fun k t=> ?_
  unfold uf
  split
  ·exact bz (AZ ib k t) fun _ _=>bz (Gr ib n _) fun _ _=>by simp
  ·simp
theorem C6 (ib:∀ t,ex t≠ .out){w:Bs}{t:List Tk}:Cf ex w t≠ .out:=by
 unfold Cf;split
 ·exact ib _
 ·simp
theorem Px (ib:∀ t,ex t≠ .out)(t:List Tk):vA en ex t≠ .out:=by
 refine bz eb fun _ t0=>bz ?_ fun items t=> ?_
 ·split
  ·simp
  ·exact mT (fun t=>UK ib t)
 ·refine bz eb fun _ _=>bz (AZ ib 1 _) fun _ _=>bz (Gr ib 3 _) fun _ _=>bz (C6 ib) fun _ _=>bz ?_ fun _ _=>bz (C6 ib) fun _ _=>by simp
  unfold aan;split
  ·exact bz eb fun _ _=>mT ib
  ·simp
theorem D9 (ib:∀ t,ex t≠ .out):∀ (lk:Nat) (k:Int) (t:List Tk),vg en ex lk k t≠ .out
 | 0,k,t=>by unfold vg;split<;>simp
 | n+1,k,t=>by
  rw [vg]
  split
  ·exact bz (Px ib t) fun _ _=>bz J2 fun k' t'=>bz (D9 ib n k' t') fun _ _=>by simp
  ·simp
theorem D5 (ib:∀ t,ex t≠ .out)(t:List Tk):nV en ex t≠ .out:=by
 refine bz (Px ib t) fun _ _=>bz J2 fun _ _=>bz (D9 ib 3 _ _) fun _ _=>bz ?_ fun _ _=>by simp
 unfold HL
 split
 ·refine bz eb fun _ _=>bz (mT ib) fun _ _=>bz eb fun _ _=>bz ?_ fun _ _=>by simp
  unfold aa9
  refine bz Kt fun _ _=> ?_
  split<;>simp
 ·simp
theorem Vi (ib:∀ t,ex t≠ .out)(t:List Tk):pJ en ex t≠ .out:=by
 unfold pJ
 split
 ·split
  ·exact bz iZ fun _ _=>bz eb fun _ _=>bz (D5 ib _) fun _ _=>by simp
  ·exact bz eb fun _ _=>bz iZ fun _ _=>bz eb fun _ _=>bz (mT fun _=>yj) fun _ _=>bz eb fun _ _=>by simp
 split
 ·exact bz eb fun _ _=>bz iZ fun _ _=>bz eb fun _ _=>bz (mT fun _=>Kj) fun _ _=>by simp
 split
 ·exact bz eb fun _ _=>bz iZ fun _ _=>bz (C6 ib) fun _ _=>by simp
 ·exact bz eb fun _ _=>bz (D5 ib _) fun _ _=>by simp
end
def km (en:Int):Nat ->List Tk ->Rs (List Stm)
 | lk,t=>if t=[] then .ok [] [] else match lk with
  | 0=> .err 5 (oP en t)
  | r+1=>(pJ en (exF en) t).bind fun s t=>(bU en [KQ] t).bind fun _ t=>(km en r t).bind fun l t=> .ok (s::l) t
def SO (en:Int)(lk:Nat)(t:List Tk):Rs (List Stm):=match lk with
 | 0=> .err 5 (oP en t)
 | r+1=>(pJ en (exF en) t).bind fun s t=>(bU en [KQ] t).bind fun _ t=>(km en r t).bind fun l t=> .ok (s::l) t
theorem Et (en:Int)(lk:Nat)(t:List Tk)(h:t≠[]):km en lk t=SO en lk t:=by
 cases lk<;>(rw [km,if_neg h];rfl)
theorem I7 (en:Int)(lk:Nat):km en lk []=.ok [] []:=by cases lk<;>rfl
def mR (s:Bs):List Stm×Int×Int:=match qw s with
 | .error x=>([],x.1,x.2)
 | .ok ts=>match km s.length 60 ts with
  | .err e a=>([],e,a)
  | .out=>([],0,0)
  | .ok l _=>if (om l).1≠0 then ([],(om l).1,0) else (l,0,0)
theorem EN {T dr ts post}:(MU T dr ts post).ret=Te T ts post:=(rfl)
theorem pD {T dr ts post}:(MU T dr ts post).pan=JL T post:=(rfl)
theorem B8 {T dr ts post}:(MU T dr ts post).dr=dr:=(rfl)
theorem yn {T post}(ops:List Oper)(h:(ops.all fun o=>match o.dst with | some d=>d !=2 && d !=3 | none=>true)=true):yf (JL T post) ops:=by
 intro o ho d hd ch e v ds h' hp
 have:=List.all_eq_true.1 h o ho
 rw [hd] at this
 simp at this
 obtain ⟨b2,b3,ag,er,a,h1,h2,h3,h4,h5,h6⟩:=hp
 unfold upd at h3 h4
 rw [if_neg (fun h=>this.1 h.symm)] at h3
 rw [if_neg (fun h=>this.2 h.symm)] at h4
 exact ⟨b2,b3,ag,er,a,h1,h2,h3,h4,h5,h6⟩
theorem Nk {M:aS}{x:Stm}{cs:List Value}(h:ss M x cs):∀ u∈cs,u.oneCell'=true:=by
 obtain ⟨c,q,r,w,h1,⟨p,o,g,q1,q2,q3,rfl⟩,h3,h4,rfl⟩:=h
 intro u hu
 simp only [nn,List.mem_cons] at hu
 rcases hu with rfl | rfl | rfl | rfl | rfl | rfl | rfl | rfl | rfl | hu
 ·rfl
 ·rfl
 ·exact (cR h1).1
 ·exact (cR q1).1
 ·exact (cR q2).1
 ·exact (cR q3).1
 ·rfl
 ·exact (cR h3).1
 ·rfl
 ·exact jf h4 u hu
def xM (s:Bs):ez:=fun r M' _ _=>∃ sv,r=.tuple ⟨[sv,flt (mR s).2.1 (mR s).2.2]⟩/\RS M' (ss M') 16 (mR s).1 sv
theorem td {T N:Tm}{M:aS}{s:Bs}{A B:LL}{R:RR}{b2 b3:Nat}{v1 v2 v3:Value}{er a:Int}{ag:Array Value}{e:dj}(hr:mR s=([],er,a))(hT:aH T N)(CR:ag.toList=[])(e2:e 2=.pointer (some ⟨b2,0,none⟩))(e3:e 3=.pointer (some ⟨b3,0,none⟩)):
 JL T (xM s) (rd er a) e [rdD b2 b3 ag] ⟨N,M,A++(b3,[v2,v3])::(b2,[v1])::B,R⟩:=by
 refine ⟨b2,b3,ag,er,a,rfl,CR,e2,e3,rfl,gp A (cz (dm (L':=B++[(b2,[v1]),(b3,[v2,v3])]) ?_ (gp B (az ⟨hT,rfl,⟨_,_,_,rfl⟩,?_⟩))))⟩
 ·refine List.Perm.trans (List.Perm.swap _ _ _) ?_
  exact List.perm_append_comm (l₁:=[(b2,[v1]),(b3,[v2,v3])])
 ·refine ⟨.slice none 0 0,?_,?_⟩
  ·rw [hr]
  ·rw [hr];exact bu
theorem pd {s:Bs}{M:aS}{L:LL}{R:RR}{l:List Stm}{er a:Int}{sv:Value}(hr:mR s=(l,er,a))(cC:RS M (ss M) 16 l sv):xM s (.tuple ⟨[sv,.agg ⟨[.int .i64 er,.int .i64 a]⟩]⟩) M L R:=⟨sv,by rw [hr];rfl,by rw [hr];exact cC⟩
theorem Va {M:aS}(s:Bs)(hg:eX M):Ct Tryz.prog 20 [st s] M [] [] (xM s) aO:=by
 intro T
 refine V4 F20.bd Tryz.func20 rfl (by rw [F20.nt];exact Nat.le_of_ble_eq_true rfl) (dr:=[(6,.take 1<| .take 0<| .eff 2 false (.eff 3 false (.eff 4 true (.eff 5 true (.done)<| .no)<| .no)<| .no)<| .no),(10,.take 0<| .take 1<| .take 2<| .eff 3 false (.eff 4 true (.done)<| .no)<| .no),(11,.take 0<| .take 1<| .eff 2 false (.eff 3 true (.done)<| .no)<| .no)]) (by kernel_rfl) F20.rs ?_
 rw [F20.rs]
 simp +contextual only [go_sem,sevalprocAttr]
 intro b2 T2 ey dV fG b3 T3 gj cL fB hZ
 have hT:=dV.trans fB
 have tu:qw s=qw s:=rfl
 refine bS (Nc s T3) ?_ ?_
 rotate_left
 ·rintro ch M1 aV bG ⟨er,a,li,rfl⟩
  rw [pD]
  refine td (A:=[]) (B:=[]) (by unfold mR;rw [li]) hT rfl ?_ ?_
  ·simp only [go_sem,sevalprocAttr]
  ·simp only [go_sem,sevalprocAttr]
 rintro lv M1 aV bG ⟨ts,CW,hl⟩
 simp only [aJ,and_true] at bG
 have uL:mR s=match km s.length 60 ts with
  | .err e a=>([],e,a)
  | .out=>([],0,0)
  | .ok l _=>if (om l).1≠0 then ([],(om l).1,0) else (l,0,0):=by unfold mR;rw [CW]<;>rfl
 obtain ⟨lo1,lo2⟩:=cR hl
 have lo2m:=lo2
 simp only [Value.cells] at lo2m
 simp +contextual only [go_sem,aE,sevalprocAttr,lo2m]
 intro pb T4 Xv se fj amo
 generalize hen:(s.length:Int)=en at uL ⊢
 have ly:=hg.ext aV
 refine ⟨fun m e ds h=>(∃ ag,ds=[rdD b2 b3 ag]/\ag.toList=[])/\e 2=.pointer (some ⟨b2,0,none⟩)/\e 3=.pointer (some ⟨b3,0,none⟩)/\e 4=.pointer (some ⟨pb,0,none⟩)/\
  ∃ M' t lv' acc a c xs,m+acc.length=60/\bh M1 M'/\M' b3=none/\M' b2=none/\M' pb=none/\RS M' gn 3 t lv'/\RL (ss M') acc xs/\(acc=[] ->a=none/\c=0)/\
   km en 60 ts=(km en m t).bind (fun l t=> .ok (acc++l) t)/\
   h=⟨T4,M',(b3,[.int .i64 0,.int .i64 0])::(b2,[.slice a acc.length c])::pL pb lv' en 0,[(.slice a acc.length c,67,16,xs)]⟩,
  dm (List.perm_append_comm (l₁:=[(pb,[lv,.int .i64 en,.int .i64 0])]) (l₂:=[(b3,_),(b2,_)])) (dC (az ⟨60,⟨_,rfl,rfl⟩,?_,?_,?_,M1,ts,lv,[],none,0,[],rfl,bh.rfl',bG.1,bG.2,Xv,hl,rfl,fun _=>⟨rfl,rfl⟩,?_,rfl⟩)),?_⟩
 ·simp only [go_sem,sevalprocAttr]
 ·simp only [go_sem,sevalprocAttr]
 ·simp only [go_sem,sevalprocAttr]
 ·cases km en 60 ts<;>rfl
 clear bG hl lo1 lo2 CW tu Xv
 rintro m e ds h ⟨⟨ag,rfl,CR⟩,e2,e3,e4,M2,t,lv1,acc,a,c,xs,hm,bg,n3,n2,np,hl,eJ,tf,ax,rfl⟩
 have Ps:=hT.trans fj
 have adm:=dO (fun _ _=>pi) eJ
 rcases jj hl with ⟨rfl,ta,tc,rfl⟩ | ⟨tk,tr,tb,tof,tc,rfl,rfl,htc,h0,h1,h2⟩
 ·rw [I7] at ax
  simp only [Rs.bind,List.append_nil] at ax
  rw [ax] at uL
  simp only at uL
  simp +contextual only [go_sem,aE,sevalprocAttr,e2,e4,n2,np,cL,se]
  refine cQ (k:=fun h'=>∃ M',bh M2 M'/\aJ M' ((b3,[.int .i64 0,.int .i64 0])::(b2,[.slice a acc.length c])::pL pb (.slice ta 0 tc) en 0)/\Sl M' (.slice a acc.length c) 16 xs/\h'=⟨T4,M',(b3,[.int .i64 0,.int .i64 0])::(b2,[.slice a acc.length c])::pL pb (.slice ta 0 tc) en 0,[]⟩)
   (bT fun M3 bM bj gi=>az ⟨M3,bM,bj,gi,rfl⟩) ?_ F42.bd
  rintro h' ⟨M3,bM,bj,gi,rfl⟩
  have cC:RS M3 (ss M3) 16 acc (.slice a acc.length c):=⟨by omega,xs,gi,cH (fun x cs h=>pP bM _ _ h) eJ⟩
  refine aD (RP (ly.ext (bg.trans bM)) cC T4) ?_
  rintro v M4 dh cE rfl
  simp only [aJ,aK] at cE
  simp +contextual only [go_sem,sevalprocAttr,flt]
  intro b5 T5 mp gK nw o9
  rw [cd]
  by_cases hw:(om acc).1=0
  ·rw [if_neg (fun h=>h hw)] at uL
   simp +contextual only [go_sem,sevalprocAttr,B8,pD,hw]
   refine ⟨yn _ rfl,aU ?_⟩
   simp +contextual only [go_sem,sevalprocAttr,EN,e2,e3,hw,cE,gK,cL]
   refine ⟨fZ.refl _,b2,b3,ag,rfl,CR,?_⟩
   simp +contextual only [go_sem,sevalprocAttr,e2,e3,cE,gK,cL]
   exact am (Ps.trans nw) (pd uL (aL dh (pP dh) cC))
  ·rw [if_pos hw] at uL
   simp +contextual only [go_sem,sevalprocAttr,B8,pD,hw]
   refine ⟨yn _ rfl,eL ⟨T,fun _=>none,[(b5,_)],[]⟩ (gA mp) ?_⟩
   simp +contextual only [go_sem,sevalprocAttr,EN,e2,e3,hw,gK,cL]
   refine ⟨gA mp,b2,b3,ag,rfl,CR,?_⟩
   simp +contextual only [go_sem,sevalprocAttr,e2,e3,cE,gK,cL]
   exact am (Ps.trans nw) (pd uL bu)
 ·rw [Et en m (tk::tr) (by simp)] at ax
  have Jk:∀ {er ar:Int},km en 60 ts=.err er ar ->mR s=([],er,ar):=fun h=>by rw [uL,h]
  cases m with
  | zero=>
   have ZY:(acc.length:Int)=60:=by omega
   have li:km en 60 ts=.err 5 (oP en (tk::tr)):=ax
   simp +contextual only [go_sem,aE,sevalprocAttr,e2,e4,n2,np,cL,se,ZY]
   refine lQ [(b3,_),(b2,_)] hl ?_
   simp +contextual only [go_sem,sevalprocAttr]
   refine bS (gu 5 _ M2 T4) (fun _ _ _ _ h=>h.elim) ?_
   rintro ch M3 bM bj rfl
   rw [pD]
   refine td (A:=[]) (Jk li) Ps CR ?_ ?_
   ·simp only [e2,go_sem,sevalprocAttr]
   ·simp only [e3,go_sem,sevalprocAttr]
  | succ m=>
   have ZY:¬ (acc.length:Int)=60:=by omega
   simp only [SO,Rs.bind_assoc] at ax
   simp +contextual only [go_sem,aE,sevalprocAttr,B8,pD,e2,e4,n2,np,cL,se,ZY]
   refine ⟨yn _ rfl,eL ⟨T,fun _=>none,[(b2,[.slice a acc.length c])],[]⟩ ?_ ?_⟩
   ·exact dw [(b3,_)] n2 ⟨⟨cL.2,cL.1⟩,trivial⟩
   simp +contextual only [go_sem,sevalprocAttr,e2,e4]
   have tg:=ly.ext bg
   have cD:=Vi (en:=en) (ex:=exF en) (fun t=>aaY t) (tk::tr)
   have ib:Xr en pb (exF en) 0:=Kv (Mm 1000) (by decide) (by decide)
   refine ru [(b3,_),(b2,_)] (VQ tg hl ib cD T4) ?_ ?_
   rotate_left
   ·rintro er ar M3 lv' op' bM kE
    refine td (A:=[]) (Jk (by rw [ax,kE];rfl)) Ps CR ?_ ?_
    ·simp only [e2,go_sem,sevalprocAttr]
    ·simp only [e3,go_sem,sevalprocAttr]
   rintro v M3 x t2 lv2 bM bj kE eD ⟨cs,rfl,hx⟩
   rw [kE] at ax
   simp only [Rs.bind] at ax
   have cO:=pi hx
   simp only [nn,aJ,aK] at bj
   simp +contextual only [go_sem,sevalprocAttr,cO]
   refine ⟨dw [(b3,_)] bj.2.1 ⟨⟨cL.2,cL.1⟩,trivial⟩,?_⟩
   intro b8 mG eA
   refine ⟨dw [(b8,_),(b3,_)] bj.2.1 ⟨⟨eA.2.1.2,eA.2.1.1⟩,⟨cL.2,cL.1⟩,trivial⟩,?_⟩
   refine fK X1 Yt (.slice _ 1 _ _ _ Tryz.underlying68 (bL [] mG trivial (by rw [cO])) (Nk hx)) (by rw [cO,adm];omega) ?_
   intro ra rm rc iL
   have iH:rm=(acc++[x]).length:=by
    rw [cO,adm] at iL
    rw [List.length_append]
    simp only [ln]
    omega
   subst iH
   have lI:=cM (cH (fun x cs h=>pP bM _ _ h) eJ) (cA hx)
   simp +contextual only [go_sem,sevalprocAttr,e2,e4,cL,eA]
   intro b9 lu eN
   refine di F51.bd fun M4 dh aie cE=> ?_
   have jY:=aL dh (fun _ _ h=>h) eD
   have hsm:RS M4 pX 1 [KQ] (.slice (some ⟨b9,0,none⟩) 1 1):=cK (fun _ _=>ep) aie (kq [KQ]) rfl (by decide)
   refine ru [(b8,_),(b3,_),(b2,_)] (un jY hsm T4) ?_ ?_
   rotate_left
   ·rintro er ar M5 lv' op' dF lH
    refine td (A:=[(b8,_)]) (Jk (by rw [ax,lH];try rfl)) (Ps) CR ?_ ?_
    ·simp only [e2,go_sem,sevalprocAttr]
    ·simp only [e3,go_sem,sevalprocAttr]
   rintro v M5 u5 t5 lv5 dF bE lH gL rfl
   rw [lH] at ax
   simp only at ax
   simp only [nn,aJ,aK] at bE
   simp +contextual only [go_sem,sevalprocAttr]
   rw [dB]
   refine ak (az ⟨m,by omega,⟨ag,rfl,CR⟩,?_,?_,?_,M5,t5,lv5,acc++[x],ra,rc,xs++cs,?_,((bg.trans bM).trans dh).trans dF,bE.2.1,bE.2.2.1,bE.2.2.2,gL,?_,?_,?_,rfl⟩)
   ·simp only [e2,go_sem,sevalprocAttr]
   ·simp only [e3,go_sem,sevalprocAttr]
   ·simp only [e4,go_sem,sevalprocAttr]
   ·rw [List.length_append];simp only [ln];omega
   ·exact cH (fun x cs h=>pP (dh.trans dF) _ _ h) lI
   ·intro h;simp at h
   ·rw [ax]
    cases km en m t5<;>simp [Rs.bind]
theorem wY {M:aS}{name:Bs}{names:List Bs}{nv:Value}(hs:RS M pX 1 names nv)(hl:names.length<=1000)(T:Tm):
 cw Tryz.prog 39 [st name,nv] T M [] [] (fun r M' _ _=>∃ cs,r=.agg ⟨cs⟩/\mD M' ⟨name,names.map (fun n=>⟨n,3⟩),false,jw⟩ cs) aO:=by
 obtain ⟨fS,a,c,rfl,dJ,_,hg⟩:=aF (by decide) (fun _ _=>ep) hs
 refine aC F39 rfl rfl ?_
 intro bi _
 simp +contextual only [go_sem,aE,sevalprocAttr]
 intro b4 T4 dI fj gH b5 T5 mp gK nw o9
 have hT:=fj.trans nw
 refine aY names.length 12 [(4,.pointer (some ⟨b4,0,none⟩)),(5,.pointer (some ⟨b5,0,none⟩)),(10,.slice a names.length c),(11,.int .i64 (names.length:Int))]
  (fun i e h=>∃ N' M' R' fv,aH T5 N'/\bh M M'/\M' b5=none/\M' b4=none/\fv.oneCell'=true/\h=⟨N',M',[(b5,[st name,fv,.bool false]++Fu),(b4,[st [],.slice none 0 0,.bool false]++Fu)],R'⟩/\kV 48 2 sA [] R' fv ((names.take i).map fun n=>⟨n,3⟩)) 0 (by omega) (by simp only [aG,go_sem,sevalprocAttr]) (by simp only [go_sem,sevalprocAttr]) ?_ ?_
 ·exact ⟨T5,M,[],_,aH.rfl',bh.rfl',mp,dI,rfl,rfl,dg⟩
 rintro i e h hi aI ht ⟨N1,M1,R1,fv,tH,aV,hn5,hn4,hfo,rfl,bC⟩
 simp only [aG] at aI
 have hp5:¬ b5=b4/\¬ b4=b5:=gK
 by_cases aN:i<names.length
 ·obtain ⟨b',o',cs',rfl,cG,fy⟩:=hg i names[i] (gq aN)
  unfold pX at fy;subst fy
  have x0:=tV (cG.ext aV)
  rw [Nat.mul_one] at x0
  have eD:((names.take i).map fun n=>(⟨n,3⟩:Co)).length=i:=by simp;omega
  have eG:(names.take (i+1)).map (fun n=>(⟨n,3⟩:Co))=(names.take i).map (fun n=>⟨n,3⟩)++[⟨names[i],3⟩]:=by
   rw [<- List.take_append_getElem aN,List.map_append];rfl
  simp +contextual only [go_sem,aE,sevalprocAttr,aI,ht,aN,x0,hn5]
  intro bk adJ IY
  refine cy (Tryz.underlying43) Gv E7 (x:=(⟨names[i],3⟩:Co)) bC rfl (fun _ _=>eU) (by intro u hu;simp only [mn] at hu;rcases hu with rfl | rfl<;>rfl) adJ (by rw [eD];omega) (by decide) ?_
  intro fv' R' bI
  obtain ⟨adK,abR⟩:=Us bI
  simp only [Value.cells] at abR
  simp +contextual only [go_sem,sevalprocAttr,aI,ht,IY,adK,abR]
  refine aR (ak (az ?_))
  refine ⟨names.length - (i+1),by omega,rfl,i+1,by omega,rfl,?_,?_,N1,M1,R',fv',tH,aV,hn5,hn4,adK,rfl,by rw [eG];exact bI⟩
  ·simp only [aG,aI,go_sem,sevalprocAttr]
  ·simp only [go_sem,sevalprocAttr,aB i (by omega)]
 ·have:i=names.length:=by omega
  subst this
  rw [List.take_length] at bC
  simp +contextual only [go_sem,aE,sevalprocAttr,aI,ht,aN,hp5,hn5,hn4,hfo]
  refine ak (ak (ct bC (by simp;omega) (by decide) trivial fun M2 bg aZ cC=>am (hT.trans tH) ⟨_,rfl,fv,Fu,cC,sL,rfl⟩))
theorem Qz {M:aS}{t:Bs}{x:Stm}{a:Int}(hr:mR (115::104::111::119::32::(t++[32,59]))=([x],0,a))(hl:t.length<=1000)(hg:eX M)(T:Tm):
 cw Tryz.prog 38 [st t] T M [] [] (fun r M' _ _=>∃ cs,r=.tuple ⟨[.agg ⟨cs⟩,.bool true]⟩/\RQ M' x.q cs) aO:=by
 have e1:5+t.length<=9223372036854775807:=by omega
 have e2:5+t.length<=9223372036854775805:=by omega
 refine aC F38 rfl rfl ?_
 intro bi _
 simp +contextual only [go_sem,sevalprocAttr,e1]
 intro b2 T2 ey dV fG
 simp +contextual only [go_sem,sevalprocAttr,e2,uA]
 refine aD (Va _ hg T2) ?_
 rintro v M1 aV bG ⟨sv,rfl,hs⟩
 rw [hr] at hs
 have hs:RS M1 (ss M1) 16 [x] sv:=hs
 obtain ⟨_,sa,sc,rfl,Og,_⟩:=aF (by decide) (fun _ _=>pi) hs
 obtain ⟨b,o,cs,rfl,cG,gF⟩:=pB (i:=0) (x:=x) (by decide) (fun _ _=>pi) hs rfl
 obtain ⟨ac,ad,ap,aq,ao,an,ar,ae,au,av,aw,rfl,ho1,xq,_⟩:=ND gF
 obtain ⟨y0,y1,y2,y3,y4,y5,y6,y7,y8,y9,y10,y11,y12,y13,y14,y15⟩:=aiG cG
 simp only [Nat.zero_mul,Nat.add_zero] at y3 y4 y5 y6
 simp only [aJ,and_true] at bG
 rw [hr]
 simp +contextual only [go_sem,aE,sevalprocAttr,flt,y3,y4,y5,y6,aA bG]
 intro b5 T5 mp gK nw o9
 exact am (dV.trans nw) ⟨_,rfl,xq⟩
def HH:Bs:=[115,101,108,101,99,116,32,98,32,44,32,99,111,117,110,116,32,40,32,42,32,41,32,97,115,32,110,32,102,114,111,109,32,116,32,103,114,111,117,112,32,98,121,32,98]
def DV:List Rel:=[⟨[116],[⟨[97],3⟩,⟨[98],3⟩],false,jw⟩]
def EI (r:List Stm×Int×Int):Bool:=r.2.1==0 && (match r.1 with
 | [s]=>jn s.q==0 && (match gT DV s.q with
  | .ok w=>w.1.k==3 && (match w.2 with
   | [c,d]=>c.name==[98] && d.name==[110]
   | _=>false) && (match w.1.kids with
    | k::_=>k.k==12
    | []=>false)
  | .error _=>false)
 | _=>false)
theorem Hb:EI (mR (115::104::111::119::32::(HH++[32,59])))=true:=by kernel_rfl
theorem CD:∃ x a w c d k l,mR (115::104::111::119::32::(HH++[32,59]))=([x],0,a)/\jn x.q=0/\gT DV x.q=.ok w/\w.1.k=3/\w.2=[c,d]/\c.name=[98]/\d.name=[110]/\w.1.kids=k::l/\k.k=12:=by
 have h:=Hb
 generalize mR (115::104::111::119::32::(HH++[32,59]))=R at h
 obtain ⟨l,e,a⟩:=R
 simp only [EI,Bool.and_eq_true,beq_iff_eq] at h
 obtain ⟨rfl,h⟩:=h
 match l,h with
 | [x],h=>
  simp only [Bool.and_eq_true,beq_iff_eq] at h
  obtain ⟨h1,h⟩:=h
  cases hb:gT DV x.q with
  | error e=>rw [hb] at h;simp at h
  | ok w=>
   rw [hb] at h
   simp only [Bool.and_eq_true,beq_iff_eq] at h
   obtain ⟨⟨h2,h3⟩,h4⟩:=h
   obtain ⟨p,cl⟩:=w
   match cl,h3 with
   | [c,d],h3=>
    simp only [Bool.and_eq_true,beq_iff_eq] at h3
    cases hk:p.kids with
    | nil=>simp only [hk] at h4;cases h4
    | cons k ks=>
     simp only [hk,beq_iff_eq] at h4
     exact ⟨x,a,_,c,d,k,ks,rfl,h1,hb,h2,rfl,h3.1,h3.2,hk,h4⟩
theorem NF:BV DV:=by
 refine ⟨?_,by decide⟩
 intro r hr
 simp only [DV,List.mem_singleton] at hr
 subst hr
 refine ⟨?_,by simp⟩
 intro c hc
 simp only [mn] at hc
 rcases hc with rfl | rfl<;>decide
theorem pp {M:aS}{rv:Value}{q:Q}{cs:List Value}{w:Pl×List Co}(hr:RS M (mD M) 14 DV rv)(hq:RQ M q cs)(Li:jn q=0)(hb:gT DV q=.ok w)(T:Tm):
 cw Tryz.prog 10 [rv,.agg ⟨cs⟩] T M [] [] (fun r M' _ _=>∃ cs cv,r=.tuple ⟨[.agg ⟨cs⟩,cv,.int .i64 0]⟩/\jV M' w.1 cs/\RS M' sA 2 w.2 cv) aO:=by
 obtain ⟨hoq,Mb,hp4,EU,oQ⟩:=tW Li
 refine (tO hr hq (by decide) (by intro r hr;simp only [DV,List.mem_singleton] at hr;subst hr;decide) (fun s hs=>(oQ s hs).1) hoq.len (by omega) (fun hl=>⟨by have:=(EU hl).1;omega,(EU hl).2⟩) (Ao hoq) (XJ NF Li) T).mono ?_ (fun _ _ _ _ _ _ _ h=>h)
 intro v M' L' R' _ _ _ h
 unfold mr at h
 rw [hb] at h
 exact h
set_option maxHeartbeats 1000000 in
theorem IZ {M:aS}(hG:eX M)(T:Tm):cw Tryz.prog 16 [] T M [] [] (fun r _ _ _=>r=.bool true) aO:=by
 obtain ⟨x,a,w,c,d,k,l,hr,Li,z8,hk,hcd,hc,hd,sI,hkk⟩:=CD
 refine aC F16 rfl rfl ?_
 intro bi _
 simp +contextual only [go_sem,sevalprocAttr]
 refine aD (Qz hr (by decide) hG T) ?_
 rintro v M1 aV bG ⟨cs,rfl,hq⟩
 obtain ⟨pv,ov,dv,rfl,o1,o2,o3⟩:=wy hq
 simp +contextual only [go_sem,sevalprocAttr,o1,o2,o3]
 intro b1 T1 fD cV ig
 refine lS (fun e ds h=>ds=[]/\e 2=.bool true/\e 5=.int .i64 0/\∃ b9 va vc cs,e 3=.pointer (some ⟨b9,0,none⟩)/\e 4=.slice va 2 vc/\∃ N' M',aH T1 N'/\h=⟨N',M',[(b9,cs),(b1,[pv,ov,dv,.int .i64 x.q.limit])],[]⟩/\M' b9=none/\M' b1=none/\¬ b9=b1/\¬ b1=b9/\jV M' w.1 cs/\RS M' sA 2 [c,d] (.slice va 2 vc)) (fun S' dU=> ?_) ?_
 ·refine eL ⟨T1,fun _=>none,[(b1,_)],[]⟩ (gA fD) ?_
  simp +contextual only [go_sem,sevalprocAttr]
  have nM1:=fD
  refine ⟨?_,?_⟩
  ·intro b2 ey gx
   have pb21:=gx
   refine ⟨dw [(b2,_)] nM1 ⟨⟨pb21.2,pb21.1⟩,trivial⟩,?_⟩
   refine ⟨?_,?_⟩
   ·refine df [] F39.bd fun M2 bg Qn aZ=> ?_
    refine aD (wY (name:=[116]) (names:=[[97],[98]]) (cK (fun _ _=>ep) Qn ⟨[st [97]],[st [98]],rfl,rfl,[st [98]],[],rfl,rfl,rfl⟩ rfl (by decide)) (by decide) T1) ?_
    rintro r M3 bM bj ⟨cs1,rfl,zQ⟩
    obtain ⟨ca,cn,s1,a1,n1,a2,n2,a3,n3,rfl,gF,_,_⟩:=jx zQ
    simp only [List.nil_append,aJ,and_true] at bj
    have nM3:=bj
    simp +contextual only [go_sem,sevalprocAttr]
    refine ⟨dw [] nM3 trivial,?_⟩
    refine ⟨?_,?_⟩
    ·intro b3 gj cL
     have pb31:=cL
     refine ⟨dw [(b3,_)] nM3 ⟨⟨pb31.2,pb31.1⟩,trivial⟩,?_⟩
     refine ⟨?_,?_⟩
     ·refine df [] Ug.bd fun M4 dh Cp cE=> ?_
      have vv:=(bg.trans bM).trans dh
      refine aD (pp (cK (fun _ _=>ew) Cp (cA (eu dh _ _ zQ)) rfl (by decide)) (nR vv hq) Li z8 T1) ?_
      rintro r M5 dF bE ⟨cs2,cv,rfl,oF,kM⟩
      obtain ⟨c0,c1,c2,c3,c4,c5,c6,c7,c8,c9,c10,rfl,hc⟩:=cU oF
      rw [hcd] at kM
      obtain ⟨_,va,vc,rfl,_⟩:=aF (by decide) (fun _ _=>eU) kM
      simp only [List.nil_append,aJ,and_true] at bE
      have nM5:=bE
      simp +contextual only [go_sem,sevalprocAttr,hc]
      refine ⟨dw [] nM5 trivial,?_⟩
      intro b9 T9 lu eN oY l4
      have pb91:=eN
      have qM5:=lu
      refine ⟨dw [(b9,_)] nM5 ⟨⟨pb91.2,pb91.1⟩,trivial⟩,?_⟩
      try simp +contextual only [go_sem,aE,sevalprocAttr,hc,nM5,qM5,pb91,aA qM5]
      repeat refine ⟨dw [(b9,_)] nM5 ⟨⟨pb91.2,pb91.1⟩,trivial⟩,?_⟩
      refine dU _ _ _ ⟨rfl,by simp only [go_sem,sevalprocAttr],by simp only [go_sem,sevalprocAttr],b9,va,vc,_,by simp only [go_sem,sevalprocAttr],by simp only [go_sem,sevalprocAttr],_,_,oY,rfl,qM5,nM5,pb91.1,pb91.2,oF,kM⟩
     ·intro b9 T9 lu eN oY l4
      have pb91:=eN.2
      have qM3:=lu
      refine ⟨dw [(b9,_),(b3,_)] nM3 ⟨⟨pb91.2,pb91.1⟩,⟨⟨pb31.2,pb31.1⟩,trivial⟩⟩,?_⟩
      refine df [(b9,_)] Ug.bd fun M4 dh Cp cE=> ?_
      have vv:=(bg.trans bM).trans dh
      refine aD (pp (cK (fun _ _=>ew) Cp (cA (eu dh _ _ zQ)) rfl (by decide)) (nR vv hq) Li z8 T9) ?_
      rintro r M5 dF bE ⟨cs2,cv,rfl,oF,kM⟩
      obtain ⟨c0,c1,c2,c3,c4,c5,c6,c7,c8,c9,c10,rfl,hc⟩:=cU oF
      rw [hcd] at kM
      obtain ⟨_,va,vc,rfl,_⟩:=aF (by decide) (fun _ _=>eU) kM
      simp only [List.nil_append,List.cons_append,aJ,and_true] at bE
      have nM5:=bE.2
      have qM5:=bE.1
      try simp +contextual only [go_sem,sevalprocAttr,hc]
      repeat refine ⟨dw [(b9,_)] nM5 ⟨⟨pb91.2,pb91.1⟩,trivial⟩,?_⟩
      refine dU _ _ _ ⟨rfl,by simp only [go_sem,sevalprocAttr],by simp only [go_sem,sevalprocAttr],b9,va,vc,_,by simp only [go_sem,sevalprocAttr],by simp only [go_sem,sevalprocAttr],_,_,oY,rfl,qM5,nM5,pb91.1,pb91.2,oF,kM⟩
    ·intro b9 T9 lu eN oY l4
     have pb91:=eN
     have qM3:=lu
     refine ⟨dw [(b9,_)] nM3 ⟨⟨pb91.2,pb91.1⟩,trivial⟩,?_⟩
     intro b3 gj cL
     have pb31:=cL.2
     refine ⟨dw [(b3,_),(b9,_)] nM3 ⟨⟨pb31.2,pb31.1⟩,⟨⟨pb91.2,pb91.1⟩,trivial⟩⟩,?_⟩
     refine df [] Ug.bd fun M4 dh Cp cE=> ?_
     have vv:=(bg.trans bM).trans dh
     refine aD (pp (cK (fun _ _=>ew) Cp (cA (eu dh _ _ zQ)) rfl (by decide)) (nR vv hq) Li z8 T9) ?_
     rintro r M5 dF bE ⟨cs2,cv,rfl,oF,kM⟩
     obtain ⟨c0,c1,c2,c3,c4,c5,c6,c7,c8,c9,c10,rfl,hc⟩:=cU oF
     rw [hcd] at kM
     obtain ⟨_,va,vc,rfl,_⟩:=aF (by decide) (fun _ _=>eU) kM
     simp only [List.nil_append,aJ,and_true] at bE
     have nM5:=bE.2
     have qM5:=bE.1
     try simp +contextual only [go_sem,sevalprocAttr,hc]
     repeat refine ⟨dw [(b9,_)] nM5 ⟨⟨pb91.2,pb91.1⟩,trivial⟩,?_⟩
     refine dU _ _ _ ⟨rfl,by simp only [go_sem,sevalprocAttr],by simp only [go_sem,sevalprocAttr],b9,va,vc,_,by simp only [go_sem,sevalprocAttr],by simp only [go_sem,sevalprocAttr],_,_,oY,rfl,qM5,nM5,pb91.1,pb91.2,oF,kM⟩
   ·intro b9 T9 lu eN oY l4
    have pb91:=eN.2
    have qM1:=lu
    refine ⟨dw [(b9,_),(b2,_)] nM1 ⟨⟨pb91.2,pb91.1⟩,⟨⟨pb21.2,pb21.1⟩,trivial⟩⟩,?_⟩
    refine df [(b9,_)] F39.bd fun M2 bg Qn aZ=> ?_
    refine aD (wY (name:=[116]) (names:=[[97],[98]]) (cK (fun _ _=>ep) Qn ⟨[st [97]],[st [98]],rfl,rfl,[st [98]],[],rfl,rfl,rfl⟩ rfl (by decide)) (by decide) T9) ?_
    rintro r M3 bM bj ⟨cs1,rfl,zQ⟩
    obtain ⟨ca,cn,s1,a1,n1,a2,n2,a3,n3,rfl,gF,_,_⟩:=jx zQ
    simp only [List.nil_append,List.cons_append,aJ,and_true] at bj
    have nM3:=bj.2
    have qM3:=bj.1
    simp +contextual only [go_sem,sevalprocAttr]
    refine ⟨dw [(b9,_)] nM3 ⟨⟨pb91.2,pb91.1⟩,trivial⟩,?_⟩
    intro b3 gj cL
    have pb31:=cL.2
    refine ⟨dw [(b3,_),(b9,_)] nM3 ⟨⟨pb31.2,pb31.1⟩,⟨⟨pb91.2,pb91.1⟩,trivial⟩⟩,?_⟩
    refine df [] Ug.bd fun M4 dh Cp cE=> ?_
    have vv:=(bg.trans bM).trans dh
    refine aD (pp (cK (fun _ _=>ew) Cp (cA (eu dh _ _ zQ)) rfl (by decide)) (nR vv hq) Li z8 T9) ?_
    rintro r M5 dF bE ⟨cs2,cv,rfl,oF,kM⟩
    obtain ⟨c0,c1,c2,c3,c4,c5,c6,c7,c8,c9,c10,rfl,hc⟩:=cU oF
    rw [hcd] at kM
    obtain ⟨_,va,vc,rfl,_⟩:=aF (by decide) (fun _ _=>eU) kM
    simp only [List.nil_append,aJ,and_true] at bE
    have nM5:=bE.2
    have qM5:=bE.1
    try simp +contextual only [go_sem,sevalprocAttr,hc]
    repeat refine ⟨dw [(b9,_)] nM5 ⟨⟨pb91.2,pb91.1⟩,trivial⟩,?_⟩
    refine dU _ _ _ ⟨rfl,by simp only [go_sem,sevalprocAttr],by simp only [go_sem,sevalprocAttr],b9,va,vc,_,by simp only [go_sem,sevalprocAttr],by simp only [go_sem,sevalprocAttr],_,_,oY,rfl,qM5,nM5,pb91.1,pb91.2,oF,kM⟩
  ·intro b9 T9 lu eN oY l4
   have pb91:=eN
   have qM1:=lu
   refine ⟨dw [(b9,_)] nM1 ⟨⟨pb91.2,pb91.1⟩,trivial⟩,?_⟩
   intro b2 ey gx
   have pb21:=gx.2
   refine ⟨dw [(b2,_),(b9,_)] nM1 ⟨⟨pb21.2,pb21.1⟩,⟨⟨pb91.2,pb91.1⟩,trivial⟩⟩,?_⟩
   refine df [] F39.bd fun M2 bg Qn aZ=> ?_
   refine aD (wY (name:=[116]) (names:=[[97],[98]]) (cK (fun _ _=>ep) Qn ⟨[st [97]],[st [98]],rfl,rfl,[st [98]],[],rfl,rfl,rfl⟩ rfl (by decide)) (by decide) T9) ?_
   rintro r M3 bM bj ⟨cs1,rfl,zQ⟩
   obtain ⟨ca,cn,s1,a1,n1,a2,n2,a3,n3,rfl,gF,_,_⟩:=jx zQ
   simp only [List.nil_append,aJ,and_true] at bj
   have nM3:=bj.2
   have qM3:=bj.1
   simp +contextual only [go_sem,sevalprocAttr]
   refine ⟨dw [(b9,_)] nM3 ⟨⟨pb91.2,pb91.1⟩,trivial⟩,?_⟩
   intro b3 gj cL
   have pb31:=cL.2
   refine ⟨dw [(b3,_),(b9,_)] nM3 ⟨⟨pb31.2,pb31.1⟩,⟨⟨pb91.2,pb91.1⟩,trivial⟩⟩,?_⟩
   refine df [] Ug.bd fun M4 dh Cp cE=> ?_
   have vv:=(bg.trans bM).trans dh
   refine aD (pp (cK (fun _ _=>ew) Cp (cA (eu dh _ _ zQ)) rfl (by decide)) (nR vv hq) Li z8 T9) ?_
   rintro r M5 dF bE ⟨cs2,cv,rfl,oF,kM⟩
   obtain ⟨c0,c1,c2,c3,c4,c5,c6,c7,c8,c9,c10,rfl,hc⟩:=cU oF
   rw [hcd] at kM
   obtain ⟨_,va,vc,rfl,_⟩:=aF (by decide) (fun _ _=>eU) kM
   simp only [List.nil_append,aJ,and_true] at bE
   have nM5:=bE.2
   have qM5:=bE.1
   try simp +contextual only [go_sem,sevalprocAttr,hc]
   repeat refine ⟨dw [(b9,_)] nM5 ⟨⟨pb91.2,pb91.1⟩,trivial⟩,?_⟩
   refine dU _ _ _ ⟨rfl,by simp only [go_sem,sevalprocAttr],by simp only [go_sem,sevalprocAttr],b9,va,vc,_,by simp only [go_sem,sevalprocAttr],by simp only [go_sem,sevalprocAttr],_,_,oY,rfl,qM5,nM5,pb91.1,pb91.2,oF,kM⟩
 rintro e ds h ⟨rfl,e2,e5,b9,va,vc,cs9,e3,e4,N9,M9,oY,rfl,q9,n9,p1,p2,oF,kM⟩
 obtain ⟨s1,a1,n1,a2,n2,a3,n3,iE,gF,_,_,_,hkd⟩:=fJ oF
 subst iE
 rw [sI] at hkd
 obtain ⟨bk,ok,csk,rfl,tY,UQ⟩:=pB (i:=0) (x:=k) (by decide) (fun _ _=>lh) hkd rfl
 obtain ⟨t1,f1,m1,f2,m2,f3,m3,Zy,J0,_⟩:=fJ UQ
 subst Zy
 obtain ⟨b0,o0,cs0,rfl,PI,tB⟩:=pB (i:=0) (x:=c) (by decide) (fun _ _=>eU) kM rfl
 obtain ⟨b0',o0',cs0',he,acB,acM⟩:=pB (i:=1) (x:=d) (by decide) (fun _ _=>eU) kM rfl
 cases he
 unfold sA at tB acM;subst tB acM
 obtain ⟨y0,y1⟩:=Wa PI
 obtain ⟨z0,z1⟩:=Wa acB
 unfold XZ at tY
 have w0:=(Zq tY).1
 simp only [Nat.zero_mul,Nat.add_zero,Nat.one_mul] at y0 y1 z0 z1 w0
 rw [hc] at y0
 rw [hd] at z0
 rw [hkk] at w0
 simp +contextual only [go_sem,sevalprocAttr,e2,e3,e5,e4,XZ,aA q9,hk,sI,y0,z0,w0]
 exact am (cV.trans oY) rfl
end Go.Proofs.YtmccpbcbofhmlaaGreatDoor
namespace Vc
open Go
def eW (W:World):aS:=fun b=>match W.heap[b]? with
 | some (.cells cs _ _)=>some cs.toList
 | _=>none
theorem yu {W:World}{b:Nat}{cs:Array Value}{t f}(h:W.heap[b]?=some (.cells cs t f)):eW W b=some cs.toList:=by simp [eW,h]
theorem Ey (W:World):pg (eW W) W:=by
 intro b c hb
 unfold eW at hb
 split at hb
 ·rename_i cs t f h
  injection hb with hb
  subst hb
  exact ⟨t,f,by rw [h]⟩
 ·cases hb
theorem xK {W:World}{a:Addr}{v:Value}(h:W.cell? a=some v):a.spot=none/\aQ (eW W) a=some v:=by
 unfold World.cell? at h
 split at h
 ·rename_i cs t f hb
  split at h
  ·cases h
  ·rename_i hs
   have hs:a.spot=none:=by simpa using hs
   refine ⟨hs,?_⟩
   simp [aQ,hs,yu hb,h]
 ·cases h
theorem GC:∀ {n o:Nat} {f:Nat ->Option Value} {cs:List Value},(List.range' o n).mapM f=some cs ->cs.length=n/\∀ i,i<n ->f (o+i)=cs[i]?
 | 0,o,f,cs,h=>by
  simp at h;subst h;simp
 | n+1,o,f,cs,h=>by
  rw [List.range'_succ,List.mapM_cons] at h
  simp only [Option.bind_eq_bind,Option.bind_eq_some_iff,Option.pure_def,Option.some.injEq] at h
  obtain ⟨v,hv,l,hl,rfl⟩:=h
  obtain ⟨h1,h2⟩:=GC hl
  refine ⟨by simp [h1],fun i hi=> ?_⟩
  cases i with
  | zero=>simpa using hv
  | succ i=>rw [List.getElem?_cons_succ,<- h2 i (by omega)];congr 1;omega
theorem Mx {W:World}{base:Nat}{a:Addr}{n:Nat}{cs:List Value}(h:W.cells? base a n=some cs):cs.length=n/\∀ i,i<n ->W.cell? (a.add i)=cs[i]?:=by
 unfold World.cells? at h
 split at h
 ·rw [List.range_eq_range'] at h
  obtain ⟨h1,h2⟩:=GC h
  exact ⟨h1,fun i hi=>by have:=h2 i hi;simpa using this⟩
 ·cases h
theorem Qr {M:aS}{b:Nat}:∀ (cs:List Value) (o:Nat),(∀ i,i<cs.length ->aQ M ⟨b,o+i,none⟩=cs[i]?) ->At M b o cs
 | [],o,h=>trivial
 | v::cs,o,h=>by
  refine ⟨by simpa using h 0 (by simp),Qr cs (o+1) fun i hi=> ?_⟩
  have:=h (i+1) (by simpa using hi)
  rw [show o+1+i=o+(i+1) by omega,this];rfl
theorem Ac {W:World}{base:Nat}{a:Addr}{n:Nat}{cs:List Value}(h:W.cells? base a n=some cs)(hn:0<n):a.spot=none/\cs.length=n/\At (eW W) a.block a.off cs:=by
 obtain ⟨h1,h2⟩:=Mx h
 have h0:=h2 0 hn
 have e0:a.add 0=a:=by simp [Addr.add]
 rw [e0,gq (by omega)] at h0
 obtain ⟨hs,_⟩:=xK h0
 refine ⟨hs,h1,Qr cs _ fun i hi=> ?_⟩
 have qL:=h2 i (by omega)
 obtain ⟨b,o,s⟩:=a
 simp only at hs
 subst hs
 rw [Addr.add_lit,gq hi] at qL
 rw [gq hi]
 exact (xK qL).2
section
variable {H:Type} {enc:TypeId×Value ->H} {P:Program} {W W':World} {base:Nat} {am5:Bool}
theorem Yb {α:Type}{r:α ->List Value ->Prop}{sz:Nat}{M:aS}{b:Nat}:∀ (n o:Nat),(∀ i,i<n ->∃ cs,At M b (o+i*sz) cs/\cs.length=sz/\∃ x,r x cs) ->∃ l xs,l.length=n/\RL r l xs/\xs.length=n*sz/\At M b o xs
 | 0,o,h=>⟨[],[],rfl,rfl,by simp,trivial⟩
 | n+1,o,h=>by
  obtain ⟨cs,h1,h2,x,h3⟩:=h 0 (by omega)
  obtain ⟨l,xs,h4,h5,h6,h7⟩:=Yb (α:=α) (r:=r) (sz:=sz) (M:=M) (b:=b) n (o+sz) fun i hi=>by
   obtain ⟨cs,h1,h2⟩:=h (i+1) (by omega)
   refine ⟨cs,?_,h2⟩
   rw [show o+sz+i*sz=o+(i+1)*sz by rw [Nat.add_mul];omega];exact h1
  refine ⟨x::l,cs++xs,by simp [h4],⟨cs,xs,rfl,h3,h5⟩,by rw [List.length_append,h2,h6,Nat.add_mul];omega,gb.2 ⟨by simpa using h1,?_⟩⟩
  rw [h2];exact h7
end
end Vc
namespace Go.Proofs.YtmccpbcbofhmlaaGreatDoor
open Go Vc
set_option maxRecDepth 100000
theorem P0 {H:Type}(d:DataW H):1<=Rows.uptoBulk d:=by
 cases d with
 | lit l=>cases l<;>simp [Rows.uptoBulk]
 | _=>simp [Rows.uptoBulk]
theorem uS {H:Type}:∀ (l:List (DataW H)),l.length<=Rows.uptoBulkAll l
 | []=>by simp [Rows.uptoBulkAll]
 | d::l=>by
  have:=P0 d
  have:=uS l
  simp only [Rows.uptoBulkAll,List.length_cons]
  omega
theorem wW {H:Type}:∀ {l:List (DataW H)} {d:DataW H},d∈l ->Rows.uptoBulk d<=Rows.uptoBulkAll l
 | a::l,d,h=>by
  simp only [Rows.uptoBulkAll]
  rcases rP h with rfl | h
  ·omega
  ·have:=wW h;omega
section
variable {H:Type} {enc:TypeId×Value ->H} {W:World}
def rT (enc:TypeId×Value ->H)(P:Program)(W:World)(n:Nat)(t:TypeId){α:Type}(r:α ->List Value ->Prop):Prop:=
 ∀ (sp:Nat ->Bool) m,m<=n ->∀ cs (x:DataW H×List MemPlace),DataW.trod enc P W 0 sp true m t cs=some x ->Rows.uptoBulk x.1<=1048576 ->∃ a,r a cs
theorem gN {P:Program}{t:TypeId}{α:Type}{r:α ->List Value ->Prop}:rT enc P W 0 t r:=by
 intro sp m hm cs x h
 obtain rfl:m=0:=by omega
 simp [DataW.trod] at h
theorem tz {P:Program}{α:Type}{r:α ->List Value ->Prop}{n sz:Nat}{t e:TypeId}(hr:rT enc P W n e r)(ht:P.underlying t=some (.slice e))(ej:P.cellsOf e=sz)(dG:0<sz/\sz<=4000){sp:Nat ->Bool}{m:Nat}(hm:m<=n+1){cs:List Value}{x:DataW H×List MemPlace}
 (h:DataW.trod enc P W 0 sp true m t cs=some x) (hw:Rows.uptoBulk x.1<=1048576):∃ l v,cs=[v]/\RS (eW W) r sz l v/\l.length<1048576:=by
 rcases DataW.trod_slice ht h with ⟨rfl,rfl⟩ | ⟨a,len,cap,elems,rest,n',rfl,rfl,rfl,hb,hl,hmx,bw,RT,_,_⟩
 ·exact ⟨[],_,rfl,⟨by simp,[],.inl ⟨none,0,rfl,rfl,fun _=>rfl⟩,rfl⟩,by simp⟩
 ·simp only [Rows.uptoBulk] at hw
  have Ue:=uS (elems.map (·.1))
  rw [List.length_map,bw] at Ue
  have dL:∀ i,i<len ->a.spot=none/\∃ cs,At (eW W) a.block (a.off+i*sz) cs/\cs.length=sz/\∃ x,r x cs:=by
   intro i hi
   have h1:=RT i hi
   rw [gq (by omega)] at h1
   obtain ⟨cs,h2,h3⟩:=Option.bind_eq_some_iff.1 h1
   have Dh:a.spot=none:=by
    have h1:=RT 0 (by omega)
    rw [gq (by omega)] at h1
    obtain ⟨cs,h2,_⟩:=Option.bind_eq_some_iff.1 h1
    have:=(Ac h2 (by omega)).1
    rw [Nat.zero_mul] at this
    simpa [Addr.add] using this
   obtain ⟨-,h5,h6⟩:=Ac h2 (by omega)
   refine ⟨Dh,cs,?_,by omega,hr sp n' (by omega) cs _ h3 ?_⟩
   ·obtain ⟨b,o,s⟩:=a
    simp only at Dh
    subst Dh
    rw [Addr.add_lit,ej] at h6
    exact h6
   ·have hk:=wW (List.mem_map_of_mem (f:=(·.1)) (gm (l:=elems) (n:=i) (by omega)))
    omega
  obtain ⟨l,xs,h1,h2,h3,h4⟩:=Yb (α:=α) (r:=r) (sz:=sz) (M:=eW W) (b:=a.block) len a.off fun i hi=>(dL i hi).2
  have jY:l.length*sz<=1048576*4000:=Nat.mul_le_mul (by omega) dG.2
  refine ⟨l,_,rfl,⟨by omega,xs,?_,h2⟩,by omega⟩
  by_cases h0:len=0
  ·subst h0
   exact .inl ⟨some a,cap,rfl,List.length_eq_zero_iff.1 (by omega),fun h=>by cases h⟩
  ·have Dh:=(dL 0 (by omega)).1
   obtain ⟨b,o,s⟩:=a
   simp only at Dh
   subst Dh
   exact .inr ⟨b,o,len,cap,rfl,hl,h3,h4⟩
theorem fF {P:Program}{α:Type}{r:α ->List Value ->Prop}{n sz:Nat}{t e:TypeId}(hr:rT enc P W n e r)(ht:P.underlying t=some (.slice e))(ej:P.cellsOf e=sz)(dG:0<sz/\sz<=4000):rT enc P W (n+1) t (fun (l:List α) cs=>∃ v,cs=[v]/\RS (eW W) r sz l v):=by
 intro sp m hm cs x h hw
 obtain ⟨l,v,h1,h2,_⟩:=tz hr ht ej dG hm h hw
 exact ⟨l,v,h1,h2⟩
theorem Ho {P:Program}{α:Type}{r:α ->List Value ->Prop}{n sz:Nat}{t e:TypeId}(hr:rT enc P W n e r)(ht:P.underlying t=some (.slice e))(ej:P.cellsOf e=sz)(dG:0<sz/\sz<=4000):rT enc P W (n+1) t (fun (l:List α) cs=>∃ v,cs=[v]/\RS (eW W) r sz l v/\l.length<=1048576):=by
 intro sp m hm cs x h hw
 obtain ⟨l,v,h1,h2,h3⟩:=tz hr ht ej dG hm h hw
 exact ⟨l,v,h1,h2,Nat.le_of_lt h3⟩
theorem iy {P:Program}{n:Nat}{t:TypeId}{k:IntKind}(ht:P.underlying t=some (.int k)):rT enc P W n t (fun (i:Int) cs=>cs=[.int k i]):=by
 intro sp m hm cs x h hw
 obtain ⟨i,h1,_⟩:=DataW.trod_int ht h
 exact ⟨i,h1⟩
theorem pj {P:Program}{n:Nat}{t:TypeId}(ht:P.underlying t=some .bool):rT enc P W n t (fun (i:Bool) cs=>cs=[.bool i]):=by
 intro sp m hm cs x h hw
 obtain ⟨i,h1,_⟩:=DataW.trod_bool ht h
 exact ⟨i,h1⟩
theorem mh {P:Program}{n:Nat}{t:TypeId}(ht:P.underlying t=some .string):rT enc P W n t (fun (i:Bs) cs=>cs=[st i]):=by
 intro sp m hm cs x h hw
 obtain ⟨i,h1,_⟩:=DataW.trod_string ht h
 exact ⟨i.data.toList,by rw [h1,XD i];simp [st,bs]⟩
theorem rT.le {P:Program}{n n':Nat}{t:TypeId}{α:Type}{r:α ->List Value ->Prop}(h:rT enc P W n t r)(hn:n'<=n):rT enc P W n' t r:=fun sp m hm=>h sp m (by omega)
theorem rT.map {P:Program}{n:Nat}{t:TypeId}{α β:Type}{r:α ->List Value ->Prop}{q:β ->List Value ->Prop}(f:α ->β)(h:rT enc P W n t r)(hq:∀ a cs,r a cs ->q (f a) cs):rT enc P W n t q:=by
 intro sp m hm cs x h1 h2
 obtain ⟨a,ha⟩:=h sp m hm cs x h1 h2
 exact ⟨f a,hq a cs ha⟩
theorem dD {P:Program}{n:Nat}{t:TypeId}{fs:Array Field}(ht:P.underlying t=some (.struct fs)){sp:Nat ->Bool}{m:Nat}(hm:m<=n+1){cs:List Value}{x:DataW H×List MemPlace}(h:DataW.trod enc P W 0 sp true m t cs=some x)(hw:Rows.uptoBulk x.1<=1048576):
 cs.length=P.cellsOf t/\∀ {α:Type} {r:α ->List Value ->Prop} {i:Nat} {f:Field},fs[i]?=some f ->rT enc P W n f.type r ->∃ a,r a ((cs.drop f.offset).take (P.cellsOf f.type)):=by
 obtain ⟨xs,n',rfl,rfl,h1,h2,h3⟩:=DataW.trod_struct ht h
 refine ⟨h1,fun {α r i f} hf hr=> ?_⟩
 have h4:=h3 i f hf
 have hi:i<fs.size:=(Array.getElem?_eq_some_iff.1 hf).1
 rw [gq (by omega)] at h4
 refine hr sp n' (by omega) _ _ h4 ?_
 simp only [Rows.uptoBulk] at hw
 have hk:=wW (List.mem_map_of_mem (f:=(·.1)) (gm (l:=xs) (n:=i) (by omega)))
 omega
theorem ff {P:Program}{n:Nat}{t:TypeId}{fs:Array Field}(ht:P.underlying t=some (.struct fs)){sp:Nat ->Bool}{m:Nat}(hm:m<=n+1){cs:List Value}{x:DataW H×List MemPlace}(h:DataW.trod enc P W 0 sp true m t cs=some x)(hw:Rows.uptoBulk x.1<=1048576)
 (i:Nat) (te:TypeId) (o k:Nat) (hf:(fs[i]?).map (fun f=>(f.type,f.offset))=some (te,o)) (hk:P.cellsOf te=k) {α:Type} {r:α ->List Value ->Prop} (hr:rT enc P W n te r):∃ a,r a ((cs.drop o).take k):=by
 obtain ⟨f,Dn,QN⟩:=Option.map_eq_some_iff.1 hf
 injection QN with e1 e2
 subst e1 e2
 have:=(dD ht hm h hw).2 Dn hr
 rw [hk] at this
 exact this
theorem ii (cs:List Value)(o n o':Nat)(h:o+n=o'):cs.drop o=(cs.drop o).take n++cs.drop o':=by
 rw [<- h,<- List.drop_drop]
 exact (List.take_append_drop _ _).symm
theorem vI {cs:List Value}{o n:Nat}(h:cs.length=o+n):cs.drop o=(cs.drop o).take n:=by
 rw [List.take_of_length_le]
 rw [List.length_drop];omega
theorem GU (n:Nat):rT enc Tryz.prog W n 29 RV:=by
 cases n with
 | zero=>exact gN
 | succ n=>
  intro sp m hm cs x h hw
  have hl:=(dD Tryz.underlying29 hm h hw).1
  rw [show Tryz.prog.cellsOf 29=3 from by kernel_rfl] at hl
  obtain ⟨k,hk⟩:=ff Tryz.underlying29 hm h hw 0 3 0 1 rfl (by kernel_rfl) (iy Tryz.underlying3)
  obtain ⟨k2,iJ⟩:=ff Tryz.underlying29 hm h hw 1 2 1 1 rfl (by kernel_rfl) (iy Tryz.underlying2)
  obtain ⟨s,hs⟩:=ff Tryz.underlying29 hm h hw 2 9 2 1 rfl (by kernel_rfl) (mh Tryz.underlying9)
  refine ⟨⟨k,k2,s⟩,?_⟩
  show cs.drop 0=_
  rw [ii cs 0 1 1 rfl,hk,ii cs 1 1 2 rfl,iJ,vI (n:=1) (by omega),hs]
  rfl
theorem adb (n:Nat):rT enc Tryz.prog W n 48 sA:=by
 cases n with
 | zero=>exact gN
 | succ n=>
  intro sp m hm cs x h hw
  have hl:=(dD Tryz.underlying48 hm h hw).1
  rw [show Tryz.prog.cellsOf 48=2 from by kernel_rfl] at hl
  obtain ⟨k,hk⟩:=ff Tryz.underlying48 hm h hw 0 9 0 1 rfl (by kernel_rfl) (mh Tryz.underlying9)
  obtain ⟨k2,iJ⟩:=ff Tryz.underlying48 hm h hw 1 3 1 1 rfl (by kernel_rfl) (iy Tryz.underlying3)
  refine ⟨⟨k,k2⟩,?_⟩
  show cs.drop 0=_
  rw [ii cs 0 1 1 rfl,hk,vI (n:=1) (by omega),iJ]
  rfl
theorem Lu:∀ (n:Nat),rT enc Tryz.prog W n 31 (RX (eW W))
 | 0=>gN
 | n+1=>by
  have ih:=Lu n
  intro sp m hm cs x h hw
  have hl:=(dD Tryz.underlying31 hm h hw).1
  rw [show Tryz.prog.cellsOf 31=7 from by kernel_rfl] at hl
  obtain ⟨k,hk⟩:=ff Tryz.underlying31 hm h hw 0 3 0 1 rfl (by kernel_rfl) (iy Tryz.underlying3)
  obtain ⟨v,hv⟩:=ff Tryz.underlying31 hm h hw 1 29 1 3 rfl (by kernel_rfl) (GU n)
  obtain ⟨a,ha⟩:=ff Tryz.underlying31 hm h hw 2 9 4 1 rfl (by kernel_rfl) (mh Tryz.underlying9)
  obtain ⟨b,hb⟩:=ff Tryz.underlying31 hm h hw 3 9 5 1 rfl (by kernel_rfl) (mh Tryz.underlying9)
  obtain ⟨l,hs⟩:=ff Tryz.underlying31 hm h hw 4 25 6 1 rfl (by kernel_rfl) ((fF (sz:=7) ih Tryz.underlying25 (by kernel_rfl) (by decide)).le (Nat.le_succ n))
  obtain ⟨s,gF,lZ⟩:=hs
  refine ⟨.mk k v a b l,rL.2 ⟨s,?_,lZ⟩⟩
  show cs.drop 0=_
  unfold RV at hv
  rw [ii cs 0 1 1 rfl,hk,ii cs 1 3 4 rfl,hv,ii cs 4 1 5 rfl,ha,ii cs 5 1 6 rfl,hb,vI (n:=1) (by omega),gF]
  rfl
theorem Yq (n:Nat):rT enc Tryz.prog W n 25 (fun l cs=>∃ s,cs=[s]/\RS (eW W) (RX (eW W)) 7 l s):=
 (fF (sz:=7) (Lu n) Tryz.underlying25 (by kernel_rfl) (by decide)).le (Nat.le_succ n)
theorem ab3 (n:Nat):rT enc Tryz.prog W n 161 (xh (eW W)):=by
 cases n with
 | zero=>exact gN
 | succ n=>
  intro sp m hm cs x h hw
  have hl:=(dD Tryz.underlying161 hm h hw).1
  rw [show Tryz.prog.cellsOf 161=8 from by kernel_rfl] at hl
  obtain ⟨y,hy⟩:=ff Tryz.underlying161 hm h hw 0 31 0 7 rfl (by kernel_rfl) (Lu n)
  obtain ⟨a,ha⟩:=ff Tryz.underlying161 hm h hw 1 9 7 1 rfl (by kernel_rfl) (mh Tryz.underlying9)
  generalize hX:List.take 7 (List.drop 0 cs)=xw at hy
  refine ⟨⟨y,a⟩,_,hy,?_⟩
  show cs.drop 0=_
  rw [ii cs 0 7 7 rfl,hX,vI (o:=7) (n:=1) (by omega),ha]
theorem ab5 (n:Nat):rT enc Tryz.prog W n 75 (Do (eW W)):=by
 cases n with
 | zero=>exact gN
 | succ n=>
  intro sp m hm cs x h hw
  have hl:=(dD Tryz.underlying75 hm h hw).1
  rw [show Tryz.prog.cellsOf 75=10 from by kernel_rfl] at hl
  obtain ⟨k,hk⟩:=ff Tryz.underlying75 hm h hw 0 3 0 1 rfl (by kernel_rfl) (iy Tryz.underlying3)
  obtain ⟨a,ha⟩:=ff Tryz.underlying75 hm h hw 1 9 1 1 rfl (by kernel_rfl) (mh Tryz.underlying9)
  obtain ⟨b,hb⟩:=ff Tryz.underlying75 hm h hw 2 9 2 1 rfl (by kernel_rfl) (mh Tryz.underlying9)
  obtain ⟨y,hy⟩:=ff Tryz.underlying75 hm h hw 3 31 3 7 rfl (by kernel_rfl) (Lu n)
  generalize hX:List.take 7 (List.drop 3 cs)=xw at hy
  refine ⟨⟨k,a,b,y⟩,_,hy,?_⟩
  show cs.drop 0=_
  rw [ii cs 0 1 1 rfl,hk,ii cs 1 1 2 rfl,ha,ii cs 2 1 3 rfl,hb,vI (o:=3) (n:=7) (by omega),hX]
  rfl
theorem acI (n:Nat):rT enc Tryz.prog W n 79 (Cv (eW W)):=by
 cases n with
 | zero=>exact gN
 | succ n=>
  intro sp m hm cs x h hw
  have hl:=(dD Tryz.underlying79 hm h hw).1
  rw [show Tryz.prog.cellsOf 79=21 from by kernel_rfl] at hl
  obtain ⟨d,hd⟩:=ff Tryz.underlying79 hm h hw 0 4 0 1 rfl (by kernel_rfl) (pj Tryz.underlying4)
  obtain ⟨st,kE⟩:=ff Tryz.underlying79 hm h hw 1 4 1 1 rfl (by kernel_rfl) (pj Tryz.underlying4)
  obtain ⟨it,i,Oo,jQ⟩:=ff Tryz.underlying79 hm h hw 2 77 2 1 rfl (by kernel_rfl) ((fF (sz:=8) (ab3 n) Tryz.underlying77 (by kernel_rfl) (by decide)).le (Nat.le_succ n))
  obtain ⟨fr,f,Dn,QN⟩:=ff Tryz.underlying79 hm h hw 3 76 3 1 rfl (by kernel_rfl) ((fF (sz:=10) (ab5 n) Tryz.underlying76 (by kernel_rfl) (by decide)).le (Nat.le_succ n))
  obtain ⟨w,zq⟩:=ff Tryz.underlying79 hm h hw 4 4 4 1 rfl (by kernel_rfl) (pj Tryz.underlying4)
  obtain ⟨v,kL⟩:=ff Tryz.underlying79 hm h hw 5 4 5 1 rfl (by kernel_rfl) (pj Tryz.underlying4)
  obtain ⟨wx,hwx⟩:=ff Tryz.underlying79 hm h hw 6 31 6 7 rfl (by kernel_rfl) (Lu n)
  obtain ⟨vx,hvx⟩:=ff Tryz.underlying79 hm h hw 7 31 13 7 rfl (by kernel_rfl) (Lu n)
  obtain ⟨gr,g,ly,tg⟩:=ff Tryz.underlying79 hm h hw 8 25 20 1 rfl (by kernel_rfl) (Yq n)
  generalize hX:List.take 7 (List.drop 6 cs)=xw at hwx
  generalize hY:List.take 7 (List.drop 13 cs)=yw at hvx
  refine ⟨⟨d,st,it,fr,w,v,wx,vx,gr⟩,i,f,_,_,g,jQ,QN,hwx,hvx,tg,?_⟩
  show cs.drop 0=_
  rw [ii cs 0 1 1 rfl,hd,ii cs 1 1 2 rfl,kE,ii cs 2 1 3 rfl,Oo,ii cs 3 1 4 rfl,Dn,ii cs 4 1 5 rfl,zq,ii cs 5 1 6 rfl,kL,ii cs 6 7 13 rfl,hX,ii cs 13 7 20 rfl,hY,vI (o:=20) (n:=1) (by omega),ly]
  rfl
theorem ahV (n:Nat):rT enc Tryz.prog W n 27 (RQ (eW W)):=by
 cases n with
 | zero=>exact gN
 | succ n=>
  intro sp m hm cs x h hw
  have hl:=(dD Tryz.underlying27 hm h hw).1
  rw [show Tryz.prog.cellsOf 27=4 from by kernel_rfl] at hl
  obtain ⟨p,a,ha1,Zc⟩:=ff Tryz.underlying27 hm h hw 0 23 0 1 rfl (by kernel_rfl) ((fF (sz:=21) (acI n) Tryz.underlying23 (by kernel_rfl) (by decide)).le (Nat.le_succ n))
  obtain ⟨o,b,fD,ey⟩:=ff Tryz.underlying27 hm h hw 1 24 1 1 rfl (by kernel_rfl) ((fF (sz:=1) (iy (n:=n) Tryz.underlying3) Tryz.underlying24 (by kernel_rfl) (by decide)).le (Nat.le_succ n))
  obtain ⟨r,c,I3,Kb⟩:=ff Tryz.underlying27 hm h hw 2 25 2 1 rfl (by kernel_rfl) (Yq n)
  obtain ⟨k,hk⟩:=ff Tryz.underlying27 hm h hw 3 3 3 1 rfl (by kernel_rfl) (iy Tryz.underlying3)
  refine ⟨⟨p,o,r,k⟩,a,b,c,Zc,ey,Kb,?_⟩
  show cs.drop 0=_
  rw [ii cs 0 1 1 rfl,ha1,ii cs 1 1 2 rfl,fD,ii cs 2 1 3 rfl,I3,vI (o:=3) (n:=1) (by omega),hk]
  rfl
theorem KF:∀ (n:Nat),rT enc Tryz.prog W n 38 (gU (eW W))
 | 0=>gN
 | n+1=>by
  have ih:=KF n
  intro sp m hm cs x h hw
  have hl:=(dD Tryz.underlying38 hm h hw).1
  rw [show Tryz.prog.cellsOf 38=6 from by kernel_rfl] at hl
  obtain ⟨k,hk⟩:=ff Tryz.underlying38 hm h hw 0 3 0 1 rfl (by kernel_rfl) (iy Tryz.underlying3)
  obtain ⟨v,hv⟩:=ff Tryz.underlying38 hm h hw 1 29 1 3 rfl (by kernel_rfl) (GU n)
  obtain ⟨c,hc⟩:=ff Tryz.underlying38 hm h hw 2 3 4 1 rfl (by kernel_rfl) (iy Tryz.underlying3)
  obtain ⟨l,hs⟩:=ff Tryz.underlying38 hm h hw 3 36 5 1 rfl (by kernel_rfl) ((fF (sz:=6) ih Tryz.underlying36 (by kernel_rfl) (by decide)).le (Nat.le_succ n))
  obtain ⟨s,gF,lZ⟩:=hs
  refine ⟨.mk k v c l,jc.2 ⟨s,?_,lZ⟩⟩
  show cs.drop 0=_
  unfold RV at hv
  rw [ii cs 0 1 1 rfl,hk,ii cs 1 3 4 rfl,hv,ii cs 4 1 5 rfl,hc,vI (n:=1) (by omega),gF]
  rfl
theorem ab8 (n:Nat):rT enc Tryz.prog W n 119 (F5 (eW W)):=by
 cases n with
 | zero=>exact gN
 | succ n=>
  intro sp m hm cs x h hw
  have hl:=(dD Tryz.underlying119 hm h hw).1
  rw [show Tryz.prog.cellsOf 119=7 from by kernel_rfl] at hl
  obtain ⟨k,hk⟩:=ff Tryz.underlying119 hm h hw 0 3 0 1 rfl (by kernel_rfl) (iy Tryz.underlying3)
  obtain ⟨y,hy⟩:=ff Tryz.underlying119 hm h hw 1 38 1 6 rfl (by kernel_rfl) (KF n)
  generalize hX:List.take 6 (List.drop 1 cs)=xw at hy
  refine ⟨⟨k,y⟩,_,hy,?_⟩
  show cs.drop 0=_
  rw [ii cs 0 1 1 rfl,hk,vI (o:=1) (n:=6) (by omega),hX]
  rfl
theorem Xw:∀ (n:Nat),rT enc Tryz.prog W n 42 (jV (eW W))
 | 0=>gN
 | n+1=>by
  have ih:=Xw n
  intro sp m hm cs x h hw
  have hl:=(dD Tryz.underlying42 hm h hw).1
  rw [show Tryz.prog.cellsOf 42=11 from by kernel_rfl] at hl
  obtain ⟨k,hk⟩:=ff Tryz.underlying42 hm h hw 0 3 0 1 rfl (by kernel_rfl) (iy Tryz.underlying3)
  obtain ⟨k2,iJ⟩:=ff Tryz.underlying42 hm h hw 1 3 1 1 rfl (by kernel_rfl) (iy Tryz.underlying3)
  obtain ⟨y,hy⟩:=ff Tryz.underlying42 hm h hw 2 38 2 6 rfl (by kernel_rfl) (KF n)
  obtain ⟨xs,xv,vC,wu⟩:=ff Tryz.underlying42 hm h hw 3 36 8 1 rfl (by kernel_rfl) ((fF (sz:=6) (KF n) Tryz.underlying36 (by kernel_rfl) (by decide)).le (Nat.le_succ n))
  obtain ⟨asl,av,ha1,Zc⟩:=ff Tryz.underlying42 hm h hw 4 39 9 1 rfl (by kernel_rfl) ((fF (sz:=7) (ab8 n) Tryz.underlying39 (by kernel_rfl) (by decide)).le (Nat.le_succ n))
  obtain ⟨ks,kv,kY,zm⟩:=ff Tryz.underlying42 hm h hw 5 40 10 1 rfl (by kernel_rfl) ((fF (sz:=11) ih Tryz.underlying40 (by kernel_rfl) (by decide)).le (Nat.le_succ n))
  generalize hX:List.take 6 (List.drop 2 cs)=xw at hy
  refine ⟨.mk k k2 y xs asl ks,lw.2 ⟨_,xv,av,kv,?_,hy,wu,Zc,zm⟩⟩
  show cs.drop 0=_
  rw [ii cs 0 1 1 rfl,hk,ii cs 1 1 2 rfl,iJ,ii cs 2 6 8 rfl,hX,ii cs 8 1 9 rfl,vC,ii cs 9 1 10 rfl,ha1,vI (o:=10) (n:=1) (by omega),kY]
  rfl
theorem aaj (n:Nat):rT enc Tryz.prog W n 52 (fun (r:Rel) cs=>mD (eW W) r cs/\r.cols.length<=1048576):=by
 cases n with
 | zero=>exact gN
 | succ n=>
  intro sp m hm cs x h hw
  have hl:=(dD Tryz.underlying52 hm h hw).1
  rw [show Tryz.prog.cellsOf 52=14 from by kernel_rfl] at hl
  obtain ⟨a,ha⟩:=ff Tryz.underlying52 hm h hw 0 9 0 1 rfl (by kernel_rfl) (mh Tryz.underlying9)
  obtain ⟨co,c,I3,Kb,hc3⟩:=ff Tryz.underlying52 hm h hw 1 43 1 1 rfl (by kernel_rfl) ((Ho (sz:=2) (adb n) Tryz.underlying43 (by kernel_rfl) (by decide)).le (Nat.le_succ n))
  obtain ⟨b,hb⟩:=ff Tryz.underlying52 hm h hw 2 4 2 1 rfl (by kernel_rfl) (pj Tryz.underlying4)
  obtain ⟨p,hp⟩:=ff Tryz.underlying52 hm h hw 3 42 3 11 rfl (by kernel_rfl) (Xw n)
  generalize hX:List.take 11 (List.drop 3 cs)=xw at hp
  refine ⟨⟨a,co,b,p⟩,⟨c,_,Kb,hp,?_⟩,hc3⟩
  show cs.drop 0=_
  rw [ii cs 0 1 1 rfl,ha,ii cs 1 1 2 rfl,I3,ii cs 2 1 3 rfl,hb,vI (o:=3) (n:=11) (by omega),hX]
  rfl
theorem Jc {sp:Nat ->Bool}{m:Nat}{cs:List Value}{x:DataW H×List MemPlace}(h:DataW.trod enc Tryz.prog W 0 sp true m 22 cs=some x)(hw:Rows.uptoBulk x.1<=1048576):
 ∃ l v,cs=[v]/\RS (eW W) (mD (eW W)) 14 l v/\l.length<1048576/\∀ r∈l,r.cols.length<=1048576:=by
 obtain ⟨l,v,h1,⟨h2,xs,h3,h4⟩,h5⟩:=tz (sz:=14) (aaj m) Tryz.underlying22 (by kernel_rfl) (by decide) (Nat.le_succ m) h hw
 have h6:RL (mD (eW W)) l xs/\∀ r∈l,r.cols.length<=1048576:=by
  clear h1 h2 h3 h5
  induction l generalizing xs with
  | nil=>exact ⟨h4,by simp⟩
  | cons r l ih=>
   obtain ⟨cs,rest,rfl,h7,h8⟩:=h4
   obtain ⟨i1,i2⟩:=ih _ h8
   exact ⟨⟨cs,rest,rfl,h7.1,i1⟩,by simpa using ⟨h7.2,i2⟩⟩
 exact ⟨l,v,h1,⟨h2,xs,h3,h6.1⟩,h5,h6.2⟩
end
open Go.ChangeMaps
open Go.ChangeShapes Go.WideShapes Go.ChangeAt Go.RowKit
theorem ajh:ownKnob Tryz.prog.godebug=none:=by kernel_rfl
theorem PO {f:FuncId}{args:List Value}{M:aS}{post:ez}{W:World}(h:cw Tryz.prog f args (fun _=>none) M [] [] post aO)(hM:pg M W):
 Calls Tryz.prog f args.toArray W fun e W'=>∃ v M',e=.returned v/\jW W W'/\pg M' W'/\bh M M'/\post v M' [] []:=by
 refine (h.2 W [] ⟨[],rfl,?_⟩).mono ?_
 ·exact {typ:=(fun b t h=>by cases h),holds:=hM,blk:=(fun b cs h=>by cases h),rows:=⟨rfl,(fun i v e sz xs o h=>by simp at h)⟩,nodup:=List.nodup_nil,apart:=(fun b h=>by simp at h),os:=rfl,tape:=rfl,output:=rfl,size:=Nat.le_refl _,old:=fun _ _ _=>rfl,mem:=fun _ _ _=>rfl,le:=fun _ _ h=>h}
 ·intro e W' hc
  cases e with
  | panicked ch=>obtain ⟨_,_,_,_,hp⟩:=hc;exact hp.elim
  | outgrown=>exact hc.elim
  | returned v=>
   obtain ⟨M',L',R',hpo,hv⟩:=hc
   obtain ⟨⟨bs,hi⟩,hk,hr⟩:=hpo
   obtain rfl:L'=[]:=by simpa [keys] using hk
   obtain rfl:R'=[]:=by simpa using hr
   exact ⟨v,M',rfl,⟨hi.os,hi.tape,hi.output,hi.size,fun b hb=>hi.old b hb (by simp)⟩,hi.holds,fun b cs hb=>hi.le b cs hb,hv⟩
theorem jW.but {W W':World}(h:jW W W')(may:MemPlace ->Prop):W.keptBut W' may:=by
 refine ⟨h.1,h.2.2.1,fun i hi=> ?_⟩
 rw [h.2.2.2.2 i hi]
 split
 ·rename_i h1 h2
  rw [h1] at h2
  injection h2 with h2
  injection h2 with h2 h3 h4
  subst h2 h3 h4
  exact ⟨rfl,rfl,rfl,fun _ _=>rfl⟩
 ·rename_i h1 h2
  rw [h1] at h2
  injection h2 with h2
  injection h2 with h2 h3
  subst h2 h3
  exact .inr ⟨rfl,rfl⟩
 ·rfl
theorem kids:Kids Tryz.prog (·<Tryz.prog.types.size):=kids_rows (by kernel_rfl) (by kernel_rfl)
theorem akf:∀ t e,t<Tryz.prog.types.size ->Tryz.prog.underlying t=some (.slice e) ->0<Tryz.prog.cellsOf e:=slices_full_of Tryz.prog (by kernel_rfl)
theorem BD {H:Type}{enc:TypeId×Value ->H}{W W':World}(hk:jW W W'):∀ {ts:List TypeId} {vs:List Value} {ds:List (DataW H)} {ps:List MemPlace},(∀ t∈ts,t<Tryz.prog.types.size) ->
 DataW.TrodAll enc Tryz.prog W 0 (fun _=>true) true ts vs ds ps ->DataW.TrodAll enc Tryz.prog W' 0 (fun b=>decide (b<W.heap.size)) true ts vs ds ps
 | [],[],[],ps,_,h=>h
 | t::ts,v::vs,d::ds,ps,hT,h=>by
  obtain ⟨p,q,⟨n,h1⟩,h2,rfl⟩:=h
  refine ⟨p,q,⟨n,?_⟩,BD hk (fun t ht=>hT t (p5 ht)) h2,rfl⟩
  have aN:=DataW.trod_lt n t _ _ h1
  refine DataW.trod_respare kids akf n t _ _ (hT t (List.mem_cons_self ..)) (DataW.trod_carry n t _ _ h1 fun pl hp=> ?_) (fun pl hp=>by simpa using aN pl hp)
  have hb:=hk.2.2.2.2 pl.block (aN pl hp)
  cases pl with
  | cell b off=>
   show W'.cell? _=W.cell? _
   unfold World.cell?
   simp only [MemPlace.block] at hb
   simp only [hb]
  | map b=>exact hb
def ndB:List Nat ->Nat ->Nat ->List MemPlace ->Bool
 | _,_,_,[]=>true
 | gy,cur,last,.cell b o::r=>if b=cur then decide (last<o) && ndB gy cur o r else !gy.contains b && ndB (cur::gy) b o r
 | _,_,_,.map _::_=>false
theorem Hi:∀ (l:List MemPlace) (gy:List Nat) (cur last:Nat),ndB gy cur last l=true ->(∀ p∈l,∃ b o,p=.cell b o/\(b∉gy\/b=cur)/\(b=cur ->last<o))/\l.Nodup
 | [],_,_,_,_=>⟨fun _ h=>(by cases h),List.nodup_nil⟩
 | .map _::_,_,_,_,h=>by cases h
 | .cell b o::r,gy,cur,last,h=>by
  unfold ndB at h
  split at h
  ·rename_i hb
   subst hb
   simp only [Bool.and_eq_true,decide_eq_true_eq] at h
   obtain ⟨h1,h2⟩:=Hi r gy b o h.2
   refine ⟨fun p hp=> ?_,List.nodup_cons.2 ⟨fun hm=> ?_,h2⟩⟩
   ·rcases rP hp with rfl | hp
    ·exact ⟨b,o,rfl,.inr rfl,fun _=>h.1⟩
    ·obtain ⟨b',o',rfl,h3,h4⟩:=h1 p hp
     exact ⟨b',o',rfl,h3,fun he=>Nat.lt_trans h.1 (h4 he)⟩
   ·obtain ⟨b',o',h5,_,h4⟩:=h1 _ hm
    injection h5 with e1 e2
    subst e1 e2
    exact Nat.lt_irrefl _ (h4 rfl)
  ·rename_i hb
   simp only [Bool.and_eq_true,Bool.not_eq_true',List.contains_eq_mem,decide_eq_false_iff_not] at h
   obtain ⟨h1,h2⟩:=Hi r (cur::gy) b o h.2
   have key:∀ p∈r,∃ b' o',p=.cell b' o'/\(b'∉gy)/\b'≠cur/\(b'=b ->o<o'):=by
    intro p hp
    obtain ⟨b',o',rfl,h3,h4⟩:=h1 p hp
    refine ⟨b',o',rfl,?_,?_,h4⟩
    ·rcases h3 with h3 | rfl
     ·exact fun hm=>h3 (p5 hm)
     ·exact h.1
    ·rcases h3 with h3 | rfl
     ·rintro rfl;exact h3 (List.mem_cons_self ..)
     ·exact hb
   refine ⟨fun p hp=> ?_,List.nodup_cons.2 ⟨fun hm=> ?_,h2⟩⟩
   ·rcases rP hp with rfl | hp
    ·exact ⟨b,o,rfl,.inl h.1,fun he=>(hb he).elim⟩
    ·obtain ⟨b',o',rfl,h3,h5,_⟩:=key p hp
     exact ⟨b',o',rfl,.inl h3,fun he=>(h5 he).elim⟩
   ·obtain ⟨b',o',h5,_,_,h4⟩:=key _ hm
    injection h5 with e1 e2
    subst e1 e2
    exact Nat.lt_irrefl _ (h4 rfl)
theorem BU {P:Program}{w:World}{l:List (String×DataW Unit)}(fuel:Nat)(h:(DataW.laidRun P w fuel (l.map (·.1))).map (·.1)=some l)
 (hq:(DataW.laidRun P w fuel (l.map (·.1))).map (fun x=>ndB [] 1000000 0 x.2 && laidRowsB P w x.2)=some true):laidMet P l w:=by
 cases hx:DataW.laidRun P w fuel (l.map (·.1)) with
 | none=>simp [hx] at h
 | some x=>
  obtain ⟨l',ps⟩:=x
  simp only [hx,Option.map_some,Option.some.injEq] at h hq
  subst h
  simp only [Bool.and_eq_true] at hq
  exact laidMet_of_run fuel hx (decide_eq_true (Hi _ _ _ _ hq.1).2) hq.2
noncomputable def nQ (os:Os):World:=
 {heap:=⟨[.cells #[.int .i64 0] 3 (0,0),
   .cells #[.int .u64 1,.int .u64 10,.int .u64 100,.int .u64 1000,.int .u64 10000,.int .u64 100000,.int .u64 1000000,.int .u64 10000000,.int .u64 100000000,.int .u64 1000000000,.int .u64 10000000000,.int .u64 100000000000,.int .u64 1000000000000,.int .u64 10000000000000,.int .u64 100000000000000,.int .u64 1000000000000000,.int .u64 10000000000000000,.int .u64 100000000000000000,.int .u64 1000000000000000000,.int .u64 10000000000000000000] 359 (0,0),
   .cells (Lib.asciiSpaceTab.map fun z=>Value.int .u8 z).toArray 371 (0,0),
   .cells (Pinned.utf8FirstZ.map fun (n:Nat)=>Value.int .u8 (n:Int)).toArray 371 (0,0),
   .cells #[.int .u8 128,.int .u8 191,.int .u8 160,.int .u8 191,.int .u8 128,.int .u8 159,.int .u8 144,.int .u8 191,.int .u8 128,.int .u8 143,.int .u8 0,.int .u8 0,.int .u8 0,.int .u8 0,.int .u8 0,.int .u8 0,.int .u8 0,.int .u8 0,.int .u8 0,.int .u8 0,.int .u8 0,.int .u8 0,.int .u8 0,.int .u8 0,.int .u8 0,.int .u8 0,.int .u8 0,.int .u8 0,.int .u8 0,.int .u8 0,.int .u8 0,.int .u8 0] 394 (0,0),
   .cells #[.pointer (some ⟨17,0,none⟩)] 399 (0,0),
   .cells #[.iface 425 (.pointer (some ⟨19,0,none⟩))] 230 (0,0),
   .cells #[.iface 425 (.pointer (some ⟨18,0,none⟩))] 230 (0,0),
   .cells #[.int .u8 0,.int .u8 1,.int .u8 28,.int .u8 2,.int .u8 29,.int .u8 14,.int .u8 24,.int .u8 3,.int .u8 30,.int .u8 22,.int .u8 20,.int .u8 15,.int .u8 25,.int .u8 17,.int .u8 4,.int .u8 8,.int .u8 31,.int .u8 27,.int .u8 13,.int .u8 23,.int .u8 21,.int .u8 19,.int .u8 16,.int .u8 7,.int .u8 26,.int .u8 12,.int .u8 18,.int .u8 6,.int .u8 11,.int .u8 5,.int .u8 10,.int .u8 9] 410 (0,0),
   .cells #[.int .u8 0,.int .u8 1,.int .u8 56,.int .u8 2,.int .u8 57,.int .u8 49,.int .u8 28,.int .u8 3,.int .u8 61,.int .u8 58,.int .u8 42,.int .u8 50,.int .u8 38,.int .u8 29,.int .u8 17,.int .u8 4,.int .u8 62,.int .u8 47,.int .u8 59,.int .u8 36,.int .u8 45,.int .u8 43,.int .u8 51,.int .u8 22,.int .u8 53,.int .u8 39,.int .u8 33,.int .u8 30,.int .u8 24,.int .u8 18,.int .u8 12,.int .u8 5,.int .u8 63,.int .u8 55,.int .u8 48,.int .u8 27,.int .u8 60,.int .u8 41,.int .u8 37,.int .u8 16,.int .u8 46,.int .u8 35,.int .u8 44,.int .u8 21,.int .u8 52,.int .u8 32,.int .u8 23,.int .u8 11,.int .u8 54,.int .u8 26,.int .u8 40,.int .u8 15,.int .u8 34,.int .u8 20,.int .u8 31,.int .u8 10,.int .u8 25,.int .u8 14,.int .u8 19,.int .u8 9,.int .u8 13,.int .u8 8,.int .u8 7,.int .u8 6] 411 (0,0),
   .cells #[.pointer none] 399 (0,0),
   .cells ((List.range 442).map fun (n:Nat)=>Value.int .u64 (n:Int)).toArray 0 (0,0),
   .map #[] 0,
   .finalizers #[] none,
   .cells #[.bool false] 0 (0,0),
   .finalizers #[] none,
   .cells #[.int .u16 9,.int .u16 13,.int .u16 1,.int .u16 32,.int .u16 133,.int .u16 101,.int .u16 160,.int .u16 5760,.int .u16 5600,.int .u16 8192,.int .u16 8202,.int .u16 1,.int .u16 8232,.int .u16 8233,.int .u16 1,.int .u16 8239,.int .u16 8287,.int .u16 48,.int .u16 12288,.int .u16 12288,.int .u16 1] 420 (0,0),
   .cells #[.slice (some ⟨16,0,none⟩) 7 7,.slice none 0 0,.int .i64 2] 417 (0,0),
   .cells #[.string ⟨#[118,97,108,117,101,32,111,117,116,32,111,102,32,114,97,110,103,101]⟩] 427 (0,0),
   .cells #[.string ⟨#[105,110,118,97,108,105,100,32,115,121,110,116,97,120]⟩] 427 (0,0)]⟩,
  tape:=fun _ _=>0,drawn:=0,os:=os,output:= #[]}
theorem Hf:Tryz.prog.globalNamed "strings.asciiSpace"=some 2:=by kernel_rfl
theorem H0:(Tryz.prog.globals[2]?).map (·.type)=some 371:=by kernel_rfl
theorem adx {W:World}{l:List (String×DataW Unit)}(hl:(l.filter fun x=>x.1== "strings.asciiSpace")=[("strings.asciiSpace",Lib.tabData .u8 Lib.asciiSpaceTab)])(h:laidMetH Tryz.prog l W):Lib.TabIs Tryz.prog W "strings.asciiSpace" .u8 Lib.asciiSpaceTab:=by
 have h1:=laidMetH.filter (fun x=>x.1== "strings.asciiSpace") h
 rw [hl] at h1
 have h1:laidMet Tryz.prog [("strings.asciiSpace",Lib.tabData .u8 Lib.asciiSpaceTab)] W:=h1
 exact Lib.tabIs_of_head (rest:=[]) Hf H0 Tryz.underlying371 (by kernel_rfl) (by kernel_rfl) (by kernel_rfl) h1
theorem MR {W:World}{name:String}{k:IntKind}{zs:List Int}{g:Nat}(hg:Tryz.prog.globalNamed name=some g)(h:Lib.TabIs Tryz.prog W name k zs):eW W g=some (zs.map fun z=>Value.int k z):=by
 unfold Lib.TabIs World.var? at h
 rw [hg] at h
 simp only [Option.bind_some] at h
 split at h
 ·rename_i cs t f hc
  injection h with h
  rw [yu hc,h]
 ·cases h
theorem Vy {W:World}{l:List (String×DataW Unit)}(h1:(l.filter fun x=>x.1== "strings.asciiSpace")=[("strings.asciiSpace",Lib.tabData .u8 Lib.asciiSpaceTab)])(hL:laidMetH Tryz.prog l W):eX (eW W):=by
 intro g hg
 obtain rfl:=Option.some.inj (Hf.symm.trans hg)
 exact MR Hf (adx h1 hL)
end Go.Proofs.YtmccpbcbofhmlaaGreatDoor
namespace Go.Proofs
open Go.Shelf
def Tryz.lays106_ren:Go.Shelf.Ren:=⟨fun | 106=>289 | 213=>313 | 265=>322 | n=>n,fun | 9=>9 | 3=>3 | n=>n,fun | n=>n⟩
theorem Tryz.lays106:Go.Proofs.Lays.n106 Tryz.prog Tryz.lays106_ren:={
 mixed:=by kernel_rfl
 f106:=Tryz.func289.trans (congrArg some (by kernel_rfl))
 f213:=Tryz.func313.trans (congrArg some (by kernel_rfl))
 f265:=Tryz.func322.trans (congrArg some (by kernel_rfl))
 t3:=Tryz.underlying3
 a3:=Tryz.isAgg3
 z3:=Tryz.sizeOf3
 v3:=Tryz.zeroValue3
 t9:=Tryz.underlying9
 a9:=Tryz.isAgg9
 z9:=Tryz.sizeOf9
 v9:=Tryz.zeroValue9}
open Go.RowKit in
theorem Tryz.strings_Compare (a b:ByteArray)(w:World):
 Calls Tryz.prog 289 #[.string a,.string b] w fun e w'=>e=.returned (.int .i64 (Lib.compareBytes a.data.toList b.data.toList))/\w'=w:=Any.strings_Compare Tryz.lays106 a b w
end Go.Proofs
namespace Go.Proofs.YtmccpbcbofhmlaaGreatDoor
open Go Vc
set_option maxRecDepth 10000
def slR (M:aS):RR ->Prop
 | []=>True
 | (v,_,sz,xs)::R=>(0<sz ->Sl M v sz xs)/\slR M R
theorem rp {N:Tm}:∀ (R:RR) (M:aS) (k:Sh ->Prop),(∀ M',bh M M' ->slR M' R ->k ⟨N,M',[],[]⟩) ->bK ⟨N,M,[],R⟩ k
 | [],M,k,h=>az (h M bh.rfl' trivial)
 | (v,el,sz,xs)::R,M,k,h=>by
  by_cases hs:0<sz
  ·exact bT (fun M' he _ gi=>rp R M' k fun M2 nF hR=>h M2 (he.trans nF) ⟨fun _=>gi.ext nF,hR⟩) hs
  ·intro c w hw
   obtain ⟨bs,hi⟩:=hw
   obtain ⟨bs',qL⟩:=hi.dropR
   exact rp R M k (fun M2 nF hR=>h M2 nF ⟨fun h=>absurd h hs,hR⟩) c w ⟨bs',qL⟩
section
variable {F:Fi} {s:List Vc.Item} {e:dj} {ds:List Deferred} {dd:Option Nat} {N:Tm} {M:aS} {L:LL} {R:RR}
theorem KV {c:Ctx}{w:World}{bs:List (Option Nat)}(hi:Hp c ⟨N,M,L,R⟩ w bs):TZ w [] N M [] []:=⟨[],rfl,
 {typ:=fun b t h=>⟨(hi.typ b t h).1,fun h=>by simp at h⟩
  holds:=hi.holds
  blk:=fun b cs h=>by simp at h
  rows:=⟨rfl,fun i v e sz xs o h=>by simp at h⟩
  nodup:=by simp
  apart:=fun b h=>by simp at h
  os:=rfl
  tape:=rfl
  output:=rfl
  size:=Nat.le_refl _
  old:=fun _ _ _=>rfl
  mem:=fun _ _ _=>rfl
  le:=fun _ _ h=>h}⟩
theorem dA {f:FuncId}{args:List Value}{x:Value}(hb:de Tryz.prog f=true)(hc:∀ M',bh M M' ->pE M' L ->slR M' R ->cw Tryz.prog f args N M' [] [] (fun r _ _ _=>r=x) aO)
 (hn:cj Tryz.prog F s (cB e dd x) ds ⟨N,M,L,R⟩ ⟨⟩):dk Tryz.prog F f args dd s e ds ⟨N,M,L,R⟩ ⟨⟩:=by
 refine ⟨hb,fun c w hw=> ?_⟩
 obtain ⟨_,⟨_,Oo⟩,M',he,hL,hR,rfl⟩:=(lf (k:=fun h'=>∃ M',bh M M'/\pE M' L/\slR M' R/\h'=⟨N,M',[],[]⟩) fun M' he hL=>rp R M' _ fun M2 nF hR=>⟨M2,he.trans nF,Bb nF hL,hR,rfl⟩) c w hw
 have TD:TZ w [] N M' [] []:=KV Oo
 refine Calls.mono ((hc M' he hL hR).2 w [] TD) ?_
 intro en w' hr
 cases en with
 | returned v=>
  obtain ⟨M2,L2,R2,⟨⟨_,jQ⟩,_⟩,rfl⟩:=hr
  have hk:jW w w':=⟨jQ.os,jQ.tape,jQ.output,jQ.size,fun b hb=>jQ.old b hb (by simp)⟩
  obtain ⟨bs,hi⟩:=hw
  exact ⟨_,⟨bs,hi.keeps hk⟩,hn⟩
 | panicked ch=>obtain ⟨_,_,_,_,hf⟩:=hr;exact hf.elim
 | outgrown=>exact hr.elim
theorem aP {f:FuncId}{args:List Value}{x:Value}(hc:cw Tryz.prog f args N M [] [] (fun r _ _ _=>r=x) aO)
 (hn:cj Tryz.prog F s (cB e dd x) ds ⟨N,M,L,R⟩ ⟨⟩):dk Tryz.prog F f args dd s e ds ⟨N,M,L,R⟩ ⟨⟩:=by
 refine ⟨hc.1,fun c w hw=> ?_⟩
 obtain ⟨bs,hi⟩:=hw
 have TD:TZ w [] N M [] []:=KV hi
 refine Calls.mono (hc.2 w [] TD) ?_
 intro en w' hr
 cases en with
 | returned v=>
  obtain ⟨M2,L2,R2,⟨⟨_,jQ⟩,_⟩,rfl⟩:=hr
  have hk:jW w w':=⟨jQ.os,jQ.tape,jQ.output,jQ.size,fun b hb=>jQ.old b hb (by simp)⟩
  exact ⟨_,⟨bs,hi.keeps hk⟩,hn⟩
 | panicked ch=>obtain ⟨_,_,_,_,hf⟩:=hr;exact hf.elim
 | outgrown=>exact hr.elim
end
def jl (a b:Int):Int:=if a<b then -1 else if b<a then 1 else 0
def aaf (s t:Bs):Int:=Lib.compareBytes s t
def j4 (a b:Int):Int:=if a≠0 then a else b
def fT:V:=⟨1,0,[]⟩
def wQ (b:Bool):V:=⟨2,if b=true then 1 else 0,[]⟩
def yH (n:Int):V:=if n>1000000000000000\/n< -1000000000000000 then fT else ⟨3,n,[]⟩
def oT (a b:V):Int:=j4 (jl (fY a).k (fY b).k) (j4 (jl (fY a).n (fY b).n) (aaf (fY a).t (fY b).t))
def ui (a b:V):Bool:=decide (a.k=b.k) && !decide (a.k=1)
def G0 (a b:V):V:=if ui a b=true then wQ (decide (oT a b=0)) else fT
def sM (a b:V):V:=if ui a b=true then wQ (decide (oT a b<0)) else fT
def mN (v:V):Int:=if v.k=2 then IntKind.i64.wrap (2*v.n) else 1
def l5 (n:Int):V:=if n=1 then fT else wQ (decide (n=2))
def V7 (a b:V):V:=l5 (if mN b<mN a then mN b else mN a)
def orV (a b:V):V:=l5 (if mN b>mN a then mN b else mN a)
def H1 (a:V):V:=l5 (IntKind.i64.wrap (2 - mN a))
def sU (v:V):Bool:=decide (mN v=2)
def Rc (x y p:Int):V:=if x=0\/(IntKind.i64.wrap (p.tdiv x)=y/\p<=1000000000000000)/\p>= -1000000000000000 then yH p else fT
def uX (s:Int)(a b:V):V:=if a.k=3/\b.k=3 then
 (if s=43 then yH (IntKind.i64.wrap (a.n+b.n)) else if s=45 then yH (IntKind.i64.wrap (a.n - b.n)) else if s=42 then Rc a.n b.n (IntKind.i64.wrap (a.n*b.n)) else fT) else fT
def Bz (a b:V):V:=if (a.k=4/\b.k=4)/\a.t.length+b.t.length<=60 then ⟨4,0,a.t++b.t⟩ else fT
def ip:List V ->List V ->Int
 | [],[]=>0
 | [],_::_=> -1
 | _::_,[]=>1
 | x::a,y::b=>j4 (oT x y) (ip a b)
variable {M:aS}
theorem D2 (a:Int)(T:Tm):cw Tryz.prog 290 [.int .i64 a] T M [] [] (fun r _ _ _=>r=.bool false) aO:=by
 refine aC ah1 rfl rfl ?_
 intro _ _
 simp +contextual only [go_sem,sevalprocAttr]
 exact am aH.rfl' rfl
theorem yk (a:Int)(T:Tm):cw Tryz.prog 312 [.int .i64 a] T M [] [] (fun r _ _ _=>r=.bool false) aO:=by
 refine aC ajO rfl rfl ?_
 intro _ _
 simp +contextual only [go_sem,sevalprocAttr]
 exact am aH.rfl' rfl
theorem Ko (a b:Int)(T:Tm):cw Tryz.prog 243 [.int .i64 a,.int .i64 b] T M [] [] (fun r _ _ _=>r=.int .i64 (jl a b)) aO:=by
 refine aC ahY rfl rfl ?_
 intro _ _
 simp +contextual only [go_sem,sevalprocAttr]
 refine aP (D2 a T) ?_
 simp +contextual only [go_sem,sevalprocAttr]
 refine aP (D2 b T) ?_
 simp +contextual only [go_sem,aE,sevalprocAttr]
 (repeat' split)<;>(refine am aH.rfl' (cS ?_);unfold jl;simp [*])
theorem Na (a b:Int)(T:Tm):cw Tryz.prog 288 [.int .i64 a,.int .i64 b] T M [] [] (fun r _ _ _=>r=.int .i64 (jl a b)) aO:=by
 refine aC ajp rfl rfl ?_
 intro _ _
 simp +contextual only [go_sem,sevalprocAttr]
 refine aP (yk a T) ?_
 simp +contextual only [go_sem,sevalprocAttr]
 refine aP (yk b T) ?_
 simp +contextual only [go_sem,aE,sevalprocAttr]
 (repeat' split)<;>(refine am aH.rfl' (cS ?_);unfold jl;simp [*])
theorem Uo (s t:Bs)(T:Tm):cw Tryz.prog 289 [st s,st t] T M [] [] (fun r _ _ _=>r=.int .i64 (aaf s t)) aO:=
 (wi (by kernel_rfl) (fun w hw=>Calls.mono (Tryz.strings_Compare (bs s) (bs t) w) fun e w' h=>⟨by rw [h.1];rfl,by rw [h.2];exact jW.rfl'⟩) T).mono (fun _ _ _ _ _ _ _ h=>h.1) (fun _ _ _ _ _ _ _ h=>h)
theorem aeY {l:List Int}{lv:Value}(hs:RS M RI 1 l lv)(T:Tm):cw Tryz.prog 287 [lv] T M [] [] (fun r _ _ _=>r=.int .i64 (l.foldr j4 0)) aO:=by
 obtain ⟨fS,a,c,rfl,dJ,_,hg⟩:=aF (by decide) (fun _ _=>bV) hs
 refine aC aec rfl rfl ?_
 intro bi _
 simp +contextual only [go_sem,aE,sevalprocAttr]
 refine aY l.length 8 [(3,.int .i64 0),(6,.slice a l.length c),(7,.int .i64 (l.length:Int))] (fun i e h=>h=⟨T,M,[],[]⟩/\(l.drop i).foldr j4 0=l.foldr j4 0) 0 (by omega) (by simp only [aG,go_sem,sevalprocAttr]) (by simp only [go_sem,sevalprocAttr]) ⟨rfl,rfl⟩ ?_
 rintro i e h hi aI ht ⟨rfl,ax⟩
 simp only [aG] at aI
 by_cases aN:i<l.length
 ·obtain ⟨b',o',cs',rfl,cG,fy⟩:=hg i l[i] (gq aN)
  unfold RI at fy;subst fy
  have x0:=tV cG
  rw [Nat.mul_one] at x0
  have bA:l.drop i=l[i]::l.drop (i+1):=dq aN
  rw [bA,List.foldr_cons] at ax
  simp +contextual only [go_sem,aE,sevalprocAttr,aI,ht,aN,x0]
  by_cases h0:l[i]=0
  ·rw [h0] at ax
   simp +contextual only [go_sem,sevalprocAttr,h0]
   refine cI aN ?_ ?_ ⟨rfl,ax⟩
   ·simp only [aG,aI,go_sem,sevalprocAttr]
   ·simp only [go_sem,sevalprocAttr,aB i (by omega)]
  ·simp +contextual only [go_sem,sevalprocAttr,h0]
   refine am aH.rfl' (cS ?_)
   rw [<- ax,j4,if_pos h0]
 ·have:i=l.length:=by omega
  subst this
  rw [List.drop_length] at ax
  simp +contextual only [go_sem,aE,sevalprocAttr,aI,ht,aN]
  exact am aH.rfl' (congrArg (Value.int .i64) ax)
theorem s4 (b:Bool)(T:Tm):cw Tryz.prog 253 [.bool b] T M [] [] (fun r _ _ _=>r=.agg ⟨(wQ b).cs⟩) aO:=by
 refine aC ai2 rfl rfl ?_
 intro _ _
 cases b with
 | true=>
  simp +contextual only [go_sem,aE,sevalprocAttr]
  intro b1 T1 fD cV ig b2 T2 ey gx dV fG
  exact am (cV.trans dV) rfl
 | false=>
  simp +contextual only [go_sem,aE,sevalprocAttr]
  intro b1 T1 fD cV ig b2 T2 ey gx dV fG
  exact am (cV.trans dV) rfl
theorem qu (n:Int)(T:Tm):cw Tryz.prog 294 [.int .i64 n] T M [] [] (fun r _ _ _=>r=.agg ⟨(yH n).cs⟩) aO:=by
 unfold yH
 refine aC aj2 rfl rfl ?_
 intro _ _
 by_cases h1:n>1000000000000000
 ·rw [if_pos (.inl h1)]
  simp +contextual only [go_sem,aE,sevalprocAttr,h1]
  intro b1 T1 fD cV ig
  refine aP (fL T1) ?_
  simp +contextual only [go_sem,sevalprocAttr,aA fD]
  exact am cV rfl
 ·by_cases h2:n< -1000000000000000
  ·rw [if_pos (.inr h2)]
   simp +contextual only [go_sem,aE,sevalprocAttr,h1,h2]
   intro b1 T1 fD cV ig
   refine aP (fL T1) ?_
   simp +contextual only [go_sem,sevalprocAttr,aA fD]
   exact am cV rfl
  ·rw [if_neg (fun h=>h.elim h1 h2)]
   simp +contextual only [go_sem,aE,sevalprocAttr,h1,h2]
   intro b1 T1 fD cV ig
   exact am cV rfl
theorem BJ (a b:V)(T:Tm):cw Tryz.prog 315 [.agg ⟨a.cs⟩,.agg ⟨b.cs⟩] T M [] [] (fun r _ _ _=>r=.bool (ui a b)) aO:=by
 obtain ⟨k,n,t⟩:=a
 obtain ⟨k',n',t'⟩:=b
 simp only [V.cs,ui]
 refine aC aja rfl rfl ?_
 intro _ _
 simp +contextual only [go_sem,sevalprocAttr]
 intro b1 T1 fD cV ig b2 T2 ey gx dV fG
 by_cases h:k=k'
 ·subst h
  simp +contextual only [go_sem,sevalprocAttr]
  exact am (cV.trans dV) rfl
 ·simp +contextual only [go_sem,sevalprocAttr,h]
  exact am (cV.trans dV) rfl
theorem jq (a b:V)(T:Tm):cw Tryz.prog 242 [.agg ⟨a.cs⟩,.agg ⟨b.cs⟩] T M [] [] (fun r _ _ _=>r=.int .i64 (oT a b)) aO:=by
 obtain ⟨S,hS⟩:∃ S,S=oT a b:=⟨_,rfl⟩
 rw [<- hS]
 unfold oT at hS
 simp only [V.cs]
 refine He mx aaE.bd Tryz.func242 rfl (by rw [aaE.nt];exact Nat.le_of_ble_eq_true rfl) (dr:=[(1,.take 0<| .take 2<| .eff 1 false (.eff 3 false (.eff 4 true (.eff 5 true (.done)<| .no)<| .no)<| .no)<| .no),(2,.take 0<| .take 2<| .take 5<| .take 7<| .take 10<| .take 12<| .take 1<| .take 3<| .take 6<| .take 8<| .take 11<| .take 13<| .eff 4 false (.eff 9 false (.eff 14 false (.eff 15 false (.eff 16 false (.take 17<| .done)<| .no)<| .no)<| .no)<| .no)<| .no)]) (by kernel_rfl) aaE.rs ?_
 intro _ _
 simp +contextual only [go_sem,sevalprocAttr]
 intro b1 T1 fD cV ig b2 T2 ey gx dV fG
 refine aU ?_
 simp +contextual only [go_sem,sevalprocAttr,gx,aA fD,aA ey]
 refine aP (lB a _) ?_
 simp +contextual only [go_sem,sevalprocAttr]
 refine ⟨fZ.refl _,?_⟩
 refine aP (lB b _) ?_
 simp +contextual only [go_sem,sevalprocAttr,gx]
 refine ⟨fZ.refl _,?_⟩
 refine aU ?_
 simp +contextual only [go_sem,sevalprocAttr,gx,aA fD,aA ey]
 refine aP (Ko _ _ _) ?_
 simp +contextual only [go_sem,sevalprocAttr]
 refine ⟨fZ.refl _,?_⟩
 refine aP (Na _ _ _) ?_
 simp +contextual only [go_sem,sevalprocAttr]
 refine ⟨fZ.refl _,?_⟩
 refine aP (Uo _ _ _) ?_
 simp +contextual only [go_sem,sevalprocAttr]
 refine ⟨fZ.refl _,?_⟩
 intro b9 lu eN
 refine ⟨dX bh.rfl' ⟨ey,fD,trivial⟩ ⟨eN.1,eN.2,trivial⟩,?_⟩
 refine di aec.bd fun M1 aV hb bi=> ?_
 refine aP (aeY (cK (fun _ _=>bV) hb (l:=[jl (fY a).k (fY b).k,jl (fY a).n (fY b).n,aaf (fY a).t (fY b).t]) ⟨[_],_,rfl,rfl,[_],_,rfl,rfl,[_],_,rfl,rfl,rfl⟩ rfl (by simp)) _) ?_
 simp +contextual only [go_sem,sevalprocAttr]
 refine ⟨em aV bi,?_⟩
 refine am (cV.trans dV) (cS ?_)
 have h0:∀ x,j4 x 0=x:=by intro x;unfold j4;split<;>omega
 simp only [hS,List.foldr,h0]
theorem AJ (a b:V)(T:Tm):cw Tryz.prog 295 [.agg ⟨a.cs⟩,.agg ⟨b.cs⟩] T M [] [] (fun r _ _ _=>r=.agg ⟨(G0 a b).cs⟩) aO:=by
 obtain ⟨S,hS⟩:∃ S,S=G0 a b:=⟨_,rfl⟩
 rw [<- hS]
 unfold G0 at hS
 refine aC agy rfl rfl ?_
 intro _ _
 simp +contextual only [go_sem,sevalprocAttr,V.cs]
 intro b1 T1 fD cV ig b2 T2 ey gx dV fG b4 T4 dI dY fj gH
 refine aP (BJ a b _) ?_
 have hT:=(cV.trans dV).trans fj
 cases GI:ui a b with
 | true=>
  rw [GI,if_pos rfl] at hS
  simp +contextual only [go_sem,aE,sevalprocAttr,gx,dY,aA fD,aA ey]
  refine aP (jq a b _) ?_
  simp +contextual only [go_sem,sevalprocAttr]
  refine aP (s4 _ _) ?_
  simp +contextual only [go_sem,sevalprocAttr,aA dI,V.cs]
  exact am hT (by subst hS;rfl)
 | false=>
  rw [GI,if_neg Bool.false_ne_true] at hS
  simp +contextual only [go_sem,aE,sevalprocAttr]
  refine aP (fL _) ?_
  simp +contextual only [go_sem,sevalprocAttr,aA dI]
  exact am hT (by subst hS;rfl)
theorem rX (a b:V)(T:Tm):cw Tryz.prog 296 [.agg ⟨a.cs⟩,.agg ⟨b.cs⟩] T M [] [] (fun r _ _ _=>r=.agg ⟨(sM a b).cs⟩) aO:=by
 obtain ⟨S,hS⟩:∃ S,S=sM a b:=⟨_,rfl⟩
 rw [<- hS]
 unfold sM at hS
 refine aC agO rfl rfl ?_
 intro _ _
 simp +contextual only [go_sem,sevalprocAttr,V.cs]
 intro b1 T1 fD cV ig b2 T2 ey gx dV fG b4 T4 dI dY fj gH
 refine aP (BJ a b _) ?_
 have hT:=(cV.trans dV).trans fj
 cases GI:ui a b with
 | true=>
  rw [GI,if_pos rfl] at hS
  simp +contextual only [go_sem,aE,sevalprocAttr,gx,dY,aA fD,aA ey]
  refine aP (jq a b _) ?_
  simp +contextual only [go_sem,sevalprocAttr]
  refine aP (s4 _ _) ?_
  simp +contextual only [go_sem,sevalprocAttr,aA dI,V.cs]
  exact am hT (by subst hS;rfl)
 | false=>
  rw [GI,if_neg Bool.false_ne_true] at hS
  simp +contextual only [go_sem,aE,sevalprocAttr]
  refine aP (fL _) ?_
  simp +contextual only [go_sem,sevalprocAttr,aA dI]
  exact am hT (by subst hS;rfl)
theorem nD (a:V)(T:Tm):cw Tryz.prog 246 [.agg ⟨a.cs⟩] T M [] [] (fun r _ _ _=>r=.int .i64 (mN a)) aO:=by
 obtain ⟨S,hS⟩:∃ S,S=mN a:=⟨_,rfl⟩
 rw [<- hS]
 unfold mN at hS
 refine aC ag0 rfl rfl ?_
 intro _ _
 simp +contextual only [go_sem,aE,sevalprocAttr,V.cs]
 intro b1 T1 fD cV ig
 by_cases h:a.k=2
 ·rw [if_pos h] at hS
  simp +contextual only [go_sem,sevalprocAttr,h]
  exact am cV (by subst hS;rfl)
 ·rw [if_neg h] at hS
  simp +contextual only [go_sem,sevalprocAttr,h]
  exact am cV (by subst hS;rfl)
theorem ry (n:Int)(T:Tm):cw Tryz.prog 293 [.int .i64 n] T M [] [] (fun r _ _ _=>r=.agg ⟨(l5 n).cs⟩) aO:=by
 obtain ⟨S,hS⟩:∃ S,S=l5 n:=⟨_,rfl⟩
 rw [<- hS]
 unfold l5 at hS
 refine aC ajK rfl rfl ?_
 intro _ _
 simp +contextual only [go_sem,aE,sevalprocAttr]
 intro b1 T1 fD cV ig
 by_cases h:n=1
 ·rw [if_pos h] at hS
  simp +contextual only [go_sem,sevalprocAttr,h]
  refine aP (fL _) ?_
  simp +contextual only [go_sem,sevalprocAttr,aA fD,V.cs]
  exact am cV (by subst hS;rfl)
 ·rw [if_neg h] at hS
  simp +contextual only [go_sem,sevalprocAttr,h]
  refine aP (s4 (decide (n=2)) _) ?_
  simp +contextual only [go_sem,sevalprocAttr,aA fD,V.cs]
  exact am cV (by subst hS;rfl)
theorem WV (a b:V)(T:Tm):cw Tryz.prog 249 [.agg ⟨a.cs⟩,.agg ⟨b.cs⟩] T M [] [] (fun r _ _ _=>r=.agg ⟨(V7 a b).cs⟩) aO:=by
 obtain ⟨S,hS⟩:∃ S,S=V7 a b:=⟨_,rfl⟩
 rw [<- hS]
 unfold V7 at hS
 refine aC ahi rfl rfl ?_
 intro _ _
 simp +contextual only [go_sem,sevalprocAttr,V.cs]
 intro b1 T1 fD cV ig b2 T2 ey gx dV fG b4 T4 dI dY fj gH
 refine aU ?_
 simp +contextual only [go_sem,sevalprocAttr,gx,dY,aA fD,aA ey]
 refine aP (nD a _) ?_
 simp +contextual only [go_sem,sevalprocAttr]
 refine ⟨fZ.refl _,?_⟩
 refine aP (nD b _) ?_
 simp +contextual only [go_sem,sevalprocAttr]
 refine ⟨fZ.refl _,?_⟩
 refine ⟨fZ.refl _,?_⟩
 refine aP (ry _ _) ?_
 simp +contextual only [go_sem,sevalprocAttr,aA dI,V.cs]
 refine ⟨fZ.refl _,?_⟩
 exact am ((cV.trans dV).trans fj) (by subst hS;rfl)
theorem Z7 (a b:V)(T:Tm):cw Tryz.prog 250 [.agg ⟨a.cs⟩,.agg ⟨b.cs⟩] T M [] [] (fun r _ _ _=>r=.agg ⟨(orV a b).cs⟩) aO:=by
 obtain ⟨S,hS⟩:∃ S,S=orV a b:=⟨_,rfl⟩
 rw [<- hS]
 unfold orV at hS
 refine aC ahI rfl rfl ?_
 intro _ _
 simp +contextual only [go_sem,sevalprocAttr,V.cs]
 intro b1 T1 fD cV ig b2 T2 ey gx dV fG b4 T4 dI dY fj gH
 refine aU ?_
 simp +contextual only [go_sem,sevalprocAttr,gx,dY,aA fD,aA ey]
 refine aP (nD a _) ?_
 simp +contextual only [go_sem,sevalprocAttr]
 refine ⟨fZ.refl _,?_⟩
 refine aP (nD b _) ?_
 simp +contextual only [go_sem,sevalprocAttr]
 refine ⟨fZ.refl _,?_⟩
 refine ⟨fZ.refl _,?_⟩
 refine aP (ry _ _) ?_
 simp +contextual only [go_sem,sevalprocAttr,aA dI,V.cs]
 refine ⟨fZ.refl _,?_⟩
 exact am ((cV.trans dV).trans fj) (by subst hS;rfl)
theorem wk (a:V)(T:Tm):cw Tryz.prog 248 [.agg ⟨a.cs⟩] T M [] [] (fun r _ _ _=>r=.agg ⟨(H1 a).cs⟩) aO:=by
 obtain ⟨S,hS⟩:∃ S,S=H1 a:=⟨_,rfl⟩
 rw [<- hS]
 unfold H1 at hS
 refine aC ahv rfl rfl ?_
 intro _ _
 simp +contextual only [go_sem,sevalprocAttr,V.cs]
 intro b1 T1 fD cV ig b2 T2 ey gx dV fG
 refine aP (nD a _) ?_
 simp +contextual only [go_sem,sevalprocAttr]
 refine aP (ry _ _) ?_
 simp +contextual only [go_sem,sevalprocAttr,aA ey,V.cs]
 exact am (cV.trans dV) (by subst hS;rfl)
theorem xQ (a:V)(T:Tm):cw Tryz.prog 204 [.agg ⟨a.cs⟩] T M [] [] (fun r _ _ _=>r=.bool (sU a)) aO:=by
 unfold sU
 refine aC ajr rfl rfl ?_
 intro _ _
 simp +contextual only [go_sem,sevalprocAttr,V.cs]
 intro b1 T1 fD cV ig
 refine aP (nD a _) ?_
 simp +contextual only [go_sem,sevalprocAttr]
 exact am cV rfl
theorem Qj (a b:V)(ha:a.t.length<=1099511627776)(hb:b.t.length<=1099511627776)(T:Tm):cw Tryz.prog 252 [.agg ⟨a.cs⟩,.agg ⟨b.cs⟩] T M [] [] (fun r _ _ _=>r=.agg ⟨(Bz a b).cs⟩) aO:=by
 have hw:IntKind.i64.wrap ((a.t.length:Int)+b.t.length)=(a.t.length:Int)+b.t.length:=bJ (by omega) (by omega)
 obtain ⟨S,hS⟩:∃ S,S=Bz a b:=⟨_,rfl⟩
 rw [<- hS]
 unfold Bz at hS
 refine aC ajI rfl rfl ?_
 intro _ _
 simp +contextual only [go_sem,aE,sevalprocAttr,V.cs]
 intro b1 T1 fD cV ig b2 T2 ey gx dV fG b4 T4 dI dY fj gH
 have hT:=(cV.trans dV).trans fj
 rw [hw]
 by_cases h1:(a.k=4/\b.k=4)/\a.t.length+b.t.length<=60
 ·rw [if_pos h1] at hS
  rw [if_neg (by omega)]
  have h2:a.t.length+b.t.length<=9223372036854775807:=by omega
  simp +contextual only [go_sem,sevalprocAttr,aA dI,h2,uA]
  exact am hT (by subst hS;rfl)
 ·rw [if_neg h1] at hS
  rw [if_pos (by omega)]
  refine aP (fL _) ?_
  simp +contextual only [go_sem,sevalprocAttr,aA dI]
  exact am hT (by subst hS;rfl)
theorem rE (s:Int)(a b:V)(T:Tm):cw Tryz.prog 251 [.int .i32 s,.agg ⟨a.cs⟩,.agg ⟨b.cs⟩] T M [] [] (fun r _ _ _=>r=.agg ⟨(uX s a b).cs⟩) aO:=by
 obtain ⟨S,hS⟩:∃ S,S=uX s a b:=⟨_,rfl⟩
 rw [<- hS]
 unfold uX at hS
 refine aC ajU rfl rfl ?_
 intro _ _
 simp +contextual only [go_sem,aE,sevalprocAttr,V.cs]
 intro b1 T1 fD cV ig b2 T2 ey gx dV fG b4 T4 dI dY fj gH
 have hT:=(cV.trans dV).trans fj
 by_cases h1:a.k=3/\b.k=3
 rotate_left
 ·have qC:¬a.k=3\/¬b.k=3:=by omega
  rw [if_neg h1] at hS
  rw [if_pos qC]
  refine aP (fL _) ?_
  simp +contextual only [go_sem,sevalprocAttr,aA dI]
  exact am hT (by subst hS;rfl)
 have qC:¬(¬a.k=3\/¬b.k=3):=by omega
 rw [if_pos h1] at hS
 rw [if_neg qC]
 refine aU ?_
 simp +contextual only [go_sem,aE,sevalprocAttr,gx,dY,aA fD,aA ey]
 by_cases s1:s=43
 ·rw [if_pos s1] at hS
  simp +contextual only [go_sem,sevalprocAttr,s1]
  refine aP (qu _ _) ?_
  simp +contextual only [go_sem,sevalprocAttr,aA dI,V.cs]
  exact am hT (by subst hS;rfl)
 rw [if_neg s1] at hS
 by_cases s2:s=45
 ·rw [if_pos s2] at hS
  simp +contextual only [go_sem,sevalprocAttr,s2]
  refine aP (qu _ _) ?_
  simp +contextual only [go_sem,sevalprocAttr,aA dI,V.cs]
  exact am hT (by subst hS;rfl)
 rw [if_neg s2] at hS
 by_cases s3:s=42
 ·simp +contextual only [go_sem,sevalprocAttr,s3]
  rw [if_pos s3] at hS
  obtain ⟨p,hp⟩:∃ p,p=IntKind.i64.wrap (a.n*b.n):=⟨_,rfl⟩
  rw [<- hp] at hS ⊢
  by_cases h0:a.n=0
  ·have hS:S=yH p:=by rw [hS];exact if_pos (.inl h0)
   simp +contextual only [go_sem,aE,sevalprocAttr,h0]
   refine aP (qu _ _) ?_
   simp +contextual only [go_sem,sevalprocAttr,aA dI,V.cs]
   exact am hT (by subst hS;rfl)
  ·have hq:qW .quo .i64 p a.n=some (.int .i64 (IntKind.i64.wrap (p.tdiv a.n))):=by simp [qW,h0]
   by_cases hc:(IntKind.i64.wrap (p.tdiv a.n)=b.n/\p<=1000000000000000)/\p>= -1000000000000000
   ·have hS:S=yH p:=by rw [hS];exact if_pos (.inr hc)
    obtain ⟨⟨c1,c2⟩,c3⟩:=hc
    simp +contextual only [go_sem,aE,sevalprocAttr,h0,hq,c1,c2,c3]
    refine aP (qu _ _) ?_
    simp +contextual only [go_sem,sevalprocAttr,aA dI,V.cs]
    exact am hT (by subst hS;rfl)
   ·have hS:S=fT:=by rw [hS];exact if_neg (fun h=>h.elim h0 hc)
    simp +contextual only [go_sem,aE,sevalprocAttr,h0,hq]
    rw [if_neg hc]
    refine aP (fL _) ?_
    simp +contextual only [go_sem,sevalprocAttr,aA dI]
    exact am hT (by subst hS;rfl)
 rw [if_neg s3] at hS
 simp +contextual only [go_sem,sevalprocAttr,s1,s2,s3]
 refine aP (fL _) ?_
 simp +contextual only [go_sem,sevalprocAttr,aA dI]
 exact am hT (by subst hS;rfl)
theorem mS {a b:List V}{av bv:Value}(ha:RS M RV 3 a av)(hb:RS M RV 3 b bv)(T:Tm):cw Tryz.prog 196 [av,bv] T M [] [] (fun r _ _ _=>r=.int .i64 (ip a b)) aO:=by
 obtain ⟨fS,a1,c1,rfl,dJ,_,hg⟩:=aF (by decide) (fun _ _=>fO) ha
 obtain ⟨r6,a2,c2,rfl,mz,_,tg⟩:=aF (by decide) (fun _ _=>fO) hb
 refine aC ahs rfl rfl ?_
 intro bi _
 simp +contextual only [go_sem,aE,sevalprocAttr]
 refine aY a.length 10 [(0,.slice a1 a.length c1),(1,.slice a2 b.length c2),(8,.slice a1 a.length c1),(9,.int .i64 (a.length:Int))] (fun i e h=>∃ N' M',aH T N'/\bh M M'/\h=⟨N',M',[],[]⟩/\i<=b.length/\ip (a.drop i) (b.drop i)=ip a b) 0 (by omega) (by simp only [aG,go_sem,sevalprocAttr]) (by simp only [go_sem,sevalprocAttr]) ⟨T,M,aH.rfl',bh.rfl',rfl,by omega,rfl⟩ ?_
 rintro i e h hi aI ht ⟨T1,M1,cV,aV,rfl,hib,ax⟩
 simp only [aG] at aI
 by_cases aN:i<a.length
 ·obtain ⟨b1,o1,cs1,rfl,Ch,vC⟩:=hg i a[i] (gq aN)
  have hda:a.drop i=a[i]::a.drop (i+1):=dq aN
  unfold RV V.cs at vC;subst vC
  obtain ⟨y0,y1,y2,_⟩:=Ch.ext aV
  rw [hda] at ax
  simp +contextual only [go_sem,aE,sevalprocAttr,aI,ht,aN,y0,y1,y2]
  intro b6 T6 oZ sK BX
  by_cases vt:i=b.length
  ·subst vt
   rw [List.drop_length,ip] at ax
   rw [if_pos rfl]
   exact am (cV.trans sK) (cS ax)
  ·have hlb:i<b.length:=by omega
   obtain ⟨b2,o2,cs2,rfl,kf,wu⟩:=tg i b[i] (gq hlb)
   have hdb:b.drop i=b[i]::b.drop (i+1):=dq hlb
   unfold RV V.cs at wu;subst wu
   obtain ⟨z0,z1,z2,_⟩:=kf.ext aV
   rw [hdb,ip] at ax
   rw [if_neg (by omega)]
   refine aU ?_
   simp +contextual only [go_sem,sevalprocAttr,aI,hlb,z0,z1,z2,aA oZ]
   refine aP (jq a[i] b[i] _) ?_
   by_cases h0:oT a[i] b[i]=0
   ·rw [h0] at ax ⊢
    simp +contextual only [go_sem,aE,sevalprocAttr,ht]
    refine aR (cX (az ⟨a.length - (i+1),by omega,rfl,i+1,by omega,rfl,?_,?_,T6,M1,cV.trans sK,aV,rfl,by omega,ax⟩))
    ·simp only [aG,aI,go_sem,sevalprocAttr]
    ·simp only [go_sem,sevalprocAttr,aB i (by omega)]
   ·simp +contextual only [go_sem,aE,sevalprocAttr,h0]
    refine am (cV.trans sK) (cS ?_)
    rw [<- ax,j4,if_pos h0]
 ·have:i=a.length:=by omega
  subst this
  rw [List.drop_length] at ax
  simp +contextual only [go_sem,aE,sevalprocAttr,aI,ht,aN]
  refine aP (Ko _ _ _) ?_
  simp +contextual only [go_sem,sevalprocAttr]
  refine am cV (cS ?_)
  rw [<- ax]
  cases hd:b.drop a.length with
  | nil=>
   have:=congrArg List.length hd
   simp only [List.length_drop,List.length_nil] at this
   unfold jl ip
   rw [if_neg (by omega),if_neg (by omega)]
  | cons y l=>
   have:=congrArg List.length hd
   simp only [List.length_drop,List.length_cons] at this
   unfold jl ip
   rw [if_pos (by omega)]
end Go.Proofs.YtmccpbcbofhmlaaGreatDoor

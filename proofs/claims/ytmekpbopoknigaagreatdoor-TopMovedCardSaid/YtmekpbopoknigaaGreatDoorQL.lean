import Derived.Test.YtmekpbopoknigaaGreatDoorQK
import Derived.Test.YtmekpbopoknigaaGreatDoorQH
import Derived.Test.YtmekpbopoknigaaGreatDoorProg
import Derived.KernelRfl
import Derived.ProofKit
import Derived.Carry
import Derived.Lib.SmallJoins
import Derived.Deep.Fields
import Derived.Deep.Slices
import Derived.Deep.SlicePairs
import Derived.WideShapes
import Derived.Laws.Bits64
import Derived.Laws.BitsLemmas
namespace Go.Proofs.YtmekpbopoknigaaGreatDoor.Dyn
open Go Go.RowKit Sym
def ixOf:List Nat->Nat->Nat->Option Nat
 |[],_,_=>none
 |m::l,k,n=>bif Nat.beq m n then some k else ixOf l (k+1) n
def mvP(σ:List Nat):Value->Option Value
 |.pointer (some a)=>match ixOf σ 0 a.block with
  |some n=>some (.pointer (some ⟨n,a.off,a.spot⟩))
  |none=>none
 |.slice (some a) l c=>match ixOf σ 0 a.block with
  |some n=>some (.slice (some ⟨n,a.off,a.spot⟩) l c)
  |none=>none
 |.map (some _)=>none
 |.chan (some _)=>none
 |x=>some x
def mvL(f:Value->Option Value):List Value->Option (List Value)
 |[]=>some []
 |x::l=>match f x,mvL f l with
  |some y,some m=>some (y::m)
  |_,_=>none
def mv0(σ:List Nat):Value->Option Value
 |.func fn fst caps=>match mvL (mvP σ) caps.toList with
  |some l=>some (.func fn fst l.toArray)
  |none=>none
 |x=>mvP σ x
def mv1(σ:List Nat):Value->Option Value
 |.agg cs=>match mvL (mv0 σ) cs.toList with
  |some l=>some (.agg l.toArray)
  |none=>none
 |x=>mv0 σ x
def mv(σ:List Nat):Value->Option Value
 |.tuple vs=>match mvL (mv1 σ) vs.toList with
  |some l=>some (.tuple l.toArray)
  |none=>none
 |x=>mv1 σ x
def mvSV(σ:List Nat):SV->SV
 |.k x=>.k x
 |.v x=>match mv σ x with
  |some y=>.v y
  |none=>.junk
 |.ix n off i len size=>match ixOf σ 0 n with
  |some m=>.ix m off i len size
  |none=>.junk
 |.ex n j off size i=>match ixOf σ 0 n with
  |some m=>.ex m j off size i
  |none=>.junk
 |.hp n j off=>match ixOf σ 0 n with
  |some m=>.hp m j off
  |none=>.junk
 |_=>.junk
def mvHE(σ:List Nat):Option HE->Option HE
 |some (.cells t cs)=>match mvL (mv0 σ) cs with
  |some l=>some (.cells t l)
  |none=>some .gone
 |some (.mp _ _)=>some .gone
 |x=>x
def zfb(σ:List Nat)(j v:Nat):Nat->List SV->List SV
 |_,[]=>[]
 |i,x::xs=>(if j.testBit i then .junk else if v.testBit i then(match x with|.k u=>if flat u then .v u else .junk|y=>mvSV σ y)else mvSV σ x)::zfb σ j v (i+1) xs
def zkk(σ:List Nat)(h:List (Option HE)):List Nat->List (Option HE)
 |[]=>[]
 |n::l=>mvHE σ (h.getD n none)::zkk σ h l
def zma(σ:List Nat)(j v:Nat)(s:St):St:={slots:=zfb σ j v 0 s.slots,heap:=zkk σ s.heap σ,fix:=s.fix}
def pull(σ:List Nat)(β:Env):Env:=λn=>β (σ.getD n 0)
theorem zg2:∀{σ:List Nat} {k n m:Nat},ixOf σ k n=some m->k<=m/\σ[m-k]? = some n
 |[],k,n,m,h=>by cases h
 |q::σ,k,n,m,h=>by
  simp only[ixOf]at h
  cases hb:Nat.beq q n with
  |true=>
   rw[hb]at h
   simp only[cond_true,Option.some.injEq]at h;subst h
   have:=Nat.eq_of_beq_eq_true hb
   subst this
   simp
  |false=>
   rw[hb]at h
   obtain⟨h1,h2⟩:=zg2 (σ:=σ) (k:=k+1) h
   refine⟨by omega,?_⟩
   rw[show m-k=(m-(k+1))+1 by omega,List.getElem?_cons_succ];exact h2
theorem zko{σ:List Nat}{β:Env}{n m:Nat}(h:ixOf σ 0 n=some m):pull σ β m=β n/\m<σ.length:=by
 obtain⟨_,h2⟩:=zg2 h
 rw[Nat.sub_zero]at h2
 refine⟨by unfold pull;rw[List.getD_eq_getElem?_getD,h2];rfl,(List.getElem?_eq_some_iff.1 h2).1⟩
def MvOk(σ:List Nat)(ren:Env->Value->Value)(refs:Value->List Nat)(x y:Value):Prop:=(∀β,ren (pull σ β) y=ren β x)/\∀m∈refs y,∃n∈refs x,σ[m]? = some n
theorem ykc{σ:List Nat}{x y:Value}(h:mvP σ x=some y):MvOk σ renP zbc x y:=by
 unfold mvP at h
 split at h
 ·rename_i a
  split at h
  ·rename_i n hn
   simp only[Option.some.injEq]at h;subst h
   refine⟨λβ=>?_,λm hm=>?_⟩
   ·have:=(zko (β:=β) hn).1
    simp only[renP];rw[this]
   ·simp only[zbc,List.mem_singleton]at hm;subst hm
    have:=(zg2 hn).2
    exact⟨a.block,by simp[zbc],by simpa using this⟩
  ·cases h
 ·rename_i a l c
  split at h
  ·rename_i n hn
   simp only[Option.some.injEq]at h;subst h
   refine⟨λβ=>?_,λm hm=>?_⟩
   ·have:=(zko (β:=β) hn).1
    simp only[renP];rw[this]
   ·simp only[zbc,List.mem_singleton]at hm;subst hm
    have:=(zg2 hn).2
    exact⟨a.block,by simp[zbc],by simpa using this⟩
  ·cases h
 ·cases h
 ·cases h
 ·rename_i h1 h2 h3 h4
  simp only[Option.some.injEq]at h;subst h
  cases x with
  |pointer a=>cases a with
   |none=>exact⟨λβ=>rfl,λm hm=>by cases hm⟩
   |some a=>exact absurd rfl (h1 a)
  |slice a l c=>cases a with
   |none=>exact⟨λβ=>rfl,λm hm=>by cases hm⟩
   |some a=>exact absurd rfl (h2 a l c)
  |map a=>cases a with
   |none=>exact⟨λβ=>rfl,λm hm=>by cases hm⟩
   |some a=>exact absurd rfl (h3 a)
  |chan a=>cases a with
   |none=>exact⟨λβ=>rfl,λm hm=>by cases hm⟩
   |some a=>exact absurd rfl (h4 a)
  |_=>exact⟨λβ=>rfl,λm hm=>by cases hm⟩
theorem ztx{σ:List Nat}{ren:Env->Value->Value}{refs:Value->List Nat}{f:Value->Option Value}(hf:∀x y,f x=some y->MvOk σ ren refs x y):∀{l m:List Value},mvL f l=some m->(∀β,m.map (ren (pull σ β))=l.map (ren β))/\∀q∈zdt refs m,∃n∈zdt refs l,σ[q]? = some n
 |[],m,h=>by
  simp only[mvL,Option.some.injEq]at h;subst h
  exact⟨λ_=>rfl,λq hq=>by cases hq⟩
 |x::l,m,h=>by
  simp only[mvL]at h
  split at h
  ·rename_i y m' hy hm
   simp only[Option.some.injEq]at h;subst h
   obtain⟨a1,a2⟩:=hf x y hy
   obtain⟨b1,b2⟩:=ztx hf hm
   refine⟨λβ=>by rw[List.map_cons,List.map_cons,a1 β,b1 β],λq hq=>?_⟩
   simp only[zdt,List.mem_append]at hq ⊢
   rcases hq with hq|hq
   ·obtain⟨n,h1,h2⟩:=a2 q hq;exact⟨n,.inl h1,h2⟩
   ·obtain⟨n,h1,h2⟩:=b2 q hq;exact⟨n,.inr h1,h2⟩
  ·cases h
theorem z26{σ:List Nat}{x y:Value}(h:mv0 σ x=some y):MvOk σ ren0 zaz x y:=by
 unfold mv0 at h
 split at h
 ·rename_i fn fst caps
  split at h
  ·rename_i l hl
   simp only[Option.some.injEq]at h;subst h
   obtain⟨h1,h2⟩:=ztx (λx y=>ykc) hl
   exact⟨λβ=>by simp only[ren0,h1 β],h2⟩
  ·cases h
 ·rename_i hx
  obtain⟨h1,h2⟩:=ykc h
  have hy:∀a b c,y≠.func a b c:=by
   intro a b c e;subst e
   unfold mvP at h
   split at h
   ·split at h<;>cases h
   ·split at h<;>cases h
   ·cases h
   ·cases h
   ·simp only[Option.some.injEq]at h;exact hx _ _ _ h
  have e1:∀β z,(∀a b c,z≠Value.func a b c)->ren0 β z=renP β z/\zaz z=zbc z:=λβ z hz=>by
   cases z<;>first|exact⟨rfl,rfl⟩|exact absurd rfl (hz _ _ _)
  refine⟨λβ=>by rw[(e1 _ y hy).1,(e1 _ x hx).1,h1 β],λm hm=>?_⟩
  rw[(e1 (λ_=>(0,λ_=>undef)) y hy).2]at hm
  rw[(e1 (λ_=>(0,λ_=>undef)) x hx).2]
  exact h2 m hm
theorem yau{σ:List Nat}{x y:Value}(h:mv0 σ x=some y):(∀cs,y=.agg cs->x=.agg cs)/\(∀vs,y=.tuple vs->x=.tuple vs):=by
 unfold mv0 at h
 split at h
 ·split at h
  ·simp only[Option.some.injEq]at h;subst h
   exact⟨λ_ e=>(by cases e),λ_ e=>(by cases e)⟩
  ·cases h
 ·unfold mvP at h
  split at h
  ·split at h
   ·simp only[Option.some.injEq]at h;subst h
    exact⟨λ_ e=>(by cases e),λ_ e=>(by cases e)⟩
   ·cases h
  ·split at h
   ·simp only[Option.some.injEq]at h;subst h
    exact⟨λ_ e=>(by cases e),λ_ e=>(by cases e)⟩
   ·cases h
  ·cases h
  ·cases h
  ·simp only[Option.some.injEq]at h;subst h
   exact⟨λ_ e=>e,λ_ e=>e⟩
theorem ykd{σ:List Nat}{x y:Value}(h:mv1 σ x=some y):MvOk σ ren1 zbk x y:=by
 unfold mv1 at h
 split at h
 ·rename_i cs
  split at h
  ·rename_i l hl
   simp only[Option.some.injEq]at h;subst h
   obtain⟨h1,h2⟩:=ztx (λx y=>z26) hl
   exact⟨λβ=>by simp only[ren1,h1 β],h2⟩
  ·cases h
 ·rename_i hx
  obtain⟨h1,h2⟩:=z26 h
  have hy:∀cs,y≠.agg cs:=λcs e=>hx cs ((yau h).1 cs e)
  have e1:∀β z,(∀a,z≠Value.agg a)->ren1 β z=ren0 β z/\zbk z=zaz z:=λβ z hz=>by
   cases z<;>first|exact⟨rfl,rfl⟩|exact absurd rfl (hz _)
  refine⟨λβ=>by rw[(e1 _ y hy).1,(e1 _ x hx).1,h1 β],λm hm=>?_⟩
  rw[(e1 (λ_=>(0,λ_=>undef)) y hy).2]at hm
  rw[(e1 (λ_=>(0,λ_=>undef)) x hx).2]
  exact h2 m hm
theorem mv_ok{σ:List Nat}{x y:Value}(h:mv σ x=some y):MvOk σ ren refs x y:=by
 unfold mv at h
 split at h
 ·rename_i vs
  split at h
  ·rename_i l hl
   simp only[Option.some.injEq]at h;subst h
   obtain⟨h1,h2⟩:=ztx (λx y=>ykd) hl
   exact⟨λβ=>by simp only[ren,h1 β],h2⟩
  ·cases h
 ·rename_i hx
  obtain⟨h1,h2⟩:=ykd h
  have hy:∀vs,y≠.tuple vs:=λvs e=>by
   subst e
   unfold mv1 at h
   split at h
   ·split at h<;>cases h
   ·exact hx vs ((yau h).2 vs rfl)
  have e1:∀β z,(∀a,z≠Value.tuple a)->ren β z=ren1 β z/\refs z=zbk z:=λβ z hz=>by
   cases z<;>first|exact⟨rfl,rfl⟩|exact absurd rfl (hz _)
  refine⟨λβ=>by rw[(e1 _ y hy).1,(e1 _ x hx).1,h1 β],λm hm=>?_⟩
  rw[(e1 (λ_=>(0,λ_=>undef)) y hy).2]at hm
  rw[(e1 (λ_=>(0,λ_=>undef)) x hx).2]
  exact h2 m hm
theorem zlt(σ:List Nat)(j v:Nat):∀(l:List SV) (i:Nat),(zfb σ j v i l).length=l.length
 |[],_=>rfl
 |_::l,i=>by simp only[zfb,List.length_cons];rw[zlt σ j v l (i+1)]
theorem zk9(σ:List Nat)(j v:Nat):∀(l:List SV) (i n:Nat),(zfb σ j v i l).getD n .junk=.junk\/(∃u,l.getD n .junk=.k u/\flat u=true/\(zfb σ j v i l).getD n .junk=.v u)\/(zfb σ j v i l).getD n .junk=mvSV σ (l.getD n .junk)
 |[],i,n=>by simp[zfb]
 |x::l,i,0=>by
  simp only[zfb,List.getD_cons_zero]
  split
  ·exact .inl rfl
  ·split
   ·split
    ·rename_i u
     split
     ·rename_i hf;exact .inr (.inl ⟨u,rfl,hf,rfl⟩)
     ·exact .inl rfl
    ·exact .inr (.inr rfl)
   ·exact .inr (.inr rfl)
 |x::l,i,n+1=>by
  simp only[zfb,List.getD_cons_succ]
  exact zk9 σ j v l (i+1) n
theorem zrm(σ:List Nat)(h:List (Option HE)):∀(l:List Nat) (n:Nat),(zkk σ h l).getD n none=match l[n]? with
  |some q=>mvHE σ (h.getD q none)
  |none=>none
 |[],n=>by simp[zkk]
 |q::l,0=>by simp[zkk]
 |q::l,n+1=>by
  simp only[zkk,List.getD_cons_succ,List.getElem?_cons_succ]
  exact zrm σ h l n
section
variable{P:Program}{w0:Base P}{w:World}{β:Env}{s:St}{a:Act}
theorem zz2(σ:List Nat)(j v:Nat)(s:St):NoG (zma σ j v s):=by
 intro x hx
 obtain⟨n,hn⟩:=List.mem_iff_getElem?.1 hx
 have e:(zfb σ j v 0 s.slots).getD n .junk=x:=by
  have hn':(zfb σ j v 0 s.slots)[n]? = some x:=hn
  rw[List.getD_eq_getElem?_getD,hn'];rfl
 rcases zk9 σ j v s.slots 0 n with h|⟨u,_,_,h⟩|h
 ·rw[←e,h];rfl
 ·rw[←e,h];rfl
 ·rw[←e,h]
  generalize s.slots.getD n .junk=y
  cases y<;>simp only[mvSV]<;>first|rfl|(split<;>rfl)
theorem z9w{σ:List Nat}(hσ:σ.Nodup)(j v:Nat)(m:M w0 β s a w)(ng:NoG s):M w0 (pull σ β) (zma σ j v s) a w:=by
 have hp:∀n q,σ[n]? = some q->pull σ β n=β q:=λn q h=>by unfold pull;rw[List.getD_eq_getElem?_getD,h];rfl
 have hold:∀n he,(zkk σ s.heap σ).getD n none=some he->∃q he0,σ[n]? = some q/\s.heap.getD q none=some he0/\(he=.gone\/he=he0/\((∀t cs,he≠.cells t cs)/\∀v i,he≠.mp v i)\/∃t cs cs',he0=.cells t cs/\he=.cells t cs'/\mvL (mv0 σ) cs=some cs'):=λn he hn=>by
  rw[zrm]at hn
  split at hn
  ·rename_i q hq
   refine⟨q,?_⟩
   unfold mvHE at hn
   split at hn
   ·rename_i t cs hc
    split at hn
    ·rename_i l hl
     simp only[Option.some.injEq]at hn
     exact⟨_,hq,hc,.inr (.inr ⟨t,cs,l,rfl,hn.symm,hl⟩)⟩
    ·simp only[Option.some.injEq]at hn
     exact⟨_,hq,hc,.inl hn.symm⟩
   ·rename_i v i hc
    simp only[Option.some.injEq]at hn
    exact⟨_,hq,hc,.inl hn.symm⟩
   ·rename_i hnc hnm
    exact⟨he,hq,hn,.inr (.inl ⟨rfl,λt cs e=>hnc t cs (by rw[hn,e]),λv i e=>hnm v i (by rw[hn,e])⟩)⟩
  ·cases hn
 have hblk:∀n he b,(zkk σ s.heap σ).getD n none=some he->zc8 he (pull σ β n)=some b->∃q he0,σ[n]? = some q/\s.heap.getD q none=some he0/\zc8 he0 (β q)=some b:=λn he b hn hb=>by
  obtain⟨q,he0,h1,h2,h3⟩:=hold n he hn
  rw[hp n q h1]at hb
  rcases h3 with rfl|⟨rfl,_⟩|⟨t,cs,cs',rfl,rfl,_⟩
  ·cases hb
  ·exact⟨q,he,h1,h2,hb⟩
  ·exact⟨q,_,h1,h2,hb⟩
 have hNF:∀b,NF w0 β s.heap w b->NF w0 (pull σ β) (zkk σ s.heap σ) w b/\w.heap[b]? = w.heap[b]?:=λb hN=>⟨by
  rcases hN with z|⟨k1,k2,k3⟩
  ·exact .inl z
  ·refine .inr ⟨k1,k2,λn he hn hb=>?_⟩
   obtain⟨q,he0,h1,h2,h3⟩:=hblk n he b hn hb
   exact k3 q he0 h2 h3,rfl⟩
 have hex:∀q c,s.heap.getD q none=some c->∀n,σ[n]? = some q->∃c',(zkk σ s.heap σ).getD n none=some c':=λq c hq n hn=>by
  rw[zrm,hn]
  dsimp only
  rw[hq]
  unfold mvHE
  split
  ·split
   ·exact⟨_,rfl⟩
   ·exact⟨_,rfl⟩
  ·exact⟨_,rfl⟩
  ·exact⟨_,rfl⟩
 refine {defers:=m.defers,anc:=λh=>(by cases h),size:=by rw[m.size];exact(zlt σ j v s.slots 0).symm,slot:=λi u hu=>?_,locs:=λi n hn=>?_,mem:=⟨λn he hn=>?_,λn k c d b hn hk hc hd=>?_,λn t cs hn x hx q hq=>?_,λn j=>m.mem.one _ j,m.mem.below,λn v i hn q hq=>by
  obtain⟨q0,he0,h1,h2,h3⟩:=hold n _ hn
  rcases h3 with h3|⟨rfl,hnc⟩|⟨t',cs0,cs',rfl,h3,hl⟩
  ·cases h3
  ·exact absurd rfl (hnc.2 v i)
  ·cases h3⟩,tie:=m.tie}
 ·have hd:=m.slot i u hu
  have hd':∀l',Den β l' (s.slots.getD i .junk) u:=λl'=>zbg (λ_ _=>rfl) (λc hc=>by rw[zbj (ng.at_ i)]at hc;cases hc) hd
  show Den (pull σ β) _ ((zfb σ j v 0 s.slots).getD i .junk) u
  rcases zk9 σ j v s.slots 0 i with h|⟨x,h1,h2,h3⟩|h
  ·rw[h];trivial
  ·rw[h3]
   rw[h1]at hd
   exact(show u=_ from hd).trans (zdj h2).symm
  ·rw[h]
   have hd'':=hd' (zma σ j v s).slots
   revert hd''
   generalize s.slots.getD i .junk=y
   intro hd''
   cases y with
   |k x=>exact hd''
   |v x=>
    simp only[mvSV]
    split
    ·rename_i z hz
     exact(show u=_ from hd'').trans ((mv_ok hz).1 β).symm
    ·trivial
   |ix n off q len size=>
    simp only[mvSV]
    split
    ·rename_i z hz
     simp only[Den]at hd'' ⊢
     rw[(zko (β:=β) hz).1];exact hd''
    ·trivial
   |ex n jj off size q=>
    simp only[mvSV]
    split
    ·rename_i z hz
     simp only[Den]at hd'' ⊢
     rw[(zko (β:=β) hz).1];exact hd''
    ·trivial
   |hp n jj off=>
    simp only[mvSV]
    split
    ·rename_i z hz
     simp only[Den]at hd'' ⊢
     rw[(zko (β:=β) hz).1];exact hd''
    ·trivial
   |g cs x=>trivial
   |junk=>trivial
 ·have hn':n∈names ((zfb σ j v 0 s.slots).getD i .junk):=hn
  rcases zk9 σ j v s.slots 0 i with h|⟨x,h1,h2,h3⟩|h
  ·rw[h]at hn';cases hn'
  ·rw[h3]at hn';simp only[names]at hn';rw[zen h2]at hn';cases hn'
  ·rw[h]at hn'
   have hl:=m.locs i
   revert hn' hl
   generalize s.slots.getD i .junk=y
   intro hn' hl
   have fin:∀q,q∈names y->σ[n]? = some q->∃c,(zkk σ s.heap σ).getD n none=some c:=λq hq hs=>by
    obtain⟨c,hc⟩:=hl q hq
    exact hex q c hc n hs
   cases y with
   |k x=>cases hn'
   |v x=>
    simp only[mvSV]at hn'
    split at hn'
    ·rename_i z hz
     obtain⟨q,h1,h2⟩:=(mv_ok hz).2 n hn'
     exact fin q h1 h2
    ·cases hn'
   |ix k off q len size=>
    simp only[mvSV]at hn'
    split at hn'
    ·rename_i z hz
     simp only[names,List.mem_singleton]at hn';subst hn'
     exact fin k (by simp[names]) (by have:=(zg2 hz).2;simpa using this)
    ·cases hn'
   |ex k jj off size q=>
    simp only[mvSV]at hn'
    split at hn'
    ·rename_i z hz
     simp only[names,List.mem_singleton]at hn';subst hn'
     exact fin k (by simp[names]) (by have:=(zg2 hz).2;simpa using this)
    ·cases hn'
   |hp k jj off=>
    simp only[mvSV]at hn'
    split at hn'
    ·rename_i z hz
     simp only[names,List.mem_singleton]at hn';subst hn'
     exact fin k (by simp[names]) (by have:=(zg2 hz).2;simpa using this)
    ·cases hn'
   |g cs x=>cases hn'
   |junk=>cases hn'
 ·obtain⟨q,he0,h1,h2,h3⟩:=hold n he hn
  rw[hp n q h1]
  have hok:=m.mem.ok q he0 h2
  rcases h3 with rfl|⟨rfl,hnc⟩|⟨t,cs,cs',rfl,rfl,hl⟩
  ·trivial
  ·exact HeOk.mono hNF (λb _=>rfl) (λt cs e=>absurd e (hnc.1 t cs)) (Nat.le_refl _) hok (λ_ _=>rfl) (λv i e=>absurd e (hnc.2 v i))
  ·obtain⟨k1,_⟩:=ztx (λx y=>z26) hl
   exact⟨by rw[k1 β];exact hok.1,hok.2⟩
 ·obtain⟨q,he0,h1,h2,h3⟩:=hblk n c b hn hc
  obtain⟨q',he0',h1',h2',h3'⟩:=hblk k d b hk hd
  have e:=m.mem.inj q q' he0 he0' b h2 h2' h3 h3'
  subst e
  have hlt1:=(List.getElem?_eq_some_iff.1 h1).1
  exact(List.getElem?_inj hlt1 hσ).1 (h1.trans h1'.symm)
 ·obtain⟨q0,he0,h1,h2,h3⟩:=hold n _ hn
  rcases h3 with h3|⟨rfl,hnc⟩|⟨t',cs0,cs',rfl,h3,hl⟩
  ·cases h3
  ·exact absurd rfl (hnc.1 t cs)
  ·simp only[HE.cells.injEq]at h3
   obtain⟨rfl,rfl⟩:=h3
   obtain⟨_,k2⟩:=ztx (λx y=>z26) hl
   obtain⟨n',m1,m2⟩:=k2 q (zbb.2 ⟨x,hx,hq⟩)
   obtain⟨y,y1,y2⟩:=zbb.1 m1
   obtain⟨c,hc⟩:=m.mem.refs q0 t cs0 h2 y y1 n' y2
   exact hex n' c hc q m2
end
def HeLe:Option HE->Option HE->Prop
 |some (.own t n f),some (.own t' n' f')=>t=t'/\n=n'/\∀i,i<n->f i=f' i
 |some (.deep [.row n f]),some (.deep [.row n' f'])=>n=n'/\∀i,i<n->f i=f' i
 |x,y=>x=y
def HLe:List (Option HE)->List (Option HE)->Prop
 |[],[]=>True
 |x::xs,y::ys=>HeLe x y/\HLe xs ys
 |_,_=>False
def Fits(s s':St):Prop:=(s.slots,s.fix,s.keep)=(s'.slots,s'.fix,s'.keep)/\HLe s.heap s'.heap
theorem HeLe.refl:∀(x:Option HE),HeLe x x
 |none=>rfl
 |some (.cells _ _)=>rfl
 |some (.own _ _ _)=>⟨rfl,rfl,λ_ _=>rfl⟩
 |some .gone=>rfl
 |some (.mp _ _)=>rfl
 |some (.im _)=>rfl
 |some (.raw _)=>rfl
 |some (.deep [])=>rfl
 |some (.deep [.row _ _])=>⟨rfl,λ_ _=>rfl⟩
 |some (.deep [.p _])=>rfl
 |some (.deep [.ptr _])=>rfl
 |some (.deep (.p _::_::_))=>rfl
 |some (.deep (.ptr _::_::_))=>rfl
 |some (.deep (.row _ _::_::_))=>rfl
theorem HLe.refl:∀(h:List (Option HE)),HLe h h
 |[]=>trivial
 |x::l=>⟨HeLe.refl x,HLe.refl l⟩
theorem Fits.refl(s:St):Fits s s:=⟨rfl,HLe.refl _⟩
theorem HLe.at_:∀{h h':List (Option HE)},HLe h h'->∀n,HeLe (h.getD n none) (h'.getD n none)
 |[],[],_,n=>HeLe.refl _
 |x::xs,y::ys,k,0=>k.1
 |x::xs,y::ys,k,n+1=>by
  simp only[List.getD_cons_succ]
  exact HLe.at_ k.2 n
 |[],_::_,k,_=>k.elim
 |_::_,[],k,_=>k.elim
section
variable{P:Program}{X:Tabs}{lp:Lp}{w0:Base P}{w:World}{β:Env}{s s':St}{a:Act}
theorem zl2{N:Nat->Prop}{n:Nat}{f f':Nat->List DC}(hf:∀i,i<n->f i=f' i){u:Value}(h:DenC w N (.row n f) u):DenC w N (.row n f') u:=by
 cases h with
 |nil f oa cap=>exact .nil f' oa cap
 |row n f b off cap size g hk hF hc hg=>exact .row n f' b off cap size g hk hF (λi hi=>by rw[←hf i hi];exact hc i hi) (λi j hi hj=>by rw[←hf i hi];exact hg i j hi hj)
theorem HeOk.congr{N:Nat->Prop}{e:Nat×(Nat->Value)}{x y:HE}(h:HeLe (some x) (some y))(k:HeOk w0 β N w e x):HeOk w0 β N w e y:=by
 unfold HeLe at h
 split at h
 ·rename_i t n f t' n' f' h1 h2
  simp only[Option.some.injEq]at h1 h2
  subst h1;subst h2
  obtain⟨rfl,rfl,hf⟩:=h
  obtain⟨size,xs,k1,k2,k3,k4⟩:=k
  exact⟨size,xs,k1,k2,k3,λi hi=>by rw[←hf i hi];exact k4 i hi⟩
 ·rename_i n f n' f' h1 h2
  simp only[Option.some.injEq]at h1 h2
  subst h1;subst h2
  obtain⟨rfl,hf⟩:=h
  intro j d hj
  cases j with
  |succ j=>simp at hj
  |zero=>
   simp only[List.getElem?_cons_zero,Option.some.injEq]at hj;subst hj
   exact zl2 hf (k 0 _ rfl)
 ·simp only[Option.some.injEq]at h;subst h;exact k
theorem HeLe.some_iff{x y:Option HE}(h:HeLe x y):(x=none↔y=none):=by
 unfold HeLe at h
 split at h
 ·simp
 ·simp
 ·subst h;rfl
theorem HeLe.blk{x y:HE}(h:HeLe (some x) (some y))(e:Nat×(Nat->Value)):zc8 x e=zc8 y e:=by
 unfold HeLe at h
 split at h
 ·rename_i h1 h2
  simp only[Option.some.injEq]at h1 h2
  subst h1;subst h2;rfl
 ·rename_i h1 h2
  simp only[Option.some.injEq]at h1 h2
  subst h1;subst h2;rfl
 ·simp only[Option.some.injEq]at h;subst h;rfl
theorem HeLe.cells{x:HE}{t:TypeId}{cs:List Value}(h:HeLe (some x) (some (.cells t cs))):x=.cells t cs:=by
 unfold HeLe at h
 split at h
 ·rename_i h2;cases h2
 ·rename_i h2;cases h2
 ·simpa using h
theorem Fits.M(h:Fits s s')(m:M w0 β s a w):M w0 β s' a w:=by
 obtain⟨h11,h2⟩:=h
 obtain⟨h1,h13⟩:=Prod.mk.inj h11
 obtain⟨h12,h14⟩:=Prod.mk.inj h13
 have hat:∀n he,s'.heap.getD n none=some he->∃he0,s.heap.getD n none=some he0/\HeLe (some he0) (some he):=λn he hn=>by
  have hx:=h2.at_ n
  cases hs:s.heap.getD n none with
  |none=>
   rw[hs,hn]at hx
   have:=(HeLe.some_iff hx).1 rfl;cases this
  |some he0=>rw[hs,hn]at hx;exact⟨he0,rfl,hx⟩
 have hat':∀n he,s.heap.getD n none=some he->∃he0,s'.heap.getD n none=some he0:=λn he hn=>by
  have hx:=h2.at_ n
  cases hs:s'.heap.getD n none with
  |none=>
   rw[hs,hn]at hx
   have:=(HeLe.some_iff hx).2 rfl;cases this
  |some he0=>exact⟨he0,rfl⟩
 have hNF:∀b,NF w0 β s.heap w b->NF w0 β s'.heap w b/\w.heap[b]? = w.heap[b]?:=λb hN=>⟨by
  rcases hN with z|⟨k1,k2,k3⟩
  ·exact .inl z
  ·refine .inr ⟨k1,k2,λn he hn hb=>?_⟩
   obtain⟨he0,h3,h4⟩:=hat n he hn
   exact k3 n he0 h3 (by rw[h4.blk];exact hb),rfl⟩
 refine {defers:=m.defers,anc:=λhk n hn=>(by obtain⟨e,c,hc⟩:=m.anc (h14.trans hk) n hn;exact⟨e,hat' n c hc⟩),size:=by rw[←h1];exact m.size,slot:=λi u hu=>by rw[←h1];exact m.slot i u hu,locs:=λi n hn=>?_,mem:=⟨λn he hn=>?_,λn k c d b hn hk hc hd=>?_,λn t cs hn x hx q hq=>?_,m.mem.one,m.mem.below,λn v i hn q hq=>by
  obtain⟨c0,h3,h4⟩:=hat n _ hn
  have e0:c0=.mp v i:=by
   unfold HeLe at h4
   split at h4
   ·rename_i h2;cases h2
   ·rename_i h2;cases h2
   ·simpa using h4
  subst e0
  obtain⟨c,hc⟩:=m.mem.mrefs n v i h3 q hq
  exact hat' q c hc⟩,tie:=λp hp=>m.tie p (by rw[h12];exact hp)}
 ·rw[←h1]at hn
  obtain⟨c,hc⟩:=m.locs i n hn
  exact hat' n c hc
 ·obtain⟨he0,h3,h4⟩:=hat n he hn
  exact HeOk.congr h4 (HeOk.mono hNF (λb _=>rfl) (λ_ _ _ _ _=>rfl) (Nat.le_refl _) (m.mem.ok n he0 h3) (λ_ _=>rfl) (λ_ _ _=>rfl))
 ·obtain⟨c0,h3,h4⟩:=hat n c hn
  obtain⟨d0,h5,h6⟩:=hat k d hk
  exact m.mem.inj n k c0 d0 b h3 h5 (by rw[h4.blk];exact hc) (by rw[h6.blk];exact hd)
 ·obtain⟨c0,h3,h4⟩:=hat n _ hn
  have:=h4.cells;subst this
  obtain⟨c,hc⟩:=m.mem.refs n t cs h3 x hx q hq
  exact hat' q c hc
def Ent(w0:Base P)(s s':St):Prop:=∀β a w,M w0 β s a w->NoG s->∃β',M w0 β' s' a w/\NoG s'
theorem Ent.refl(w0:Base P)(s:St):Ent w0 s s:=λβ a w m ng=>⟨β,m,ng⟩
theorem Ent.trans{s1 s2 s3:St}(h:Ent w0 s1 s2)(k:Ent w0 s2 s3):Ent w0 s1 s3:=λβ a w m ng=>by
 obtain⟨β',m',ng'⟩:=h β a w m ng
 exact k β' a w m' ng'
theorem Ent.label{σ:List Nat}(hσ:σ.Nodup)(j v:Nat)(s:St):Ent w0 s (zma σ j v s):=λβ a w m ng=>⟨_,z9w hσ j v m ng,zz2 σ j v s⟩
theorem Ent.fits(h:Fits s s'):Ent w0 s s':=λβ a w m ng=>⟨β,h.M m,λx hx=>ng x ((Prod.mk.inj h.1).1▸hx)⟩
theorem zwf{Q:Exit->Act->World->Prop}{e:zcg}(h:Ent w0 s s')(k:Dyn.Sem w0 Q e s'):Dyn.Sem w0 Q e s:=λβ a w m ng=>by
 obtain⟨β',m',ng'⟩:=h β a w m ng
 exact k β' a w m' ng'
def nilSlot(i:Nat)(t:TypeId)(f:Nat->List DC)(s:St):St:=
 match s.slots.getD i .junk with
 |.k (.slice none 0 0)=>{slots:=s.slots.set i (.v (.slice (some ⟨s.heap.length,0,some 0⟩) 0 0)),heap:=s.heap++[some (.own t 0 f)],fix:=s.fix}
 |.v (.slice none 0 0)=>{slots:=s.slots.set i (.v (.slice (some ⟨s.heap.length,0,some 0⟩) 0 0)),heap:=s.heap++[some (.own t 0 f)],fix:=s.fix}
 |_=>s
theorem Mem.nil{h:List (Option HE)}(m:Mem w0 β h w){t:TypeId}{k:Nat}(hs:zbh P t=some (k+1))(f:Nat->List DC):Mem w0 (bump β h.length (0,λ_=>.slice none 0 0)) (h++[some (.own t 0 f)]) w:=by
 have e:h++[some (HE.own t 0 f)]=(h++[none]).set h.length (some (.own t 0 f)):=by simp
 have m0:Mem w0 β (h++[none]) w:=m.read (λn=>by
  simp only[List.getD_eq_getElem?_getD,List.getElem?_append]
  split
  ·rfl
  ·rename_i hn
   rw[List.getElem?_eq_none (Nat.le_of_not_lt hn)]
   cases n-h.length with
   |zero=>rfl
   |succ q=>rfl) rfl rfl rfl rfl
 rw[e]
 exact m0.add (by simp) (by simp) _ _ (Below.refl _ _) (λb hb=>by simp[zc8,Value.ownBlock]at hb) (λ_=>rfl) (λt cs e=>by cases e) (λ_=>⟨k+1,[],hs,by omega,World.ownsRow_nil w _ t _,λi hi=>by omega⟩)
theorem Ent.nilSlot{i:Nat}{t:TypeId}{k:Nat}(hs:zbh P t=some (k+1))(f:Nat->List DC)(s:St):Ent w0 s (nilSlot i t f s):=λβ a w m ng=>by
 have key:(s.slots.getD i .junk=.k (.slice none 0 0)\/s.slots.getD i .junk=.v (.slice none 0 0))->
   ∃β',M w0 β' {slots:=s.slots.set i (.v (.slice (some ⟨s.heap.length,0,some 0⟩) 0 0)),heap:=s.heap++[some (.own t 0 f)],fix:=s.fix} a w/\NoG {slots:=s.slots.set i (.v (.slice (some ⟨s.heap.length,0,some 0⟩) 0 0)),heap:=s.heap++[some (.own t 0 f)],fix:=s.fix}:=λhk=>by
  have hold:∀n c,s.heap.getD n none=some c->(s.heap++[some (HE.own t 0 f)]).getD n none=some c/\n≠s.heap.length:=λn c hn=>by
   have hlt:n<s.heap.length:=by
    rcases Nat.lt_or_ge n s.heap.length with z|z
    ·exact z
    ·rw[List.getD_eq_getElem?_getD,List.getElem?_eq_none z]at hn;cases hn
   refine⟨?_,by omega⟩
   rw[List.getD_eq_getElem?_getD,List.getElem?_append_left hlt,←List.getD_eq_getElem?_getD];exact hn
  have hbeta:∀n c,s.heap.getD n none=some c->bump β s.heap.length (0,λ_=>Value.slice none 0 0) n=β n:=λn c hn=>zcf (hold n c hn).2
  refine⟨bump β s.heap.length (0,λ_=>.slice none 0 0),{defers:=m.defers,anc:=λh=>(by cases h),size:=by simp[m.size],slot:=λq u hu=>?_,locs:=λq n hn=>?_,mem:=m.mem.nil hs f,tie:=m.tie},λx hx=>?_⟩
  ·show Den _ _ ((s.slots.set i _).getD q .junk) u
   rw[zbe]
   split
   ·rename_i hq
    obtain⟨rfl,hlt⟩:=hq
    have hd:=m.slot i u hu
    have hu':u=.slice none 0 0:=by rcases hk with hk|hk<;>rw[hk]at hd<;>exact hd
    show u=ren _ _
    simp only[ren,ren1,ren0,renP]
    rw[zcs,hu']
   ·exact zbg (λn hn=>by obtain⟨c,hc⟩:=m.locs q n hn;exact hbeta n c hc) (λc hc=>by rw[zbj (ng.at_ q)]at hc;cases hc) (m.slot q u hu)
  ·have hn':n∈names ((s.slots.set i (.v (.slice (some ⟨s.heap.length,0,some 0⟩) 0 0))).getD q .junk):=hn
   rw[zbe]at hn'
   split at hn'
   ·simp only[names,refs,zbk,zaz,zbc,List.mem_singleton]at hn';subst hn'
    exact⟨.own t 0 f,by simp[List.getD_eq_getElem?_getD]⟩
   ·obtain⟨c,hc⟩:=m.locs q n hn'
    exact⟨c,(hold n c hc).1⟩
  ·rcases List.mem_or_eq_of_mem_set hx with hx|rfl
   ·exact ng x hx
   ·rfl
 unfold Dyn.nilSlot
 split
 ·rename_i h;exact key (.inl h)
 ·rename_i h;exact key (.inr h)
 ·exact⟨β,m,ng⟩
theorem yg9(ht:zal P X)(hm:P.follows .mixedOrders=true){fuel:Nat}{c:Code}(hl:Dyn.LpOk P w0 lp (zam c)){ι:Type}(S:ι->St)(inv:ι->Prop)(μ:ι->Nat)(G:zcg->St->Prop)
  (hbody:∀x,inv x->(zbm P X lp fuel c .leaf (S x)).sat λe s=>match e with
   |.normal=>∃y,inv y/\μ y<μ x/\Ent w0 s (S y)
   |e=>G e s)
  {x0:ι} {s0:St} (hi:inv x0) (h0:Ent w0 s0 (S x0)) {Q:Exit->Act->World->Prop} (m:M w0 β s0 a w) (ng:NoG s0)
  (hQ:∀e s,G e s->match e with|.normal=>True|e=>Dyn.Sem w0 Q e s):(Code.loop c).wp P Q a w:=by
 have start:∃x β',inv x/\M w0 β' (S x) a w/\NoG (S x):=by
  obtain⟨β',m',ng'⟩:=h0 β a w m ng
  exact⟨x0,β',hi,m',ng'⟩
 refine wp_loop (λa' w'=>∃x β',inv x/\M w0 β' (S x) a' w'/\NoG (S x))
  (λa' w'=>Classical.epsilon λn=>(∃x β',inv x/\(M w0 β' (S x) a' w'/\NoG (S x))/\μ x=n)/\∀n',(∃x β',inv x/\(M w0 β' (S x) a' w'/\NoG (S x))/\μ x=n')->n<=n') start ?_
 intro a1 w1 ⟨x',β',hi',m',ng'⟩
 have hI:∃n,∃x β',inv x/\(M w0 β' (S x) a1 w1/\NoG (S x))/\μ x=n:=⟨_,x',β',hi',⟨m',ng'⟩,rfl⟩
 obtain⟨⟨x1,β1,hi1,⟨m1,ng1⟩,hx1⟩,hmin⟩:=zno hI
 generalize (Classical.epsilon λn=>(∃x β',inv x/\(M w0 β' (S x) a1 w1/\NoG (S x))/\μ x=n)/\∀n',(∃x β',inv x/\(M w0 β' (S x) a1 w1/\NoG (S x))/\μ x=n')->n<=n')=N at *
 refine zd3 ht hm c hl .leaf (S x1) _ a1 w1 β1 m1 ng1 (hbody x1 hi1) λe s2 β2 a2 w2 m2 ng2 hs2=>?_
 cases e with
 |normal=>
  obtain⟨y,hy,hlt,hS⟩:=hs2
  obtain⟨β3,my,ngy⟩:=hS β2 a2 w2 m2 ng2
  refine⟨⟨y,β3,hy,my,ngy⟩,?_⟩
  have:=(zno (p:=λn=>∃x β',inv x/\(M w0 β' (S x) a2 w2/\NoG (S x))/\μ x=n) ⟨_,y,β3,hy,⟨my,ngy⟩,rfl⟩).2 _ ⟨y,β3,hy,⟨my,ngy⟩,rfl⟩
  show _<N
  omega
 |exit id=>exact hQ (.exit id) s2 hs2 β2 a2 w2 m2 ng2
 |ret=>exact hQ .ret s2 hs2 β2 a2 w2 m2 ng2
def Out.rl(f:zcg->St->St):Out->Out
 |.leaf e s=>.leaf e (f e s)
 |.ite b x y=>.ite b (x.rl f) (y.rl f)
 |.side ps x=>.side ps (x.rl f)
 |.fail=>.fail
theorem Out.sat_rl{f:zcg->St->St}{F:zcg->St->Prop}:∀{o:Out},(o.rl f).sat F->o.sat λe s=>F e (f e s)
 |.leaf _ _,h=>h
 |.ite _ x y,h=>⟨λb=>Out.sat_rl (h.1 b),λb=>Out.sat_rl (h.2 b)⟩
 |.side _ x,h=>⟨h.1,Out.sat_rl (o:=x) h.2⟩
 |.fail,h=>h.elim
theorem z6t(ht:zal P X)(hm:P.follows .mixedOrders=true){fuel id:Nat}{c:Code}(hl:Dyn.LpOk P w0 lp (zam c)){ι:Type}(S:ι->St)(inv:ι->Prop)(μ:ι->Nat)(f:zcg->St->St)(hf:∀e s,Ent w0 s (f e s))(B:ι->Out)(G:zcg->St->Prop)
  (hB:∀x,inv x->(zbm P X lp fuel c .leaf (S x)).rl f=B x)
  (hbody:∀x,inv x->(B x).sat λe s=>match e with
   |.normal=>∃y,inv y/\μ y<μ x/\Fits s (S y)
   |e=>G e s)
  {x0:ι} {s0:St} {o:Out} (hi:inv x0) (h0:Ent w0 s0 (S x0))
  (hG:∀(F:zcg->St->Prop),(∀e s s',Ent w0 s s'->F e s'->F e s)->o.sat F->∀e s,G e s->match e with
   |.normal=>True
   |.exit i=>if i=id then F .normal s else F (.exit i) s
   |.ret=>F .ret s):Dyn.zai P w0 id (.loop c) s0 o:=by
 intro Q a w β m ng ho
 refine wp_block (yg9 (fuel:=fuel) ht hm hl S inv μ (λe s=>match e with|.normal=>True|e=>G e (f e s)) (λx hx=>?_) hi h0 m ng λe s hg=>?_)
 ·refine Out.sat_mono (λe s hs=>?_) (Out.sat_rl (hB x hx▸hbody x hx))
  cases e with
  |normal=>
   obtain⟨y,hy,hlt,hfit⟩:=hs
   exact⟨y,hy,hlt,(hf .normal s).trans (Ent.fits hfit)⟩
  |exit i=>exact hs
  |ret=>exact hs
 ·have hh:=hG (Dyn.Sem w0 Q) (λe s s' h k=>zwf h k) ho
  cases e with
  |normal=>trivial
  |ret=>exact zwf (hf .ret s) (hh .ret _ hg)
  |exit i=>
   intro β' a' w' m' ng'
   show if i=id then Q Exit.normal a' w' else Q (Exit.exit i) a' w'
   have h1:=hh (.exit i) _ hg
   dsimp only at h1
   have h2:=hf (.exit i) s
   split
   ·rename_i e;rw[if_pos e]at h1;exact zwf h2 h1 β' a' w' m' ng'
   ·rename_i e;rw[if_neg e]at h1;exact zwf h2 h1 β' a' w' m' ng'
end
def zej:Nat->List DV->List SV×List (Option HE)
 |_,[]=>([],[])
 |n,v::vs=>match zee (zbq v)with
  |true=>let r:=zej n vs;(.v (zc3 0 0 v)::r.1,r.2)
  |false=>let r:=zej (n+1) vs;(.v (zc3 n 0 v)::r.1,some (.deep (zbq v))::r.2)
def zpu(fn:Func)(args:List DV):St:={slots:=(zej 0 args).1++List.replicate (fn.ntmps-args.length) .junk,heap:=(zej 0 args).2}
def dfun(P:Program)(X:Tabs)(lp:Lp)(fuel:Nat)(fn:Func)(args:List DV):Out:=
 match fn.body with
 |some c=>zbm P X lp fuel c .leaf (zpu fn args)
 |none=>.fail
def pOks:List DV->Bool
 |[]=>true
 |v::vs=>match pOk (zbq v)with
  |true=>pOks vs
  |false=>false
def hpSt(s:St)(n:Nat):Option HE:=
 match s.heap.getD n none with
 |some (.cells _ _)=>none
 |some (.raw _)=>none
 |x=>x
def zh8(P:Program)(s:St):ResultVar->Option DV
 |.tmp t=>match named (s.slots.getD t .junk)with
  |some v=>toDV (hpSt s) v
  |none=>none
 |.cell t ty=>match s.slots.getD t .junk with
  |.v (.pointer (some a))=>match a.spot,s.heap.getD a.block none with
   |none,some (.cells _ cs)=>match zep P ty cs a.off with
    |some u=>if zei P ty=some true\/zag u=true then toDV (hpSt s) u else none
    |none=>none
   |_,_=>none
  |_=>none
def ztg(P:Program)(s:St):List ResultVar->Option (List DV)
 |[]=>some []
 |r::l=>match zh8 P s r,ztg P s l with
  |some d,some ds=>some (d::ds)
  |_,_=>none
def resD(P:Program)(rs:Array ResultVar)(s:St):Option RV:=
 match ztg P s rs.toList with
 |some [d]=>some (.val d)
 |some ds=>some (.tup ds)
 |none=>none
inductive RO where
 |leaf (r:RV)
 |ite (b:Bool) (x y:RO)
 |side (ps:List Prop) (x:RO)
 |fail
def RO.sat(Q:RV->Prop):RO->Prop
 |.leaf r=>Q r
 |.ite b x y=>(b=true->x.sat Q)/\(b=false->y.sat Q)
 |.side ps x=>allP ps/\x.sat Q
 |.fail=>False
def Out.ro(P:Program)(rs:Array ResultVar):Out->RO
 |.leaf e s=>match e,resD P rs s with
  |.exit _,_=>.fail
  |_,some r=>.leaf r
  |_,none=>.fail
 |.ite b x y=>.ite b (x.ro P rs) (y.ro P rs)
 |.side ps x=>.side ps (x.ro P rs)
 |.fail=>.fail
def RO.val:RO->Option Value
 |.leaf (.val (.one (.p x)))=>some x
 |.leaf _=>none
 |.ite b x y=>match x.val,y.val with
  |some u,some v=>some (zc1 3 b u v)
  |_,_=>none
 |.side _ x=>x.val
 |.fail=>none
def RO.sideList:RO->List Prop
 |.leaf _=>[]
 |.ite b x y=>(x.sideList.map λp=>(b=true->p))++(y.sideList.map λp=>(b=false->p))
 |.side ps x=>ps++x.sideList
 |.fail=>[False]
theorem RO.sat_val:∀{o:RO} {v:Value},o.val=some v->allP o.sideList->o.sat λr=>r=.val (.one (.p v))
 |.leaf r,v,h,_=>by
  unfold RO.val at h
  split at h
  ·rename_i x e
   simp only[Option.some.injEq]at h;subst h
   simp only[RO.leaf.injEq]at e;exact e
  ·cases h
  ·rename_i e;cases e
  ·rename_i e;cases e
  ·cases h
 |.ite b x y,v,h,hs=>by
  simp only[RO.val]at h
  simp only[RO.sideList,zbp]at hs
  split at h
  ·rename_i u u' hx hy
   simp only[Option.some.injEq]at h;subst h
   refine⟨λhb=>?_,λhb=>?_⟩
   ·subst hb
    rw[zcj]
    exact RO.sat_val hx (zhs.2 λp hp=>zhs.1 hs.1 _ (List.mem_map.2 ⟨p,hp,rfl⟩) rfl)
   ·subst hb
    rw[zb3]
    exact RO.sat_val hy (zhs.2 λp hp=>zhs.1 hs.2 _ (List.mem_map.2 ⟨p,hp,rfl⟩) rfl)
  ·cases h
 |.side ps x,v,h,hs=>by
  simp only[RO.sideList,zbp]at hs
  exact⟨hs.1,RO.sat_val (o:=x) h hs.2⟩
 |.fail,v,h,_=>by cases h
def DCLe:DC->DC->Prop
 |.row n f,.row m g=>n=m/\∀i,i<n->f i=g i
 |x,y=>x=y
def DLLe:List DC->List DC->Prop
 |[],[]=>True
 |x::xs,y::ys=>DCLe x y/\DLLe xs ys
 |_,_=>False
def DVLe:DV->DV->Prop
 |.one x,.one y=>DCLe x y
 |.agg xs,.agg ys=>DLLe xs ys
 |_,_=>False
def zwh:List DV->List DV->Prop
 |[],[]=>True
 |x::xs,y::ys=>DVLe x y/\zwh xs ys
 |_,_=>False
def RVLe:RV->RV->Prop
 |.val x,.val y=>DVLe x y
 |.tup xs,.tup ys=>zwh xs ys
 |_,_=>False
theorem DCLe.refl:∀(x:DC),DCLe x x
 |.p _=>rfl
 |.row _ _=>⟨rfl,λ_ _=>rfl⟩
 |.ptr _=>rfl
theorem DLLe.refl:∀(x:List DC),DLLe x x
 |[]=>trivial
 |x::xs=>⟨DCLe.refl x,DLLe.refl xs⟩
theorem DVLe.refl:∀(x:DV),DVLe x x
 |.one d=>DCLe.refl d
 |.agg ds=>DLLe.refl ds
theorem zwh.refl:∀(x:List DV),zwh x x
 |[]=>trivial
 |x::xs=>⟨DVLe.refl x,zwh.refl xs⟩
theorem RVLe.refl:∀(x:RV),RVLe x x
 |.val v=>DVLe.refl v
 |.tup vs=>zwh.refl vs
section
variable{P:Program}{X:Tabs}{lp:Lp}{w0:Base P}{w:World}{β:Env}{s:St}{a:Act}
theorem ydn{N:Nat->Prop}{x y:DC}{u:Value}(h:DCLe x y)(k:DenC w N x u):DenC w N y u:=by
 cases x with
 |row n f=>
  cases y with
  |row m g=>obtain⟨rfl,hf⟩:=h;exact zl2 hf k
  |p z=>cases h
  |ptr z=>cases h
 |p z=>simp only[DCLe]at h;subst h;exact k
 |ptr z=>simp only[DCLe]at h;subst h;exact k
theorem ydm{N:Nat->Prop}:∀{xs ys:List DC} {us:List Value},DLLe xs ys->DenL w N xs us->DenL w N ys us
 |[],[],_,_,k=>k
 |x::xs,y::ys,[],_,k=>k.elim
 |x::xs,y::ys,u::us,h,k=>⟨ydn h.1 k.1,ydm h.2 k.2⟩
 |[],_::_,_,h,_=>h.elim
 |_::_,[],_,h,_=>h.elim
theorem zjp{N:Nat->Prop}:∀{x y:DV} {u:Value},DVLe x y->DenV w N x u->DenV w N y u
 |.one _,.one _,_,h,k=>ydn h k
 |.agg _,.agg _,_,h,⟨us,e,k⟩=>⟨us,e,ydm h k⟩
 |.one _,.agg _,_,h,_=>h.elim
 |.agg _,.one _,_,h,_=>h.elim
theorem zql{N:Nat->Prop}:∀{xs ys:List DV} {us:List Value},zwh xs ys->zfn w N xs us->zfn w N ys us
 |[],[],_,_,k=>k
 |x::xs,y::ys,[],_,k=>k.elim
 |x::xs,y::ys,u::us,h,k=>⟨zjp h.1 k.1,zql h.2 k.2⟩
 |[],_::_,_,h,_=>h.elim
 |_::_,[],_,h,_=>h.elim
theorem zjq{N:Nat->Prop}:∀{x y:RV} {u:Value},RVLe x y->DenR w N x u->DenR w N y u
 |.val _,.val _,_,h,k=>zjp h k
 |.tup _,.tup _,_,h,⟨us,e,k⟩=>⟨us,e,zql h k⟩
 |.val _,.tup _,_,h,_=>h.elim
 |.tup _,.val _,_,h,_=>h.elim
theorem Mem.push{h:List (Option HE)}(m:Mem w0 β h w){ds:List DC}{us:List Value}(hd:DenL w (NF w0 β h w) ds us)(hp:pOk ds=true)(hf:zee ds=false) :
  ∃β',(∀n c,h.getD n none=some c->β' n=β n)/\Mem w0 β' (h++[some (.deep ds)]) w/\(zb1 h.length 0 ds).map (ren0 β')=us/\∀y∈zb1 h.length 0 ds,∀k∈zaz y,∃c,(h++[some (HE.deep ds)]).getD k none=some c:=by
 have hg:∀n,(h++[none]).getD n none=h.getD n none:=λn=>by
  simp only[List.getD_eq_getElem?_getD,List.getElem?_append]
  split
  ·rfl
  ·rename_i hn
   rw[List.getElem?_eq_none (Nat.le_of_not_lt hn)]
   cases n-h.length with
   |zero=>rfl
   |succ q=>rfl
 have m0:Mem w0 β (h++[none]) w:=m.read hg rfl rfl rfl rfl
 have hN:∀b,NF w0 β h w b->NF w0 β (h++[none]) w b:=λb hb=>by
  rcases hb with z|z
  ·exact .inl z
  ·exact .inr ⟨z.1,z.2.1,λn he hn=>z.2.2 n he (by rw[←hg n];exact hn)⟩
 obtain⟨β',b1,b2,b3,b4,_⟩:=zlf m0 (fresh:=h.length) (λ_=>⟨by simp,by simp⟩) (hd.mono λb hb=>⟨hN b hb,rfl⟩) hp
 have e:zac (h++[none]) (updD h.length ds)=h++[some (HE.deep ds)]:=by
  unfold updD;rw[hf];simp[zac]
 rw[e]at b2 b4
 exact⟨β',λn c hc=>b1 n c ((hg n).trans hc),b2,b3 0 rfl,b4⟩
theorem zkp:∀(args:List DV) (us:List Value) (h:List (Option HE)) (β:Env),Mem w0 β h w->(∀b,w0.F b->NF w0 β h w b)->pOks args=true->zfn w w0.F args us->
  ∃β',(∀n c,h.getD n none=some c->β' n=β n)/\Mem w0 β' (h++(zej h.length args).2) w/\(zej h.length args).1.length=us.length/\(∀i u,us[i]? = some u->Den β' [] ((zej h.length args).1.getD i .junk) u)/\(∀i n,n∈names ((zej h.length args).1.getD i .junk)->∃c,(h++(zej h.length args).2).getD n none=some c)/\∀x∈(zej h.length args).1,isG x=false
 |[],[],h,β,m,_,_,_=>⟨β,λ_ _ _=>rfl,by simpa [zej]using m,rfl,λi u hu=>by simp at hu,λi n hn=>by simp[zej,names]at hn,λx hx=>by cases hx⟩
 |[],_::_,_,_,_,_,_,k=>k.elim
 |_::_,[],_,_,_,_,_,k=>k.elim
 |v::vs,u::us,h,β,m,hF,hp,k=>by
  simp only[pOks]at hp
  split at hp
  ·rename_i hpv
   have hv:DenR w (NF w0 β h w) (.val v) u:=k.1.mono λb hb=>⟨hF b hb,rfl⟩
   obtain⟨ws,hd,hk⟩:=zds hv
   cases hfl:zee (zbq v)with
   |true=>
    obtain⟨β',i1,i2,i3,i4,i5,i6⟩:=zkp vs us h β m hF hp k.2
    have e:zej h.length (v::vs)=(.v (zc3 0 0 v)::(zej h.length vs).1,(zej h.length vs).2):=by simp only[zej];rw[hfl]
    rw[e]
    have hx:∀β,ren β (zc3 0 0 v)=u:=λβ=>(hk 0 β (zd5 _ _ 0 hd hpv hfl)).1
    have hr:∀n,n∉refs (zc3 0 0 v):=λn hn=>by
     obtain⟨y,y1,y2⟩:=(hk 0 β (zd5 _ _ 0 hd hpv hfl)).2 n hn
     have:=(zd4 _ 0 hpv y y1 n y2).2
     have h2:zee (zdh (.val v))=false:=this
     simp only[zdh]at h2;rw[hfl]at h2;cases h2
    refine⟨β',i1,i2,by simp[i3],λi z hz=>?_,λi n hn=>?_,λx hx'=>?_⟩
    ·cases i with
     |zero=>simp only[List.getElem?_cons_zero,Option.some.injEq]at hz;subst hz;exact(hx β').symm
     |succ i=>exact i4 i z (by simpa using hz)
    ·cases i with
     |zero=>exact absurd hn (hr n)
     |succ i=>exact i5 i n (by simpa using hn)
    ·rcases List.mem_cons.1 hx' with rfl|hx'
     ·rfl
     ·exact i6 x hx'
   |false=>
    obtain⟨β1,j1,j2,j3,j4⟩:=m.push (ds:=zbq v) (us:=ws) hd hpv hfl
    have hlen:(h++[some (HE.deep (zbq v))]).length=h.length+1:=by simp
    have hF1:∀b,w0.F b->NF w0 β1 (h++[some (HE.deep (zbq v))]) w b:=λb hb=>.inl hb
    obtain⟨β',i1,i2,i3,i4,i5,i6⟩:=zkp vs us _ β1 j2 hF1 hp k.2
    rw[hlen]at i2 i3 i4 i5 i6
    have e:zej h.length (v::vs)=(.v (zc3 h.length 0 v)::(zej (h.length+1) vs).1,some (.deep (zbq v))::(zej (h.length+1) vs).2):=by simp only[zej];rw[hfl]
    rw[e]
    have eh:h++(some (HE.deep (zbq v))::(zej (h.length+1) vs).2)=(h++[some (HE.deep (zbq v))])++(zej (h.length+1) vs).2:=by simp
    dsimp only
    rw[eh]
    obtain⟨x1,x2⟩:=hk h.length β1 j3
    have hold:∀n c,h.getD n none=some c->(h++[some (HE.deep (zbq v))]).getD n none=some c:=λn c hn=>by
     have hlt:n<h.length:=by
      rcases Nat.lt_or_ge n h.length with z|z
      ·exact z
      ·rw[List.getD_eq_getElem?_getD,List.getElem?_eq_none z]at hn;cases hn
     rw[List.getD_eq_getElem?_getD,List.getElem?_append_left hlt,←List.getD_eq_getElem?_getD];exact hn
    have hn1:∀n∈refs (zc3 h.length 0 v),∃c,(h++[some (HE.deep (zbq v))]).getD n none=some c:=λn hn=>by
     obtain⟨y,y1,y2⟩:=x2 n hn
     exact j4 y y1 n y2
    refine⟨β',λn c hn=>(i1 n c (hold n c hn)).trans (j1 n c hn),i2,by simp[i3],λi z hz=>?_,λi n hn=>?_,λx hx'=>?_⟩
    ·cases i with
     |zero=>
      simp only[List.getElem?_cons_zero,Option.some.injEq]at hz;subst hz
      show u=ren β' (zc3 h.length 0 v)
      rw[zra (β:=β1) λn hn=>by obtain⟨c,hc⟩:=hn1 n hn;exact i1 n c hc]
      exact x1.symm
     |succ i=>exact i4 i z (by simpa using hz)
    ·cases i with
     |zero=>
      obtain⟨c,hc⟩:=hn1 n hn
      have hlt:n<(h++[some (HE.deep (zbq v))]).length:=by
       rcases Nat.lt_or_ge n (h++[some (HE.deep (zbq v))]).length with z|z
       ·exact z
       ·rw[List.getD_eq_getElem?_getD,List.getElem?_eq_none z]at hc;cases hc
      exact⟨c,by rw[List.getD_eq_getElem?_getD,List.getElem?_append_left hlt,←List.getD_eq_getElem?_getD];exact hc⟩
     |succ i=>exact i5 i n (by simpa using hn)
    ·rcases List.mem_cons.1 hx' with rfl|hx'
     ·rfl
     ·exact i6 x hx'
  ·cases hp
def ResF(w0:Base P)(w:World)(b:Nat):Prop:=w0.F b\/(w0.w.heap.size<=b/\b<w.heap.size/\zar w b)
theorem ype{h:List (Option HE)}{b:Nat}(k:NF w0 β h w b):ResF w0 w b:=k.imp id λz=>⟨z.1,z.2.1⟩
theorem zw6(m:M w0 β s a w){r:ResultVar}{d:DV}(h:zh8 P s r=some d):∃u,(zib a r).run P w=.ok u w/\DenV w (ResF w0 w) d u:=by
 have hhp:∀n c,hpSt s n=some c->c=.gone\/s.heap.getD n none=some c:=λn c h=>.inr (by
  unfold hpSt at h
  split at h
  ·cases h
  ·cases h
  ·exact h)
 have hnc:∀n t cs,hpSt s n≠some (.cells t cs):=λn t cs h=>by
  unfold hpSt at h
  split at h
  ·cases h
  ·cases h
  ·rename_i hno _;exact hno t cs h
 have hnr:∀n ds,hpSt s n≠some (.raw ds):=λn ds h=>by
  unfold hpSt at h
  split at h
  ·cases h
  ·cases h
  ·rename_i _ hno;exact hno ds h
 have hO:∀(c:Value),∀n∈refs c,∀t k f,s.heap.getD n none=some (.own t k f)->∀b,((β n).2 0).ownBlock=some b->ResF w0 w b:=λc n _ t k f hn b hb=>.inr ⟨(m.mem.ownlt hn hb).1,(m.mem.ownlt hn hb).2,m.mem.ownpl hn hb⟩
 have hd:∀t,Den β s.slots (s.slots.getD t .junk) (a.tmps.getD t undef):=λt=>by
  rw[Array.getD_eq_getD_getElem?]
  cases hu:a.tmps[t]? with
  |some u=>exact m.slot t u hu
  |none=>
   have hs:s.slots.length<=t:=by rw[←m.size];exact Array.getElem?_eq_none_iff.1 hu
   have:s.slots.getD t .junk=.junk:=by simp[List.getElem?_eq_none hs]
   rw[this];trivial
 have conv:∀v d,toDV (hpSt s) v=some d->DenV w (ResF w0 w) d (ren β v):=λv d hv=>zm7 m.mem hhp (.inl hnr) (λb=>ype) hv (hO v) (.inr (.inr hnc))
 cases r with
 |tmp t=>
  simp only[zh8]at h
  split at h
  ·rename_i v hv
   have:=zoi (hd t) hv
   exact⟨_,rfl,by rw[show a.tmps.getD t undef=ren β v from this];exact conv v d h⟩
  ·cases h
 |cell t ty=>
  simp only[zh8]at h
  split at h
  ·rename_i ad hev
   have hd':=hd t
   rw[hev]at hd'
   obtain⟨n,off,sp⟩:=ad
   dsimp only at h
   split at h
   ·rename_i ty' cs hn
    split at h
    ·rename_i u hu
     split at h
     ·rename_i h1
      have hok:=m.mem.ok n _ hn
      have hd'':a.tmps.getD t undef=.pointer (some ⟨(β n).1,off,none⟩):=hd'
      have hrun:=zet (P:=P) hok.1 (zon (β:=β) hu h1)
      refine⟨ren β u,?_,conv u d h⟩
      simp only[zib,Sem.run_bind,hd'',asAddr,Sem.run_pure,Result.andThen_ok,hrun]
     ·cases h
    ·cases h
   ·cases h
  ·cases h
theorem zpc(m:M w0 β s a w):∀{rs:List ResultVar} {ds:List DV},ztg P s rs=some ds->∃us,(rs.mapM (zib a)).run P w=.ok us w/\zfn w (ResF w0 w) ds us
 |[],ds,h=>by simp only[ztg,Option.some.injEq]at h;subst h;exact⟨[],rfl,trivial⟩
 |r::rs,ds,h=>by
  simp only[ztg]at h
  split at h
  ·rename_i d ds' hd hds
   simp only[Option.some.injEq]at h;subst h
   obtain⟨u,h1,h2⟩:=zw6 m hd
   obtain⟨us,h3,h4⟩:=zpc m hds
   exact⟨u::us,by rw[List.mapM_cons];simp only[Sem.run_bind,h1,Result.andThen_ok,h3,Sem.run_pure],h2,h4⟩
  ·cases h
theorem ze2{fn:Func}(m:M w0 β s a w){r:RV}(h:resD P fn.results s=some r):∃u,(results fn a.tmps).run P w=.ok u w/\DenR w (ResF w0 w) r u:=by
 have hres:results fn a.tmps=(do let vs←fn.results.mapM (zib a);pure (if h:vs.size=1 then vs[0]else .tuple vs)):=by
  unfold results
  refine congrArg (λf=>(do let vs←fn.results.mapM f;pure (if h:vs.size=1 then vs[0]else .tuple vs):Go.Sem Value)) ?_
  funext r;cases r<;>rfl
 rw[hres]
 unfold resD at h
 have key:∀ds,ztg P s fn.results.toList=some ds->∃us,(fn.results.mapM (zib a)).run P w=.ok us.toArray w/\zfn w (ResF w0 w) ds us:=λds hds=>by
  obtain⟨us,h1,h2⟩:=zpc m hds
  refine⟨us,?_,h2⟩
  rw[Array.mapM_eq_mapM_toList,map_eq_pure_bind]
  simp only[Sem.run_bind,h1,Result.andThen_ok,Sem.run_pure]
 split at h
 ·rename_i d hd
  simp only[Option.some.injEq]at h;subst h
  obtain⟨us,h1,h2⟩:=key _ hd
  cases us with
  |nil=>exact h2.elim
  |cons u us=>
   cases us with
   |cons _ _=>exact h2.2.elim
   |nil=>
    refine⟨u,?_,h2.1⟩
    simp only[Sem.run_bind,h1,Result.andThen_ok,Sem.run_pure]
    rfl
 ·rename_i ds hno hd
  simp only[Option.some.injEq]at h;subst h
  obtain⟨us,h1,h2⟩:=key _ hd
  refine⟨.tuple us.toArray,?_,us.toArray,rfl,by simpa using h2⟩
  simp only[Sem.run_bind,h1,Result.andThen_ok,Sem.run_pure]
  have hlen:¬us.toArray.size=1:=λhl=>by
   cases us with
   |nil=>simp at hl
   |cons u us=>
    cases us with
    |cons _ _=>simp at hl
    |nil=>
     cases ds with
     |nil=>exact h2.elim
     |cons d ds=>
      cases ds with
      |cons _ _=>exact h2.2.elim
      |nil=>exact hno d rfl
  rw[dif_neg hlen]
 ·cases h
theorem ztd{rs:Array ResultVar}{Q:RV->Prop}:∀{o:Out},(o.ro P rs).sat Q->o.sat λe s=>(e=.normal\/e=.ret)/\∃r,resD P rs s=some r/\Q r
 |.leaf e s,h=>by
  cases hr:resD P rs s with
  |none=>
   simp only[Out.ro,hr]at h
   cases e<;>exact h.elim
  |some r=>
   simp only[Out.ro,hr]at h
   cases e with
   |exit id=>exact h.elim
   |normal=>exact⟨.inl rfl,r,hr,h⟩
   |ret=>exact⟨.inr rfl,r,hr,h⟩
 |.ite b x y,h=>⟨λhb=>ztd (o:=x) (h.1 hb),λhb=>ztd (o:=y) (h.2 hb)⟩
 |.side ps x,h=>⟨h.1,ztd (o:=x) h.2⟩
 |.fail,h=>h.elim
theorem zbs(ht:zal P X)(hm:P.follows .mixedOrders=true){K:Nat}{fn:Func}(hf:P.funcs[K]? = some fn)(hn:(fn.name=="runtime.NumGoroutine")=false){c:Code}(hb:fn.body=some c)(hl:∀w0:Base P,Dyn.LpOk P w0 lp (zam c)){fuel:Nat}{args:List DV}{r:RV}{O:RO}
  (hp:pOks args=true) (hO:(dfun P X lp fuel fn args).ro P fn.results=O) (hs:O.sat λr'=>RVLe r' r):zav P K args r:=by
 intro w F us hF hden
 have hrun:(callFunc K us.toArray).run P w=.ok (.enter K us.toArray) w:=by
  unfold callFunc
  simp only[Sem.run_bind,run_program,Result.andThen_ok,hf,hn,hb]
  simp
 rw[hrun]
 refine⟨rfl,?_⟩
 let w0:Base P:=⟨w,F,λb hb=>(hF b hb).1,[],(λ_ h=>by cases h),λb hb=>(hF b hb).2,λ_=>False,λ_ h=>h.elim,λ_=>(0,λ_=>.bool false),λ_=>False⟩
 have m0:Mem w0 (λ_=>(0,λ_=>.bool false)) [] w:=⟨λn he hn=>by simp at hn,λn k c d b hn=>by simp at hn,λn t cs hn=>by simp at hn,λ_ _=>rfl,⟨rfl,rfl,rfl,Nat.le_refl _,λ_ _ _=>rfl⟩,λn v i hn=>by simp at hn⟩
 obtain⟨β,_,i2,i3,i4,i5,i6⟩:=zkp (w0:=w0) args us [] _ m0 (λb hb=>.inl hb) hp hden
 simp only[List.length_nil,List.nil_append]at i2 i3 i4 i5 i6
 have hlen:us.length=args.length:=by
  have:∀(ds:List DV) (us:List Value),zfn w F ds us->us.length=ds.length:=by
   intro ds
   induction ds with
   |nil=>intro us h;cases us with
    |nil=>rfl
    |cons _ _=>exact h.elim
   |cons d ds ih=>intro us h;cases us with
    |nil=>exact h.elim
    |cons u us=>simp only[List.length_cons];rw[ih us h.2]
  exact this args us hden
 have m:M w0 β (zpu fn args) {tmps:=us.toArray++Array.replicate (fn.ntmps-us.toArray.size) undef,defers:=[]} w:=by
  refine {defers:=rfl,anc:=λh=>(by cases h),size:=by simp[zpu,i3,hlen],slot:=λi u hu=>?_,locs:=λi n hn=>?_,mem:=i2,tie:=λp hp=>by cases hp}
  ·by_cases hi:i<us.length
   ·have e2:(us.toArray++Array.replicate (fn.ntmps-us.toArray.size) undef)[i]? = us[i]?:=by
     rw[Array.getElem?_append_left (by simpa using hi)];simp
    rw[e2]at hu
    have e1:(zpu fn args).slots.getD i .junk=(zej 0 args).1.getD i .junk:=by
     simp only[zpu,List.getD_eq_getElem?_getD]
     rw[List.getElem?_append_left (by rw[i3];exact hi)]
    rw[e1]
    exact zbg (λ_ _=>rfl) (λc hc=>by
     have hg:isG ((zej 0 args).1.getD i .junk)=false:=by
      rw[List.getD_eq_getElem?_getD,List.getElem?_eq_getElem (by rw[i3];exact hi)]
      exact i6 _ (List.getElem_mem _)
     rw[zbj hg]at hc;cases hc) (i4 i u hu)
   ·have e1:(zpu fn args).slots.getD i .junk=.junk:=by
     simp only[zpu,List.getD_eq_getElem?_getD]
     rw[List.getElem?_append_right (by rw[i3];omega),List.getElem?_replicate]
     split<;>rfl
    rw[e1];trivial
  ·by_cases hi:i<us.length
   ·have e1:(zpu fn args).slots.getD i .junk=(zej 0 args).1.getD i .junk:=by
     simp only[zpu,List.getD_eq_getElem?_getD]
     rw[List.getElem?_append_left (by rw[i3];exact hi)]
    rw[e1]at hn
    exact i5 i n hn
   ·have e1:(zpu fn args).slots.getD i .junk=.junk:=by
     simp only[zpu,List.getD_eq_getElem?_getD]
     rw[List.getElem?_append_right (by rw[i3];omega),List.getElem?_replicate]
     split<;>rfl
    rw[e1]at hn;cases hn
 have ng:NoG (zpu fn args):=by
  intro x hx
  rcases List.mem_append.1 hx with hx|hx
  ·exact i6 x hx
  ·rw[(List.mem_replicate.1 hx).2];rfl
 have hsat:=ztd (hO▸hs)
 unfold dfun at hsat
 rw[hb]at hsat
 refine calls_of_wp hf hb ?_
 refine zd3 ht hm c (hl w0) .leaf _ _ _ w _ m ng hsat λe s β a w' m' _ hl=>?_
 obtain⟨he,r',hr,hq⟩:=hl
 obtain⟨u,hu1,hu2⟩:=ze2 m' hr
 have hpost:a.defers=[]/\∃v',(results fn a.tmps).run P w'=.ok v' w'/\∃u,Ending.returned v'=.returned u/\DenR w' (λb=>F b\/(w.heap.size<=b/\b<w'.heap.size/\zar w' b)) r u/\Below w.heap.size w w':=
  ⟨m'.defers,u,hu1,u,rfl,zjq hq hu2,⟨m'.mem.below.os,m'.mem.below.tape,m'.mem.below.output,m'.mem.below.size,λk hk=>m'.mem.below.block k hk (λh=>by cases h)⟩⟩
 rcases he with rfl|rfl<;>exact hpost
theorem zfl(ht:zal P X)(hm:P.follows .mixedOrders=true){K:Nat}{fn:Func}(hf:P.funcs[K]? = some fn)(hn:(fn.name=="runtime.NumGoroutine")=false){c:Code}(hb:fn.body=some c)(hl:∀w0:Base P,Dyn.LpOk P w0 lp (zam c)){fuel:Nat}{args:List DV}{v:Value}{l:List Prop}
  (hp:pOks args=true) (hv:((dfun P X lp fuel fn args).ro P fn.results).val=some v) (hs:((dfun P X lp fuel fn args).ro P fn.results).sideList=l) (ha:allP l):zav P K args (.val (.one (.p v))):=
 zbs (fuel:=fuel) ht hm hf hn hb hl hp rfl (by
  have:=RO.sat_val hv (by rw[hs];exact ha)
  have mono:∀{o:RO} {Q Q':RV->Prop},(∀r,Q r->Q' r)->o.sat Q->o.sat Q':=by
   intro o
   induction o with
   |leaf r=>intro Q Q' h k;exact h r k
   |ite b x y ihx ihy=>intro Q Q' h k;exact⟨λhb=>ihx h (k.1 hb),λhb=>ihy h (k.2 hb)⟩
   |side ps x ih=>intro Q Q' h k;exact⟨k.1,ih h k.2⟩
   |fail=>intro Q Q' h k;exact k
  exact mono (λr hr=>by subst hr;exact RVLe.refl _) this)
def noLp:Lp:=λ_ _=>none
theorem zcl(c:Code)(w0:Base P):Dyn.LpOk P w0 noLp (zam c):=λp hp s o h=>by cases h
abbrev zb2:=Nat×(List DV->Option (RV×List Prop))
def tdOf:List zb2->Nat->List DV->Option (RV×List Prop)
 |[],_,_=>none
 |e::es,K,args=>bif Nat.beq e.1 K then e.2 args else tdOf es K args
def zbu(P:Program)(e:zb2):Prop:=∀args r ps,e.2 args=some (r,ps)->allP ps->zav P e.1 args r
theorem zhw:∀{es:List zb2},(∀e∈es,zbu P e)->∀K args r ps,tdOf es K args=some (r,ps)->allP ps->zav P K args r
 |[],_=>λK args r ps h=>by simp[tdOf]at h
 |e::es,h=>λK args r ps hv=>by
  simp only[tdOf]at hv
  cases hb:Nat.beq e.1 K with
  |true=>
   rw[hb]at hv
   have:e.1=K:=Nat.eq_of_beq_eq_true hb
   subst this
   exact h e (by simp) args r ps hv
  |false=>
   rw[hb]at hv
   exact zhw (es:=es) (λx hx=>h x (by simp[hx])) K args r ps hv
def tabs(es:List zay)(ds:List zb2)(dres:Nat->Bool)(dty:TypeId->Bool):Tabs:={tb:=tbOf es,td:=tdOf ds,dres:=dres,dty:=dty}
theorem zb0{es:List zay}{ds:List zb2}{dres:Nat->Bool}{dty:TypeId->Bool}(h1:∀e∈es,zae P e)(h2:∀e∈ds,zbu P e):zal P (tabs es ds dres dty):=⟨(λK f h=>by cases h),(λK h=>by cases h),zas h1,(λK f az lent u out ps h=>by cases h),zhw h2,(λK a r ps h=>by cases h),(λK f a t n g ps h=>by cases h),(λops dr s o h=>by cases h),λ_ _ _ _ _ _ _ h=>by cases h⟩
abbrev zze:=Nat×(List LA->Lent->Option (Value×List (List Value)×List Prop))
def txOf:List zze->Nat->Option (List LA->Lent->Option (Value×List (List Value)×List Prop))
 |[],_=>none
 |e::es,K=>bif Nat.beq e.1 K then some e.2 else txOf es K
def zjo(P:Program)(e:zze):Prop:=∀az lent u out ps,e.2 az lent=some (u,out,ps)->allP ps->zlq P e.1 az lent u out
theorem z7b:∀{es:List zze},(∀e∈es,zjo P e)->∀K f az lent u out ps,txOf es K=some f->f az lent=some (u,out,ps)->allP ps->zlq P K az lent u out
 |[],_=>λK f az lent u out ps h=>by cases h
 |e::es,h=>λK f az lent u out ps hk hv=>by
  simp only[txOf]at hk
  cases hb:Nat.beq e.1 K with
  |true=>
   rw[hb]at hk
   have:e.1=K:=Nat.eq_of_beq_eq_true hb
   subst this
   simp only[cond_true,Option.some.injEq]at hk;subst hk
   exact h e (by simp) az lent u out ps hv
  |false=>
   rw[hb]at hk
   exact z7b (es:=es) (λx hx=>h x (by simp[hx])) K f az lent u out ps hk hv
def z4v(es:List zay)(ds:List zb2)(xs:List zze)(dres:Nat->Bool)(dty:TypeId->Bool)(dtmp:Bool):Tabs:={tb:=tbOf es,td:=tdOf ds,dres:=dres,dty:=dty,tx:=txOf xs,dtmp:=dtmp}
theorem zna{es:List zay}{ds:List zb2}{xs:List zze}{dres:Nat->Bool}{dty:TypeId->Bool}{dtmp:Bool}(h1:∀e∈es,zae P e)(h2:∀e∈ds,zbu P e)(h3:∀e∈xs,zjo P e):zal P (z4v es ds xs dres dty dtmp):=⟨(λK f h=>by cases h),(λK h=>by cases h),zas h1,z7b h3,zhw h2,(λK a r ps h=>by cases h),(λK f a t n g ps h=>by cases h),(λops dr s o h=>by cases h),λ_ _ _ _ _ _ _ h=>by cases h⟩
def nwT(X:Tabs)(nw:Nat->Option (Value->Option (TypeId×List Value))):Tabs:={tb:=X.tb,td:=X.td,tr:=X.tr,dres:=X.dres,dty:=X.dty,pin:=X.pin,tx:=X.tx,dtmp:=X.dtmp,ext:=X.ext,pl:=X.pl,nw:=nw,sl:=X.sl,ow:=X.ow,gv:=X.gv,rx:=X.rx,cl:=X.cl,gn:=X.gn}
theorem nwT_ok{X:Tabs}(h:zal P X){nw:Nat->Option (Value->Option (TypeId×List Value))}(hn:∀K f,nw K=some f->NewP P K f):zal P (nwT X nw):=⟨hn,h.pl,h.tb,h.tx,h.td,h.tr,h.ow,h.rx,h.gv⟩
end
end Go.Proofs.YtmekpbopoknigaaGreatDoor.Dyn
namespace Go.Proofs.YtmekpbopoknigaaGreatDoor
open Go Go.RowKit
set_option maxRecDepth 100000
abbrev W(x:Int):Int:=IntKind.i64.wrap x
abbrev U(x:Int):Int:=IntKind.u64.wrap x
structure P2 where
 x:Int
 y:Int
structure B4 where
 x0:Int
 y0:Int
 x1:Int
 y1:Int
structure W2 where
 hi:Int
 lo:Int
abbrev vi(x:Int):Value:=.int .i64 x
abbrev vu(x:Int):Value:=.int .u64 x
abbrev vb(x:Bool):Value:=.bool x
abbrev pt(p:P2):Value:=.agg ⟨[vi p.x,vi p.y]⟩
abbrev bx(b:B4):Value:=.agg ⟨[vi b.x0,vi b.y0,vi b.x1,vi b.y1]⟩
abbrev wd(w:W2):Value:=.agg ⟨[vu w.hi,vu w.lo]⟩
def dI:Value->Option Int|.int .i64 x=>some x|_=>none
def dU:Value->Option Int|.int .u64 x=>some x|_=>none
def dB:Value->Option Bool|.bool x=>some x|_=>none
def dP:Value->Option P2|.agg ⟨[.int .i64 x,.int .i64 y]⟩=>some ⟨x,y⟩|_=>none
def dBx:Value->Option B4|.agg ⟨[.int .i64 a,.int .i64 b,.int .i64 c,.int .i64 d]⟩=>some ⟨a,b,c,d⟩|_=>none
def dW:Value->Option W2|.agg ⟨[.int .u64 x,.int .u64 y]⟩=>some ⟨x,y⟩|_=>none
theorem zdy{v:Value}{x:Int}(h:dI v=some x):v=vi x:=by unfold dI at h;split at h<;>simp_all
theorem z04{v:Value}{x:Int}(h:dU v=some x):v=vu x:=by unfold dU at h;split at h<;>simp_all
theorem dB_eq{v:Value}{x:Bool}(h:dB v=some x):v=vb x:=by unfold dB at h;split at h<;>simp_all
theorem zck{v:Value}{x:P2}(h:dP v=some x):v=pt x:=by
 unfold dP at h;split at h
 ·simp only[Option.some.injEq]at h;subst h;rfl
 ·cases h
theorem zg7{v:Value}{x:B4}(h:dBx v=some x):v=bx x:=by
 unfold dBx at h;split at h
 ·simp only[Option.some.injEq]at h;subst h;rfl
 ·cases h
theorem dW_eq{v:Value}{x:W2}(h:dW v=some x):v=wd x:=by
 unfold dW at h;split at h
 ·simp only[Option.some.injEq]at h;subst h;rfl
 ·cases h
def en1{α:Type}(d0:Value->Option α)(f:α->Value):List Value->Option (Value×List Prop)
 |[u0]=>match d0 u0 with|some a0=>some (f a0,[])|_=>none
 |_=>none
def en2{α β:Type}(d0:Value->Option α)(d1:Value->Option β)(f:α->β->Value):List Value->Option (Value×List Prop)
 |[u0,u1]=>match d0 u0,d1 u1 with|some a0,some a1=>some (f a0 a1,[])|_,_=>none
 |_=>none
def en2p{α β:Type}(d0:Value->Option α)(d1:Value->Option β)(q:α->β->Prop)(f:α->β->Value):List Value->Option (Value×List Prop)
 |[u0,u1]=>match d0 u0,d1 u1 with|some a0,some a1=>some (f a0 a1,[q a0 a1])|_,_=>none
 |_=>none
def en3{α β γ:Type}(d0:Value->Option α)(d1:Value->Option β)(d2:Value->Option γ)(f:α->β->γ->Value):List Value->Option (Value×List Prop)
 |[u0,u1,u2]=>match d0 u0,d1 u1,d2 u2 with|some a0,some a1,some a2=>some (f a0 a1 a2,[])|_,_,_=>none
 |_=>none
def en4{α β γ δ:Type}(d0:Value->Option α)(d1:Value->Option β)(d2:Value->Option γ)(d3:Value->Option δ)(f:α->β->γ->δ->Value):List Value->Option (Value×List Prop)
 |[u0,u1,u2,u3]=>match d0 u0,d1 u1,d2 u2,d3 u3 with|some a0,some a1,some a2,some a3=>some (f a0 a1 a2 a3,[])|_,_,_,_=>none
 |_=>none
def en5{α β γ δ ε:Type}(d0:Value->Option α)(d1:Value->Option β)(d2:Value->Option γ)(d3:Value->Option δ)(d4:Value->Option ε)(f:α->β->γ->δ->ε->Value):List Value->Option (Value×List Prop)
 |[u0,u1,u2,u3,u4]=>match d0 u0,d1 u1,d2 u2,d3 u3,d4 u4 with|some a0,some a1,some a2,some a3,some a4=>some (f a0 a1 a2 a3 a4,[])|_,_,_,_,_=>none
 |_=>none
theorem zg4{P:Program}{K:Nat}{α:Type}{d0:Value->Option α}{c0:α->Value}{f:α->Value}(h0:∀{u a},d0 u=some a->u=c0 a)(h:∀a0,Sym.za2 P K [c0 a0] (f a0)):Sym.zae P (K,en1 d0 f):=by
 intro args v ps hv hps
 simp only[en1]at hv
 split at hv
 ·split at hv
  ·rename_i a0 e0
   simp only[Option.some.injEq,Prod.mk.injEq]at hv
   obtain⟨rfl,rfl⟩:=hv
   rw[h0 e0];exact h a0
  ·cases hv
 ·cases hv
theorem zjx{P:Program}{K:Nat}{α β:Type}{d0:Value->Option α}{c0:α->Value}{d1:Value->Option β}{c1:β->Value}{f:α->β->Value}(h0:∀{u a},d0 u=some a->u=c0 a)(h1:∀{u a},d1 u=some a->u=c1 a)(h:∀a0 a1,Sym.za2 P K [c0 a0,c1 a1] (f a0 a1)):Sym.zae P (K,en2 d0 d1 f):=by
 intro args v ps hv hps
 simp only[en2]at hv
 split at hv
 ·split at hv
  ·rename_i a0 a1 e0 e1
   simp only[Option.some.injEq,Prod.mk.injEq]at hv
   obtain⟨rfl,rfl⟩:=hv
   rw[h0 e0,h1 e1];exact h a0 a1
  ·cases hv
 ·cases hv
theorem yod{P:Program}{K:Nat}{α β:Type}{d0:Value->Option α}{c0:α->Value}{d1:Value->Option β}{c1:β->Value}{q:α->β->Prop}{f:α->β->Value}(h0:∀{u a},d0 u=some a->u=c0 a)(h1:∀{u a},d1 u=some a->u=c1 a)(h:∀a0 a1,q a0 a1->Sym.za2 P K [c0 a0,c1 a1] (f a0 a1)):Sym.zae P (K,en2p d0 d1 q f):=by
 intro args v ps hv hps
 simp only[en2p]at hv
 split at hv
 ·split at hv
  ·rename_i a0 a1 e0 e1
   simp only[Option.some.injEq,Prod.mk.injEq]at hv
   obtain⟨rfl,rfl⟩:=hv
   rw[h0 e0,h1 e1];exact h a0 a1 hps.1
  ·cases hv
 ·cases hv
theorem zhq{P:Program}{K:Nat}{α β γ:Type}{d0:Value->Option α}{c0:α->Value}{d1:Value->Option β}{c1:β->Value}{d2:Value->Option γ}{c2:γ->Value}{f:α->β->γ->Value}(h0:∀{u a},d0 u=some a->u=c0 a)(h1:∀{u a},d1 u=some a->u=c1 a)(h2:∀{u a},d2 u=some a->u=c2 a)(h:∀a0 a1 a2,Sym.za2 P K [c0 a0,c1 a1,c2 a2] (f a0 a1 a2)):Sym.zae P (K,en3 d0 d1 d2 f):=by
 intro args v ps hv hps
 simp only[en3]at hv
 split at hv
 ·split at hv
  ·rename_i a0 a1 a2 e0 e1 e2
   simp only[Option.some.injEq,Prod.mk.injEq]at hv
   obtain⟨rfl,rfl⟩:=hv
   rw[h0 e0,h1 e1,h2 e2];exact h a0 a1 a2
  ·cases hv
 ·cases hv
theorem zyj{P:Program}{K:Nat}{α β γ δ:Type}{d0:Value->Option α}{c0:α->Value}{d1:Value->Option β}{c1:β->Value}{d2:Value->Option γ}{c2:γ->Value}{d3:Value->Option δ}{c3:δ->Value}{f:α->β->γ->δ->Value}(h0:∀{u a},d0 u=some a->u=c0 a)(h1:∀{u a},d1 u=some a->u=c1 a)(h2:∀{u a},d2 u=some a->u=c2 a)(h3:∀{u a},d3 u=some a->u=c3 a)(h:∀a0 a1 a2 a3,Sym.za2 P K [c0 a0,c1 a1,c2 a2,c3 a3] (f a0 a1 a2 a3)):Sym.zae P (K,en4 d0 d1 d2 d3 f):=by
 intro args v ps hv hps
 simp only[en4]at hv
 split at hv
 ·split at hv
  ·rename_i a0 a1 a2 a3 e0 e1 e2 e3
   simp only[Option.some.injEq,Prod.mk.injEq]at hv
   obtain⟨rfl,rfl⟩:=hv
   rw[h0 e0,h1 e1,h2 e2,h3 e3];exact h a0 a1 a2 a3
  ·cases hv
 ·cases hv
theorem ykr{P:Program}{K:Nat}{α β γ δ ε:Type}{d0:Value->Option α}{c0:α->Value}{d1:Value->Option β}{c1:β->Value}{d2:Value->Option γ}{c2:γ->Value}{d3:Value->Option δ}{c3:δ->Value}{d4:Value->Option ε}{c4:ε->Value}{f:α->β->γ->δ->ε->Value}(h0:∀{u a},d0 u=some a->u=c0 a)(h1:∀{u a},d1 u=some a->u=c1 a)(h2:∀{u a},d2 u=some a->u=c2 a)(h3:∀{u a},d3 u=some a->u=c3 a)(h4:∀{u a},d4 u=some a->u=c4 a)(h:∀a0 a1 a2 a3 a4,Sym.za2 P K [c0 a0,c1 a1,c2 a2,c3 a3,c4 a4] (f a0 a1 a2 a3 a4)):Sym.zae P (K,en5 d0 d1 d2 d3 d4 f):=by
 intro args v ps hv hps
 simp only[en5]at hv
 split at hv
 ·split at hv
  ·rename_i a0 a1 a2 a3 a4 e0 e1 e2 e3 e4
   simp only[Option.some.injEq,Prod.mk.injEq]at hv
   obtain⟨rfl,rfl⟩:=hv
   rw[h0 e0,h1 e1,h2 e2,h3 e3,h4 e4];exact h a0 a1 a2 a3 a4
  ·cases hv
 ·cases hv
section
open Sym
variable{P:Program}{K:Nat}
theorem fnOk{tb:Nat->List Value->Option (Value×List Prop)}(ht:TbOk P tb)(hm:P.follows .mixedOrders=true){fn:Func}(hf:P.funcs[K]? = some fn)(hb:fn.body.isNone=false)(hn:(fn.name=="runtime.NumGoroutine")=false){fuel:Nat}{args:List Value}{v:Value}
  (hv:(afun P tb fuel fn args).val P fn.results=some v) (hs:(afun P tb fuel fn args).noSides=true):za2 P K args v:=
 ycw hf hb hn λw=>z35 ht hm hf hv (Out.sides_of hs) w
theorem yn3{tb:Nat->List Value->Option (Value×List Prop)}(ht:TbOk P tb)(hm:P.follows .mixedOrders=true){fn:Func}(hf:P.funcs[K]? = some fn)(hb:fn.body.isNone=false)(hn:(fn.name=="runtime.NumGoroutine")=false){fuel:Nat}{args:List Value}{v:Value}
  {l:List Prop} (hv:(afun P tb fuel fn args).val P fn.results=some v) (hl:(afun P tb fuel fn args).sideList=l) (hs:allP l):za2 P K args v:=
 ycw hf hb hn λw=>z35 ht hm hf hv (Out.sides_list (by rw[hl];exact hs)) w
end
def orB(a b:Bool):Bool:=bif a then true else b
def andB(a b:Bool):Bool:=bif a then b else false
def imax(x y:Int):Int:=if y>x then y else x
def imin(x y:Int):Int:=if y<x then y else x
def band(x y:Int):Int:=W ((BitVec.ofInt 64 x &&& BitVec.ofInt 64 y).toNat:Int)
def zqn(v:Int):Bool:=andB (decide (v>=-536870912)) (decide (v<=536870912))
def zy0(b:B4):Bool:=andB (andB (andB (andB (andB (decide (b.x0<=b.x1)) (decide (b.y0<=b.y1))) (zqn b.x0)) (zqn b.y0)) (zqn b.x1)) (zqn b.y1)
def zhc(b:B4)(p:P2):Bool:=andB (andB (andB (decide (b.x0<=p.x)) (decide (p.x<=b.x1))) (decide (b.y0<=p.y))) (decide (p.y<=b.y1))
def gap(v lo hi:Int):Int:=bif decide (v<lo)then W (lo-v)else bif decide (v>hi)then W (v-hi)else 0
def zxg(v lo hi:Int):Int:=imax (imax (imax (W (v-lo)) (W (lo-v))) (W (v-hi))) (W (hi-v))
def near(b:B4)(p:P2):Int:=W (W (gap p.x b.x0 b.x1*gap p.x b.x0 b.x1)+W (gap p.y b.y0 b.y1*gap p.y b.y0 b.y1))
def most(b:B4)(p:P2):Int:=W (W (zxg p.x b.x0 b.x1*zxg p.x b.x0 b.x1)+W (zxg p.y b.y0 b.y1*zxg p.y b.y0 b.y1))
def zfm(o a b:P2):Int:=W (W (W (a.x-o.x)*W (b.y-o.y))-W (W (a.y-o.y)*W (b.x-o.x)))
def zg5(b:B4):Bool:=orB (decide (b.x0>b.x1)) (decide (b.y0>b.y1))
def zo3(a b:B4):Bool:=orB (orB (orB (orB (orB (zg5 a) (zg5 b)) (decide (a.x1<b.x0))) (decide (b.x1<a.x0))) (decide (a.y1<b.y0))) (decide (b.y1<a.y0))
def ycj(b:B4):Value:=.agg ⟨[vi b.x0,vi b.y0,vi b.x1,vi b.y0,vi b.x0,vi b.y1,vi b.x1,vi b.y1]⟩
def up(c:Bool)(n:Int):Int:=bif c then W (n+1)else n
def cnt4(f:P2->Bool)(b:B4):Int:=up (f ⟨b.x1,b.y1⟩) (up (f ⟨b.x0,b.y1⟩) (up (f ⟨b.x1,b.y0⟩) (up (f ⟨b.x0,b.y0⟩) 0)))
def zrp(b:B4)(p q:P2):Bool:=
 bif orB (orB (orB (orB (zg5 b) (decide (imax p.x q.x<b.x0))) (decide (imin p.x q.x>b.x1))) (decide (imax p.y q.y<b.y0))) (decide (imin p.y q.y>b.y1))then false
 else andB (decide (cnt4 (λc=>decide (zfm p q c>0)) b<4)) (decide (cnt4 (λc=>decide (zfm p q c<0)) b<4))
def ze0(r:Int):Int:=W (imin r 2147483648*imin r 2147483648)
def zo0(p c:P2)(r:Int):Bool:=bif decide (r<1)then false else decide (near ⟨c.x,c.y,c.x,c.y⟩ p<=ze0 r)
def zcr(b:B4)(c:P2)(r:Int):Int:=
 bif orB (decide (r<1)) (!(zhc b ⟨b.x0,b.y0⟩))then 0 else bif decide (near b c>ze0 r)then 0 else bif decide (most b c<=ze0 r)then 2 else 1
def u64(f:BitVec 64):Int:=U (f.toNat:Int)
def wabs(v:Int):Int:=bif decide (v<0)then U (0-U v)else U v
def sh32(x:Int):Int:=x.fdiv (2 ^ min (Int.toNat 32) 64)
def lo32(x:Int):Int:=u64 (BitVec.ofInt 64 x &&& BitVec.ofInt 64 4294967295)
def yav(x y:Int):Int:=
 let w0:=U (lo32 x*lo32 y)
 let t:=U (U (sh32 x*lo32 y)+sh32 w0)
 let w1:=U (lo32 t+U (lo32 x*sh32 y))
 U (U (U (sh32 x*sh32 y)+sh32 t)+sh32 w1)
def ygz(x y:Int):Int:=U (x*y)
def wmul(x y:Int):W2:=⟨yav x y,ygz x y⟩
def wsq(v:Int):W2:=wmul (wabs v) (wabs v)
def ucmp(x y:Int):Int:=bif x != x then(bif y != y then 0 else -1)else bif y != y then 1 else bif decide (x<y)then -1 else bif decide (x>y)then 1 else 0
def wcmp(a b:W2):Int:=bif a.hi != b.hi then ucmp a.hi b.hi else ucmp a.lo b.lo
def z03(x y:Int):Int:=W (W (x*x)+W (y*y))
def zjc(p a c:P2)(r:Int):Bool:=
 bif decide (r<1)then false else
 let x:=W (c.x-a.x)
 let y:=W (c.y-a.y)
 let along:=W (W (W (p.x-a.x)*x)+W (W (p.y-a.y)*y))
 bif decide (along<=0)then decide (near ⟨a.x,a.y,a.x,a.y⟩ p<=ze0 r)else
 bif decide (along>=z03 x y)then decide (near ⟨c.x,c.y,c.x,c.y⟩ p<=ze0 r)else
 decide (wcmp (wsq (zfm a c p)) (wmul (U (ze0 r)) (U (z03 x y)))<=0)
def zd2(b:B4)(a c:P2)(r:Int):Int:=
 bif orB (decide (r<1)) (!(zhc b ⟨b.x0,b.y0⟩))then 0 else
 let n:=cnt4 (λp=>zjc p a c r) b
 bif n==4 then 2 else
 bif orB (orB (orB (decide (n>0)) (decide (near b a<=ze0 r))) (decide (near b c<=ze0 r))) (zrp b a c)then 1 else 0
def ptEq(a c:P2):Bool:=bif a.x==c.x then(bif a.y==c.y then true else false)else false
def zjm(a c:P2)(h:Int):Bool:=orB (ptEq a c) (decide (h<1))
def zdi(p a c:P2)(h:Int):Int:=
 let x:=W (c.x-a.x)
 let y:=W (c.y-a.y)
 bif decide (wcmp (wsq (zfm a c p)) (wmul (U (ze0 h)) (U (z03 x y)))<=0)then 0 else bif decide (zfm a c p>0)then 1 else -1
def past(p a c:P2):Int:=
 let x:=W (c.x-a.x)
 let y:=W (c.y-a.y)
 let along:=W (W (W (p.x-a.x)*x)+W (W (p.y-a.y)*y))
 bif decide (along<0)then -1 else bif decide (along>z03 x y)then 1 else 0
def zy3(p a c:P2)(h:Int):Bool:=andB (andB (!(zjm a c h)) (zdi p a c h==0)) (past p a c==0)
structure C3 where
 m:Int
 z:Int
 p:Int
def zpw(i:Int)(c:C3):C3:=
 let v:=W ((bif decide (i=((0:Nat):Int))then c.m else bif decide (i=((1:Nat):Int))then c.z else c.p)+1)
 ⟨bif decide (i=((0:Nat):Int))then v else c.m,bif decide (i=((1:Nat):Int))then v else c.z,bif decide (i=((2:Nat):Int))then v else c.p⟩
def cnt3(f:P2->Int)(b:B4):C3:=zpw (W (f ⟨b.x1,b.y1⟩+1)) (zpw (W (f ⟨b.x0,b.y1⟩+1)) (zpw (W (f ⟨b.x1,b.y0⟩+1)) (zpw (W (f ⟨b.x0,b.y0⟩+1)) ⟨0,0,0⟩)))
def zfr(b:B4)(a c:P2)(h:Int):Int:=
 bif zjm a c h then 0 else
 bif !(zhc b ⟨b.x0,b.y0⟩)then 2 else
 bif cnt4 (λp=>andB (zdi p a c h==0) (past p a c==0)) b==4 then 2 else
 bif orB (orB (orB ((cnt3 (λp=>zdi p a c h) b).m==4) ((cnt3 (λp=>zdi p a c h) b).p==4)) ((cnt3 (λp=>past p a c) b).m==4)) ((cnt3 (λp=>past p a c) b).p==4)then 0 else 1
def zb7(p q:P2):Int:=near ⟨q.x,q.y,q.x,q.y⟩ p
def znf(c a e:P2):Bool:=andB (zb7 a c != 0) (zb7 a c==zb7 e c)
def zgr(c a e:P2):Bool:=decide (zfm c a e<0)
def z9m(p c a e:P2):Bool:=
 bif ptEq a e then true else
 bif zgr c a e then orB (decide (zfm c a p>=0)) (decide (zfm c p e>=0))else andB (decide (zfm c a p>=0)) (decide (zfm c p e>=0))
def zmb(d rr r:Int):Bool:=
 let left:=W (W (rr-ze0 r)-d)
 orB (decide (left<=0)) (decide (wcmp (wsq left) (wmul (U (4*U d)) (U (ze0 r)))<=0))
def zr3(d rr r:Int):Bool:=
 let left:=W (W (d-rr)-ze0 r)
 orB (decide (left<=0)) (decide (wcmp (wsq left) (wmul (U (4*U rr)) (U (ze0 r)))<=0))
def zux(p c a e:P2)(r:Int):Bool:=
 bif orB (!(znf c a e)) (decide (r<1))then false else
 bif orB (zo0 p a r) (zo0 p e r)then true else
 andB (andB (z9m p c a e) (zmb (zb7 p c) (zb7 a c) r)) (zr3 (zb7 p c) (zb7 a c) r)
def zx0(b:B4)(c a e:P2):Bool:=
 bif ptEq a e then true else
 let u:=cnt4 (λp=>decide (zfm c a p<0)) b
 let v:=cnt4 (λp=>decide (zfm c p e<0)) b
 bif zgr c a e then orB (u==0) (v==0)else andB (u==0) (v==0)
def zrw(b:B4)(c a e:P2):Bool:=
 bif ptEq a e then false else
 let u:=cnt4 (λp=>decide (zfm c a p<0)) b
 let v:=cnt4 (λp=>decide (zfm c p e<0)) b
 bif zgr c a e then andB (u==4) (v==4)else orB (u==4) (v==4)
def zda(b:B4)(c a e:P2)(r:Int):Int:=
 bif orB (!(znf c a e)) (decide (r<1))then 0 else
 bif !(zhc b ⟨b.x0,b.y0⟩)then 2 else
 bif orB (zcr b a r==2) (zcr b e r==2)then 2 else
 bif andB (andB (zx0 b c a e) (zmb (near b c) (zb7 a c) r)) (zr3 (most b c) (zb7 a c) r)then 2 else
 bif orB (zcr b a r != 0) (zcr b e r != 0)then 1 else
 bif orB (orB (zrw b c a e) (!(zr3 (near b c) (zb7 a c) r))) (!(zmb (most b c) (zb7 a c) r))then 0 else 1
def rDist(p q:P2):Int:=W (W (W (p.x-q.x)*W (p.x-q.x))+W (W (p.y-q.y)*W (p.y-q.y)))
def lPt(p:P2):P2:=⟨p.x.tmod 536870913,p.y.tmod 536870913⟩
def zdc(p:P2)(n:Int):P2:=⟨p.x.tmod (W (n+1)),p.y.tmod (W (n+1))⟩
def lR(r:Int):Int:=W (W ((U r).tmod 536870912)+1)
end Go.Proofs.YtmekpbopoknigaaGreatDoor
namespace Go.Proofs.YtmekpbopoknigaaGreatDoor
open Go Go.RowKit Sym
set_option maxRecDepth 100000
theorem mo:Tryz.prog.follows .mixedOrders=true:=by kernel_rfl
def tb0:List zay:=[]
theorem zft:∀e∈tb0,zae Tryz.prog e:=λe he=>by cases he
theorem zv8(a:Int):za2 Tryz.prog 68 [vi a] (vb (zqn a)):=fnOk (fuel:=16) (zas zft) mo Tryz.func68 (by kernel_rfl) (by kernel_rfl) (by kernel_rfl) (by kernel_rfl)
theorem z6q(a:Int)(b:Int)(c:Int):za2 Tryz.prog 105 [vi a,vi b,vi c] (vi (gap a b c)):=fnOk (fuel:=16) (zas zft) mo Tryz.func105 (by kernel_rfl) (by kernel_rfl) (by kernel_rfl) (by kernel_rfl)
theorem zyv(a:Int)(b:Int)(c:Int):za2 Tryz.prog 202 [vi a,vi b,vi c] (vi (zxg a b c)):=fnOk (fuel:=16) (zas zft) mo Tryz.func202 (by kernel_rfl) (by kernel_rfl) (by kernel_rfl) (by kernel_rfl)
theorem z6r(a:B4)(b:P2):za2 Tryz.prog 141 [bx a,pt b] (vb (zhc a b)):=fnOk (fuel:=16) (zas zft) mo Tryz.func141 (by kernel_rfl) (by kernel_rfl) (by kernel_rfl) (by kernel_rfl)
theorem zyw(a:B4):za2 Tryz.prog 70 [bx a] (vb (zg5 a)):=fnOk (fuel:=16) (zas zft) mo Tryz.func70 (by kernel_rfl) (by kernel_rfl) (by kernel_rfl) (by kernel_rfl)
theorem zs1(a:B4):za2 Tryz.prog 146 [bx a] (ycj a):=fnOk (fuel:=16) (zas zft) mo Tryz.func146 (by kernel_rfl) (by kernel_rfl) (by kernel_rfl) (by kernel_rfl)
theorem zyy(a:P2)(b:P2)(c:P2):za2 Tryz.prog 206 [pt a,pt b,pt c] (vi (zfm a b c)):=fnOk (fuel:=16) (zas zft) mo Tryz.func206 (by kernel_rfl) (by kernel_rfl) (by kernel_rfl) (by kernel_rfl)
theorem zsz(a:Int):za2 Tryz.prog 142 [vi a] (vi (ze0 a)):=fnOk (fuel:=16) (zas zft) mo Tryz.func142 (by kernel_rfl) (by kernel_rfl) (by kernel_rfl) (by kernel_rfl)
theorem zsw(a:Int):za2 Tryz.prog 148 [vi a] (vi (ze0 a)):=fnOk (fuel:=16) (zas zft) mo Tryz.func148 (by kernel_rfl) (by kernel_rfl) (by kernel_rfl) (by kernel_rfl)
theorem zzj(a:Int):za2 Tryz.prog 239 [vi a] (vu (wabs a)):=fnOk (fuel:=16) (zas zft) mo Tryz.func239 (by kernel_rfl) (by kernel_rfl) (by kernel_rfl) (by kernel_rfl)
theorem zwa(a:Int)(b:Int):za2 Tryz.prog 241 [vu a,vu b] (.tuple ⟨[vu (yav a b),vu (ygz a b)]⟩):=fnOk (fuel:=16) (zas zft) mo Tryz.func241 (by kernel_rfl) (by kernel_rfl) (by kernel_rfl) (by kernel_rfl)
theorem zmx(a:Int):za2 Tryz.prog 258 [vu a] (vb (a != a)):=fnOk (fuel:=16) (zas zft) mo Tryz.func258 (by kernel_rfl) (by kernel_rfl) (by kernel_rfl) (by kernel_rfl)
theorem z1f(a:P2)(b:P2)(c:Int):za2 Tryz.prog 150 [pt a,pt b,vi c] (vb (zjm a b c)):=fnOk (fuel:=16) (zas zft) mo Tryz.func150 (by kernel_rfl) (by kernel_rfl) (by kernel_rfl) (by kernel_rfl)
theorem z1g(a:P2)(b:P2)(c:P2):za2 Tryz.prog 152 [pt a,pt b,pt c] (vi (past a b c)):=fnOk (fuel:=16) (zas zft) mo Tryz.func152 (by kernel_rfl) (by kernel_rfl) (by kernel_rfl) (by kernel_rfl)
theorem zln(a:P2):za2 Tryz.prog 31 [pt a] (pt (lPt a)):=fnOk (fuel:=16) (zas zft) mo Tryz.func31 (by kernel_rfl) (by kernel_rfl) (by kernel_rfl) (by kernel_rfl)
theorem zmq(a:Int):za2 Tryz.prog 29 [vi a] (vi (lR a)):=fnOk (fuel:=16) (zas zft) mo Tryz.func29 (by kernel_rfl) (by kernel_rfl) (by kernel_rfl) (by kernel_rfl)
def tb1_0:List zay:=(68,en1 dI (λa=>vb (zqn a)))::tb0
theorem yfd:∀e∈tb1_0,zae Tryz.prog e:=List.forall_mem_cons.2 ⟨zg4 zdy zv8,zft⟩
def tb1_1:List zay:=(105,en3 dI dI dI (λa b c=>vi (gap a b c)))::tb1_0
theorem yfc:∀e∈tb1_1,zae Tryz.prog e:=List.forall_mem_cons.2 ⟨zhq zdy zdy zdy z6q,yfd⟩
def tb1_2:List zay:=(202,en3 dI dI dI (λa b c=>vi (zxg a b c)))::tb1_1
theorem yfb:∀e∈tb1_2,zae Tryz.prog e:=List.forall_mem_cons.2 ⟨zhq zdy zdy zdy zyv,yfc⟩
def tb1_3:List zay:=(141,en2 dBx dP (λa b=>vb (zhc a b)))::tb1_2
theorem yfa:∀e∈tb1_3,zae Tryz.prog e:=List.forall_mem_cons.2 ⟨zjx zg7 zck z6r,yfb⟩
def tb1_4:List zay:=(70,en1 dBx (λa=>vb (zg5 a)))::tb1_3
theorem ye9:∀e∈tb1_4,zae Tryz.prog e:=List.forall_mem_cons.2 ⟨zg4 zg7 zyw,yfa⟩
def tb1_5:List zay:=(146,en1 dBx (λa=>ycj a))::tb1_4
theorem ye8:∀e∈tb1_5,zae Tryz.prog e:=List.forall_mem_cons.2 ⟨zg4 zg7 zs1,ye9⟩
def tb1_6:List zay:=(206,en3 dP dP dP (λa b c=>vi (zfm a b c)))::tb1_5
theorem ye7:∀e∈tb1_6,zae Tryz.prog e:=List.forall_mem_cons.2 ⟨zhq zck zck zck zyy,ye8⟩
def tb1_7:List zay:=(142,en1 dI (λa=>vi (ze0 a)))::tb1_6
theorem ye6:∀e∈tb1_7,zae Tryz.prog e:=List.forall_mem_cons.2 ⟨zg4 zdy zsz,ye7⟩
def tb1_8:List zay:=(148,en1 dI (λa=>vi (ze0 a)))::tb1_7
theorem ye5:∀e∈tb1_8,zae Tryz.prog e:=List.forall_mem_cons.2 ⟨zg4 zdy zsw,ye6⟩
def tb1_9:List zay:=(239,en1 dI (λa=>vu (wabs a)))::tb1_8
theorem ye4:∀e∈tb1_9,zae Tryz.prog e:=List.forall_mem_cons.2 ⟨zg4 zdy zzj,ye5⟩
def yjo:List zay:=(241,en2 dU dU (λa b=>.tuple ⟨[vu (yav a b),vu (ygz a b)]⟩))::tb1_9
theorem z8e:∀e∈yjo,zae Tryz.prog e:=List.forall_mem_cons.2 ⟨zjx z04 z04 zwa,ye4⟩
def yjn:List zay:=(258,en1 dU (λa=>vb (a != a)))::yjo
theorem z8d:∀e∈yjn,zae Tryz.prog e:=List.forall_mem_cons.2 ⟨zg4 z04 zmx,z8e⟩
def yjm:List zay:=(150,en3 dP dP dI (λa b c=>vb (zjm a b c)))::yjn
theorem z8c:∀e∈yjm,zae Tryz.prog e:=List.forall_mem_cons.2 ⟨zhq zck zck zdy z1f,z8d⟩
def yjl:List zay:=(152,en3 dP dP dP (λa b c=>vi (past a b c)))::yjm
theorem z8b:∀e∈yjl,zae Tryz.prog e:=List.forall_mem_cons.2 ⟨zhq zck zck zck z1g,z8c⟩
def yjk:List zay:=yjl
theorem z8a:∀e∈yjk,zae Tryz.prog e:=z8b
def yjj:List zay:=yjk
theorem z79:∀e∈yjj,zae Tryz.prog e:=z8a
def yji:List zay:=yjj
theorem z78:∀e∈yji,zae Tryz.prog e:=z79
def yjh:List zay:=yji
theorem z77:∀e∈yjh,zae Tryz.prog e:=z78
def yjg:List zay:=yjh
theorem z76:∀e∈yjg,zae Tryz.prog e:=z77
def yjf:List zay:=yjg
theorem z75:∀e∈yjf,zae Tryz.prog e:=z76
def yje:List zay:=yjf
theorem z74:∀e∈yje,zae Tryz.prog e:=z75
def yjd:List zay:=yje
theorem z73:∀e∈yjd,zae Tryz.prog e:=z74
def yjc:List zay:=yjd
theorem z72:∀e∈yjc,zae Tryz.prog e:=z73
def yjb:List zay:=yjc
theorem z71:∀e∈yjb,zae Tryz.prog e:=z72
def yja:List zay:=yjb
theorem z70:∀e∈yja,zae Tryz.prog e:=z71
def yi9:List zay:=(31,en1 dP (λa=>pt (lPt a)))::yja
theorem z7z:∀e∈yi9,zae Tryz.prog e:=List.forall_mem_cons.2 ⟨zg4 zck zln,z70⟩
def yi8:List zay:=(29,en1 dI (λa=>vi (lR a)))::yi9
theorem z7y:∀e∈yi8,zae Tryz.prog e:=List.forall_mem_cons.2 ⟨zg4 zdy zmq,z7z⟩
def yi7:List zay:=yi8
theorem z7x:∀e∈yi7,zae Tryz.prog e:=z7y
def tb1:List zay:=yi7
theorem zm8:∀e∈tb1,zae Tryz.prog e:=z7x
theorem ycz(a:B4):za2 Tryz.prog 53 [bx a] (vb (zy0 a)):=fnOk (fuel:=16) (zas zm8) mo Tryz.func53 (by kernel_rfl) (by kernel_rfl) (by kernel_rfl) (by kernel_rfl)
theorem z1b(a:B4)(b:P2):za2 Tryz.prog 83 [bx a,pt b] (vi (near a b)):=fnOk (fuel:=16) (zas zm8) mo Tryz.func83 (by kernel_rfl) (by kernel_rfl) (by kernel_rfl) (by kernel_rfl)
theorem z1c(a:B4)(b:P2):za2 Tryz.prog 143 [bx a,pt b] (vi (most a b)):=fnOk (fuel:=16) (zas zm8) mo Tryz.func143 (by kernel_rfl) (by kernel_rfl) (by kernel_rfl) (by kernel_rfl)
theorem zyz(a:B4)(b:B4):za2 Tryz.prog 56 [bx a,bx b] (vb (zo3 a b)):=fnOk (fuel:=16) (zas zm8) mo Tryz.func56 (by kernel_rfl) (by kernel_rfl) (by kernel_rfl) (by kernel_rfl)
theorem zyx(a:B4)(b:P2)(c:P2):za2 Tryz.prog 149 [bx a,pt b,pt c] (vb (zrp a b c)):=fnOk (fuel:=16) (zas zm8) mo Tryz.func149 (by kernel_rfl) (by kernel_rfl) (by kernel_rfl) (by kernel_rfl)
theorem zzh(a:Int)(b:Int):za2 Tryz.prog 208 [vu a,vu b] (wd (wmul a b)):=fnOk (fuel:=16) (zas zm8) mo Tryz.func208 (by kernel_rfl) (by kernel_rfl) (by kernel_rfl) (by kernel_rfl)
theorem zkv(a:Int)(b:Int):za2 Tryz.prog 240 [vu a,vu b] (vi (ucmp a b)):=fnOk (fuel:=16) (zas zm8) mo Tryz.func240 (by kernel_rfl) (by kernel_rfl) (by kernel_rfl) (by kernel_rfl)
theorem zuu(a:P2)(b:P2)(c:P2):za2 Tryz.prog 209 [pt a,pt b,pt c] (vb (zgr a b c)):=fnOk (fuel:=16) (zas zm8) mo Tryz.func209 (by kernel_rfl) (by kernel_rfl) (by kernel_rfl) (by kernel_rfl)
def tb2_0:List zay:=(53,en1 dBx (λa=>vb (zy0 a)))::tb1
theorem ye3:∀e∈tb2_0,zae Tryz.prog e:=List.forall_mem_cons.2 ⟨zg4 zg7 ycz,zm8⟩
def tb2_1:List zay:=(83,en2 dBx dP (λa b=>vi (near a b)))::tb2_0
theorem ye2:∀e∈tb2_1,zae Tryz.prog e:=List.forall_mem_cons.2 ⟨zjx zg7 zck z1b,ye3⟩
def tb2_2:List zay:=(143,en2 dBx dP (λa b=>vi (most a b)))::tb2_1
theorem ye1:∀e∈tb2_2,zae Tryz.prog e:=List.forall_mem_cons.2 ⟨zjx zg7 zck z1c,ye2⟩
def tb2_3:List zay:=(56,en2 dBx dBx (λa b=>vb (zo3 a b)))::tb2_2
theorem ye0:∀e∈tb2_3,zae Tryz.prog e:=List.forall_mem_cons.2 ⟨zjx zg7 zg7 zyz,ye1⟩
def tb2_4:List zay:=(149,en3 dBx dP dP (λa b c=>vb (zrp a b c)))::tb2_3
theorem yez:∀e∈tb2_4,zae Tryz.prog e:=List.forall_mem_cons.2 ⟨zhq zg7 zck zck zyx,ye0⟩
def tb2_5:List zay:=(208,en2 dU dU (λa b=>wd (wmul a b)))::tb2_4
theorem yey:∀e∈tb2_5,zae Tryz.prog e:=List.forall_mem_cons.2 ⟨zjx z04 z04 zzh,yez⟩
def tb2_6:List zay:=(240,en2 dU dU (λa b=>vi (ucmp a b)))::tb2_5
theorem yex:∀e∈tb2_6,zae Tryz.prog e:=List.forall_mem_cons.2 ⟨zjx z04 z04 zkv,yey⟩
def tb2_7:List zay:=(209,en3 dP dP dP (λa b c=>vb (zgr a b c)))::tb2_6
theorem yew:∀e∈tb2_7,zae Tryz.prog e:=List.forall_mem_cons.2 ⟨zhq zck zck zck zuu,yex⟩
def tb2_8:List zay:=tb2_7
theorem yev:∀e∈tb2_8,zae Tryz.prog e:=yew
def tb2_9:List zay:=tb2_8
theorem yeu:∀e∈tb2_9,zae Tryz.prog e:=yev
def yi6:List zay:=tb2_9
theorem z7w:∀e∈yi6,zae Tryz.prog e:=yeu
def yi5:List zay:=yi6
theorem z7v:∀e∈yi5,zae Tryz.prog e:=z7w
def yi4:List zay:=yi5
theorem z7u:∀e∈yi4,zae Tryz.prog e:=z7v
def yi3:List zay:=yi4
theorem z7t:∀e∈yi3,zae Tryz.prog e:=z7u
def tb2:List zay:=yi3
theorem zs9:∀e∈tb2,zae Tryz.prog e:=z7t
theorem z4k(a:Int):za2 Tryz.prog 205 [vi a] (wd (wsq a)):=fnOk (fuel:=16) (zas zs9) mo Tryz.func205 (by kernel_rfl) (by kernel_rfl) (by kernel_rfl) (by kernel_rfl)
theorem zzi(a:W2)(b:W2):za2 Tryz.prog 207 [wd a,wd b] (vi (wcmp a b)):=fnOk (fuel:=16) (zas zs9) mo Tryz.func207 (by kernel_rfl) (by kernel_rfl) (by kernel_rfl) (by kernel_rfl)
theorem zvz(a:B4)(b:P2)(c:Int):za2 Tryz.prog 106 [bx a,pt b,vi c] (vi (zcr a b c)):=fnOk (fuel:=16) (zas zs9) mo Tryz.func106 (by kernel_rfl) (by kernel_rfl) (by kernel_rfl) (by kernel_rfl)
theorem zvd(a:P2)(b:P2):za2 Tryz.prog 204 [pt a,pt b] (vi (zb7 a b)):=fnOk (fuel:=16) (zas zs9) mo Tryz.func204 (by kernel_rfl) (by kernel_rfl) (by kernel_rfl) (by kernel_rfl)
theorem zuv(a:P2)(b:P2):za2 Tryz.prog 67 [pt a,pt b] (vi (zb7 a b)):=fnOk (fuel:=16) (zas zs9) mo Tryz.func67 (by kernel_rfl) (by kernel_rfl) (by kernel_rfl) (by kernel_rfl)
def tb3_0:List zay:=(205,en1 dI (λa=>wd (wsq a)))::tb2
theorem yet:∀e∈tb3_0,zae Tryz.prog e:=List.forall_mem_cons.2 ⟨zg4 zdy z4k,zs9⟩
def tb3_1:List zay:=(207,en2 dW dW (λa b=>vi (wcmp a b)))::tb3_0
theorem yes:∀e∈tb3_1,zae Tryz.prog e:=List.forall_mem_cons.2 ⟨zjx dW_eq dW_eq zzi,yet⟩
def tb3_2:List zay:=tb3_1
theorem yer:∀e∈tb3_2,zae Tryz.prog e:=yes
def tb3_3:List zay:=(106,en3 dBx dP dI (λa b c=>vi (zcr a b c)))::tb3_2
theorem yeq:∀e∈tb3_3,zae Tryz.prog e:=List.forall_mem_cons.2 ⟨zhq zg7 zck zdy zvz,yer⟩
def tb3_4:List zay:=(204,en2 dP dP (λa b=>vi (zb7 a b)))::tb3_3
theorem yep:∀e∈tb3_4,zae Tryz.prog e:=List.forall_mem_cons.2 ⟨zjx zck zck zvd,yeq⟩
def tb3_5:List zay:=(67,en2 dP dP (λa b=>vi (zb7 a b)))::tb3_4
theorem yeo:∀e∈tb3_5,zae Tryz.prog e:=List.forall_mem_cons.2 ⟨zjx zck zck zuv,yep⟩
def tb3_6:List zay:=tb3_5
theorem yen:∀e∈tb3_6,zae Tryz.prog e:=yeo
def tb3_7:List zay:=tb3_6
theorem yem:∀e∈tb3_7,zae Tryz.prog e:=yen
def tb3_8:List zay:=tb3_7
theorem yel:∀e∈tb3_8,zae Tryz.prog e:=yem
def tb3:List zay:=tb3_8
theorem zqw:∀e∈tb3,zae Tryz.prog e:=yel
theorem zwb(a:P2)(b:P2)(c:P2)(d:Int):za2 Tryz.prog 151 [pt a,pt b,pt c,vi d] (vi (zdi a b c d)):=fnOk (fuel:=16) (zas zqw) mo Tryz.func151 (by kernel_rfl) (by kernel_rfl) (by kernel_rfl) (by kernel_rfl)
theorem z0o(a:P2)(b:P2)(c:P2)(d:Int):za2 Tryz.prog 147 [pt a,pt b,pt c,vi d] (vb (zjc a b c d)):=fnOk (fuel:=16) (zas zqw) mo Tryz.func147 (by kernel_rfl) (by kernel_rfl) (by kernel_rfl) (by kernel_rfl)
theorem z44(a:P2)(b:P2)(c:P2):za2 Tryz.prog 52 [pt a,pt b,pt c] (vb (znf a b c)):=fnOk (fuel:=16) (zas zqw) mo Tryz.func52 (by kernel_rfl) (by kernel_rfl) (by kernel_rfl) (by kernel_rfl)
theorem zq5(a:Int)(b:Int)(c:Int):za2 Tryz.prog 154 [vi a,vi b,vi c] (vb (zmb a b c)):=fnOk (fuel:=16) (zas zqw) mo Tryz.func154 (by kernel_rfl) (by kernel_rfl) (by kernel_rfl) (by kernel_rfl)
theorem zsu(a:Int)(b:Int)(c:Int):za2 Tryz.prog 155 [vi a,vi b,vi c] (vb (zr3 a b c)):=fnOk (fuel:=16) (zas zqw) mo Tryz.func155 (by kernel_rfl) (by kernel_rfl) (by kernel_rfl) (by kernel_rfl)
theorem zw5(a:B4)(b:P2)(c:P2)(d:P2):za2 Tryz.prog 153 [bx a,pt b,pt c,pt d] (.tuple ⟨[vb (zx0 a b c d),vb (zrw a b c d)]⟩):=fnOk (fuel:=16) (zas zqw) mo Tryz.func153 (by kernel_rfl) (by kernel_rfl) (by kernel_rfl) (by kernel_rfl)
def tb4_0:List zay:=(151,en4 dP dP dP dI (λa b c d=>vi (zdi a b c d)))::tb3
theorem yek:∀e∈tb4_0,zae Tryz.prog e:=List.forall_mem_cons.2 ⟨zyj zck zck zck zdy zwb,zqw⟩
def tb4_1:List zay:=(147,en4 dP dP dP dI (λa b c d=>vb (zjc a b c d)))::tb4_0
theorem yej:∀e∈tb4_1,zae Tryz.prog e:=List.forall_mem_cons.2 ⟨zyj zck zck zck zdy z0o,yek⟩
def tb4_2:List zay:=(52,en3 dP dP dP (λa b c=>vb (znf a b c)))::tb4_1
theorem yei:∀e∈tb4_2,zae Tryz.prog e:=List.forall_mem_cons.2 ⟨zhq zck zck zck z44,yej⟩
def tb4_3:List zay:=(154,en3 dI dI dI (λa b c=>vb (zmb a b c)))::tb4_2
theorem yeh:∀e∈tb4_3,zae Tryz.prog e:=List.forall_mem_cons.2 ⟨zhq zdy zdy zdy zq5,yei⟩
def tb4_4:List zay:=(155,en3 dI dI dI (λa b c=>vb (zr3 a b c)))::tb4_3
theorem yeg:∀e∈tb4_4,zae Tryz.prog e:=List.forall_mem_cons.2 ⟨zhq zdy zdy zdy zsu,yeh⟩
def tb4_5:List zay:=(153,en4 dBx dP dP dP (λa b c d=>.tuple ⟨[vb (zx0 a b c d),vb (zrw a b c d)]⟩))::tb4_4
theorem yef:∀e∈tb4_5,zae Tryz.prog e:=List.forall_mem_cons.2 ⟨zyj zg7 zck zck zck zw5,yeg⟩
def tb4_6:List zay:=tb4_5
theorem yee:∀e∈tb4_6,zae Tryz.prog e:=yef
def tb4_7:List zay:=tb4_6
theorem yed:∀e∈tb4_7,zae Tryz.prog e:=yee
def tb4:List zay:=tb4_7
theorem z7s:∀e∈tb4,zae Tryz.prog e:=yed
theorem zve(a:B4)(b:P2)(c:P2)(d:Int):za2 Tryz.prog 108 [bx a,pt b,pt c,vi d] (vi (zd2 a b c d)):=fnOk (fuel:=16) (zas z7s) mo Tryz.func108 (by kernel_rfl) (by kernel_rfl) (by kernel_rfl) (by kernel_rfl)
theorem zuw(a:B4)(b:P2)(c:P2)(d:P2)(e:Int):za2 Tryz.prog 110 [bx a,pt b,pt c,pt d,vi e] (vi (zda a b c d e)):=fnOk (fuel:=16) (zas z7s) mo Tryz.func110 (by kernel_rfl) (by kernel_rfl) (by kernel_rfl) (by kernel_rfl)
def tb5_0:List zay:=tb4
theorem yec:∀e∈tb5_0,zae Tryz.prog e:=z7s
def tb5_1:List zay:=(108,en4 dBx dP dP dI (λa b c d=>vi (zd2 a b c d)))::tb5_0
theorem yeb:∀e∈tb5_1,zae Tryz.prog e:=List.forall_mem_cons.2 ⟨zyj zg7 zck zck zdy zve,yec⟩
def tb5_2:List zay:=tb5_1
theorem yea:∀e∈tb5_2,zae Tryz.prog e:=yeb
def tb5_3:List zay:=(110,en5 dBx dP dP dP dI (λa b c d e=>vi (zda a b c d e)))::tb5_2
theorem yd9:∀e∈tb5_3,zae Tryz.prog e:=List.forall_mem_cons.2 ⟨ykr zg7 zck zck zck zdy zuw,yea⟩
def tb5_4:List zay:=tb5_3
theorem yd8:∀e∈tb5_4,zae Tryz.prog e:=yd9
def tb5_5:List zay:=tb5_4
theorem yd7:∀e∈tb5_5,zae Tryz.prog e:=yd8
def tb5:List zay:=tb5_5
theorem z10:∀e∈tb5,zae Tryz.prog e:=yd7
theorem yib(a:P2)(n:Int)(h:W (n+1)≠0):za2 Tryz.prog 9 [pt a,vi n] (pt (zdc a n)):=
 yn3 (fuel:=8) (zas z10) mo Tryz.func9 (by kernel_rfl) (by kernel_rfl) (by kernel_rfl) (show _=[W (n+1)≠0,W (n+1)≠0]by kernel_rfl) ⟨h,h,trivial⟩
def spl(b:B4)(z v:Int):Int:=
 bif !(zy0 b)then z else
 bif orB (orB (orB (W (b.x1-b.x0)==0) (W (b.y1-b.y0)==0)) ((W (b.x1-b.x0)).tmod 2 != 0)) ((W (b.y1-b.y0)).tmod 2 != 0)then z else v
def zzw(b:B4):Bool:=
 bif !(zy0 b)then false else
 bif orB (orB (orB (W (b.x1-b.x0)==0) (W (b.y1-b.y0)==0)) ((W (b.x1-b.x0)).tmod 2 != 0)) ((W (b.y1-b.y0)).tmod 2 != 0)then false else true
def midX(b:B4):Int:=W (b.x0+W ((W (b.x1-b.x0)).tdiv 2))
def midY(b:B4):Int:=W (b.y0+W ((W (b.y1-b.y0)).tdiv 2))
def yjy(b:B4):Value:=.agg ⟨[vi (spl b 0 b.x0),vi (spl b 0 b.y0),vi (spl b 0 (midX b)),vi (spl b 0 (midY b)),vi (spl b 0 (midX b)),vi (spl b 0 b.y0),vi (spl b 0 b.x1),vi (spl b 0 (midY b)),
 vi (spl b 0 b.x0),vi (spl b 0 (midY b)),vi (spl b 0 (midX b)),vi (spl b 0 b.y1),vi (spl b 0 (midX b)),vi (spl b 0 (midY b)),vi (spl b 0 b.x1),vi (spl b 0 b.y1)]⟩
theorem yf3(b:B4):za2 Tryz.prog 59 [bx b] (.tuple ⟨[yjy b,vb (zzw b)]⟩):=
 fnOk (fuel:=8) (zas z10) mo Tryz.func59 (by kernel_rfl) (by kernel_rfl) (by kernel_rfl) (by kernel_rfl)
def idx3(i:Int):Prop:=0<=i/\i<((3:Nat):Int)
theorem ybg{x:Int}(h:x=0\/x=1\/x = -1):idx3 (W (x+1)):=by
 rcases h with rfl|rfl|rfl<;>exact⟨by decide,by decide⟩
theorem three(q q':Bool):(bif q then 0 else bif q' then 1 else -1:Int)=0\/(bif q then 0 else bif q' then 1 else -1:Int)=1\/(bif q then 0 else bif q' then 1 else -1:Int) = -1:=by
 cases q<;>cases q'<;>simp
theorem three'(q q':Bool):(bif q then -1 else bif q' then 1 else 0:Int)=0\/(bif q then -1 else bif q' then 1 else 0:Int)=1\/(bif q then -1 else bif q' then 1 else 0:Int) = -1:=by
 cases q<;>cases q'<;>simp
theorem z98(p a c:P2):past p a c=0\/past p a c=1\/past p a c = -1:=three' _ _
theorem zy1(p a c:P2)(h:Int):zdi p a c h=0\/zdi p a c h=1\/zdi p a c h = -1:=three _ _
def barQ(b:B4)(a c:P2)(h i:Int):Prop:=zjm a c h=false->((!(zhc b ⟨b.x0,b.y0⟩))=false->idx3 (W (i+1)))
theorem z1h(b:B4)(a c:P2)(h:Int):za2 Tryz.prog 109 [bx b,pt a,pt c,vi h] (vi (zfr b a c h)):=
 yn3 (fuel:=16) (zas z10) mo Tryz.func109 (by kernel_rfl) (by kernel_rfl) (by kernel_rfl)
  (show _=[barQ b a c h (zdi ⟨b.x0,b.y0⟩ a c h),barQ b a c h (zdi ⟨b.x0,b.y0⟩ a c h),barQ b a c h (past ⟨b.x0,b.y0⟩ a c),barQ b a c h (past ⟨b.x0,b.y0⟩ a c),
   barQ b a c h (zdi ⟨b.x1,b.y0⟩ a c h),barQ b a c h (zdi ⟨b.x1,b.y0⟩ a c h),barQ b a c h (past ⟨b.x1,b.y0⟩ a c),barQ b a c h (past ⟨b.x1,b.y0⟩ a c),
   barQ b a c h (zdi ⟨b.x0,b.y1⟩ a c h),barQ b a c h (zdi ⟨b.x0,b.y1⟩ a c h),barQ b a c h (past ⟨b.x0,b.y1⟩ a c),barQ b a c h (past ⟨b.x0,b.y1⟩ a c),
   barQ b a c h (zdi ⟨b.x1,b.y1⟩ a c h),barQ b a c h (zdi ⟨b.x1,b.y1⟩ a c h),barQ b a c h (past ⟨b.x1,b.y1⟩ a c),barQ b a c h (past ⟨b.x1,b.y1⟩ a c)]by kernel_rfl)
  (by
   have hs:∀p,barQ b a c h (zdi p a c h):=λp _ _=>ybg (zy1 p a c h)
   have hp:∀p,barQ b a c h (past p a c):=λp _ _=>ybg (z98 p a c)
   exact⟨hs _,hs _,hp _,hp _,hs _,hs _,hp _,hp _,hs _,hs _,hp _,hp _,hs _,hs _,hp _,hp _,trivial⟩)
def tc0:List zay:=(9,en2p dP dI (λ_ n=>W (n+1)≠0) (λa n=>pt (zdc a n)))::tb5
theorem tc0_ok:∀e∈tc0,zae Tryz.prog e:=List.forall_mem_cons.2 ⟨yod zck zdy yib,z10⟩
def tc1:List zay:=tc0
theorem tc1_ok:∀e∈tc1,zae Tryz.prog e:=tc0_ok
def tc2:List zay:=(59,en1 dBx (λb=>.tuple ⟨[yjy b,vb (zzw b)]⟩))::tc1
theorem tc2_ok:∀e∈tc2,zae Tryz.prog e:=List.forall_mem_cons.2 ⟨zg4 zg7 yf3,tc1_ok⟩
def tc3:List zay:=(109,en4 dBx dP dP dI (λb p q h=>vi (zfr b p q h)))::tc2
theorem tc3_ok:∀e∈tc3,zae Tryz.prog e:=List.forall_mem_cons.2 ⟨zyj zg7 zck zck zdy z1h,tc2_ok⟩
def tbA:List zay:=tc3
theorem zj8:∀e∈tbA,zae Tryz.prog e:=tc3_ok
def cI(x:Int):Dyn.DC:=.p (vi x)
def cB(x:Bool):Dyn.DC:=.p (vb x)
def dvI(x:Int):Dyn.DV:=.one (cI x)
def dvB(x:Bool):Dyn.DV:=.one (cB x)
def cP(p:P2):List Dyn.DC:=[.p (vi p.x),.p (vi p.y)]
def cX(b:B4):List Dyn.DC:=[.p (vi b.x0),.p (vi b.y0),.p (vi b.x1),.p (vi b.y1)]
def dvP(p:P2):Dyn.DV:=.agg (cP p)
def dvX(b:B4):Dyn.DV:=.agg (cX b)
def rI(x:Int):Dyn.RV:=.val (dvI x)
def rB(x:Bool):Dyn.RV:=.val (dvB x)
structure Ctr where
 n:Nat
 m:Nat->Nat
 p:Nat->Nat->P2
def cRow(n:Nat)(p:Nat->P2):Dyn.DC:=.row n λk=>cP (p k)
def cCtr(l:Ctr):Dyn.DC:=.row l.n λi=>[cRow (l.m i) (l.p i)]
def dvC(l:Ctr):Dyn.DV:=.one (cCtr l)
def zbx:Option Code->Code
 |some c=>c
 |none=>.skip
def blkD(c:Option Code)(i:Nat):Code:=match c with
 |some c=>((zam c).getD i (0,.skip)).2
 |none=>.skip
def zab:Code->Code
 |.loop c=>c
 |c=>c
def intD:Dyn.SV->Int
 |.v (.int _ x)=>x
 |.k (.int _ x)=>x
 |_=>0
def boolD:Dyn.SV->Bool
 |.v (.bool x)=>x
 |.k (.bool x)=>x
 |_=>false
def zww:Nat->Nat->List (Nat×Dyn.SV)->List Dyn.SV
 |_,0,_=>[]
 |i,n+1,[]=>.junk::zww (i+1) n []
 |i,n+1,(k,x)::l=>bif Nat.beq k i then x::zww (i+1) n l else .junk::zww (i+1) n ((k,x)::l)
def mkS(n:Nat)(l:List (Nat×Dyn.SV))(h:List (Option Dyn.HE)):Dyn.St:={slots:=zww 0 n l,heap:=h}
def mkF(n:Nat)(l:List (Nat×Dyn.SV))(h:List (Option Dyn.HE))(fx:List (Nat×Nat)):Dyn.St:={slots:=zww 0 n l,heap:=h,fix:=fx}
def zml(n:Nat)(σ ks:List Nat)(v:Nat)(s:Dyn.St):Dyn.St:=Dyn.zma σ ((2 ^ n-1) ^^^ zb4 ks) v s
theorem zdd{P:Program}{w0:Dyn.Base P}(n:Nat){σ:List Nat}(hσ:σ.Nodup)(ks:List Nat)(v:Nat)(s:Dyn.St):Dyn.Ent w0 s (zml n σ ks v s):=Dyn.Ent.label hσ _ v s
def sV(x:Value):Dyn.SV:=.v x
def sH(n j len:Nat):Dyn.SV:=.v (.slice (some ⟨n,j,some 0⟩) len 0)
def sL(n:Nat):Dyn.SV:=.v (.pointer (some ⟨n,0,none⟩))
def sI(x:Int):Dyn.SV:=.v (vi x)
def sB(x:Bool):Dyn.SV:=.v (vb x)
def parN(f:Nat->Bool):Nat->Bool
 |0=>false
 |n+1=>xor (parN f n) (f n)
def anyN(f:Nat->Bool):Nat->Bool
 |0=>false
 |n+1=>anyN f n||f n
theorem zg8{P:Program}{X:Dyn.Tabs}{lp:Dyn.Lp}{w0:Dyn.Base P}(ht:Dyn.zal P X)(hm:P.follows .mixedOrders=true){fuel id:Nat}{c:Code}(hl:Dyn.LpOk P w0 lp (zam c)){α:Type}(S:Nat->α->Dyn.St)(n:Nat)(I:Nat->α->Prop)
  (f:zcg->Dyn.St->Dyn.St) (hf:∀e s,Dyn.Ent w0 s (f e s)) (B:Nat->α->Dyn.Out) (E:zcg->Dyn.St->Prop) (hB:∀k a,(Dyn.zbm P X lp fuel c .leaf (S k a)).rl f=B k a)
  (hstep:∀k a,k<n->I k a->(B k a).sat λe s=>match e with
   |.normal=>∃a',I (k+1) a'/\Dyn.Fits s (S (k+1) a')
   |e=>E e s)
  (hend:∀a,I n a->(B n a).sat λe s=>match e with
   |.normal=>False
   |e=>E e s)
  {a0:α} {s0:Dyn.St} {o:Dyn.Out} (hi:I 0 a0) (h0:Dyn.Ent w0 s0 (S 0 a0))
  (hG:∀(F:zcg->Dyn.St->Prop),(∀e s s',Dyn.Ent w0 s s'->F e s'->F e s)->o.sat F->∀e s,E e s->match e with
   |.normal=>True
   |.exit i=>if i=id then F .normal s else F (.exit i) s
   |.ret=>F .ret s):Dyn.zai P w0 id (.loop c) s0 o:=by
 refine Dyn.z6t ht hm hl (ι:=Nat×α) (λx=>S x.1 x.2) (λx=>x.1<=n/\I x.1 x.2) (λx=>n-x.1) f hf (λx=>B x.1 x.2) E (λx _=>hB x.1 x.2) ?_ (x0:=(0,a0)) ⟨Nat.zero_le _,hi⟩ h0 hG
 rintro⟨k,a⟩ ⟨hk,hI⟩
 dsimp only at hk hI ⊢
 rcases Nat.lt_or_eq_of_le hk with hlt|rfl
 ·refine Dyn.Out.sat_mono (λe s hs=>?_) (hstep k a hlt hI)
  cases e with
  |normal=>
   obtain⟨a',h1,h2⟩:=hs
   exact⟨(k+1,a'),⟨hlt,h1⟩,by dsimp only;omega,h2⟩
  |exit i=>exact hs
  |ret=>exact hs
 ·refine Dyn.Out.sat_mono (λe s hs=>?_) (hend a hI)
  cases e with
  |normal=>exact hs.elim
  |exit i=>exact hs
  |ret=>exact hs
theorem zaa{P:Program}{w0:Dyn.Base P}{lp:Dyn.Lp}{p:Nat×Code}{l:List (Nat×Code)}(h:∀s o,lp p.1 s=some o->Dyn.zai P w0 p.1 p.2 s o)(k:Dyn.LpOk P w0 lp l):Dyn.LpOk P w0 lp (p::l):=λq hq=>by
 rcases List.mem_cons.1 hq with rfl|hq
 ·exact h
 ·exact k q hq
theorem zao{P:Program}{w0:Dyn.Base P}{lp:Dyn.Lp}:Dyn.LpOk P w0 lp []:=λq hq=>by cases hq
theorem zcc{P:Program}{w0:Dyn.Base P}{id:Nat}{c:Code}{s:Dyn.St}{p:Prop}{o:Dyn.Out}(h:p->Dyn.zai P w0 id c s o):Dyn.zai P w0 id c s (.side [p] o):=λQ a w β m ng ho=>h ho.1.1 Q a w β m ng ho.2
theorem zdv{P:Program}{w0:Dyn.Base P}{id:Nat}{c:Code}{s:Dyn.St}{p q:Prop}{o:Dyn.Out}(h:p->q->Dyn.zai P w0 id c s o):Dyn.zai P w0 id c s (.side [p,q] o):=λQ a w β m ng ho=>h ho.1.1 ho.1.2.1 Q a w β m ng ho.2
def zax{α:Type}(g:Nat->α->α)(a:α):Nat->α
 |0=>a
 |n+1=>g n (zax g a n)
theorem zhr{f:Nat->Bool}:∀{n:Nat},anyN f n=true↔∃k,k<n/\f k=true
 |0=>by simp[anyN]
 |n+1=>by
  simp only[anyN,Bool.or_eq_true,zhr (n:=n)]
  constructor
  ·rintro(⟨k,h1,h2⟩|h)
   ·exact⟨k,by omega,h2⟩
   ·exact⟨n,by omega,h⟩
  ·rintro⟨k,h1,h2⟩
   rcases Nat.lt_or_eq_of_le (Nat.le_of_lt_succ h1)with h|rfl
   ·exact .inl ⟨k,h,h2⟩
   ·exact .inr h2
theorem za9{P:Program}{X:Dyn.Tabs}{lp:Dyn.Lp}{w0:Dyn.Base P}(ht:Dyn.zal P X)(hm:P.follows .mixedOrders=true){fuel id:Nat}{c:Code}(hl:Dyn.LpOk P w0 lp (zam c)){α:Type}(S:Nat->α->Dyn.St)(n:Nat)(g:Nat->α->α)(a0:α)
  (f:zcg->Dyn.St->Dyn.St) (hf:∀e s,Dyn.Ent w0 s (f e s)) (B:Nat->α->Dyn.Out) (hB:∀k a,(Dyn.zbm P X lp fuel c .leaf (S k a)).rl f=B k a)
  (hstep:∀k,k<n->(B k (zax g a0 k)).sat λe s=>e=.normal/\Dyn.Fits s (S (k+1) (g k (zax g a0 k))))
  (hend:(B n (zax g a0 n)).sat λe s=>e=.exit id/\Dyn.Fits s (S n (zax g a0 n)))
  {s0:Dyn.St} (h0:Dyn.Ent w0 s0 (S 0 a0)):Dyn.zai P w0 id (.loop c) s0 (.leaf .normal (S n (zax g a0 n))):=by
 refine zg8 ht hm hl S n (λk a=>a=zax g a0 k) f hf B (λe s=>e=.exit id/\Dyn.Fits s (S n (zax g a0 n))) hB (λk a hk ha=>?_) (λa ha=>?_) rfl h0 (λF hF ho e s hE=>?_)
 ·subst ha
  refine Dyn.Out.sat_mono (λe s hs=>?_) (hstep k hk)
  obtain⟨rfl,hs⟩:=hs
  exact⟨_,rfl,hs⟩
 ·subst ha
  refine Dyn.Out.sat_mono (λe s hs=>?_) hend
  obtain⟨rfl,hs⟩:=hs
  exact⟨rfl,hs⟩
 ·obtain⟨rfl,hs⟩:=hE
  dsimp only
  rw[if_pos rfl];exact hF _ _ _ (Dyn.Ent.fits hs) ho
theorem zza{P:Program}{X:Dyn.Tabs}{lp:Dyn.Lp}{w0:Dyn.Base P}(ht:Dyn.zal P X)(hm:P.follows .mixedOrders=true){fuel id:Nat}{c:Code}(hl:Dyn.LpOk P w0 lp (zam c))(S:Nat->Dyn.St)(n:Nat)(q:Nat->Bool)(R:Dyn.St)
  (f:zcg->Dyn.St->Dyn.St) (hf:∀e s,Dyn.Ent w0 s (f e s)) (B:Nat->Dyn.Out) (hB:∀k,(Dyn.zbm P X lp fuel c .leaf (S k)).rl f=B k)
  (hstep:∀k,k<n->(B k).sat λe s=>(e=.normal/\q k=false/\Dyn.Fits s (S (k+1)))\/(e=.ret/\q k=true/\s=R))
  (hend:(B n).sat λe s=>e=.exit id/\Dyn.Fits s (S n))
  {s0:Dyn.St} (h0:Dyn.Ent w0 s0 (S 0)):Dyn.zai P w0 id (.loop c) s0 (.ite (anyN q n) (.leaf .ret R) (.leaf .normal (S n))):=by
 refine zg8 ht hm hl (α:=Unit) (λk _=>S k) n (λk _=>anyN q k=false) f hf (λk _=>B k) (λe s=>(e=.exit id/\anyN q n=false/\Dyn.Fits s (S n))\/(e=.ret/\anyN q n=true/\s=R)) (λk _=>hB k) (λk a hk ha=>?_) (λa ha=>?_) (a0:=()) rfl h0 (λF hF ho e s hE=>?_)
 ·refine Dyn.Out.sat_mono (λe s hs=>?_) (hstep k hk)
  rcases hs with⟨rfl,h1,h2⟩|⟨rfl,h1,h2⟩
  ·exact⟨(),by simp only[anyN,ha,h1,Bool.or_false],h2⟩
  ·exact .inr ⟨rfl,zhr.2 ⟨k,hk,h1⟩,h2⟩
 ·refine Dyn.Out.sat_mono (λe s hs=>?_) hend
  obtain⟨rfl,hs⟩:=hs
  exact .inl ⟨rfl,ha,hs⟩
 ·rcases hE with⟨rfl,h1,h2⟩|⟨rfl,h1,rfl⟩
  ·dsimp only
   rw[if_pos rfl];exact hF _ _ _ (Dyn.Ent.fits h2) (ho.2 h1)
  ·exact ho.1 h1
def runN{α:Type}(g:Nat->α->Bool×α)(a:α):Nat->Bool×α
 |0=>(true,a)
 |n+1=>match runN g a n with
  |(true,b)=>g n b
  |(false,b)=>(false,b)
theorem znc{α:Type}{g:Nat->α->Bool×α}{a b:α}{k:Nat}(h:runN g a k=(false,b)):∀{n:Nat},k<=n->runN g a n=(false,b)
 |0,hn=>by
        obtain rfl:k=0:=by omega
        exact h
 |n+1,hn=>by
  rcases Nat.lt_or_eq_of_le hn with hlt|rfl
  ·simp only[runN];rw[znc h (Nat.le_of_lt_succ hlt)]
  ·exact h
theorem zq3{α:Type}{g:Nat->α->Bool×α}{a b:α}{k:Nat}(h:runN g a k=(true,b)):runN g a (k+1)=g k b:=by simp only[runN];rw[h]
theorem zfv{P:Program}{X:Dyn.Tabs}{lp:Dyn.Lp}{w0:Dyn.Base P}(ht:Dyn.zal P X)(hm:P.follows .mixedOrders=true){fuel id:Nat}{c:Code}(hl:Dyn.LpOk P w0 lp (zam c)){α:Type}(S:Nat->α->Dyn.St)(n:Nat)(g:Nat->α->Bool×α)(a0:α)(R:α->Dyn.St)
  (f:zcg->Dyn.St->Dyn.St) (hf:∀e s,Dyn.Ent w0 s (f e s)) (B:Nat->α->Dyn.Out) (hB:∀k a,(Dyn.zbm P X lp fuel c .leaf (S k a)).rl f=B k a)
  (hstep:∀k a,k<n->runN g a0 k=(true,a)->(B k a).sat λe s=>(e=.normal/\(g k a).1=true/\Dyn.Fits s (S (k+1) (g k a).2))\/(e=.ret/\(g k a).1=false/\Dyn.Fits s (R (g k a).2)))
  (hend:∀a,runN g a0 n=(true,a)->(B n a).sat λe s=>e=.exit id/\Dyn.Fits s (S n a))
  {s0:Dyn.St} (h0:Dyn.Ent w0 s0 (S 0 a0)):Dyn.zai P w0 id (.loop c) s0 (.ite (runN g a0 n).1 (.leaf .normal (S n (runN g a0 n).2)) (.leaf .ret (R (runN g a0 n).2))):=by
 refine zg8 ht hm hl S n (λk a=>runN g a0 k=(true,a)) f hf B (λe s=>(e=.exit id/\(runN g a0 n).1=true/\Dyn.Fits s (S n (runN g a0 n).2))\/(e=.ret/\(runN g a0 n).1=false/\Dyn.Fits s (R (runN g a0 n).2))) hB (λk a hk ha=>?_) (λa ha=>?_) rfl h0 (λF hF ho e s hE=>?_)
 ·refine Dyn.Out.sat_mono (λe s hs=>?_) (hstep k a hk ha)
  rcases hs with⟨rfl,h1,h2⟩|⟨rfl,h1,h2⟩
  ·exact⟨(g k a).2,by rw[zq3 ha];exact Prod.ext h1 rfl,h2⟩
  ·have e:=znc (n:=n) (k:=k+1) (b:=(g k a).2) (by rw[zq3 ha];exact Prod.ext h1 rfl) hk
   exact .inr ⟨rfl,by rw[e],by rw[e];exact h2⟩
 ·refine Dyn.Out.sat_mono (λe s hs=>?_) (hend a ha)
  obtain⟨rfl,hs⟩:=hs
  exact .inl ⟨rfl,by rw[ha],by rw[ha];exact hs⟩
 ·rcases hE with⟨rfl,h1,h2⟩|⟨rfl,h1,h2⟩
  ·dsimp only
   rw[if_pos rfl];exact hF _ _ _ (Dyn.Ent.fits h2) (ho.1 h1)
  ·exact hF _ _ _ (Dyn.Ent.fits h2) (ho.2 h1)
theorem zc5{P:Program}{K:Nat}{args args':List Dyn.DV}{r:Dyn.RV}(h:Dyn.zwh args' args)(k:Dyn.zav P K args r):Dyn.zav P K args' r:=λw F us hF hd=>k w F us hF (Dyn.zql h hd)
def z6c(n:Nat)(f:Nat->List Dyn.DC):Ctr:=⟨n,λi=>match f i with
 |[.row m _]=>m
 |_=>0,λi k=>match f i with
 |[.row _ g]=>match g k with
  |[.p (.int _ x),.p (.int _ y)]=>⟨x,y⟩
  |_=>⟨0,0⟩
 |_=>⟨0,0⟩⟩
def yoj(n:Nat)(f:Nat->List Dyn.DC):Prop:=∀i,i<n->f i=[cRow ((z6c n f).m i) ((z6c n f).p i)]
def CtrB(l:Ctr):Prop:=l.n<=1000000000/\∀i,i<l.n->l.m i<=1000000000
def aP:Dyn.DV->Option P2
 |.agg [.p (.int .i64 x),.p (.int .i64 y)]=>some ⟨x,y⟩
 |_=>none
def aX:Dyn.DV->Option B4
 |.agg [.p (.int .i64 a),.p (.int .i64 b),.p (.int .i64 c),.p (.int .i64 d)]=>some ⟨a,b,c,d⟩
 |_=>none
def aI:Dyn.DV->Option Int
 |.one (.p (.int .i64 x))=>some x
 |_=>none
def aB:Dyn.DV->Option Bool
 |.one (.p (.bool x))=>some x
 |_=>none
def aC:Dyn.DV->Option (Ctr×List Prop)
 |.one (.row n f)=>some (z6c n f,[CtrB (z6c n f),yoj n f])
 |_=>none
theorem aP_eq{d:Dyn.DV}{x:P2}(h:aP d=some x):Dyn.DVLe d (dvP x):=by
 unfold aP at h;split at h
 ·simp only[Option.some.injEq]at h;subst h;exact Dyn.DVLe.refl _
 ·cases h
theorem yde{d:Dyn.DV}{x:B4}(h:aX d=some x):Dyn.DVLe d (dvX x):=by
 unfold aX at h;split at h
 ·simp only[Option.some.injEq]at h;subst h;exact Dyn.DVLe.refl _
 ·cases h
theorem yiq{d:Dyn.DV}{x:Int}(h:aI d=some x):Dyn.DVLe d (dvI x):=by
 unfold aI at h;split at h
 ·simp only[Option.some.injEq]at h;subst h;exact Dyn.DVLe.refl _
 ·cases h
theorem aB_eq{d:Dyn.DV}{x:Bool}(h:aB d=some x):Dyn.DVLe d (dvB x):=by
 unfold aB at h;split at h
 ·simp only[Option.some.injEq]at h;subst h;exact Dyn.DVLe.refl _
 ·cases h
theorem aC_eq{d:Dyn.DV}{x:Ctr}{ps:List Prop}(h:aC d=some (x,ps))(hp:allP ps):Dyn.DVLe d (dvC x)/\CtrB x:=by
 unfold aC at h;split at h
 ·simp only[Option.some.injEq,Prod.mk.injEq]at h
  obtain⟨rfl,rfl⟩:=h
  exact⟨⟨rfl,hp.2.1⟩,hp.1⟩
 ·cases h
def enPC(F:P2->Ctr->Dyn.RV):List Dyn.DV->Option (Dyn.RV×List Prop)
 |[a,b]=>match aP a,aC b with
  |some x,some (l,ps)=>some (F x l,ps)
  |_,_=>none
 |_=>none
def enXC(F:B4->Ctr->Dyn.RV):List Dyn.DV->Option (Dyn.RV×List Prop)
 |[a,b]=>match aX a,aC b with
  |some x,some (l,ps)=>some (F x l,ps)
  |_,_=>none
 |_=>none
theorem yoa{P:Program}{K:Nat}{F:P2->Ctr->Dyn.RV}(h:∀x l,CtrB l->Dyn.zav P K [dvP x,dvC l] (F x l)):Dyn.zbu P (K,enPC F):=λargs r ps hr hp=>by
 dsimp only at hr
 unfold enPC at hr
 split at hr
 ·split at hr
  ·rename_i x l ps' hx hl
   simp only[Option.some.injEq,Prod.mk.injEq]at hr
   obtain⟨rfl,rfl⟩:=hr
   obtain⟨h1,h2⟩:=aC_eq hl hp
   exact zc5 (args:=[dvP x,dvC l]) ⟨aP_eq hx,h1,trivial⟩ (h x l h2)
  ·cases hr
 ·cases hr
theorem yn5{P:Program}{K:Nat}{F:B4->Ctr->Dyn.RV}(h:∀x l,CtrB l->Dyn.zav P K [dvX x,dvC l] (F x l)):Dyn.zbu P (K,enXC F):=λargs r ps hr hp=>by
 dsimp only at hr
 unfold enXC at hr
 split at hr
 ·split at hr
  ·rename_i x l ps' hx hl
   simp only[Option.some.injEq,Prod.mk.injEq]at hr
   obtain⟨rfl,rfl⟩:=hr
   obtain⟨h1,h2⟩:=aC_eq hl hp
   exact zc5 (args:=[dvX x,dvC l]) ⟨yde hx,h1,trivial⟩ (h x l h2)
  ·cases hr
 ·cases hr
def nmOf:Dyn.SV->Nat
 |.v (.slice (some a) _ _)=>a.block
 |.v (.pointer (some a))=>a.block
 |_=>0
def yaq(s:Dyn.St):List Nat->List Nat
 |[]=>[]
 |t::l=>nmOf (s.slots.getD t .junk)::yaq s l
def memB(n:Nat):List Nat->Bool
 |[]=>false
 |m::l=>bif Nat.beq m n then true else memB n l
def zxt:List Nat->Bool
 |[]=>true
 |n::l=>bif memB n l then false else zxt l
theorem z3a{n:Nat}:∀{l:List Nat},memB n l=true↔n∈l
 |[]=>by simp[memB]
 |m::l=>by
  simp only[memB,List.mem_cons]
  cases h:Nat.beq m n with
  |true=>simp[Nat.eq_of_beq_eq_true h]
  |false=>
   have:¬n=m:=λe=>by subst e;rw[Nat.beq_refl]at h;cases h
   simp[z3a (l:=l),this]
theorem zrk:∀{l:List Nat},zxt l=true->l.Nodup
 |[],_=>List.nodup_nil
 |n::l,h=>by
  simp only[zxt]at h
  cases hb:memB n l with
  |true=>rw[hb]at h;cases h
  |false=>
   rw[hb]at h
   exact List.nodup_cons.2 ⟨λhm=>(by rw[z3a.2 hm]at hb;cases hb),zrk h⟩
def zc2(n:Nat)(σ hs ks:List Nat)(v:Nat)(s:Dyn.St):Dyn.St:=
 match zxt (σ++yaq s hs)with
 |true=>Dyn.zma (σ++yaq s hs) ((2 ^ n-1) ^^^ zb4 ks) v s
 |false=>s
theorem za0{P:Program}{w0:Dyn.Base P}(n:Nat)(σ hs ks:List Nat)(v:Nat)(s:Dyn.St):Dyn.Ent w0 s (zc2 n σ hs ks v s):=by
 unfold zc2
 split
 ·rename_i h;exact Dyn.Ent.label (zrk h) _ v s
 ·exact Dyn.Ent.refl w0 s
def yhh(n:Nat)(σ hs ks σr r:List Nat):zcg->Dyn.St->Dyn.St
 |.ret,s=>zc2 n σr [] r 0 s
 |_,s=>zc2 n σ hs ks 0 s
theorem zx5{P:Program}{w0:Dyn.Base P}(n:Nat)(σ hs ks σr r:List Nat)(e:zcg)(s:Dyn.St):Dyn.Ent w0 s (yhh n σ hs ks σr r e s):=by
 cases e
 ·exact za0 n σ hs ks 0 s
 ·exact za0 n σ hs ks 0 s
 ·exact za0 n σr [] r 0 s
def zeu(n:Nat)(σ hs ks r:List Nat):zcg->Dyn.St->Dyn.St:=yhh n σ hs ks [] r
theorem zcq{P:Program}{w0:Dyn.Base P}(n:Nat)(σ hs ks r:List Nat)(e:zcg)(s:Dyn.St):Dyn.Ent w0 s (zeu n σ hs ks r e s):=zx5 n σ hs ks [] r e s
theorem Wn1{k m:Nat}(h:k<m)(hm:m<=1000000000):W ((k:Int)+1)=((k+1:Nat):Int):=by
 unfold W;rw[IntKind.wrap_i64];omega
theorem zjv{t:TypeId}{n:Nat}{f g:Nat->List Dyn.DC}(h:g 0=f n):Dyn.HeLe (some (.own t (n+1) (Dyn.appF n f g))) (some (.own t (n+1) f)):=by
 refine⟨rfl,rfl,λi hi=>?_⟩
 unfold Dyn.appF
 by_cases k:i<n
 ·rw[show Nat.blt i n=true from by rw[Nat.blt_eq];exact k];rfl
 ·rw[show Nat.blt i n=false from by rw[Bool.eq_false_iff];intro h;rw[Nat.blt_eq]at h;exact k h]
  have:i=n:=by omega
  subst this
  rw[Nat.sub_self];exact h
theorem den_B(x:Bool)(w:World)(F:Nat->Prop):Dyn.DenV w F (dvB x) (vb x):=.p _ rfl
end Go.Proofs.YtmekpbopoknigaaGreatDoor
namespace Go.Proofs.YtmekpbopoknigaaGreatDoor
open Go Go.ChangeShapes Go.WideShapes Go.ChangeAt Go.RowKit Go.Joins Go.Deep
set_option maxRecDepth 100000
section
variable{H:Type}{enc:TypeId×Value->H}{P:Program}{w:World}{base:Nat}{spare:Nat->Bool}{held:Bool}
theorem open_B{r:Reach}{b0:Nat}{t:TypeId}{v:Value}{d:DataW H}{ps:List MemPlace}(ht:P.underlying t=some .bool)(hval:Value.okWide P w r b0 t v)(hd:DataW.Trod enc P w base spare held t v d ps):∃x:Bool,v=vb x:=by
 obtain⟨x,h,_⟩:=open_bool ht hval hd
 exact⟨x,h⟩
theorem zm5(hl:laidOutB P=true){W W':World}{sp':Nat->Bool}:∀{ts:List TypeId} {vs:List Value} {ds:List (DataW H)} {ps:List MemPlace},(∀t∈ts,P.readableRec t=true/\t<P.types.size)->
  DataW.TrodAll enc P W base (λ_=>true) true ts vs ds ps->(∀p∈ps,W.sameAt W' p)->(∀p∈ps,sp' p.block=true)->DataW.TrodAll enc P W' base sp' true ts vs ds ps
 |[],vs,ds,ps,_,h,_,_=>by
  obtain⟨rfl,rfl,rfl⟩:=trodAll_nil h
  exact trodAll_mk0
 |t::ts,vs,ds,ps,ht,h,hs,hsp=>by
  obtain⟨v,vs',d,ds',p,q,rfl,rfl,rfl,h1,h2⟩:=trodAll_cons h
  have hr:=ht t (by simp)
  exact trodAll_cons_mk (WideElems.Trod_stays hl hr.1 hr.2 h1 (λx hx=>hs x (by simp[hx])) (λx hx=>hsp x (by simp[hx])))
   (zm5 hl (λt ht'=>ht t (by simp[ht'])) h2 (λx hx=>hs x (by simp[hx])) (λx hx=>hsp x (by simp[hx])))
theorem yhg{f:Func}{s:ChangeSpec}{zo3:Bool}{W W':World}{args:Array Value}{ds:List (DataW H)}{before:List MemPlace}{tr:TypeId}(hl:laidOutB P=true)(hrt:f.resultTypes = #[tr])(hb:P.underlying tr=some .bool)
  (hts:∀t∈f.params.toList,P.readableRec t=true/\t<P.types.size) (hvars:s.vars=[]) (hfn:s.fn H (ds++[]) = {results:=[.lit (.bool true)],args:=ds})
  (hW:DataW.Whole enc P f.params.toList s.vars zo3 W args.toList ds [] before) (hA:DataW.TrodAll enc P W 0 (λ_=>true) true f.params.toList args.toList ds before) (hbel:Below W.heap.size W W') :
  s.post enc P f zo3 true false false W args (.bool true) W':=by
 have hlt:∀p∈before,p.block<W.heap.size:=λp hp=>hW.lt p hp
 refine⟨ds,[],before,[],before,[],hW,?_,?_,?_,World.keptBut_mono (λp hp=>⟨hp,.inr (.inl hp)⟩) (hbel.frame (·∈before)),λh=>by cases h⟩
 ·rw[hfn,hrt]
  exact trodAll_cons_mk (shut_bool hb true) trodAll_mk0
 ·rw[hfn]
  exact zm5 hl hts hA (λp hp=>hbel.same (hlt p hp)) (λp hp=>by simpa using hlt p hp)
 ·rw[hfn,hvars]
  rfl
end
section
variable{H:Type}{enc:TypeId×Value->H}{P:Program}{w:World}{base:Nat}{spare:Nat->Bool}{held:Bool}
def zsx:Value->Int
 |.int _ x=>x
 |_=>0
theorem zn3{a:Addr}{i:Nat}{v:Value}(h:w.cell? (a.add i)=some v):(a.add i).block<w.heap.size/\(i=0->a.spot=none):=by
 unfold World.cell? at h
 split at h
 ·rename_i c x y hb
  split at h
  ·cases h
  ·rename_i hs
   refine⟨(Array.getElem?_eq_some_iff.1 hb).1,λe=>?_⟩
   subst e
   simp only[Addr.add,if_true]at hs
   simpa using hs
 ·cases h
theorem ydd{a:Addr}(h:a.spot=none):a=⟨a.block,a.off,none⟩:=by cases a;simp_all
theorem zqk(b off i:Nat):(Addr.add ⟨b,off,none⟩ i)=⟨b,off+i,none⟩:=by
 unfold Addr.add
 split
 ·rename_i h;subst h;rfl
 ·rfl
theorem row_P{t e:TypeId}{f0 f1:Field}{fuel:Nat}{v:Value}{x:DataW H×List MemPlace}(ht:P.underlying t=some (.slice e))(he:P.underlying e=some (.struct #[f0,f1]))
  (ce:P.cellsOf e=2) (o0:f0.offset=0) (o1:f1.offset=1) (c0:P.cellsOf f0.type=1) (c1:P.cellsOf f1.type=1) (k0:P.underlying f0.type=some (.int .i64)) (k1:P.underlying f1.type=some (.int .i64))
  (h:DataW.trod enc P w base spare held fuel t [v]=some x):∃n,∃p:Nat->P2,Dyn.DenC w (λb=>b<w.heap.size) (cRow n p) v:=by
 rcases open_slice_pairs ht he ce o0 o1 c0 c1 h with⟨h,_⟩|⟨a,len,cap,m,n,V0,V1,D0,D1,P0,P1,h,hb,hl,hcap,hm,hx,hall⟩
 ·simp only[List.cons.injEq,and_true]at h
  subst h
  exact⟨0,λ_=>⟨0,0⟩,.nil _ none 0⟩
 ·simp only[List.cons.injEq,and_true]at h
  subst h
  have hlm:len<=m:=by rw[hm];split<;>omega
  by_cases hz:len=0
  ·subst hz
   exact⟨0,λ_=>⟨0,0⟩,.nil _ (some a) cap⟩
  ·have h0:=(hall 0 (by omega)).1
   obtain⟨hlt,hsp⟩:=zn3 h0
   have hsp:=hsp (by omega)
   have ea:=ydd hsp
   obtain⟨b,off,sp⟩:=a
   dsimp only at hsp
   subst hsp
   simp only[zqk]at hall hlt
   refine⟨len,λi=>⟨zsx (V0 i),zsx (V1 i)⟩,.row len _ b off cap 2 (λi j=>if j=0 then V0 i else V1 i) hl hlt (λi hi=>⟨rfl,λj hj=>?_⟩) (λi j hi hj=>?_)⟩
   ·obtain⟨h1,h2,_,_⟩:=hall i (by omega)
    rcases(show j=0\/j=1 by omega)with rfl|rfl
    ·rw[if_pos rfl];exact h1
    ·rw[if_neg (by decide),Nat.add_assoc];exact h2
   ·obtain⟨_,_,h3,h4⟩:=hall i (by omega)
    obtain⟨x3,e3,_⟩:=DataW.trod_int k0 h3
    obtain⟨x4,e4,_⟩:=DataW.trod_int k1 h4
    simp only[List.cons.injEq,and_true]at e3 e4
    rcases(show j=0\/j=1 by omega)with rfl|rfl
    ·rw[if_pos rfl];show Dyn.DenC _ _ (.p (vi (zsx (V0 i)))) (V0 i);rw[e3];exact Dyn.DenC.p (.int .i64 x3) rfl
    ·rw[if_neg (by decide)];show Dyn.DenC _ _ (.p (vi (zsx (V1 i)))) (V1 i);rw[e4];exact Dyn.DenC.p (.int .i64 x4) rfl
end
theorem zyt{P:Program}{K:Nat}{fn:Func}(hf:P.funcs[K]? = some fn)(hb:fn.body.isNone=false)(hn:(fn.name=="runtime.NumGoroutine")=false){ds:List Dyn.DV}{us:List Value}{v:Value}(h:Dyn.zey P K ds (.val (.one (.p v))))(w:World)(hd:Dyn.zfn w (λb=>b<w.heap.size) ds us) :
  Calls P K us.toArray w λe w'=>e=.returned v/\Below w.heap.size w w':=by
 have hr:(callFunc K us.toArray).run P w=.ok (.enter K us.toArray) w:=by
  unfold callFunc
  simp only[Sem.run_bind,run_program,Result.andThen_ok,hf,hn,hb]
  simp
 have:=h w _ us (λb hb=>hb) hd
 rw[hr]at this
 refine this.2.mono ?_
 rintro e w' ⟨u,rfl,h1,h2⟩
 cases h1
 exact⟨rfl,h2⟩
end Go.Proofs.YtmekpbopoknigaaGreatDoor
namespace Go.Proofs.YtmekpbopoknigaaGreatDoor.Dyn
open Go Go.RowKit Sym
def yie(cs:List (Nat×Nat)):List Value:=cs.map λc=>.pointer (some ⟨c.1,c.2,none⟩)
def zfx:List LA->List SV->List SV
 |[],_=>[]
 |.d _::l,s::ss=>s::zfx l ss
 |.d _::l,[]=>.junk::zfx l []
 |.lp i off::l,ss=>.v (.pointer (some ⟨i,off,none⟩))::zfx l ss
 |.fn K cs::l,ss=>.v (.func (.func K) #[] (yie cs).toArray)::zfx l ss
def zlo:List LA->List DV
 |[]=>[]
 |.d v::l=>v::zlo l
 |_::l=>zlo l
def ybt:Nat->List LA->List (Nat×Nat)
 |_,[]=>[]
 |k,.lp i _::l=>(k,i)::ybt (k+1) l
 |k,_::l=>ybt (k+1) l
def laOk(n:Nat):List LA->Bool
 |[]=>true
 |.d _::l=>laOk n l
 |.lp i _::l=>bif Nat.blt i n then laOk n l else false
 |.fn _ cs::l=>bif cs.all (λc=>Nat.blt c.1 n)then laOk n l else false
def zfh(l:Lent):List (Option HE):=l.map λx=>some (.cells x.1 x.2)
def zlc:Lent->Bool
 |[]=>true
 |(_,cs)::l=>bif allB zel cs then zlc l else false
def zmm(fn:Func)(lent:Lent)(az:List LA):St:=
 {slots:=zfx az (zej lent.length (zlo az)).1++List.replicate (fn.ntmps-az.length) .junk,heap:=zfh lent++(zej lent.length (zlo az)).2,fix:=ybt 0 az}
def zsd(P:Program)(X:Tabs)(lp:Lp)(fuel:Nat)(fn:Func)(lent:Lent)(az:List LA):Out:=
 match fn.body with
 |some c=>zbm P X lp fuel c .leaf (zmm fn lent az)
 |none=>.fail
def zow(s:St)(i:Nat):List (Nat×Nat)->Option Nat
 |[]=>none
 |(t,j)::l=>bif Nat.beq j i then
   match s.slots.getD t .junk with
   |.v (.pointer (some a))=>match a.spot with
    |none=>some a.block
    |some _=>zow s i l
   |_=>zow s i l
  else zow s i l
def zmk(s:St):Nat->Lent->Option (List (List Value))
 |_,[]=>some []
 |i,(t,_)::l=>match zow s i s.fix,zmk s (i+1) l with
  |some n,some os=>match s.heap.getD n none with
   |some (.cells t' cs)=>bif Nat.beq t' t then(match allB zel cs with|true=>some (cs::os)|false=>none)else none
   |_=>none
  |_,_=>none
inductive RX where
 |leaf (u:Value) (os:List (List Value))
 |ite (b:Bool) (x y:RX)
 |side (ps:List Prop) (x:RX)
 |fail
def RX.sat(Q:Value->List (List Value)->Prop):RX->Prop
 |.leaf u os=>Q u os
 |.ite b x y=>(b=true->x.sat Q)/\(b=false->y.sat Q)
 |.side ps x=>allP ps/\x.sat Q
 |.fail=>False
def resP(P:Program)(rs:Array ResultVar)(s:St):Option Value:=
 match resD P rs s with
 |some (.val (.one (.p x)))=>bif flat x then some x else none
 |some (.val (.agg ds))=>match zee ds,pOk ds with
  |true,true=>some (zpt 0 (.val (.agg ds)))
  |_,_=>none
 |some (.tup vs)=>match zee (zha vs),pOk (zha vs)with
  |true,true=>some (zpt 0 (.tup vs))
  |_,_=>none
 |_=>none
def Out.rx(P:Program)(lent:Lent)(rs:Array ResultVar):Out->RX
 |.leaf e s=>match e,resP P rs s,zmk s 0 lent with
  |.exit _,_,_=>.fail
  |_,some u,some os=>.leaf u os
  |_,_,_=>.fail
 |.ite b x y=>.ite b (x.rx P lent rs) (y.rx P lent rs)
 |.side ps x=>.side ps (x.rx P lent rs)
 |.fail=>.fail
section
variable{P:Program}{X:Tabs}{lp:Lp}{w0:Base P}{w:World}{β:Env}{s:St}{a:Act}
theorem zij(l:Lent)(h:List (Option HE))(i:Nat){t:TypeId}{cs:List Value}(hi:l[i]? = some (t,cs)):(zfh l++h).getD i none=some (.cells t cs):=by
 have hlt:=(List.getElem?_eq_some_iff.1 hi).1
 rw[List.getD_eq_getElem?_getD,List.getElem?_append_left (by simpa [zfh]using hlt)]
 simp[zfh,hi]
theorem zrj:∀{l:List Nat},l.Nodup->∀(i j b:Nat),l[i]? = some b->l[j]? = some b->i=j
 |[],_,i,j,b,h,_=>by simp at h
 |x::l,hn,i,j,b,h,k=>by
  obtain⟨h1,h2⟩:=List.nodup_cons.1 hn
  cases i with
  |zero=>
   simp only[List.getElem?_cons_zero,Option.some.injEq]at h;subst h
   cases j with
   |zero=>rfl
   |succ j=>exact absurd (List.mem_of_getElem? (by simpa using k)) h1
  |succ i=>
   cases j with
   |zero=>
    simp only[List.getElem?_cons_zero,Option.some.injEq]at k;subst k
    exact absurd (List.mem_of_getElem? (by simpa using h)) h1
   |succ j=>exact congrArg (· + 1) (zrj h2 i j b (by simpa using h) (by simpa using k))
theorem zo5:∀{bs:List Nat} {l:Lent},zjz w bs l->bs.length=l.length/\∀(i b:Nat),bs[i]? = some b->∃t cs,l[i]? = some (t,cs)/\w.heap[b]? = some (.cells cs.toArray t (0,0))
 |[],[],_=>⟨rfl,λi b h=>by simp at h⟩
 |b::bs,(t,cs)::l,h=>by
  obtain⟨h1,h2⟩:=zo5 h.2
  refine⟨by simp[h1],λi q hq=>?_⟩
  cases i with
  |zero=>simp only[List.getElem?_cons_zero,Option.some.injEq]at hq;subst hq;exact⟨t,cs,rfl,h.1⟩
  |succ i=>exact h2 i q (by simpa using hq)
 |[],_::_,h=>h.elim
 |_::_,[],h=>h.elim
theorem zg1:∀{l:Lent},zlc l=true->∀(i:Nat) (t:TypeId) (cs:List Value),l[i]? = some (t,cs)->allB zel cs=true
 |[],_,i,t,cs,h=>by simp at h
 |(t0,c0)::l,hf,i,t,cs,h=>by
  simp only[zlc]at hf
  cases hb:allB zel c0 with
  |false=>rw[hb]at hf;cases hf
  |true=>
   rw[hb]at hf
   cases i with
   |zero=>simp only[List.getElem?_cons_zero,Option.some.injEq,Prod.mk.injEq]at h;rw[←h.2];exact hb
   |succ i=>exact zg1 (l:=l) hf i t cs (by simpa using h)
theorem zuh{bs:List Nat}{β:Env}(hβ:∀(i b:Nat),bs[i]? = some b->(β i).1=b):∀{cs:List (Nat×Nat)} {vs:List Value},z38 bs cs vs->vs=(yie cs).map (renP β)
 |[],[],_=>rfl
 |c::cs,v::vs,h=>by
  obtain⟨⟨b,hb,rfl⟩,h2⟩:=h
  rw[zuh hβ h2]
  simp only[yie,List.map_cons,renP]
  rw[hβ _ _ hb]
 |[],_::_,h=>h.elim
 |_::_,[],h=>h.elim
def zmt:List LA->List Value->List Value
 |.d _::l,u::us=>u::zmt l us
 |_::l,_::us=>zmt l us
 |_,_=>[]
theorem zf8{F:Nat->Prop}{bs:List Nat}:∀{az:List LA} {us:List Value},zj0 w F bs az us->zfn w F (zlo az) (zmt az us)/\az.length=us.length
 |[],[],_=>⟨trivial,rfl⟩
 |.d v::l,u::us,h=>⟨⟨h.1,(zf8 h.2).1⟩,by simp[(zf8 h.2).2]⟩
 |.lp i off::l,u::us,h=>⟨(zf8 h.2).1,by simp[(zf8 h.2).2]⟩
 |.fn K cs::l,u::us,h=>⟨(zf8 h.2).1,by simp[(zf8 h.2).2]⟩
 |[],_::_,h=>h.elim
 |.d _::_,[],h=>h.elim
 |.lp _ _::_,[],h=>h.elim
 |.fn _ _::_,[],h=>h.elim
theorem zkg{F:Nat->Prop}{bs:List Nat}{n:Nat}{H:List (Option HE)}(hβ:∀(i b:Nat),bs[i]? = some b->(β i).1=b)(hH:∀i,i<n->∃c,H.getD i none=some c):∀(az:List LA) (us:List Value) (ss:List SV),zj0 w F bs az us->laOk n az=true->ss.length=(zmt az us).length->
  (∀i u,(zmt az us)[i]? = some u->Den β [] (ss.getD i .junk) u)->(∀i q,q∈names (ss.getD i .junk)->∃c,H.getD q none=some c)->(∀x∈ss,isG x=false)->
  (zfx az ss).length=us.length/\(∀i u,us[i]? = some u->Den β [] ((zfx az ss).getD i .junk) u)/\(∀i q,q∈names ((zfx az ss).getD i .junk)->∃c,H.getD q none=some c)/\∀x∈zfx az ss,isG x=false
 |[],[],ss,_,_,_,_,_,_=>⟨rfl,λi u hu=>by simp at hu,λi q hq=>by simp[zfx,names]at hq,λx hx=>by cases hx⟩
 |[],_::_,_,h,_,_,_,_,_=>h.elim
 |.d v::l,u::us,[],_,_,hl,_,_,_=>by simp[zmt]at hl
 |.d v::l,u::us,s::ss,h,ho,hl,h1,h2,h3=>by
  obtain⟨a1,a2,a3,a4⟩:=zkg hβ hH l us ss h.2 ho (by simpa [zmt]using hl) (λi z hz=>h1 (i+1) z (by simpa [zmt]using hz)) (λi q hq=>h2 (i+1) q hq) (λx hx=>h3 x (by simp[hx]))
  refine⟨by simp[zfx,a1],λi z hz=>?_,λi q hq=>?_,λx hx=>?_⟩
  ·cases i with
   |zero=>simp only[List.getElem?_cons_zero,Option.some.injEq]at hz;subst hz;exact h1 0 u (by simp[zmt])
   |succ i=>exact a2 i z (by simpa using hz)
  ·cases i with
   |zero=>exact h2 0 q hq
   |succ i=>exact a3 i q hq
  ·rcases List.mem_cons.1 hx with rfl|hx
   ·exact h3 x (by simp)
   ·exact a4 x hx
 |.lp j off::l,u::us,ss,h,ho,hl,h1,h2,h3=>by
  simp only[laOk]at ho
  cases hb:Nat.blt j n with
  |false=>rw[hb]at ho;cases ho
  |true=>
   rw[hb]at ho
   obtain⟨b,hbs,rfl⟩:=h.1
   obtain⟨a1,a2,a3,a4⟩:=zkg hβ hH l us ss h.2 ho (by simpa [zmt]using hl) (λi z hz=>h1 i z (by simpa [zmt]using hz)) h2 h3
   refine⟨by simp[zfx,a1],λi z hz=>?_,λi q hq=>?_,λx hx=>?_⟩
   ·cases i with
    |zero=>
     simp only[List.getElem?_cons_zero,Option.some.injEq]at hz;subst hz
     show _=ren β _
     simp only[ren,ren1,ren0,renP]
     rw[hβ _ _ hbs]
    |succ i=>exact a2 i z (by simpa using hz)
   ·cases i with
    |zero=>
     have hq':q∈refs (.pointer (some ⟨j,off,none⟩)):=hq
     simp only[refs,zbk,zaz,zbc,List.mem_singleton]at hq';subst hq'
     exact hH _ (by simpa [Nat.blt_eq]using hb)
    |succ i=>exact a3 i q hq
   ·rcases List.mem_cons.1 hx with rfl|hx
    ·rfl
    ·exact a4 x hx
 |.fn K cs::l,u::us,ss,h,ho,hl,h1,h2,h3=>by
  simp only[laOk]at ho
  cases hb:cs.all (λc=>Nat.blt c.1 n)with
  |false=>rw[hb]at ho;cases ho
  |true=>
   rw[hb]at ho
   obtain⟨vs,rfl,hc⟩:=h.1
   obtain⟨a1,a2,a3,a4⟩:=zkg hβ hH l us ss h.2 ho (by simpa [zmt]using hl) (λi z hz=>h1 i z (by simpa [zmt]using hz)) h2 h3
   refine⟨by simp[zfx,a1],λi z hz=>?_,λi q hq=>?_,λx hx=>?_⟩
   ·cases i with
    |zero=>
     simp only[List.getElem?_cons_zero,Option.some.injEq]at hz;subst hz
     show _=ren β _
     simp only[ren,ren1,ren0]
     rw[zuh hβ hc]
    |succ i=>exact a2 i z (by simpa using hz)
   ·cases i with
    |zero=>
     have hq':q∈zdt zbc (yie cs):=hq
     obtain⟨y,hy,hq2⟩:=zbb.1 hq'
     obtain⟨c,hc1,rfl⟩:=List.mem_map.1 hy
     simp only[zbc,List.mem_singleton]at hq2;subst hq2
     have:=List.all_eq_true.1 hb c hc1
     exact hH _ (by simpa [Nat.blt_eq]using this)
    |succ i=>exact a3 i q hq
   ·rcases List.mem_cons.1 hx with rfl|hx
    ·rfl
    ·exact a4 x hx
 |.d _::_,[],_,h,_,_,_,_,_=>h.elim
 |.lp _ _::_,[],_,h,_,_,_,_,_=>h.elim
 |.fn _ _::_,[],_,h,_,_,_,_,_=>h.elim
theorem zim{F:Nat->Prop}{bs:List Nat}:∀{az:List LA} {us:List Value} {k:Nat},zj0 w F bs az us->∀p∈ybt k az,k<=p.1/\∃b off,bs[p.2]? = some b/\us[p.1-k]? = some (.pointer (some ⟨b,off,none⟩))
 |[],[],k,_,p,hp=>by cases hp
 |.d v::l,u::us,k,h,p,hp=>by
  obtain⟨h1,b,off,h2,h3⟩:=zim (k:=k+1) h.2 p hp
  exact⟨by omega,b,off,h2,by rw[show p.1-k=(p.1-(k+1))+1 by omega];exact h3⟩
 |.fn K cs::l,u::us,k,h,p,hp=>by
  obtain⟨h1,b,off,h2,h3⟩:=zim (k:=k+1) h.2 p hp
  exact⟨by omega,b,off,h2,by rw[show p.1-k=(p.1-(k+1))+1 by omega];exact h3⟩
 |.lp i off::l,u::us,k,h,p,hp=>by
  simp only[ybt]at hp
  rcases List.mem_cons.1 hp with rfl|hp
  ·obtain⟨b,h2,rfl⟩:=h.1
   exact⟨Nat.le_refl _,b,off,h2,by simp⟩
  ·obtain⟨h1,b,off,h2,h3⟩:=zim (k:=k+1) h.2 p hp
   exact⟨by omega,b,off,h2,by rw[show p.1-k=(p.1-(k+1))+1 by omega];exact h3⟩
 |[],_::_,_,h,_,_=>h.elim
 |.d _::_,[],_,h,_,_=>h.elim
 |.lp _ _::_,[],_,h,_,_=>h.elim
 |.fn _ _::_,[],_,h,_,_=>h.elim
theorem zhp(m:M w0 β s a w){i:Nat}:∀{l:List (Nat×Nat)} {n:Nat},(∀p∈l,p∈s.fix)->zow s i l=some n->∃b,w0.bs[i]? = some b/\(β n).1=b
 |[],n,_,h=>by cases h
 |(t,j)::l,n,hl,h=>by
  simp only[zow]at h
  cases hb:Nat.beq j i with
  |false=>rw[hb]at h;exact zhp m (λp hp=>hl p (by simp[hp])) h
  |true=>
   rw[hb,cond_true]at h
   have hj:j=i:=Nat.eq_of_beq_eq_true hb
   subst hj
   split at h
   ·rename_i ad hs
    obtain⟨q,off',sp⟩:=ad
    cases sp with
    |some _=>exact zhp m (λp hp=>hl p (by simp[hp])) h
    |none=>
     simp only[Option.some.injEq]at h;subst h
     obtain⟨b,off,h1,h2⟩:=m.tie (t,j) (hl _ (by simp))
     refine⟨b,h1,?_⟩
     have hd:=m.slot t _ h2
     rw[hs]at hd
     have hd':Value.pointer (some ⟨b,off,none⟩)=.pointer (some ⟨(β q).1,off',none⟩):=hd
     simp only[Value.pointer.injEq,Option.some.injEq,Addr.mk.injEq]at hd'
     exact hd'.1.symm
   ·exact zhp m (λp hp=>hl p (by simp[hp])) h
theorem zpi(m:M w0 β s a w):∀{l:Lent} {i:Nat} {os:List (List Value)},zmk s i l=some os->w0.bs.length=i+l.length->zjz w (w0.bs.drop i) (zipL l os)
 |[],i,os,h,hl=>by
  simp only[zmk,Option.some.injEq]at h;subst h
  rw[List.drop_eq_nil_of_le (by simp at hl;omega)];trivial
 |(t,c)::l,i,os,h,hl=>by
  simp only[zmk]at h
  split at h
  ·rename_i n os' hn hos
   split at h
   ·rename_i t' cs hc
    cases hb:Nat.beq t' t with
    |false=>rw[hb]at h;cases h
    |true=>
     rw[hb,cond_true]at h
     have ht:t'=t:=Nat.eq_of_beq_eq_true hb
     subst ht
     split at h
     ·rename_i hf
      simp only[Option.some.injEq]at h;subst h
      obtain⟨b,h1,h2⟩:=zhp m (λp hp=>hp) hn
      have hlt:=(List.getElem?_eq_some_iff.1 h1)
      rw[List.drop_eq_getElem_cons hlt.1,hlt.2]
      refine⟨?_,zpi m hos (by simp only[List.length_cons]at hl;omega)⟩
      have:=(m.mem.ok n _ hc).1
      rw[h2,zbi λy hy=>zbn (za4.1 hf y hy)]at this
      exact this
     ·cases h
   ·cases h
  ·cases h
theorem zth{x:Value}(h:∀n,n∉zbc x):renP β x=x:=by
 cases x with
 |pointer ad=>cases ad with
  |none=>rfl
  |some ad=>exact absurd (by simp[zbc]) (h ad.block)
 |slice ad n c=>cases ad with
  |none=>rfl
  |some ad=>
   obtain⟨b,off,sp⟩:=ad
   exact absurd (by simp[zbc]) (h b)
 |map ad=>cases ad with
  |none=>rfl
  |some b=>exact absurd (by simp[zbc]) (h b)
 |chan ad=>cases ad with
  |none=>rfl
  |some b=>exact absurd (by simp[zbc]) (h b)
 |_=>rfl
theorem ztl{x:Value}(h:∀n,n∉zaz x):ren0 β x=x:=by
 by_cases e:∃f fst caps,x=.func f fst caps
 ·obtain⟨f,fst,caps,rfl⟩:=e
  simp only[ren0]
  rw[zbi λy hy=>zth λn hn=>h n (zbb.2 ⟨y,hy,hn⟩)]
 ·have e1:ren0 β x=renP β x:=by cases x<;>first|rfl|exact(e ⟨_,_,_,rfl⟩).elim
  have e2:zaz x=zbc x:=by cases x<;>first|rfl|exact(e ⟨_,_,_,rfl⟩).elim
  rw[e1];exact zth (e2▸h)
theorem ztj{x:Value}(h:∀n,n∉zbk x):ren1 β x=x:=by
 by_cases e:∃cs,x=.agg cs
 ·obtain⟨cs,rfl⟩:=e
  simp only[ren1]
  rw[zbi λy hy=>ztl λn hn=>h n (zbb.2 ⟨y,hy,hn⟩)]
 ·have e1:ren1 β x=ren0 β x:=by cases x<;>first|rfl|exact(e ⟨_,rfl⟩).elim
  have e2:zbk x=zaz x:=by cases x<;>first|rfl|exact(e ⟨_,rfl⟩).elim
  rw[e1];exact ztl (e2▸h)
theorem zw7{x:Value}(h:∀n,n∉refs x):ren β x=x:=by
 by_cases e:∃vs,x=.tuple vs
 ·obtain⟨vs,rfl⟩:=e
  simp only[ren]
  rw[zbi λy hy=>ztj λn hn=>h n (zbb.2 ⟨y,hy,hn⟩)]
 ·have e1:ren β x=ren1 β x:=by cases x<;>first|rfl|exact(e ⟨_,rfl⟩).elim
  have e2:refs x=zbk x:=by cases x<;>first|rfl|exact(e ⟨_,rfl⟩).elim
  rw[e1];exact ztj (e2▸h)
theorem ygc{fn:Func}(m:M w0 β s a w){u:Value}(h:resP P fn.results s=some u):(results fn a.tmps).run P w=.ok u w:=by
 unfold resP at h
 split at h
 ·rename_i x hr
  cases hf:flat x with
  |false=>rw[hf]at h;cases h
  |true=>
   rw[hf]at h
   simp only[cond_true,Option.some.injEq]at h;subst h
   obtain⟨v,h1,h2⟩:=ze2 m hr
   cases h2;exact h1
 ·rename_i ds hr
  split at h
  ·rename_i hf hp
   simp only[Option.some.injEq]at h;subst h
   obtain⟨v,h1,h2⟩:=ze2 m hr
   obtain⟨us,d1,k⟩:=zds h2
   obtain⟨k1,k2⟩:=k 0 (λ_=>(0,λ_=>.bool false)) (zd5 _ _ 0 d1 hp hf)
   rw[h1]
   congr 1
   rw[←k1]
   refine zw7 λn hn=>?_
   obtain⟨y,y1,y2⟩:=k2 n hn
   have:=(zd4 _ 0 hp y y1 n y2).2
   exact absurd (show zee ds=false from this) (by rw[hf];decide)
  ·cases h
 ·rename_i vs hr
  split at h
  ·rename_i hf hp
   simp only[Option.some.injEq]at h;subst h
   obtain⟨v,h1,h2⟩:=ze2 m hr
   obtain⟨us,d1,k⟩:=zds h2
   obtain⟨k1,k2⟩:=k 0 (λ_=>(0,λ_=>.bool false)) (zd5 _ _ 0 d1 hp hf)
   rw[h1]
   congr 1
   rw[←k1]
   refine zw7 λn hn=>?_
   obtain⟨y,y1,y2⟩:=k2 n hn
   have:=(zd4 _ 0 hp y y1 n y2).2
   exact absurd (show zee (zha vs)=false from this) (by rw[hf];decide)
  ·cases h
 ·cases h
theorem z2g{lent:Lent}{rs:Array ResultVar}{Q:Value->List (List Value)->Prop}:∀{o:Out},(o.rx P lent rs).sat Q->o.sat λe s=>(e=.normal\/e=.ret)/\∃u os,resP P rs s=some u/\zmk s 0 lent=some os/\Q u os
 |.leaf e s,h=>by
  cases hr:resP P rs s with
  |none=>
   simp only[Out.rx,hr]at h
   cases e<;>exact h.elim
  |some u=>
   cases hl:zmk s 0 lent with
   |none=>
    simp only[Out.rx,hr,hl]at h
    cases e<;>exact h.elim
   |some os=>
    simp only[Out.rx,hr,hl]at h
    cases e with
    |exit id=>exact h.elim
    |normal=>exact⟨.inl rfl,u,os,hr,hl,h⟩
    |ret=>exact⟨.inr rfl,u,os,hr,hl,h⟩
 |.ite b x y,h=>⟨λhb=>z2g (o:=x) (h.1 hb),λhb=>z2g (o:=y) (h.2 hb)⟩
 |.side ps x,h=>⟨h.1,z2g (o:=x) h.2⟩
 |.fail,h=>h.elim
theorem zm3(ht:zal P X)(hm:P.follows .mixedOrders=true){K:Nat}{fn:Func}(hf:P.funcs[K]? = some fn)(hn:(fn.name=="runtime.NumGoroutine")=false){c:Code}(hb:fn.body=some c)(hl:∀w0:Base P,Dyn.LpOk P w0 lp (zam c)){fuel:Nat}{lent:Lent}{az:List LA}{u:Value}{os:List (List Value)}{O:RX}
  (hp:pOks (zlo az)=true) (hla:laOk lent.length az=true) (hlf:zlc lent=true) (hO:(zsd P X lp fuel fn lent az).rx P lent fn.results=O) (hs:O.sat λu' os'=>u'=u/\os'=os):zlq P K az lent u os:=by
 intro w F bs us hF hnd hdis hla0 hden
 have hrun:(callFunc K us.toArray).run P w=.ok (.enter K us.toArray) w:=by
  unfold callFunc
  simp only[Sem.run_bind,run_program,Result.andThen_ok,hf,hn,hb]
  simp
 rw[hrun]
 refine⟨rfl,?_⟩
 let w0:Base P:=⟨w,F,λb hb=>(hF b hb).1,bs,hdis,λb hb=>(hF b hb).2,λ_=>False,λ_ h=>h.elim,λ_=>(0,λ_=>.bool false),λ_=>False⟩
 obtain⟨hlen,hget⟩:=zo5 hla0
 let β0:Env:=λi=>(bs.getD i 0,λ_=>.bool false)
 have hβ0:∀(i b:Nat),bs[i]? = some b->(β0 i).1=b:=λi b hi=>by
  show bs.getD i 0=b
  rw[List.getD_eq_getElem?_getD,hi];rfl
 have hcell:∀n he,(zfh lent).getD n none=some he->∃b t cs,bs[n]? = some b/\lent[n]? = some (t,cs)/\he=.cells t cs/\w.heap[b]? = some (.cells cs.toArray t (0,0)):=λn he hn=>by
  have hlt:n<lent.length:=by
   rcases Nat.lt_or_ge n lent.length with z|z
   ·exact z
   ·rw[List.getD_eq_getElem?_getD,List.getElem?_eq_none (by simpa [zfh]using z)]at hn;cases hn
  obtain⟨t,cs,e1,e2⟩:=hget n (bs[n]'(by omega)) (List.getElem?_eq_getElem _)
  have:=zij lent [] n e1
  rw[List.append_nil]at this
  rw[this]at hn
  exact⟨_,t,cs,List.getElem?_eq_getElem _,e1,by simpa using hn.symm,e2⟩
 have m0:Mem w0 β0 (zfh lent) w:=by
  refine⟨λn he hn=>?_,λn k c d b hn hk hc hd=>?_,λn t cs hn v hv q hq=>?_,λ_ _=>rfl,⟨rfl,rfl,rfl,Nat.le_refl _,λ_ _ _=>rfl⟩,λn v i hn=>by
   obtain⟨b,t,cs,h1,h2,e,h3⟩:=hcell n _ hn
   cases e⟩
  ·obtain⟨b,t,cs,h1,h2,rfl,h3⟩:=hcell n he hn
   have e:=hβ0 n b h1
   refine⟨?_,.inr ?_⟩
   ·rw[e,zbi λy hy=>zbn (za4.1 (zg1 hlf n t cs h2) y hy)];exact h3
   ·rw[e];exact List.mem_of_getElem? h1
  ·obtain⟨b1,t,cs,h1,h2,rfl,h3⟩:=hcell n c hn
   obtain⟨b2,t',cs',k1,k2,rfl,k3⟩:=hcell k d hk
   simp only[zc8,Option.some.injEq]at hc hd
   rw[hβ0 n b1 h1]at hc
   rw[hβ0 k b2 k1]at hd
   subst hc;subst hd
   exact zrj hnd n k _ h1 k1
  ·obtain⟨b,t',cs',h1,h2,e,h3⟩:=hcell n _ hn
   simp only[HE.cells.injEq]at e
   obtain⟨rfl,rfl⟩:=e
   rw[zb8 (za4.1 (zg1 hlf n t cs h2) v hv)]at hq;cases hq
 obtain⟨hdv,hal⟩:=zf8 hden
 have hll:(zfh lent).length=lent.length:=by simp[zfh]
 obtain⟨β,i1,i2,i3,i4,i5,i6⟩:=zkp (w0:=w0) (zlo az) (zmt az us) (zfh lent) _ m0 (λb hb=>.inl hb) hp hdv
 rw[hll]at i2 i3 i4 i5 i6
 have hβ:∀(i b:Nat),bs[i]? = some b->(β i).1=b:=λi b hi=>by
  obtain⟨t,cs,e1,_⟩:=hget i b hi
  have:=zij lent [] i e1
  rw[List.append_nil]at this
  rw[i1 i _ this];exact hβ0 i b hi
 obtain⟨p1,p2,p3,p4⟩:=zkg (H:=zfh lent++(zej lent.length (zlo az)).2) (n:=lent.length) hβ (λi hi=>by
  obtain⟨t,cs⟩:=lent[i]
  exact⟨_,zij lent _ i (t:=lent[i].1) (cs:=lent[i].2) (by rw[List.getElem?_eq_getElem hi])⟩) az us _ hden hla i3 i4 i5 i6
 have m:M w0 β (zmm fn lent az) {tmps:=us.toArray++Array.replicate (fn.ntmps-us.toArray.size) undef,defers:=[]} w:=by
  have e1:∀i,i<us.length->(zmm fn lent az).slots.getD i .junk=(zfx az (zej lent.length (zlo az)).1).getD i .junk:=λi hi=>by
   simp only[zmm,List.getD_eq_getElem?_getD]
   rw[List.getElem?_append_left (by rw[p1];exact hi)]
  have e2:∀i,us.length<=i->(zmm fn lent az).slots.getD i .junk=.junk:=λi hi=>by
   simp only[zmm,List.getD_eq_getElem?_getD]
   rw[List.getElem?_append_right (by rw[p1];exact hi),List.getElem?_replicate]
   split<;>rfl
  have e3:∀i,i<us.length->(us.toArray++Array.replicate (fn.ntmps-us.toArray.size) undef)[i]? = us[i]?:=λi hi=>by
   rw[Array.getElem?_append_left (by simpa using hi)];simp
  refine {defers:=rfl,anc:=λh=>(by cases h),size:=by simp[zmm,p1,hal],slot:=λi u hu=>?_,locs:=λi n hn=>?_,mem:=i2,tie:=λp hp=>?_}
  ·by_cases hi:i<us.length
   ·rw[e3 i hi]at hu
    rw[e1 i hi]
    exact zbg (λ_ _=>rfl) (λc hc=>by
     have hg:isG ((zfx az (zej lent.length (zlo az)).1).getD i .junk)=false:=by
      rw[List.getD_eq_getElem?_getD,List.getElem?_eq_getElem (by rw[p1];exact hi)]
      exact p4 _ (List.getElem_mem _)
     rw[zbj hg]at hc;cases hc) (p2 i u hu)
   ·rw[e2 i (by omega)];trivial
  ·by_cases hi:i<us.length
   ·rw[e1 i hi]at hn
    exact p3 i n hn
   ·rw[e2 i (by omega)]at hn;cases hn
  ·obtain⟨_,b,off,h2,h3⟩:=zim hden p hp
   rw[Nat.sub_zero]at h3
   exact⟨b,off,h2,by rw[e3 p.1 (List.getElem?_eq_some_iff.1 h3).1];exact h3⟩
 have ng:NoG (zmm fn lent az):=by
  intro x hx
  rcases List.mem_append.1 hx with hx|hx
  ·exact p4 x hx
  ·rw[(List.mem_replicate.1 hx).2];rfl
 have hsat:=z2g (hO▸hs)
 unfold zsd at hsat
 rw[hb]at hsat
 refine calls_of_wp hf hb ?_
 refine zd3 ht hm c (hl w0) .leaf _ _ _ w _ m ng hsat λe s β a w' m' _ hl=>?_
 obtain⟨he,u',os',hr,ho,rfl,rfl⟩:=hl
 have hu1:=ygc m' hr
 have hlt:=zpi m' ho (by simp only[Nat.zero_add];exact hlen)
 rw[List.drop_zero]at hlt
 have hpost:a.defers=[]/\∃v',(results fn a.tmps).run P w'=.ok v' w'/\Ending.returned v'=.returned u'/\zjn w w' bs (zipL lent os'):=
  ⟨m'.defers,u',hu1,rfl,⟨m'.mem.below.os,m'.mem.below.tape,m'.mem.below.output,m'.mem.below.size,λk hk hx=>m'.mem.below.block k hk hx,hlt⟩⟩
 rcases he with rfl|rfl<;>exact hpost
end
def nilCell(m j:Nat)(t:TypeId)(f:Nat->List DC)(s:St):St:=
 match s.heap.getD m none with
 |some (.cells ty cs)=>match cs.getD j (.bool false)with
  |.slice none 0 0=>{slots:=s.slots,heap:=(s.heap.set m (some (.cells ty (cs.set j (.slice (some ⟨s.heap.length,0,some 0⟩) 0 0)))))++[some (.own t 0 f)],fix:=s.fix}
  |_=>s
 |_=>s
section
variable{P:Program}{w0:Base P}
theorem Ent.nilCell{n j:Nat}{t:TypeId}{k:Nat}(hs:zbh P t=some (k+1))(f:Nat->List DC)(s:St):Ent w0 s (nilCell n j t f s):=λβ a w m ng=>by
 unfold Dyn.nilCell
 split
 ·rename_i ty cs hn
  split
  ·rename_i hj
   have hlt:n<s.heap.length:=by
    rcases Nat.lt_or_ge n s.heap.length with z|z
    ·exact z
    ·rw[List.getD_eq_getElem?_getD,List.getElem?_eq_none z]at hn;cases hn
   have hold:∀q c,s.heap.getD q none=some c->(s.heap++[some (HE.own t 0 f)]).getD q none=some c/\q≠s.heap.length:=λq c hq=>by
    have hl:q<s.heap.length:=by
     rcases Nat.lt_or_ge q s.heap.length with z|z
     ·exact z
     ·rw[List.getD_eq_getElem?_getD,List.getElem?_eq_none z]at hq;cases hq
    refine⟨?_,by omega⟩
    rw[List.getD_eq_getElem?_getD,List.getElem?_append_left hl,←List.getD_eq_getElem?_getD];exact hq
   have hnew:(s.heap++[some (HE.own t 0 f)]).getD s.heap.length none=some (.own t 0 f):=by simp[List.getD_eq_getElem?_getD]
   have hbeta:∀q c,s.heap.getD q none=some c->bump β s.heap.length (0,λ_=>Value.slice none 0 0) q=β q:=λq c hq=>zcf (hold q c hq).2
   have m1:=m.mem.nil hs f
   have hn1:=(hold n _ hn).1
   have hjl:j<cs.length:=by
    rcases Nat.lt_or_ge j cs.length with z|z
    ·exact z
    ·rw[List.getD_eq_getElem?_getD,List.getElem?_eq_none z]at hj;cases hj
   have hcj:cs[j]? = some (.slice none 0 0):=by
    rw[List.getD_eq_getElem?_getD,List.getElem?_eq_getElem hjl]at hj
    rw[List.getElem?_eq_getElem hjl];exact congrArg some hj
   have hren:(cs.set j (.slice (some ⟨s.heap.length,0,some 0⟩) 0 0)).map (ren0 (bump β s.heap.length (0,λ_=>Value.slice none 0 0)))=cs.map (ren0 (bump β s.heap.length (0,λ_=>Value.slice none 0 0))):=by
    rw[List.map_set]
    refine List.ext_getElem? λi=>?_
    rw[List.getElem?_set]
    split
    ·rename_i e
     subst e
     rw[List.getElem?_map,hcj]
     simp only[List.length_map,hjl,if_true,Option.map_some,Option.some.injEq]
     simp only[ren0,renP]
     rw[zcs]
    ·rfl
   have m2:=m1.put hn1 (cs':=cs.set j (.slice (some ⟨s.heap.length,0,some 0⟩) 0 0)) (w':=w) (λv hv q hq=>by
    rcases List.mem_or_eq_of_mem_set hv with hv|rfl
    ·exact m1.refs n ty cs hn1 v hv q hq
    ·simp only[zaz,zbc,List.mem_singleton]at hq;subst hq
     exact⟨_,hnew⟩) (by rw[hren];exact(m1.ok n _ hn1).1) (λ_ _=>rfl) rfl rfl rfl rfl
   rw[List.set_append_left _ _ hlt]at m2
   have hat:∀q c,s.heap.getD q none=some c->∃c',((s.heap.set n (some (.cells ty (cs.set j (.slice (some ⟨s.heap.length,0,some 0⟩) 0 0)))))++[some (HE.own t 0 f)]).getD q none=some c':=λq c hq=>by
    obtain⟨_,hl⟩:=hold q c hq
    have hl2:q<s.heap.length:=by
     rcases Nat.lt_or_ge q s.heap.length with z|z
     ·exact z
     ·rw[List.getD_eq_getElem?_getD,List.getElem?_eq_none z]at hq;cases hq
    rw[List.getD_eq_getElem?_getD,List.getElem?_append_left (by simpa using hl2),←List.getD_eq_getElem?_getD,zah]
    split
    ·exact⟨_,rfl⟩
    ·exact⟨c,hq⟩
   refine⟨_,{defers:=m.defers,anc:=λh=>(by cases h),size:=m.size,slot:=λq u hu=>?_,locs:=λq z hz=>?_,mem:=m2,tie:=m.tie},λx hx=>ng x hx⟩
   ·exact zbg (λz hz=>by obtain⟨c,hc⟩:=m.locs q z hz;exact hbeta z c hc) (λc hc=>absurd hc (by rw[zbj (ng.at_ q)];simp)) (m.slot q u hu)
   ·obtain⟨c,hc⟩:=m.locs q z hz
    exact hat z c hc
  ·exact⟨β,m,ng⟩
 ·exact⟨β,m,ng⟩
end
end Go.Proofs.YtmekpbopoknigaaGreatDoor.Dyn
namespace Go.Proofs.YtmekpbopoknigaaGreatDoor
open Go Go.RowKit
theorem W_id{x:Int}(h1 : -9223372036854775808<=x)(h2:x<=9223372036854775807):W x=x:=by
 unfold W;rw[IntKind.wrap_i64];omega
theorem U_id{x:Int}(h1:0<=x)(h2:x<=18446744073709551615):U x=x:=by
 unfold U;rw[IntKind.wrap_u64];omega
theorem U_eq(x:Int):U x=x%18446744073709551616:=IntKind.wrap_u64 x
theorem zgw(a b:Bool):orB a b=(a||b):=by cases a<;>rfl
theorem zew(a b:Bool):andB a b=(a&&b):=by cases a<;>rfl
theorem z1e{α:Type}(x y:α):(bif true then x else y)=x:=rfl
theorem ziv{α:Type}(x y:α):(bif false then x else y)=y:=rfl
theorem ybf(x y:Int):imax x y=max x y:=by unfold imax;split<;>omega
theorem yno(x y:Int):imin x y=min x y:=by unfold imin;split<;>omega
theorem zid{A B x y:Int}(h1 : -A<=x)(h2:x<=A)(h3 : -B<=y)(h4:y<=B) : -(A*B)<=x*y/\x*y<=A*B:=by
 have a:=Int.mul_nonneg (show 0<=A-x by omega) (show 0<=B+y by omega)
 have b:=Int.mul_nonneg (show 0<=A+x by omega) (show 0<=B-y by omega)
 have c:=Int.mul_nonneg (show 0<=A-x by omega) (show 0<=B-y by omega)
 have d:=Int.mul_nonneg (show 0<=A+x by omega) (show 0<=B+y by omega)
 constructor<;>grind
theorem zgp(x:Int):0<=x*x:=by
 rcases Int.le_total 0 x with h|h
 ·exact Int.mul_nonneg h h
 ·have:=Int.mul_nonneg (show 0<=-x by omega) (show 0<=-x by omega)
  grind
theorem zus{A x:Int}(h1 : -A<=x)(h2:x<=A):0<=x*x/\x*x<=A*A:=⟨zgp x,(zid h1 h2 h1 h2).2⟩
theorem zzv{x y:Int}(h1 : -y<=x)(h2:x<=y):x*x<=y*y:=(zid h1 h2 h1 h2).2
def In30(v:Int):Prop:=-1073741823<=v/\v<=1073741823
structure PR(p:P2):Prop where
 x:In30 p.x
 y:In30 p.y
structure BR(b:B4):Prop where
 x0:In30 b.x0
 y0:In30 b.y0
 x1:In30 b.x1
 y1:In30 b.y1
def gapI(v lo hi:Int):Int:=if v<lo then lo-v else if v>hi then v-hi else 0
def zcz(v lo hi:Int):Int:=max (max (max (v-lo) (lo-v)) (v-hi)) (hi-v)
def zc6(b:B4)(p:P2):Int:=gapI p.x b.x0 b.x1*gapI p.x b.x0 b.x1+gapI p.y b.y0 b.y1*gapI p.y b.y0 b.y1
def zeb(b:B4)(p:P2):Int:=zcz p.x b.x0 b.x1*zcz p.x b.x0 b.x1+zcz p.y b.y0 b.y1*zcz p.y b.y0 b.y1
def zad(o a b:P2):Int:=(a.x-o.x)*(b.y-o.y)-(a.y-o.y)*(b.x-o.x)
def dotI(o a b:P2):Int:=(a.x-o.x)*(b.x-o.x)+(a.y-o.y)*(b.y-o.y)
def zak(p q:P2):Int:=(p.x-q.x)*(p.x-q.x)+(p.y-q.y)*(p.y-q.y)
def hasI(b:B4)(p:P2):Prop:=b.x0<=p.x/\p.x<=b.x1/\b.y0<=p.y/\p.y<=b.y1
theorem ykn{v lo hi:Int}(h1:In30 v)(h2:In30 lo)(h3:In30 hi):gap v lo hi=gapI v lo hi:=by
 obtain⟨a,b⟩:=h1;obtain⟨c,d⟩:=h2;obtain⟨e,f⟩:=h3
 unfold gap gapI
 by_cases k:v<lo
 ·rw[decide_eq_true k,if_pos k,z1e,W_id (by omega) (by omega)]
 ·rw[decide_eq_false k,if_neg k,ziv]
  by_cases k':v>hi
  ·rw[decide_eq_true k',if_pos k',z1e,W_id (by omega) (by omega)]
  ·rw[decide_eq_false k',if_neg k',ziv]
theorem ybo{v lo hi:Int}(h1:In30 v)(h2:In30 lo)(h3:In30 hi):0<=gapI v lo hi/\gapI v lo hi<=2147483646:=by
 obtain⟨a,b⟩:=h1;obtain⟨c,d⟩:=h2;obtain⟨e,f⟩:=h3
 unfold gapI;split
 ·omega
 ·split<;>omega
theorem z2n{v lo hi:Int}(h1:In30 v)(h2:In30 lo)(h3:In30 hi):zxg v lo hi=zcz v lo hi:=by
 obtain⟨a,b⟩:=h1;obtain⟨c,d⟩:=h2;obtain⟨e,f⟩:=h3
 unfold zxg zcz
 rw[W_id (x:=v-lo) (by omega) (by omega),W_id (x:=lo-v) (by omega) (by omega),W_id (x:=v-hi) (by omega) (by omega),W_id (x:=hi-v) (by omega) (by omega)]
 simp only[ybf]
theorem zxf{v lo hi:Int}(h1:In30 v)(h2:In30 lo)(h3:In30 hi):0<=zcz v lo hi/\zcz v lo hi<=2147483646:=by
 obtain⟨a,b⟩:=h1;obtain⟨c,d⟩:=h2;obtain⟨e,f⟩:=h3
 unfold zcz;omega
theorem sum2{x y:Int}(h1:0<=x)(h2:x<=2147483646)(h3:0<=y)(h4:y<=2147483646):W (W (x*x)+W (y*y))=x*x+y*y/\0<=x*x+y*y/\x*x+y*y<=9223372019674906632:=by
 have a:=zus (A:=2147483646) (x:=x) (by omega) h2
 have b:=zus (A:=2147483646) (x:=y) (by omega) h4
 have e:(2147483646:Int)*2147483646=4611686009837453316:=by decide
 rw[e]at a b
 rw[W_id (x:=x*x) (by omega) (by omega),W_id (x:=y*y) (by omega) (by omega),W_id (by omega) (by omega)]
 omega
theorem zgb{b:B4}{p:P2}(hb:BR b)(hp:PR p):near b p=zc6 b p/\0<=zc6 b p/\zc6 b p<=9223372019674906632:=by
 unfold near zc6
 rw[ykn hp.x hb.x0 hb.x1,ykn hp.y hb.y0 hb.y1]
 have a:=ybo hp.x hb.x0 hb.x1
 have b:=ybo hp.y hb.y0 hb.y1
 exact sum2 a.1 a.2 b.1 b.2
theorem yax{b:B4}{p:P2}(hb:BR b)(hp:PR p):most b p=zeb b p/\0<=zeb b p/\zeb b p<=9223372019674906632:=by
 unfold most zeb
 rw[z2n hp.x hb.x0 hb.x1,z2n hp.y hb.y0 hb.y1]
 have a:=zxf hp.x hb.x0 hb.x1
 have b:=zxf hp.y hb.y0 hb.y1
 exact sum2 a.1 a.2 b.1 b.2
theorem zgo{r:Int}(h1:0<=r)(h2:r<=2147483648):ze0 r=r*r:=by
 have a:=zus (A:=2147483648) (x:=r) (by omega) h2
 unfold ze0
 have e:imin r 2147483648=r:=by unfold imin;split<;>omega
 rw[e,W_id (by omega) (by omega)]
theorem zit(b:B4)(p:P2):zhc b p=true↔hasI b p:=by
 unfold zhc hasI
 simp only[zew,Bool.and_eq_true,decide_eq_true_eq,and_assoc]
theorem zf5{p q:P2}:zc6 ⟨q.x,q.y,q.x,q.y⟩ p=zak p q:=by
 have e:∀u v:Int,gapI u v v*gapI u v v=(u-v)*(u-v):=λu v=>by
  unfold gapI;split
  ·grind
  ·split
   ·rfl
   ·have:u=v:=by omega
    subst this;grind
 unfold zc6 zak
 rw[e,e]
theorem ym6{b:B4}{p q:P2}(h:hasI b q):zc6 b p<=zak p q:=by
 obtain⟨h1,h2,h3,h4⟩:=h
 have e:∀u lo hi v:Int,lo<=v->v<=hi->gapI u lo hi*gapI u lo hi<=(u-v)*(u-v):=λu lo hi v a b=>by
  have h5:(-(u-v)<=gapI u lo hi/\gapI u lo hi<=u-v)\/(u-v<=gapI u lo hi/\gapI u lo hi<=-(u-v))\/gapI u lo hi=0:=by
   unfold gapI;split
   ·omega
   ·split<;>omega
  rcases h5 with h5|h5|h5
  ·exact zzv h5.1 h5.2
  ·have:=zzv (x:=gapI u lo hi) (y:=-(u-v)) (by omega) h5.2
   grind
  ·rw[h5];have:=zgp (u-v);omega
 unfold zc6 zak
 have a:=e p.x b.x0 b.x1 q.x h1 h2
 have b:=e p.y b.y0 b.y1 q.y h3 h4
 omega
theorem ynb{b:B4}{p q:P2}(h:hasI b q):zak p q<=zeb b p:=by
 obtain⟨h1,h2,h3,h4⟩:=h
 have e:∀u lo hi v:Int,lo<=v->v<=hi->(u-v)*(u-v)<=zcz u lo hi*zcz u lo hi:=λu lo hi v a b=>by
  have h5 : -(zcz u lo hi)<=u-v/\u-v<=zcz u lo hi:=by unfold zcz;omega
  exact zzv h5.1 h5.2
 unfold zeb zak
 have a:=e p.x b.x0 b.x1 q.x h1 h2
 have b:=e p.y b.y0 b.y1 q.y h3 h4
 omega
theorem zhv(x:Int){n:Int}(h:0<n) : -n<x.tmod n/\x.tmod n<n:=by
 constructor
 ·have:=Int.lt_tmod_of_pos x h;omega
 ·exact Int.tmod_lt_of_pos x h
theorem lPt_r(p:P2):(-536870912<=(lPt p).x/\(lPt p).x<=536870912)/\(-536870912<=(lPt p).y/\(lPt p).y<=536870912):=by
 have a:=zhv p.x (n:=536870913) (by decide)
 have b:=zhv p.y (n:=536870913) (by decide)
 unfold lPt;dsimp only;omega
theorem lR_bd(r:Int):1<=lR r/\lR r<=536870912:=by
 have h0:0<=U r:=by rw[U_eq];omega
 have h1:0<=(U r).tmod 536870912:=Int.tmod_nonneg _ h0
 have h2:=(zhv (U r) (n:=536870912) (by decide)).2
 unfold lR
 rw[W_id (x:=(U r).tmod 536870912) (by omega) (by omega),W_id (by omega) (by omega)]
 omega
theorem zjd(p:P2){n:Int}(h0:0<=n)(h1:n<=9223372036854775806):(-n<=(zdc p n).x/\(zdc p n).x<=n)/\(-n<=(zdc p n).y/\(zdc p n).y<=n):=by
 unfold zdc;dsimp only
 rw[W_id (by omega) (by omega)]
 have a:=zhv p.x (n:=n+1) (by omega)
 have b:=zhv p.y (n:=n+1) (by omega)
 omega
theorem band3(x:Int):0<=band x 3/\band x 3<=3:=by
 have h:(BitVec.ofInt 64 x &&& BitVec.ofInt 64 3).toNat<=3:=by
  rw[BitVec.toNat_and]
  exact Nat.le_trans Nat.and_le_right (by decide)
 unfold band
 rw[W_id (by omega) (by omega)]
 omega
end Go.Proofs.YtmekpbopoknigaaGreatDoor

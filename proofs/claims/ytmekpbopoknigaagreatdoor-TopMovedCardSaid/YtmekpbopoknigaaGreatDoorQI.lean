import Derived.Test.YtmekpbopoknigaaGreatDoorQH
import Derived.Laws.AppendOwn
namespace Go.Proofs.YtmekpbopoknigaaGreatDoor.Dyn
open Go Go.RowKit Sym
inductive DC where
 |p (x:Value)
 |row (n:Nat) (f:Nat->List DC)
 |ptr (cs:List DC)
instance:Inhabited DC:=⟨.p undef⟩
inductive DenC(w:World)(F:Nat->Prop):DC->Value->Prop where
 |p (x:Value):zag x=true->DenC w F (.p x) x
 |nil (f:Nat->List DC) (oa:Option Addr) (cap:Nat):DenC w F (.row 0 f) (.slice oa 0 cap)
 |row (n:Nat) (f:Nat->List DC) (b off cap size:Nat) (g:Nat->Nat->Value):n<=cap->F b->
   (∀i,i<n->(f i).length=size/\∀j,j<size->w.cell? ⟨b,off+i*size+j,none⟩=some (g i j))->
   (∀i j,i<n->j<size->DenC w F ((f i).getD j default) (g i j))->DenC w F (.row n f) (.slice (some ⟨b,off,none⟩) n cap)
 |ptr (cs:List DC) (b off:Nat) (g:Nat->Value):F b->(∀j,j<cs.length->w.cell? ⟨b,off+j,none⟩=some (g j))->
   (∀j,j<cs.length->DenC w F (cs.getD j default) (g j))->DenC w F (.ptr cs) (.pointer (some ⟨b,off,none⟩))
def zar(w:World)(b:Nat):Prop:=∃cs t,w.heap[b]? = some (.cells cs t (0,0))
theorem zar.of{w w':World}{b:Nat}(h:zar w b)(e:w'.heap[b]? = w.heap[b]?):zar w' b:=by
 obtain⟨cs,t,k⟩:=h;exact⟨cs,t,e.trans k⟩
theorem zgm{w w':World}{b:Nat}(h:w'.heap[b]? = w.heap[b]?)(i:Nat):w'.cell? ⟨b,i,none⟩=w.cell? ⟨b,i,none⟩:=by simp[World.cell?,h]
theorem DenC.mono{w w':World}{F F':Nat->Prop}(h:∀b,F b->F' b/\w'.heap[b]? = w.heap[b]?){d:DC}{u:Value}(k:DenC w F d u):DenC w' F' d u:=by
 induction k with
 |p x h=>exact .p x h
 |nil f oa cap=>exact .nil f oa cap
 |row n f b off cap size g hk hF hc _ ih=>exact .row n f b off cap size g hk (h b hF).1 (λi hi=>⟨(hc i hi).1,λj hj=>(zgm (h b hF).2 _).trans ((hc i hi).2 j hj)⟩) ih
 |ptr cs b off g hF hc _ ih=>exact .ptr cs b off g (h b hF).1 (λj hj=>(zgm (h b hF).2 _).trans (hc j hj)) ih
theorem DenC.one{w:World}{F:Nat->Prop}{d:DC}{u:Value}(k:DenC w F d u):zag u=true:=by
 cases k<;>first|assumption|rfl
inductive DV where
 |one (d:DC)
 |agg (ds:List DC)
inductive RV where
 |val (v:DV)
 |tup (vs:List DV)
def DenL(w:World)(F:Nat->Prop):List DC->List Value->Prop
 |[],[]=>True
 |d::ds,u::us=>DenC w F d u/\DenL w F ds us
 |_,_=>False
def DenV(w:World)(F:Nat->Prop):DV->Value->Prop
 |.one d,u=>DenC w F d u
 |.agg ds,u=>∃us,u=.agg us/\DenL w F ds us.toList
def zfn(w:World)(F:Nat->Prop):List DV->List Value->Prop
 |[],[]=>True
 |d::ds,u::us=>DenV w F d u/\zfn w F ds us
 |_,_=>False
def DenR(w:World)(F:Nat->Prop):RV->Value->Prop
 |.val v,u=>DenV w F v u
 |.tup vs,u=>∃us,u=.tuple us/\zfn w F vs us.toList
theorem DenL.mono{w w':World}{F F':Nat->Prop}(h:∀b,F b->F' b/\w'.heap[b]? = w.heap[b]?):∀{ds:List DC} {us:List Value},DenL w F ds us->DenL w' F' ds us
 |[],[],_=>trivial
 |_::_,_::_,k=>⟨k.1.mono h,DenL.mono h k.2⟩
 |[],_::_,k=>k.elim
 |_::_,[],k=>k.elim
theorem DenV.mono{w w':World}{F F':Nat->Prop}(h:∀b,F b->F' b/\w'.heap[b]? = w.heap[b]?):∀{d:DV} {u:Value},DenV w F d u->DenV w' F' d u
 |.one _,_,k=>DenC.mono h k
 |.agg _,_,⟨us,e,k⟩=>⟨us,e,k.mono h⟩
theorem zfn.mono{w w':World}{F F':Nat->Prop}(h:∀b,F b->F' b/\w'.heap[b]? = w.heap[b]?):∀{ds:List DV} {us:List Value},zfn w F ds us->zfn w' F' ds us
 |[],[],_=>trivial
 |_::_,_::_,k=>⟨k.1.mono h,zfn.mono h k.2⟩
 |[],_::_,k=>k.elim
 |_::_,[],k=>k.elim
theorem DenR.mono{w w':World}{F F':Nat->Prop}(h:∀b,F b->F' b/\w'.heap[b]? = w.heap[b]?):∀{d:RV} {u:Value},DenR w F d u->DenR w' F' d u
 |.val _,_,k=>DenV.mono h k
 |.tup _,_,⟨us,e,k⟩=>⟨us,e,k.mono h⟩
theorem DenL.length{w:World}{F:Nat->Prop}:∀{ds:List DC} {us:List Value},DenL w F ds us->us.length=ds.length
 |[],[],_=>rfl
 |_::_,_::_,k=>congrArg (· + 1) (DenL.length k.2)
 |[],_::_,k=>k.elim
 |_::_,[],k=>k.elim
theorem DenL.at_{w:World}{F:Nat->Prop}:∀{ds:List DC} {us:List Value},DenL w F ds us->∀(j:Nat) (d:DC),ds[j]? = some d->∃u,us[j]? = some u/\DenC w F d u
 |[],[],_,j,d,h=>by simp at h
 |d::ds,u::us,k,0,d',h=>by simp only[List.getElem?_cons_zero,Option.some.injEq]at h;subst h;exact⟨u,rfl,k.1⟩
 |d::ds,u::us,k,j+1,d',h=>by
  obtain⟨u',h1,h2⟩:=DenL.at_ k.2 j d' (by simpa using h)
  exact⟨u',by simpa using h1,h2⟩
 |[],_::_,k,_,_,_=>k.elim
 |_::_,[],k,_,_,_=>k.elim
theorem DenL.of{w:World}{F:Nat->Prop}:∀{ds:List DC} {us:List Value},us.length=ds.length->(∀(j:Nat) (d:DC),ds[j]? = some d->∃u,us[j]? = some u/\DenC w F d u)->DenL w F ds us
 |[],[],_,_=>trivial
 |d::ds,u::us,hl,h=>by
  obtain⟨u',h1,h2⟩:=h 0 d rfl
  simp only[List.getElem?_cons_zero,Option.some.injEq]at h1;subst h1
  exact⟨h2,DenL.of (by simpa using hl) λj d hd=>by have:=h (j+1) d (by simpa using hd);simpa using this⟩
 |[],_::_,hl,_=>by simp at hl
 |_::_,[],hl,_=>by simp at hl
abbrev Env:=Nat->Nat×(Nat->Value)
def ybu:Value->Value
 |.slice a _ _=>.pointer a
 |_=>.pointer none
theorem z6a(x:Value):zag (ybu x)=true:=by cases x<;>rfl
def renP(β:Env):Value->Value
 |.pointer (some a)=>match a.spot with
  |none=>.pointer (some ⟨(β a.block).1,a.off,none⟩)
  |some _=>(β a.block).2 a.off
 |.slice (some a) n c=>match a.spot with
  |none=>.slice (some ⟨(β a.block).1,a.off,none⟩) n c
  |some _=>(β a.block).2 a.off
 |.map (some b)=>.map (some (β b).1)
 |.chan (some b)=>ybu ((β b).2 0)
 |x=>x
def ren0(β:Env):Value->Value
 |.func f fst caps=>.func f fst (caps.toList.map (renP β)).toArray
 |x=>renP β x
def ren1(β:Env):Value->Value
 |.agg cs=>.agg (cs.toList.map (ren0 β)).toArray
 |x=>ren0 β x
def ren(β:Env):Value->Value
 |.tuple vs=>.tuple (vs.toList.map (ren1 β)).toArray
 |x=>ren1 β x
def zbc:Value->List Nat
 |.pointer (some a)=>[a.block]
 |.slice (some a) _ _=>[a.block]
 |.map (some b)=>[b]
 |.chan (some b)=>[b]
 |_=>[]
def zdt(f:Value->List Nat):List Value->List Nat
 |[]=>[]
 |x::l=>f x++zdt f l
theorem zbb{f:Value->List Nat}{n:Nat}:∀{l:List Value},n∈zdt f l↔∃x∈l,n∈f x
 |[]=>by simp[zdt]
 |x::l=>by simp[zdt,zbb (l:=l)]
def zaz:Value->List Nat
 |.func _ _ caps=>zdt zbc caps.toList
 |x=>zbc x
def zbk:Value->List Nat
 |.agg cs=>zdt zaz cs.toList
 |x=>zaz x
def refs:Value->List Nat
 |.tuple vs=>zdt zbk vs.toList
 |x=>zbk x
theorem zti{β β':Env}{x:Value}(h:∀n∈zbc x,β' n=β n):renP β' x=renP β x:=by
 unfold renP
 split
 ·rename_i a
  have:=h a.block (by simp[zbc])
  rw[this]
 ·rename_i a n c
  have:=h a.block (by simp[zbc])
  cases hs:a.spot with
  |none=>simp only[this]
  |some s=>simp only[this]
 ·rename_i b
  have:=h b (by simp[zbc])
  rw[this]
 ·rename_i b
  have:=h b (by simp[zbc])
  rw[this]
 ·rfl
theorem zok{f g:Value->Value}{l:List Value}(h:∀x∈l,f x=g x):l.map f=l.map g:=List.map_congr_left h
theorem zgl{β β':Env}{x:Value}(h:∀n∈zaz x,β' n=β n):ren0 β' x=ren0 β x:=by
 unfold ren0
 split
 ·rename_i f fst caps
  rw[zok λy hy=>zti λn hn=>h n (by simp only[zaz];exact zbb.2 ⟨y,hy,hn⟩)]
 ·rename_i hx
  refine zti λn hn=>h n ?_
  cases x<;>first|exact hn|exact(hx _ _ _ rfl).elim
theorem ztk{β β':Env}{x:Value}(h:∀n∈zbk x,β' n=β n):ren1 β' x=ren1 β x:=by
 unfold ren1
 split
 ·rename_i cs
  rw[zok λy hy=>zgl λn hn=>h n (by simp only[zbk];exact zbb.2 ⟨y,hy,hn⟩)]
 ·rename_i hx
  refine zgl λn hn=>h n ?_
  cases x<;>first|exact hn|exact(hx _ rfl).elim
theorem zra{β β':Env}{x:Value}(h:∀n∈refs x,β' n=β n):ren β' x=ren β x:=by
 unfold ren
 split
 ·rename_i vs
  rw[zok λy hy=>ztk λn hn=>h n (by simp only[refs];exact zbb.2 ⟨y,hy,hn⟩)]
 ·rename_i hx
  refine ztk λn hn=>h n ?_
  cases x<;>first|exact hn|exact(hx _ rfl).elim
def z59:Value->Bool
 |.pointer (some _)=>false
 |.slice (some _) _ _=>false
 |.map (some _)=>false
 |.chan (some _)=>false
 |_=>true
def allB(f:Value->Bool):List Value->Bool
 |[]=>true
 |x::l=>match f x with
  |true=>allB f l
  |false=>false
theorem za4{f:Value->Bool}:∀{l:List Value},allB f l=true↔∀x∈l,f x=true
 |[]=>by simp[allB]
 |x::l=>by
  simp only[allB,List.forall_mem_cons,←za4 (l:=l)]
  cases f x<;>simp
def zel:Value->Bool
 |.func _ _ caps=>allB z59 caps.toList
 |x=>z59 x
def zvs:Value->Bool
 |.agg cs=>allB zel cs.toList
 |x=>zel x
def flat:Value->Bool
 |.tuple vs=>allB zvs vs.toList
 |x=>zvs x
theorem zbi{f:Value->Value}{l:List Value}(h:∀x∈l,f x=x):l.map f=l:=by
 rw[List.map_congr_left (g:=id) h,List.map_id]
theorem zw8{β:Env}{x:Value}(h:z59 x=true):renP β x=x:=by
 cases x with
 |pointer a=>cases a with
  |none=>rfl
  |some a=>cases h
 |slice a n c=>cases a with
  |none=>rfl
  |some a=>cases h
 |map a=>cases a with
  |none=>rfl
  |some a=>cases h
 |chan a=>cases a with
  |none=>rfl
  |some a=>cases h
 |_=>rfl
theorem zbn{β:Env}{x:Value}(h:zel x=true):ren0 β x=x:=by
 by_cases e:∃f fst caps,x=.func f fst caps
 ·obtain⟨f,fst,caps,rfl⟩:=e
  simp only[ren0]
  rw[zbi λy hy=>zw8 (za4.1 h y hy)]
 ·have e1:ren0 β x=renP β x:=by cases x<;>first|rfl|exact(e ⟨_,_,_,rfl⟩).elim
  have e2:zel x=z59 x:=by cases x<;>first|rfl|exact(e ⟨_,_,_,rfl⟩).elim
  rw[e1];exact zw8 (e2▸h)
theorem zrb{β:Env}{x:Value}(h:zvs x=true):ren1 β x=x:=by
 by_cases e:∃cs,x=.agg cs
 ·obtain⟨cs,rfl⟩:=e
  simp only[ren1]
  rw[zbi λy hy=>zbn (za4.1 h y hy)]
 ·have e1:ren1 β x=ren0 β x:=by cases x<;>first|rfl|exact(e ⟨_,rfl⟩).elim
  have e2:zvs x=zel x:=by cases x<;>first|rfl|exact(e ⟨_,rfl⟩).elim
  rw[e1];exact zbn (e2▸h)
theorem zdj{β:Env}{x:Value}(h:flat x=true):ren β x=x:=by
 by_cases e:∃vs,x=.tuple vs
 ·obtain⟨vs,rfl⟩:=e
  simp only[ren]
  rw[zbi λy hy=>zrb (za4.1 h y hy)]
 ·have e1:ren β x=ren1 β x:=by cases x<;>first|rfl|exact(e ⟨_,rfl⟩).elim
  have e2:flat x=zvs x:=by cases x<;>first|rfl|exact(e ⟨_,rfl⟩).elim
  rw[e1];exact zrb (e2▸h)
theorem ztm{x:Value}(h:z59 x=true):zbc x=[]:=by
 cases x with
 |pointer a=>cases a with
  |none=>rfl
  |some a=>cases h
 |slice a n c=>cases a with
  |none=>rfl
  |some a=>cases h
 |map a=>cases a with
  |none=>rfl
  |some a=>cases h
 |chan a=>cases a with
  |none=>rfl
  |some a=>cases h
 |_=>rfl
theorem zrd{f:Value->List Nat}{l:List Value}(h:∀x∈l,f x=[]):zdt f l=[]:=by
 induction l with
 |nil=>rfl
 |cons x l ih=>simp only[zdt];rw[h x (by simp),ih λy hy=>h y (by simp[hy])];rfl
theorem zb8{x:Value}(h:zel x=true):zaz x=[]:=by
 by_cases e:∃f fst caps,x=.func f fst caps
 ·obtain⟨f,fst,caps,rfl⟩:=e
  exact zrd λy hy=>ztm (za4.1 h y hy)
 ·have e1:zaz x=zbc x:=by cases x<;>first|rfl|exact(e ⟨_,_,_,rfl⟩).elim
  have e2:zel x=z59 x:=by cases x<;>first|rfl|exact(e ⟨_,_,_,rfl⟩).elim
  rw[e1];exact ztm (e2▸h)
theorem zk4{x:Value}(h:zvs x=true):zbk x=[]:=by
 by_cases e:∃cs,x=.agg cs
 ·obtain⟨cs,rfl⟩:=e
  exact zrd λy hy=>zb8 (za4.1 h y hy)
 ·have e1:zbk x=zaz x:=by cases x<;>first|rfl|exact(e ⟨_,rfl⟩).elim
  have e2:zvs x=zel x:=by cases x<;>first|rfl|exact(e ⟨_,rfl⟩).elim
  rw[e1];exact zb8 (e2▸h)
theorem zen{x:Value}(h:flat x=true):refs x=[]:=by
 by_cases e:∃vs,x=.tuple vs
 ·obtain⟨vs,rfl⟩:=e
  exact zrd λy hy=>zk4 (za4.1 h y hy)
 ·have e1:refs x=zbk x:=by cases x<;>first|rfl|exact(e ⟨_,rfl⟩).elim
  have e2:flat x=zvs x:=by cases x<;>first|rfl|exact(e ⟨_,rfl⟩).elim
  rw[e1];exact zk4 (e2▸h)
theorem zq9{β:Env}{x:Value}(h:zag x=true):ren β x=ren0 β x:=by cases x<;>first|rfl|cases h
theorem zng{x:Value}(h:zag x=true):refs x=zaz x:=by cases x<;>first|rfl|cases h
theorem z2l{β:Env}{x:Value}(h:zag x=true)(hβ:∀n j,zag ((β n).2 j)=true):zag (ren0 β x)=true:=by
 cases x with
 |pointer a=>cases a with
  |none=>rfl
  |some a=>
   simp only[ren0,renP]
   split
   ·rfl
   ·exact hβ _ _
 |slice a n c=>cases a with
  |none=>rfl
  |some a=>
   simp only[ren0,renP]
   split
   ·rfl
   ·exact hβ _ _
 |map a=>cases a with
  |none=>rfl
  |some a=>rfl
 |chan a=>cases a with
  |none=>rfl
  |some a=>exact z6a _
 |_=>first|rfl|cases h
theorem z9v{β:Env}{x:Value}(h:zag x=true\/∃cs,x=.agg cs)(hβ:∀n j,zag ((β n).2 j)=true):(ren β x).cells.toList=x.cells.toList.map (ren0 β):=by
 rcases h with h|⟨cs,rfl⟩
 ·have e:=zq9 (β:=β) h
  rw[e]
  have h3:=z2l h hβ
  have c1:∀y:Value,zag y=true->y.cells = #[y]:=λy hy=>by cases y<;>first|rfl|cases hy
  rw[c1 _ h3,c1 _ h];rfl
 ·simp[ren,ren1,Value.cells]
inductive SV where
 |k (x:Value)
 |v (x:Value)
 |ix (n off:Nat) (i:Int) (len size:Nat)
 |ex (n j off size:Nat) (i:Int)
 |hp (n j off:Nat)
 |g (cs:List (Nat×Bool)) (x:SV)
 |junk
def zbw(l:List SV)(t:Nat):Option Bool:=
 match l[t]? with
 |some (.k (.bool b))=>some b
 |some (.v (.bool b))=>some b
 |some (.g _ (.k (.bool b)))=>some b
 |some (.g _ (.v (.bool b)))=>some b
 |_=>none
def holds(l:List SV)(cs:List (Nat×Bool)):Prop:=∀c∈cs,zbw l c.1=some c.2
def Den(β:Env)(l:List SV):SV->Value->Prop
 |.k x,u=>u=x
 |.v x,u=>u=ren β x
 |.ix n off i len size,u=>u=.pointer (some ⟨(β n).1,off+i.toNat*size,none⟩)/\0<=i/\i<len
 |.ex n j off size i,u=>∃b o len cap,(β n).2 j=.slice (some ⟨b,o,none⟩) len cap/\u=.pointer (some ⟨b,o+i.toNat*size+off,none⟩)/\0<=i/\i<len
 |.hp n j off,u=>∃b o,(β n).2 j=.pointer (some ⟨b,o,none⟩)/\u=.pointer (some ⟨b,o+off,none⟩)
 |.g cs x,u=>(holds l cs->Den β l x u)/\(¬holds l cs->u=undef)
 |.junk,_=>True
def resolve(cs:List (Nat×Bool)):SV->SV
 |.g cs' x=>if cs'.all (λc=>cs.contains c)then x else .junk
 |s=>s
theorem zm2{β:Env}{l:List SV}{cs:List (Nat×Bool)}(hc:holds l cs){s:SV}{u:Value}(h:Den β l s u):Den β l (resolve cs s) u:=by
 cases s with
 |g cs' x=>
  simp only[resolve]
  split
  ·rename_i ha
   refine h.1 λc hcm=>hc c ?_
   have:=List.all_eq_true.1 ha c hcm
   simpa using this
  ·trivial
 |_=>exact h
def evS(l:List SV)(cs:List (Nat×Bool)):Operand->SV
 |.tmp t=>resolve cs (l.getD t .junk)
 |.const v=>.k v
 |.global g=>.k (.pointer (some ⟨g,0,none⟩))
 |.func f=>.k (.func (.func f) #[] #[])
def plain:SV->Option Value
 |.k x=>some x
 |.v x=>if flat x then some x else none
 |_=>none
def named:SV->Option Value
 |.k x=>if flat x then some x else none
 |.v x=>some x
 |_=>none
def zdw(s:SV):Value:=(plain s).getD undef
def zge:SV->Bool
 |.k _=>true
 |_=>false
def zdz(ev:Operand->SV):List Operand->Option (List Value)
 |[]=>some []
 |x::xs=>match plain (ev x),zdz ev xs with
  |some v,some vs=>some (v::vs)
  |_,_=>none
def zdx(ev:Operand->SV):List Operand->Option (List Value)
 |[]=>some []
 |x::xs=>match named (ev x),zdx ev xs with
  |some v,some vs=>some (v::vs)
  |_,_=>none
inductive HE where
 |cells (t:TypeId) (cs:List Value)
 |deep (ds:List DC)
 |own (t:TypeId) (n:Nat) (f:Nat->List DC)
 |gone
 |mp (v:Value) (i:Int)
 |raw (ds:List DC)
 |im (l:List (Int×DV))
structure Res where
 val:SV
 upd:List (Nat×HE)
 sides:List Prop
structure St where
 slots:List SV
 heap:List (Option HE)
 fix:List (Nat×Nat):=[]
 keep:Bool:=false
def names:SV->List Nat
 |.v x=>refs x
 |.ix n _ _ _ _=>[n]
 |.ex n _ _ _ _=>[n]
 |.hp n _ _=>[n]
 |.g _ x=>names x
 |_=>[]
def za8:SV->List (Nat×Bool)
 |.g cs x=>cs++za8 x
 |_=>[]
structure Base(P:Program) where
 w:World
 F:Nat->Prop
 lt:∀b,F b->b<w.heap.size
 bs:List Nat
 dis:∀b,b∈bs->¬F b
 pl:∀b,F b->zar w b
 R:Nat->Prop
 rlt:∀b,R b->b<w.heap.size/\b∉bs
 env:Env
 anc:Nat->Prop
def Base.L{P:Program}(w0:Base P)(b:Nat):Prop:=b∈w0.bs
structure zl3{P:Program}(w0:Base P)(w':World):Prop where
 os:w'.os=w0.w.os
 tape:w'.tape=w0.w.tape
 output:w'.output=w0.w.output
 size:w0.w.heap.size<=w'.heap.size
 block:∀k,k<w0.w.heap.size->¬w0.L k->w'.heap[k]? = w0.w.heap[k]?
theorem zl3.trans{P:Program}{w0:Base P}{a b:World}(h:zl3 w0 a)(k:Below w0.w.heap.size a b):zl3 w0 b:=
 ⟨k.os.trans h.os,k.tape.trans h.tape,k.output.trans h.output,Nat.le_trans h.size k.size,λi hi hL=>(k.block i hi).trans (h.block i hi hL)⟩
theorem zl3.raw{P:Program}{w0:Base P}{a b:World}(h:zl3 w0 a)(k:zl3 w0 b):∀q,w0.R q->b.heap[q]? = a.heap[q]?:=λq hq=>
 (k.block q (w0.rlt q hq).1 (w0.rlt q hq).2).trans (h.block q (w0.rlt q hq).1 (w0.rlt q hq).2).symm
def OwnB{P:Program}(w0:Base P)(b:Nat):Prop:=w0.w.heap.size<=b\/w0.L b
theorem Base.own_F{P:Program}(w0:Base P){b:Nat}(h:OwnB w0 b)(k:w0.F b):False:=by
 rcases h with h|h
 ·have:=w0.lt b k;omega
 ·exact w0.dis b h k
def zc8:HE->Nat×(Nat->Value)->Option Nat
 |.cells _ _,e=>some e.1
 |.own _ _ _,e=>(e.2 0).ownBlock
 |.mp _ _,e=>some e.1
 |.im _,e=>some e.1
 |_,_=>none
section
variable{P:Program}
def NF(w0:Base P)(β:Env)(h:List (Option HE))(w:World)(b:Nat):Prop:=
 w0.F b\/(w0.w.heap.size<=b/\(b<w.heap.size/\zar w b)/\∀n he,h.getD n none=some he->zc8 he (β n)≠some b)
def ImOk(w:World)(N:Nat->Prop):List MapEntry->List (Int×DV)->Prop
 |[],[]=>True
 |e::es,x::l=>e.key=.int .i64 x.1/\DenV w N x.2 e.val/\ImOk w N es l
 |_,_=>False
theorem ImOk.mono{w w':World}{N N':Nat->Prop}(h:∀b,N b->N' b/\w'.heap[b]? = w.heap[b]?):∀{es:List MapEntry} {l:List (Int×DV)},ImOk w N es l->ImOk w' N' es l
 |[],[],_=>trivial
 |_::_,_::_,k=>⟨k.1,k.2.1.mono h,k.2.2.mono h⟩
 |[],_::_,k=>k.elim
 |_::_,[],k=>k.elim
def HeOk(w0:Base P)(β:Env)(N:Nat->Prop)(w:World)(e:Nat×(Nat->Value)):HE->Prop
 |.cells t cs=>w.heap[e.1]? = some (.cells (cs.map (ren0 β)).toArray t (0,0))/\OwnB w0 e.1
 |.deep ds=>∀j d,ds[j]? = some d->DenC w N d (e.2 j)
 |.raw ds=>∀j d,ds[j]? = some d->DenC w w0.R d (e.2 j)
 |.own t n f=>∃size xs,zbh P t=some size/\0<size/\w.ownsRow w0.w.heap.size t size (e.2 0) n xs/\∀i,i<n->(f i).length=size/\∀j,j<size->∃v,xs[i*size+j]? = some v/\DenC w N ((f i).getD j default) v
 |.gone=>True
 |.mp v i=>(∃es clock,w.heap[e.1]? = some (.map es clock)/\∀x∈es.toList,x.key=.agg #[ren0 β v,.int .i64 i]/\∃p,ren0 β v=.pointer p)/\OwnB w0 e.1
 |.im l=>(∃es clock,w.heap[e.1]? = some (.map es clock)/\ImOk w N es.toList l)/\OwnB w0 e.1
structure Mem(w0:Base P)(β:Env)(h:List (Option HE))(w:World):Prop where
 ok:∀n he,h.getD n none=some he->HeOk w0 β (NF w0 β h w) w (β n) he
 inj:∀n m c d b,h.getD n none=some c->h.getD m none=some d->zc8 c (β n)=some b->zc8 d (β m)=some b->n=m
 refs:∀n t cs,h.getD n none=some (.cells t cs)->∀v∈cs,∀m∈zaz v,∃c,h.getD m none=some c
 one:∀n j,zag ((β n).2 j)=true
 below:zl3 w0 w
 mrefs:∀n v i,h.getD n none=some (.mp v i)->∀m∈zaz v,∃c,h.getD m none=some c
structure M(w0:Base P)(β:Env)(st:St)(a:Act)(w:World):Prop where
 defers:a.defers=[]
 size:a.tmps.size=st.slots.length
 slot:∀i u,a.tmps[i]? = some u->Den β st.slots (st.slots.getD i .junk) u
 locs:∀i n,n∈names (st.slots.getD i .junk)->∃c,st.heap.getD n none=some c
 mem:Mem w0 β st.heap w
 tie:∀p∈st.fix,∃b off,w0.bs[p.2]? = some b/\a.tmps[p.1]? = some (.pointer (some ⟨b,off,none⟩))
 anc:st.keep=true->∀n,w0.anc n->β n=w0.env n/\∃c,st.heap.getD n none=some c
theorem zmp{l l':List SV}{cs:List (Nat×Bool)}(h:∀c∈cs,zbw l' c.1=zbw l c.1):holds l' cs↔holds l cs:=
 ⟨λk c hc=>(h c hc)▸k c hc,λk c hc=>(h c hc).trans (k c hc)⟩
theorem zbg{β β':Env}{l l':List SV}:∀{s:SV} {u:Value},(∀n∈names s,β' n=β n)->(∀c∈za8 s,zbw l' c.1=zbw l c.1)->Den β l s u->Den β' l' s u
 |.k _,_,_,_,h=>h
 |.v x,_,hn,_,h=>h.trans (zra hn).symm
 |.ix n off i len size,u,hn,_,h=>by have e:=hn n (by simp[names]);simp only[Den]at *;rw[e];exact h
 |.ex n j off size i,u,hn,_,h=>by have e:=hn n (by simp[names]);simp only[Den]at *;rw[e];exact h
 |.hp n j off,u,hn,_,h=>by have e:=hn n (by simp[names]);simp only[Den]at *;rw[e];exact h
 |.g cs x,u,hn,hc,h=>by
  have e:=zmp (l:=l) (l':=l') (cs:=cs) λc hcm=>hc c (by simp[za8,hcm])
  refine⟨λhh=>zbg hn (λc hcm=>hc c (by simp[za8,hcm])) (h.1 (e.1 hh)),λhh=>h.2 λk=>hh (e.2 k)⟩
 |.junk,_,_,_,_=>trivial
theorem zap{w0:Base P}{w:World}{β:Env}{st:St}{a:Act}{cs:List (Nat×Bool)}(m:M w0 β st a w)(hc:holds st.slots cs)(x:Operand):Den β st.slots (evS st.slots cs x) (a.eval x):=by
 cases x with
 |tmp t=>
  refine zm2 hc ?_
  cases h:a.tmps[t]? with
  |some u=>
   have e:a.eval (.tmp t)=u:=by simp[Act.eval,h]
   rw[e];exact m.slot t u h
  |none=>
   have hs:st.slots.length<=t:=by rw[←m.size];exact Array.getElem?_eq_none_iff.1 h
   have:st.slots.getD t .junk=.junk:=by simp[List.getElem?_eq_none hs]
   rw[this];trivial
 |const v=>rfl
 |global g=>rfl
 |func f=>rfl
theorem zk7{β:Env}{l:List SV}{s:SV}{u v:Value}(h:Den β l s u)(hp:plain s=some v):u=v:=by
 cases s with
 |k x=>simp only[plain,Option.some.injEq]at hp;subst hp;exact h
 |v x=>
  simp only[plain]at hp
  split at hp
  ·rename_i hf
   simp only[Option.some.injEq]at hp;subst hp
   exact(show u=_ from h).trans (zdj hf)
  ·cases hp
 |_=>cases hp
theorem zoi{β:Env}{l:List SV}{s:SV}{u v:Value}(h:Den β l s u)(hp:named s=some v):u=ren β v:=by
 cases s with
 |k x=>
  simp only[named]at hp
  split at hp
  ·rename_i hf
   simp only[Option.some.injEq]at hp;subst hp
   exact(show u=_ from h).trans (zdj hf).symm
  ·cases hp
 |v x=>simp only[named,Option.some.injEq]at hp;subst hp;exact h
 |_=>cases hp
theorem z5s{s:SV}{v:Value}(hp:named s=some v){n:Nat}(h:n∈refs v):n∈names s:=by
 cases s with
 |k x=>
  simp only[named]at hp
  split at hp
  ·rename_i hf
   simp only[Option.some.injEq]at hp;subst hp
   rw[zen hf]at h;cases h
  ·cases hp
 |v x=>simp only[named,Option.some.injEq]at hp;subst hp;exact h
 |_=>cases hp
theorem zi8{cs:List (Nat×Bool)}{s:SV}{n:Nat}(h:n∈names (resolve cs s)):n∈names s:=by
 cases s with
 |g cs' x=>
  simp only[resolve]at h
  split at h
  ·exact h
  ·simp[names]at h
 |_=>exact h
theorem zbt{w0:Base P}{w:World}{β:Env}{st:St}{a:Act}{cs:List (Nat×Bool)}(m:M w0 β st a w){x:Operand}{n:Nat}(h:n∈names (evS st.slots cs x)):∃c,st.heap.getD n none=some c:=by
 cases x with
 |tmp t=>exact m.locs t n (zi8 h)
 |const v=>simp[evS,names]at h
 |global g=>simp[evS,names]at h
 |func f=>simp[evS,names]at h
def zac(h:List (Option HE)):List (Nat×HE)->List (Option HE)
 |[]=>h
 |(n,c)::l=>zac (h.set n (some c)) l
theorem Mem.lt{w0:Base P}{β:Env}{h:List (Option HE)}{w:World}(m:Mem w0 β h w){n b:Nat}{he:HE}(hn:h.getD n none=some he)(hb:zc8 he (β n)=some b):OwnB w0 b/\b<w.heap.size:=by
 have hk:=m.ok n he hn
 cases he with
 |cells t cs=>
  simp only[zc8,Option.some.injEq]at hb;subst hb
  refine⟨hk.2,?_⟩
  rcases Nat.lt_or_ge (β n).1 w.heap.size with hl|hl
  ·exact hl
  ·have:=hk.1;rw[Array.getElem?_eq_none hl]at this;cases this
 |own t k f=>
  obtain⟨size,xs,_,_,ho,_⟩:=hk
  have:=ho.lt b hb
  exact⟨.inl this.1,this.2⟩
 |deep ds=>cases hb
 |raw ds=>cases hb
 |gone=>cases hb
 |mp k i=>
  simp only[zc8,Option.some.injEq]at hb;subst hb
  refine⟨hk.2,?_⟩
  obtain⟨⟨es,clock,h1,_⟩,_⟩:=hk
  rcases Nat.lt_or_ge (β n).1 w.heap.size with hl|hl
  ·exact hl
  ·rw[Array.getElem?_eq_none hl]at h1;cases h1
 |im l=>
  simp only[zc8,Option.some.injEq]at hb;subst hb
  refine⟨hk.2,?_⟩
  obtain⟨⟨es,clock,h1,_⟩,_⟩:=hk
  rcases Nat.lt_or_ge (β n).1 w.heap.size with hl|hl
  ·exact hl
  ·rw[Array.getElem?_eq_none hl]at h1;cases h1
theorem Mem.ownlt{w0:Base P}{β:Env}{h:List (Option HE)}{w:World}(m:Mem w0 β h w){n b:Nat}{t:TypeId}{k:Nat}{f:Nat->List DC}(hn:h.getD n none=some (.own t k f))(hb:((β n).2 0).ownBlock=some b):w0.w.heap.size<=b/\b<w.heap.size:=by
 obtain⟨size,xs,_,_,ho,_⟩:=m.ok n _ hn
 exact ho.lt b hb
theorem zn5{w0:Base P}{β:Env}{h:List (Option HE)}{w:World}(hb:zl3 w0 w){b:Nat}(k:NF w0 β h w b):b<w.heap.size:=by
 rcases k with k|k
 ·exact Nat.lt_of_lt_of_le (w0.lt b k) hb.size
 ·exact k.2.1.1
theorem HeOk.mono{w0:Base P}{β β':Env}{N N':Nat->Prop}{w w':World}{e:Nat×(Nat->Value)}{he:HE}(hN:∀b,N b->N' b/\w'.heap[b]? = w.heap[b]?)
  (hb:∀b,zc8 he e=some b->w'.heap[b]? = w.heap[b]?) (hr:∀t cs,he=.cells t cs->∀v∈cs,ren0 β' v=ren0 β v) (hs:w.heap.size<=w'.heap.size) (k:HeOk w0 β N w e he) (hR:∀b,w0.R b->w'.heap[b]? = w.heap[b]?) (hm:∀v i,he=.mp v i->ren0 β' v=ren0 β v):HeOk w0 β' N' w' e he:=by
 cases he with
 |cells t cs=>
  refine⟨?_,k.2⟩
  rw[hb _ rfl,k.1,List.map_congr_left λv hv=>hr t cs rfl v hv]
 |deep ds=>exact λj d hd=>(k j d hd).mono hN
 |raw ds=>exact λj d hd=>(k j d hd).mono λb hb=>⟨hb,hR b hb⟩
 |own t n f=>
  obtain⟨size,xs,h1,h2,h3,h4⟩:=k
  refine⟨size,xs,h1,h2,?_,λi hi=>⟨(h4 i hi).1,λj hj=>?_⟩⟩
  ·refine⟨h3.1,?_⟩
   rcases h3.2 with hn|⟨g,cap,cur,hv,hg,hc,rest⟩
   ·exact .inl hn
   ·exact .inr ⟨g,cap,cur,hv,hg,(hb g (by simp[zc8,hv,Value.ownBlock])).trans hc,rest⟩
  ·obtain⟨v,hv,hd⟩:=(h4 i hi).2 j hj
   exact⟨v,hv,hd.mono hN⟩
 |gone=>trivial
 |mp v i=>
  obtain⟨⟨es,clock,h1,h2⟩,h3⟩:=k
  exact⟨⟨es,clock,(hb _ rfl).trans h1,by rw[hm v i rfl];exact h2⟩,h3⟩
 |im l=>
  obtain⟨⟨es,clock,h1,h2⟩,h3⟩:=k
  exact⟨⟨es,clock,(hb _ rfl).trans h1,h2.mono hN⟩,h3⟩
theorem Mem.next{w0:Base P}{β β':Env}{h h':List (Option HE)}{w w':World}(m:Mem w0 β h w)(New:Nat->Prop)
  (hβ:∀n c,h.getD n none=some c->¬New n->β' n=β n)
  (hβr:∀n t cs,h'.getD n none=some (.cells t cs)->¬New n->∀v∈cs,ren0 β' v=ren0 β v)
  (hold:∀n he,h'.getD n none=some he->¬New n->h.getD n none=some he/\∀b,zc8 he (β n)=some b->w'.heap[b]? = w.heap[b]?)
  (hNF:∀b,NF w0 β h w b->NF w0 β' h' w' b/\w'.heap[b]? = w.heap[b]?)
  (hs:w.heap.size<=w'.heap.size)
  (hnew:∀n he,h'.getD n none=some he->New n->HeOk w0 β' (NF w0 β' h' w') w' (β' n) he)
  (hinj:∀n m c d b,h'.getD n none=some c->h'.getD m none=some d->zc8 c (β' n)=some b->zc8 d (β' m)=some b->New n->n=m)
  (hrefs:∀n t cs,h'.getD n none=some (.cells t cs)->∀v∈cs,∀m∈zaz v,∃c,h'.getD m none=some c)
  (hone:∀n j,zag ((β' n).2 j)=true) (hbelow:zl3 w0 w') (hmr:∀n v i,h'.getD n none=some (.mp v i)->∀m∈zaz v,∃c,h'.getD m none=some c)
  (hβm:∀n v i,h'.getD n none=some (.mp v i)->¬New n->ren0 β' v=ren0 β v:=by intros;rfl):Mem w0 β' h' w' where
 ok n he hn:=by
  by_cases hx:New n
  ·exact hnew n he hn hx
  ·obtain⟨h1,h2⟩:=hold n he hn hx
   rw[hβ n he h1 hx]
   exact HeOk.mono hNF h2 (λt cs e v hv=>hβr n t cs (e▸hn) hx v hv) hs (m.ok n he h1) (m.below.raw hbelow) (λv i e=>hβm n v i (e▸hn) hx)
 inj n k c d b hn hk hc hd:=by
  by_cases hx:New n
  ·exact hinj n k c d b hn hk hc hd hx
  ·by_cases hy:New k
   ·exact(hinj k n d c b hk hn hd hc hy).symm
   ·have h1:=(hold n c hn hx).1;have h2:=(hold k d hk hy).1
    rw[hβ n c h1 hx]at hc;rw[hβ k d h2 hy]at hd
    exact m.inj n k c d b h1 h2 hc hd
 refs:=hrefs
 one:=hone
 below:=hbelow
 mrefs:=hmr
theorem Mem.call{w0:Base P}{β:Env}{h:List (Option HE)}{w w':World}(m:Mem w0 β h w)(hb:Below w.heap.size w w'):Mem w0 β h w':=
 m.next (λ_=>False) (λ_ _ _ _=>rfl) (λ_ _ _ _ _ _ _=>rfl) (λn he hn _=>⟨hn,λb hx=>hb.block b (m.lt hn hx).2⟩)
  (λb hN=>⟨by
           rcases hN with k|k
           ·exact .inl k
           ·exact .inr ⟨k.1,⟨Nat.lt_of_lt_of_le k.2.1.1 hb.size,k.2.1.2.of (hb.block b k.2.1.1)⟩,k.2.2⟩,hb.block b (zn5 m.below hN)⟩)
  hb.size (λ_ _ _ k=>k.elim) (λ_ _ _ _ _ _ _ _ _ k=>k.elim) m.refs m.one (m.below.trans (hb.mono m.below.size)) m.mrefs
def bump(β:Env)(n:Nat)(e:Nat×(Nat->Value)):Env:=λk=>if k=n then e else β k
theorem zcs(β:Env)(n:Nat)(e:Nat×(Nat->Value)):bump β n e n=e:=by simp[bump]
theorem zcf{β:Env}{n k:Nat}{e:Nat×(Nat->Value)}(h:k≠n):bump β n e k=β k:=by simp[bump,h]
theorem zw9{w0:Base P}{β:Env}{h:List (Option HE)}{w:World}(m:Mem w0 β h w){n:Nat}(hn:h.getD n none=none)(e:Nat×(Nat->Value)){k t cs}(hk:h.getD k none=some (.cells t cs)){v:Value}(hv:v∈cs):ren0 (bump β n e) v=ren0 β v:=
 zgl λq hq=>zcf λe'=>by
  obtain⟨c,hc⟩:=m.refs k t cs hk v hv q hq
  rw[e',hn]at hc;cases hc
theorem zah{n m:Nat}{h:List (Option HE)}{x:HE}:(h.set n (some x)).getD m none=if n=m/\n<h.length then some x else h.getD m none:=zbe h n m (some x) none
def push(w:World)(o:Obj):World:={w with heap:=w.heap.push o}
theorem ygj{w:World}{o:Obj}{k:Nat}(h:k<w.heap.size):(push w o).heap[k]? = w.heap[k]?:=by
 show(w.heap.push o)[k]? = _
 rw[Array.getElem?_push,if_neg (Nat.ne_of_lt h)]
theorem zp6{w:World}{o:Obj}:(push w o).heap[w.heap.size]? = some o:=by
 show(w.heap.push o)[w.heap.size]? = _
 rw[Array.getElem?_push,if_pos rfl]
theorem zk5(w:World)(o:Obj):Below w.heap.size w (push w o):=⟨rfl,rfl,rfl,by show _<=(w.heap.push o).size;rw[Array.size_push];omega,λk hk=>ygj hk⟩
theorem Mem.add{w0:Base P}{β:Env}{h:List (Option HE)}{w w':World}(m:Mem w0 β h w){n:Nat}(hl:n<h.length)(hn:h.getD n none=none)(he:HE)(e:Nat×(Nat->Value))(hb:Below w.heap.size w w')
  (hblk:∀b,zc8 he e=some b->w.heap.size<=b) (hone:∀j,zag (e.2 j)=true) (hrefs:∀t cs,he=.cells t cs->∀v∈cs,∀k∈zaz v,∃c,h.getD k none=some c)
  (hok:(∀b,NF w0 β h w b->NF w0 (bump β n e) (h.set n (some he)) w' b/\w'.heap[b]? = w.heap[b]?)->HeOk w0 (bump β n e) (NF w0 (bump β n e) (h.set n (some he)) w') w' e he) (hmp:∀v i,he=.mp v i->zaz v=[]:=by intro v i e;cases e):Mem w0 (bump β n e) (h.set n (some he)) w':=by
 have hat:∀k,k≠n->(h.set n (some he)).getD k none=h.getD k none:=λk hk=>by rw[zah,if_neg (λz=>hk z.1.symm)]
 have hatn:(h.set n (some he)).getD n none=some he:=by rw[zah,if_pos ⟨rfl,hl⟩]
 have hNF:∀b,NF w0 β h w b->NF w0 (bump β n e) (h.set n (some he)) w' b/\w'.heap[b]? = w.heap[b]?:=λb hN=>by
  refine⟨?_,hb.block b (zn5 m.below hN)⟩
  rcases hN with k|⟨k1,k2,k3⟩
  ·exact .inl k
  ·refine .inr ⟨k1,⟨Nat.lt_of_lt_of_le k2.1 hb.size,k2.2.of (hb.block b k2.1)⟩,λq c hq hx=>?_⟩
   by_cases eq:q=n
   ·subst eq
    rw[hatn]at hq;simp only[Option.some.injEq]at hq;subst hq
    rw[zcs]at hx
    have:=hblk b hx;omega
   ·rw[hat q eq]at hq;rw[zcf eq]at hx
    exact k3 q c hq hx
 refine m.next (λk=>k=n) (λk c hk hkn=>zcf hkn) (λk t cs hk hkn v hv=>?_) (λk c hk hkn=>?_) hNF hb.size (λk c hk hkn=>?_) (λk q c d b hk hq hc hd hkn=>?_) (λk t cs hk v hv q hq=>?_) (λk j=>?_) (m.below.trans (hb.mono m.below.size)) (λk v i hk q hq=>?_) (λk v i hk hkn=>?_)
 ·rw[hat k hkn]at hk;exact zw9 m hn e hk hv
 ·rw[hat k hkn]at hk;exact⟨hk,λb hx=>hb.block b (m.lt hk hx).2⟩
 ·subst hkn
  rw[hatn]at hk;simp only[Option.some.injEq]at hk;subst hk
  rw[zcs];exact hok hNF
 ·subst hkn
  rw[hatn]at hk;simp only[Option.some.injEq]at hk;subst hk
  rw[zcs]at hc
  by_cases e':q=k
  ·exact e'.symm
  ·rw[hat q e']at hq;rw[zcf e']at hd
   have h1:=hblk b hc;have h2:=(m.lt hq hd).2
   omega
 ·have key:∃c,h.getD q none=some c:=by
   by_cases eq:k=n
   ·subst eq
    rw[hatn]at hk;simp only[Option.some.injEq]at hk
    exact hrefs t cs hk v hv q hq
   ·rw[hat k eq]at hk;exact m.refs k t cs hk v hv q hq
  obtain⟨c,hc⟩:=key
  by_cases eq:q=n
  ·subst eq;exact⟨he,hatn⟩
  ·exact⟨c,(hat q eq).trans hc⟩
 ·by_cases eq:k=n
  ·subst eq;rw[zcs];exact hone j
  ·rw[zcf eq];exact m.one k j
 ·by_cases eq:k=n
  ·subst eq
   rw[hatn]at hk;simp only[Option.some.injEq]at hk
   rw[hmp v i hk]at hq;cases hq
  ·rw[hat k eq]at hk
   obtain⟨c,hc⟩:=m.mrefs k v i hk q hq
   by_cases eq':q=n
   ·subst eq';exact⟨he,hatn⟩
   ·exact⟨c,(hat q eq').trans hc⟩
 ·rw[hat k hkn]at hk
  exact zgl λq hq=>zcf λe'=>by
   obtain⟨c,hc⟩:=m.mrefs k v i hk q hq
   rw[e',hn]at hc;cases hc
theorem Mem.new{w0:Base P}{β:Env}{h:List (Option HE)}{w:World}(m:Mem w0 β h w){n:Nat}(hl:n<h.length)(hn:h.getD n none=none)(t:TypeId)(cs:List Value)(hr:∀v∈cs,∀k∈zaz v,∃c,h.getD k none=some c) :
  Mem w0 (bump β n (w.heap.size,λ_=>.bool false)) (h.set n (some (.cells t cs))) (push w (.cells (cs.map (ren0 β)).toArray t)):=by
 refine m.add hl hn _ _ (zk5 _ _) (λb hb=>by simp only[zc8,Option.some.injEq]at hb;omega) (λ_=>rfl) (λt' cs' e v hv k hk=>by cases e;exact hr v hv k hk) (λhN=>?_)
 refine⟨?_,.inl m.below.size⟩
 rw[List.map_congr_left (f:=ren0 (bump β n _)) (g:=ren0 β) λv hv=>zgl λq hq=>zcf λe'=>by
  obtain⟨c,hc⟩:=hr v hv q hq
  rw[e',hn]at hc;cases hc]
 exact zp6
theorem Mem.view{w0:Base P}{β:Env}{h:List (Option HE)}{w:World}(m:Mem w0 β h w){n:Nat}(hl:n<h.length)(hn:h.getD n none=none)(ds:List DC)(r:Nat->Value)(hr:∀j,zag (r j)=true)(hd:∀j d,ds[j]? = some d->DenC w (NF w0 β h w) d (r j)) :
  Mem w0 (bump β n (0,r)) (h.set n (some (.deep ds))) w:=
 m.add hl hn _ _ (Below.refl _ _) (λb hb=>by cases hb) hr (λt cs e=>by cases e) (λhN j d hj=>(hd j d hj).mono hN)
theorem Mem.viewR{w0:Base P}{β:Env}{h:List (Option HE)}{w:World}(m:Mem w0 β h w){n:Nat}(hl:n<h.length)(hn:h.getD n none=none)(ds:List DC)(r:Nat->Value)(hr:∀j,zag (r j)=true)(hd:∀j d,ds[j]? = some d->DenC w w0.R d (r j)) :
  Mem w0 (bump β n (0,r)) (h.set n (some (.raw ds))) w:=
 m.add hl hn _ _ (Below.refl _ _) (λb hb=>by cases hb) hr (λt cs e=>by cases e) (λ_ j d hj=>hd j d hj)
theorem Mem.ownpl{w0:Base P}{β:Env}{h:List (Option HE)}{w:World}(m:Mem w0 β h w){n b:Nat}{t:TypeId}{k:Nat}{f:Nat->List DC}(hn:h.getD n none=some (.own t k f))(hb:((β n).2 0).ownBlock=some b):zar w b:=by
 obtain⟨size,xs,_,_,ho,_⟩:=m.ok n _ hn
 rcases ho.2 with⟨hv,_⟩|⟨g,cap,cur,hv,hg,hc,_⟩
 ·rw[hv]at hb;cases hb
 ·rw[hv]at hb
  simp only[Value.ownBlock,Option.some.injEq]at hb;subst hb
  exact⟨_,_,hc⟩
theorem ydk{w0:Base P}{β:Env}{h:List (Option HE)}{w:World}(hb:zl3 w0 w){b:Nat}(k:NF w0 β h w b):zar w b:=by
 rcases k with k|k
 ·exact(w0.pl b k).of (hb.block b (w0.lt b k) λz=>w0.dis b z k)
 ·exact k.2.1.2
theorem Mem.put{w0:Base P}{β:Env}{h:List (Option HE)}{w:World}(m:Mem w0 β h w){n:Nat}{t:TypeId}{cs:List Value}(hn:h.getD n none=some (.cells t cs)){cs':List Value}{w':World}(hr:∀v∈cs',∀k∈zaz v,∃c,h.getD k none=some c)(hb:w'.heap[(β n).1]? = some (.cells (cs'.map (ren0 β)).toArray t (0,0)))
  (hk:∀k,k≠(β n).1->w'.heap[k]? = w.heap[k]?) (hs:w'.heap.size=w.heap.size) (ho:w'.os=w.os) (ht:w'.tape=w.tape) (hu:w'.output=w.output):Mem w0 β (h.set n (some (.cells t cs'))) w':=by
 have hl:n<h.length:=by
  rcases Nat.lt_or_ge n h.length with k|k
  ·exact k
  ·rw[List.getD_eq_getElem?_getD,List.getElem?_eq_none k]at hn;cases hn
 have hat:∀k,k≠n->(h.set n (some (.cells t cs'))).getD k none=h.getD k none:=λk hk=>by rw[zah,if_neg (λz=>hk z.1.symm)]
 have hatn:(h.set n (some (HE.cells t cs'))).getD n none=some (.cells t cs'):=by rw[zah,if_pos ⟨rfl,hl⟩]
 have hlt:=m.lt hn (b:=(β n).1) rfl
 have old:∀k he,h.getD k none=some he->∃he',(h.set n (some (.cells t cs'))).getD k none=some he':=λk he hk=>by
  by_cases e:k=n
  ·subst e;exact⟨_,hatn⟩
  ·exact⟨he,(hat k e).trans hk⟩
 have hNF:∀b,NF w0 β h w b->NF w0 β (h.set n (some (.cells t cs'))) w' b/\w'.heap[b]? = w.heap[b]?:=λb hN=>by
  have hne:b≠(β n).1:=by
   rintro rfl
   rcases hN with k|k
   ·exact w0.own_F hlt.1 k
   ·exact k.2.2 n _ hn rfl
  refine⟨?_,hk b hne⟩
  rcases hN with k|⟨k1,k2,k3⟩
  ·exact .inl k
  ·refine .inr ⟨k1,⟨by omega,k2.2.of (hk b hne)⟩,λq c hq hx=>?_⟩
   by_cases eq:q=n
   ·subst eq
    rw[hatn]at hq;simp only[Option.some.injEq]at hq;subst hq
    simp only[zc8,Option.some.injEq]at hx
    exact hne hx.symm
   ·rw[hat q eq]at hq;exact k3 q c hq hx
 refine m.next (λk=>k=n) (λ_ _ _ _=>rfl) (λ_ _ _ _ _ _ _=>rfl) (λk c hkc hkn=>?_) hNF (by omega) (λk c hkc hkn=>?_) (λk q c d b hkc hq hc hd hkn=>?_) (λk t' cs'' hkc v hv q hq=>?_) m.one ⟨ho.trans m.below.os,ht.trans m.below.tape,hu.trans m.below.output,by have:=m.below.size;omega,λk hk' hL=>(hk k (by
  rintro rfl
  rcases hlt.1 with z|z
  ·omega
  ·exact hL z)).trans (m.below.block k hk' hL)⟩ (λk v i hkc q hq=>by
   have hkn:k≠n:=λe=>by subst e;rw[hatn]at hkc;cases hkc
   rw[hat k hkn]at hkc
   obtain⟨c,hc⟩:=m.mrefs k v i hkc q hq
   exact old q c hc)
 ·rw[hat k hkn]at hkc
  refine⟨hkc,λb hx=>hk b λe=>hkn ?_⟩
  subst e
  exact m.inj k n c _ _ hkc hn hx rfl
 ·subst hkn
  rw[hatn]at hkc;simp only[Option.some.injEq]at hkc;subst hkc
  exact⟨hb,hlt.1⟩
 ·subst hkn
  rw[hatn]at hkc;simp only[Option.some.injEq]at hkc;subst hkc
  by_cases e':q=k
  ·exact e'.symm
  ·rw[hat q e']at hq
   exact m.inj k q _ d b hn hq hc hd
 ·have key:∃c,h.getD q none=some c:=by
   by_cases eq:k=n
   ·subst eq
    rw[hatn]at hkc;simp only[Option.some.injEq,HE.cells.injEq]at hkc
    obtain⟨-,rfl⟩:=hkc
    exact hr v hv q hq
   ·rw[hat k eq]at hkc;exact m.refs k t' cs'' hkc v hv q hq
  obtain⟨c,hc⟩:=key
  exact old q c hc
theorem Mem.newMap{w0:Base P}{β:Env}{h:List (Option HE)}{w:World}(m:Mem w0 β h w){n:Nat}(hl:n<h.length)(hn:h.getD n none=none)(c:Nat) :
  Mem w0 (bump β n (w.heap.size,λ_=>.bool false)) (h.set n (some (.mp (.bool false) 0))) (push w (.map #[] c)):=by
 refine m.add hl hn _ _ (zk5 _ _) (λb hb=>by simp only[zc8,Option.some.injEq]at hb;omega) (λ_=>rfl) (λt' cs' e=>by cases e) (λhN=>?_) (λv i e=>by cases e;rfl)
 exact⟨⟨#[],c,zp6,λx hx=>by simp at hx⟩,.inl m.below.size⟩
theorem Mem.newIm{w0:Base P}{β:Env}{h:List (Option HE)}{w:World}(m:Mem w0 β h w){n:Nat}(hl:n<h.length)(hn:h.getD n none=none)(c:Nat) :
  Mem w0 (bump β n (w.heap.size,λ_=>.bool false)) (h.set n (some (.im []))) (push w (.map #[] c)):=by
 refine m.add hl hn _ _ (zk5 _ _) (λb hb=>by simp only[zc8,Option.some.injEq]at hb;omega) (λ_=>rfl) (λt' cs' e=>by cases e) (λhN=>?_) (λv i e=>by cases e)
 exact⟨⟨#[],c,zp6,trivial⟩,.inl m.below.size⟩
theorem Mem.putMap{w0:Base P}{β:Env}{h:List (Option HE)}{w:World}(m:Mem w0 β h w){n:Nat}{v0 v:Value}{i0 i:Int}(hn:h.getD n none=some (.mp v0 i0))(hr:∀q∈zaz v,∃c,h.getD q none=some c){es:Array MapEntry}{clock:Nat}{w':World}(hk':∀x∈es.toList,x.key=.agg #[ren0 β v,.int .i64 i]/\∃p,ren0 β v=.pointer p)(hb:w'.heap[(β n).1]? = some (.map es clock))
  (hk:∀k,k≠(β n).1->w'.heap[k]? = w.heap[k]?) (hs:w'.heap.size=w.heap.size) (ho:w'.os=w.os) (ht:w'.tape=w.tape) (hu:w'.output=w.output):Mem w0 β (h.set n (some (.mp v i))) w':=by
 have hl:n<h.length:=by
  rcases Nat.lt_or_ge n h.length with k|k
  ·exact k
  ·rw[List.getD_eq_getElem?_getD,List.getElem?_eq_none k]at hn;cases hn
 have hat:∀k,k≠n->(h.set n (some (.mp v i))).getD k none=h.getD k none:=λk hk=>by rw[zah,if_neg (λz=>hk z.1.symm)]
 have hatn:(h.set n (some (HE.mp v i))).getD n none=some (.mp v i):=by rw[zah,if_pos ⟨rfl,hl⟩]
 have hlt:=m.lt hn (b:=(β n).1) rfl
 have old:∀k he,h.getD k none=some he->∃he',(h.set n (some (.mp v i))).getD k none=some he':=λk he hk=>by
  by_cases e:k=n
  ·subst e;exact⟨_,hatn⟩
  ·exact⟨he,(hat k e).trans hk⟩
 have hNF:∀b,NF w0 β h w b->NF w0 β (h.set n (some (.mp v i))) w' b/\w'.heap[b]? = w.heap[b]?:=λb hN=>by
  have hne:b≠(β n).1:=by
   rintro rfl
   rcases hN with k|k
   ·exact w0.own_F hlt.1 k
   ·exact k.2.2 n _ hn rfl
  refine⟨?_,hk b hne⟩
  rcases hN with k|⟨k1,k2,k3⟩
  ·exact .inl k
  ·refine .inr ⟨k1,⟨by omega,k2.2.of (hk b hne)⟩,λq c hq hx=>?_⟩
   by_cases eq:q=n
   ·subst eq
    rw[hatn]at hq;simp only[Option.some.injEq]at hq;subst hq
    simp only[zc8,Option.some.injEq]at hx
    exact hne hx.symm
   ·rw[hat q eq]at hq;exact k3 q c hq hx
 refine m.next (λk=>k=n) (λ_ _ _ _=>rfl) (λ_ _ _ _ _ _ _=>rfl) (λk c hkc hkn=>?_) hNF (by omega) (λk c hkc hkn=>?_) (λk q c d b hkc hq hc hd hkn=>?_) (λk t' cs'' hkc v hv q hq=>?_) m.one ⟨ho.trans m.below.os,ht.trans m.below.tape,hu.trans m.below.output,by have:=m.below.size;omega,λk hk' hL=>(hk k (by
  rintro rfl
  rcases hlt.1 with z|z
  ·omega
  ·exact hL z)).trans (m.below.block k hk' hL)⟩ (λk v1 i1 hkc q hq=>by
   by_cases e:k=n
   ·subst e
    rw[hatn]at hkc;simp only[Option.some.injEq,HE.mp.injEq]at hkc
    obtain⟨rfl,-⟩:=hkc
    obtain⟨c,hc⟩:=hr q hq
    exact old q c hc
   ·rw[hat k e]at hkc
    obtain⟨c,hc⟩:=m.mrefs k v1 i1 hkc q hq
    exact old q c hc)
 ·rw[hat k hkn]at hkc
  refine⟨hkc,λb hx=>hk b λe=>hkn ?_⟩
  subst e
  exact m.inj k n c _ _ hkc hn hx rfl
 ·subst hkn
  rw[hatn]at hkc;simp only[Option.some.injEq]at hkc;subst hkc
  exact⟨⟨es,clock,hb,hk'⟩,hlt.1⟩
 ·subst hkn
  rw[hatn]at hkc;simp only[Option.some.injEq]at hkc;subst hkc
  by_cases e':q=k
  ·exact e'.symm
  ·rw[hat q e']at hq
   exact m.inj k q _ d b hn hq hc hd
 ·have hkn:k≠n:=λe=>by subst e;rw[hatn]at hkc;cases hkc
  rw[hat k hkn]at hkc
  obtain⟨c,hc⟩:=m.refs k t' cs'' hkc v hv q hq
  exact old q c hc
theorem Mem.putIm{w0:Base P}{β:Env}{h:List (Option HE)}{w:World}(m:Mem w0 β h w){n:Nat}{l l':List (Int×DV)}(hn:h.getD n none=some (.im l)){es:Array MapEntry}{clock:Nat}{w':World}(hk':(∀b,NF w0 β h w b->NF w0 β (h.set n (some (.im l'))) w' b/\w'.heap[b]? = w.heap[b]?)->ImOk w' (NF w0 β (h.set n (some (.im l'))) w') es.toList l')(hb:w'.heap[(β n).1]? = some (.map es clock))
  (hk:∀k,k≠(β n).1->w'.heap[k]? = w.heap[k]?) (hs:w'.heap.size=w.heap.size) (ho:w'.os=w.os) (ht:w'.tape=w.tape) (hu:w'.output=w.output):Mem w0 β (h.set n (some (.im l'))) w':=by
 have hl:n<h.length:=by
  rcases Nat.lt_or_ge n h.length with k|k
  ·exact k
  ·rw[List.getD_eq_getElem?_getD,List.getElem?_eq_none k]at hn;cases hn
 have hat:∀k,k≠n->(h.set n (some (.im l'))).getD k none=h.getD k none:=λk hk=>by rw[zah,if_neg (λz=>hk z.1.symm)]
 have hatn:(h.set n (some (HE.im l'))).getD n none=some (.im l'):=by rw[zah,if_pos ⟨rfl,hl⟩]
 have hlt:=m.lt hn (b:=(β n).1) rfl
 have old:∀k he,h.getD k none=some he->∃he',(h.set n (some (.im l'))).getD k none=some he':=λk he hk=>by
  by_cases e:k=n
  ·subst e;exact⟨_,hatn⟩
  ·exact⟨he,(hat k e).trans hk⟩
 have hNF:∀b,NF w0 β h w b->NF w0 β (h.set n (some (.im l'))) w' b/\w'.heap[b]? = w.heap[b]?:=λb hN=>by
  have hne:b≠(β n).1:=by
   rintro rfl
   rcases hN with k|k
   ·exact w0.own_F hlt.1 k
   ·exact k.2.2 n _ hn rfl
  refine⟨?_,hk b hne⟩
  rcases hN with k|⟨k1,k2,k3⟩
  ·exact .inl k
  ·refine .inr ⟨k1,⟨by omega,k2.2.of (hk b hne)⟩,λq c hq hx=>?_⟩
   by_cases eq:q=n
   ·subst eq
    rw[hatn]at hq;simp only[Option.some.injEq]at hq;subst hq
    simp only[zc8,Option.some.injEq]at hx
    exact hne hx.symm
   ·rw[hat q eq]at hq;exact k3 q c hq hx
 refine m.next (λk=>k=n) (λ_ _ _ _=>rfl) (λ_ _ _ _ _ _ _=>rfl) (λk c hkc hkn=>?_) hNF (by omega) (λk c hkc hkn=>?_) (λk q c d b hkc hq hc hd hkn=>?_) (λk t' cs'' hkc v hv q hq=>?_) m.one ⟨ho.trans m.below.os,ht.trans m.below.tape,hu.trans m.below.output,by have:=m.below.size;omega,λk hk' hL=>(hk k (by
  rintro rfl
  rcases hlt.1 with z|z
  ·omega
  ·exact hL z)).trans (m.below.block k hk' hL)⟩ (λk v1 i1 hkc q hq=>by
   by_cases e:k=n
   ·subst e
    rw[hatn]at hkc;cases hkc
   ·rw[hat k e]at hkc
    obtain⟨c,hc⟩:=m.mrefs k v1 i1 hkc q hq
    exact old q c hc)
 ·rw[hat k hkn]at hkc
  refine⟨hkc,λb hx=>hk b λe=>hkn ?_⟩
  subst e
  exact m.inj k n c _ _ hkc hn hx rfl
 ·subst hkn
  rw[hatn]at hkc;simp only[Option.some.injEq]at hkc;subst hkc
  exact⟨⟨es,clock,hb,hk' hNF⟩,hlt.1⟩
 ·subst hkn
  rw[hatn]at hkc;simp only[Option.some.injEq]at hkc;subst hkc
  by_cases e':q=k
  ·exact e'.symm
  ·rw[hat q e']at hq
   exact m.inj k q _ d b hn hq hc hd
 ·have hkn:k≠n:=λe=>by subst e;rw[hatn]at hkc;cases hkc
  rw[hat k hkn]at hkc
  obtain⟨c,hc⟩:=m.refs k t' cs'' hkc v hv q hq
  exact old q c hc
theorem ydj{w0:Base P}{β:Env}{h:List (Option HE)}{w:World}(m:Mem w0 β h w){n:Nat}{he:HE}(hn:h.getD n none=some he)(he':HE)(hblk:zc8 he' (β n)=none):∀b,NF w0 β h w b\/(zc8 he (β n)=some b/\w0.w.heap.size<=b/\zar w b)->NF w0 β (h.set n (some he')) w b:=λb hN=>by
 have hl:n<h.length:=by
  rcases Nat.lt_or_ge n h.length with k|k
  ·exact k
  ·rw[List.getD_eq_getElem?_getD,List.getElem?_eq_none k]at hn;cases hn
 have hat:∀k,k≠n->(h.set n (some he')).getD k none=h.getD k none:=λk hk=>by rw[zah,if_neg (λz=>hk z.1.symm)]
 have hatn:(h.set n (some he')).getD n none=some he':=by rw[zah,if_pos ⟨rfl,hl⟩]
 have hsz:w0.F b\/(w0.w.heap.size<=b/\b<w.heap.size/\zar w b):=by
  rcases hN with(k|k)|k
  ·exact .inl k
  ·exact .inr ⟨k.1,k.2.1⟩
  ·exact .inr ⟨k.2.1,(m.lt hn k.1).2,k.2.2⟩
 rcases hsz with k|k
 ·exact .inl k
 ·refine .inr ⟨k.1,k.2,λq c hq hx=>?_⟩
  by_cases eq:q=n
  ·subst eq
   rw[hatn]at hq;simp only[Option.some.injEq]at hq;subst hq
   rw[hblk]at hx;cases hx
  ·rw[hat q eq]at hq
   rcases hN with(hN|hN)|hN
   ·have:=w0.lt b hN;omega
   ·exact hN.2.2 q c hq hx
   ·exact eq (m.inj q n c he b hq hn hx hN.1)
theorem Mem.tell{w0:Base P}{β:Env}{h:List (Option HE)}{w:World}(m:Mem w0 β h w){n:Nat}{he:HE}(hn:h.getD n none=some he)(he':HE)(hblk:zc8 he' (β n)=none)(hc:∀t cs,he'≠.cells t cs)
  (hok:(∀b,NF w0 β h w b\/(zc8 he (β n)=some b/\w0.w.heap.size<=b/\zar w b)->NF w0 β (h.set n (some he')) w b)->HeOk w0 β (NF w0 β (h.set n (some he')) w) w (β n) he') (hcm:∀v i,he'≠.mp v i:=by intro v i e;cases e):Mem w0 β (h.set n (some he')) w:=by
 have hl:n<h.length:=by
  rcases Nat.lt_or_ge n h.length with k|k
  ·exact k
  ·rw[List.getD_eq_getElem?_getD,List.getElem?_eq_none k]at hn;cases hn
 have hat:∀k,k≠n->(h.set n (some he')).getD k none=h.getD k none:=λk hk=>by rw[zah,if_neg (λz=>hk z.1.symm)]
 have hatn:(h.set n (some he')).getD n none=some he':=by rw[zah,if_pos ⟨rfl,hl⟩]
 have hNF:=ydj m hn he' hblk
 refine m.next (λk=>k=n) (λ_ _ _ _=>rfl) (λ_ _ _ _ _ _ _=>rfl) (λk c hkc hkn=>?_) (λb hN=>⟨hNF b (.inl hN),rfl⟩) (Nat.le_refl _) (λk c hkc hkn=>?_) (λk q c d b hkc hq hc' hd hkn=>?_) (λk t' cs'' hkc v hv q hq=>?_) m.one m.below (λk v i hkc q hq=>by
  have hkn:k≠n:=λe=>by
   subst e
   rw[hatn]at hkc;simp only[Option.some.injEq]at hkc
   exact hcm _ _ hkc
  rw[hat k hkn]at hkc
  obtain⟨c,hcc⟩:=m.mrefs k v i hkc q hq
  by_cases eq:q=n
  ·subst eq;exact⟨_,hatn⟩
  ·exact⟨c,(hat q eq).trans hcc⟩)
 ·rw[hat k hkn]at hkc;exact⟨hkc,λ_ _=>rfl⟩
 ·subst hkn
  rw[hatn]at hkc;simp only[Option.some.injEq]at hkc;subst hkc
  exact hok hNF
 ·subst hkn
  rw[hatn]at hkc;simp only[Option.some.injEq]at hkc;subst hkc
  rw[hblk]at hc';cases hc'
 ·have hkn:k≠n:=λe=>by
   subst e
   rw[hatn]at hkc;simp only[Option.some.injEq]at hkc
   exact hc _ _ hkc
  rw[hat k hkn]at hkc
  obtain⟨c,hcc⟩:=m.refs k t' cs'' hkc v hv q hq
  by_cases eq:q=n
  ·subst eq;exact⟨_,hatn⟩
  ·exact⟨c,(hat q eq).trans hcc⟩
theorem Mem.drop{w0:Base P}{β:Env}{h:List (Option HE)}{w:World}(m:Mem w0 β h w){n:Nat}{he:HE}(hn:h.getD n none=some he):Mem w0 β (h.set n (some .gone)) w:=
 m.tell hn .gone rfl (λ_ _ e=>by cases e) (λ_=>trivial)
theorem Mem.freeze{w0:Base P}{β:Env}{h:List (Option HE)}{w:World}(m:Mem w0 β h w){n:Nat}{t:TypeId}{k:Nat}{f:Nat->List DC}(hn:h.getD n none=some (.own t k f)):Mem w0 β (h.set n (some (.deep [.row k f]))) w:=by
 refine m.tell hn _ rfl (λ_ _ e=>by cases e) (λhNF j d hj=>?_)
 cases j with
 |succ j=>simp at hj
 |zero=>
  simp only[List.getElem?_cons_zero,Option.some.injEq]at hj;subst hj
  obtain⟨size,xs,h1,h2,h3,h4⟩:=m.ok n _ hn
  have hNF':=λb hb=>hNF b (.inl hb)
  rcases h3.2 with⟨hv,hk⟩|⟨g,cap,cur,hv,hg,hc,hle,hcap,hsz,htake⟩
  ·rw[hv];subst hk;exact .nil f none 0
  ·rw[hv]
   refine .row k f g 0 cap size (λi j=>cur.toList.getD (i*size+j) undef) hle (hNF g (.inr ⟨by simp[zc8,hv,Value.ownBlock],hg,⟨_,_,hc⟩⟩)) (λi hi=>⟨(h4 i hi).1,λj hj=>?_⟩) (λi j hi hj=>?_)
   ·obtain⟨v,hv',_⟩:=(h4 i hi).2 j hj
    rw[←htake,List.getElem?_take]at hv'
    split at hv'
    ·simp only[World.cell?,hc,Option.isSome_none,Bool.false_eq_true,if_false]
     rw[show 0+i*size+j=i*size+j by omega,List.getD_eq_getElem?_getD,hv']
     simpa using hv'
    ·cases hv'
   ·obtain⟨v,hv',hd⟩:=(h4 i hi).2 j hj
    rw[←htake,List.getElem?_take]at hv'
    split at hv'
    ·have e:cur.toList.getD (i*size+j) undef=v:=by rw[List.getD_eq_getElem?_getD,hv'];rfl
     rw[e]
     exact hd.mono λb hb=>⟨hNF' b hb,rfl⟩
    ·cases hv'
end
def zb1(fresh:Nat):Nat->List DC->List Value
 |_,[]=>[]
 |j,.p x::l=>x::zb1 fresh (j+1) l
 |j,.row n _::l=>.slice (some ⟨fresh,j,some 0⟩) n 0::zb1 fresh (j+1) l
 |j,.ptr _::l=>.pointer (some ⟨fresh,j,some 0⟩)::zb1 fresh (j+1) l
def pOk:List DC->Bool
 |[]=>true
 |.p x::l=>match zel x with
  |true=>pOk l
  |false=>false
 |_::l=>pOk l
def zee:List DC->Bool
 |[]=>true
 |.p _::l=>zee l
 |_=>false
def zbq:DV->List DC
 |.one d=>[d]
 |.agg ds=>ds
def zha:List DV->List DC
 |[]=>[]
 |v::vs=>zbq v++zha vs
def zdh:RV->List DC
 |.val v=>zbq v
 |.tup vs=>zha vs
def zc3(fresh j:Nat):DV->Value
 |.one d=>(zb1 fresh j [d]).headD undef
 |.agg ds=>.agg (zb1 fresh j ds).toArray
def zr1(fresh:Nat):Nat->List DV->List Value
 |_,[]=>[]
 |j,v::vs=>zc3 fresh j v::zr1 fresh (j+(zbq v).length) vs
def zpt(fresh:Nat):RV->Value
 |.val v=>zc3 fresh 0 v
 |.tup vs=>.tuple (zr1 fresh 0 vs).toArray
def zl9(h:Nat->Option HE)(n j:Nat):Option (Nat×(Nat->List DC)):=
 match h n with
 |some (.deep ds)=>match ds[j]? with
  |some (.row k f)=>some (k,f)
  |_=>none
 |some (.raw ds)=>match ds[j]? with
  |some (.row k f)=>some (k,f)
  |_=>none
 |some (.own _ k f)=>match j with
  |0=>some (k,f)
  |_=>none
 |_=>none
def zi6(h:Nat->Option HE)(n:Nat):Option HE:=
 match h n with
 |some (.raw _)=>none
 |x=>x
def zps(h:Nat->Option HE)(n:Nat):Bool:=
 match h n with
 |some (.raw _)=>true
 |_=>false
def zqo(h:Nat->Option HE)(n j:Nat):Option (List DC):=
 match h n with
 |some (.deep ds)=>match ds[j]? with
  |some (.ptr cs)=>some cs
  |_=>none
 |_=>none
def zpp(h:Nat->Option HE):Value->Option DC
 |.slice none 0 0=>some (.row 0 λ_=>[])
 |.slice (some a) n _=>match a.spot,zl9 h a.block a.off with
  |some _,some (k,f)=>some (.row k f)
  |_,_=>none
 |.pointer (some a)=>match a.spot,zqo h a.block a.off with
  |some _,some cs=>some (.ptr cs)
  |_,_=>none
 |x=>if zel x&&zag x then some (.p x)else none
def mapO(f:Value->Option DC):List Value->Option (List DC)
 |[]=>some []
 |x::l=>match f x,mapO f l with
  |some y,some m=>some (y::m)
  |_,_=>none
def toDC(h:Nat->Option HE):Value->Option DC
 |.pointer (some a)=>match a.spot,a.off,h a.block with
  |none,0,some (.cells _ cs)=>match mapO (zpp h) cs with
   |some ds=>some (.ptr ds)
   |none=>none
  |none,_,_=>none
  |some _,_,_=>zpp h (.pointer (some a))
 |x=>zpp h x
def toDV(h:Nat->Option HE):Value->Option DV
 |.agg cs=>match mapO (zpp h) cs.toList with
  |some ds=>some (.agg ds)
  |none=>none
 |x=>match toDC h x with
  |some d=>some (.one d)
  |none=>none
def zzo(h:Nat->Option HE):List Value->Option (List DV)
 |[]=>some []
 |x::l=>match toDV h x,zzo h l with
  |some y,some m=>some (y::m)
  |_,_=>none
def setF(h:Nat->Option HE)(n:Nat)(e:HE):Nat->Option HE:=λk=>bif Nat.beq k n then some e else h k
def frz:(Nat->Option HE)->List Nat->Option (List (Nat×HE))
 |_,[]=>some []
 |h,n::l=>match h n with
  |some (.own _ k f)=>match frz (setF h n (.deep [.row k f])) l with
   |some m=>some ((n,.deep [.row k f])::m)
   |none=>none
  |some (.deep _)=>frz h l
  |some (.raw _)=>frz h l
  |_=>none
inductive Out where
 |leaf (e:zcg) (s:St)
 |ite (b:Bool) (x y:Out)
 |side (ps:List Prop) (x:Out)
 |fail
def Out.sat(Q:zcg->St->Prop):Out->Prop
 |.leaf e s=>Q e s
 |.ite b x y=>(b=true->x.sat Q)/\(b=false->y.sat Q)
 |.side ps x=>allP ps/\x.sat Q
 |.fail=>False
def isG:SV->Bool
 |.g _ _=>true
 |_=>false
def NoG(st:St):Prop:=∀s∈st.slots,isG s=false
inductive LA where
 |d (v:DV)
 |lp (i off:Nat)
 |fn (K:Nat) (caps:List (Nat×Nat))
abbrev Lent:=List (TypeId×List Value)
structure Tabs where
 tb:Nat->List Value->Option (Value×List Prop)
 td:Nat->List DV->Option (RV×List Prop)
 tr:Nat->List DV->Option (RV×List Prop):=λ_ _=>none
 dres:Nat->Bool
 dty:TypeId->Bool
 pin:Nat->Option Bool:=λ_=>none
 tx:Nat->Option (List LA->Lent->Option (Value×List (List Value)×List Prop)):=λ_=>none
 dtmp:Bool:=false
 ext:Bool:=false
 pl:Nat->Bool:=λ_=>false
 nw:Nat->Option (Value->Option (TypeId×List Value)):=λ_=>none
 sl:Bool:=false
 ow:Nat->Option (List DV->Option ((TypeId×Nat×(Nat->List DC))×List Prop)):=λ_=>none
 gv:Nat->Option (List LA->TypeId->List Value->Option (RV×List Prop)):=λ_=>none
 rx:Array Oper->Bool->St->Option Out:=λ_ _ _=>none
 cl:Bool:=false
 gn:Bool:=false
def Tabs.mor(X:Tabs):Bool:=match X.cl with
 |true=>true
 |false=>X.gn
def zdq(X:Tabs):Op->Bool
 |.call c=>match c.callee with
  |.builtin .append=>true
  |.value (.func K)=>X.dres K
  |.value (.tmp _)=>X.dtmp
  |_=>false
 |_=>false
def zbo(X:Tabs)(o:Oper):Bool:=
 match o.op with
 |.alloc _=>true
 |.box _ _=>true
 |.buildSlice _ _ _=>true
 |.makeSlice _ _ _=>true
 |.load t _=>X.dty t
 |.call _=>zdq X o.op
 |.makeMap _ _=>true
 |.slice _ _ _ _ _=>X.sl||X.mor
 |.lookup _ _ _ _=>X.mor
 |_=>false
def zce(P:Program)(ev:Operand->SV)(o:Oper):Option Res:=
 match zdz ev o.op.operands.toList,o.op with
 |_,.select _ _=>none
 |some _,_=>
  match zi4 P (execOp (λx=>zdw (ev x)) o)with
  |some (.value u)=>if flat u then some {val:=if o.op.operands.toList.all (λx=>zge (ev x))then .k u else .v u,upd:=[],sides:=[]}else none
  |_=>none
 |none,_=>none
def sdL(b:Bool)(p:Prop)[Decidable p]:List Prop:=
 match b with
 |false=>[p]
 |true=>match decide p with
  |true=>[]
  |false=>[False]
theorem zhi{b:Bool}{p:Prop}[Decidable p](h:allP (sdL b p)):p:=by
 cases b with
 |false=>exact h.1
 |true=>
  unfold sdL at h
  by_cases hp:p
  ·exact hp
  ·simp only[decide_eq_false hp]at h;exact h.1.elim
def updD(fresh:Nat)(ds:List DC):List (Nat×HE):=
 match zee ds with
 |true=>[]
 |false=>[(fresh,.deep ds)]
def updK(raw:Bool)(fresh:Nat)(ds:List DC):List (Nat×HE):=
 match raw with
 |false=>updD fresh ds
 |true=>match zee ds with
  |true=>[]
  |false=>[(fresh,.raw ds)]
def yha(P:Program)(t:TypeId)(fresh:Nat)(deep raw:Bool)(cs:List DC)(off:Nat):Option Res:=
 match zei P t,zbh P t with
 |some true,some n=>
  if off+n<=cs.length/\pOk ((cs.drop off).take n)=true/\(zee ((cs.drop off).take n)||deep)=true then
   some {val:=.v (.agg (zb1 fresh 0 ((cs.drop off).take n)).toArray),upd:=updK raw fresh ((cs.drop off).take n),sides:=[]}
  else none
 |some false,some _=>match cs[off]? with
  |some d=>if pOk [d]=true/\(zee [d]||deep)=true then some {val:=.v ((zb1 fresh 0 [d]).headD undef),upd:=updK raw fresh [d],sides:=[]}else none
  |none=>none
 |_,_=>none
def zly(size:Nat):Nat->List DC->List (List DC)
 |0,_=>[]
 |n+1,l=>l.take size::zly size n (l.drop size)
def zmg(b:Bool):DC->DC->DC
 |.p x,.p y=>.p (zc1 3 b x y)
 |.row n f,.row m g=>.row (bif b then n else m) (λi=>bif b then f i else g i)
 |x,y=>bif b then x else y
def zpr:Nat->List (List DC)->Nat->List DC
 |_,[],_=>[]
 |_,[c],_=>c
 |k,c::d::l,i=>List.zipWith (zmg (Nat.beq i k)) c (zpr (k+1) (d::l) i)
def appF(n:Nat)(f g:Nat->List DC):Nat->List DC:=λi=>bif Nat.blt i n then f i else g (i-n)
def zgh:List DC->Nat->List DC->List DC
 |cs,_,[]=>cs
 |cs,off,v::vs=>zgh (cs.set off v) (off+1) vs
def updF(f:Nat->List DC)(i:Nat)(off:Nat)(ds:List DC):Nat->List DC:=λk=>bif Nat.beq k i then zgh (f k) off ds else f k
inductive Plc where
 |own (n off:Nat)
 |ix (n off:Nat) (i:Int) (len size:Nat)
 |ex (n j off size:Nat) (i:Int)
 |hp (n j off:Nat)
def zi5:SV->Option Plc
 |.v (.pointer (some a))=>match a.spot with
  |none=>some (.own a.block a.off)
  |some _=>some (.hp a.block a.off 0)
 |.ix n off i len size=>some (.ix n off i len size)
 |.ex n j off size i=>some (.ex n j off size i)
 |.hp n j off=>some (.hp n j off)
 |_=>none
def zom(P:Program)(hp:Nat->Option HE)(fresh:Nat)(deep:Bool)(t:TypeId):Plc->Option Res
 |.own n off=>match hp n with
  |some (.cells _ cs)=>match zep P t cs off with
   |some u=>if zei P t=some true\/zag u=true then some {val:=.v u,upd:=[],sides:=[]}else none
   |none=>none
  |_=>none
 |.ix n off i len size=>match hp n with
  |some (.cells _ cs)=>match zmh P t cs off size 0 len with
   |some us=>match zpe i 0 us with
    |some u=>if allB zel cs&&flat u then some {val:=.v u,upd:=[],sides:=[]}else none
    |none=>none
   |none=>none
  |_=>none
 |.ex n j off size i=>match zl9 hp n j with
  |some (_,f)=>if(f i.toNat).length=size then yha P t fresh deep (zps hp n) (f i.toNat) off else none
  |none=>none
 |.hp n j off=>match zqo hp n j with
  |some cs=>yha P t fresh deep false cs off
  |none=>none
def zk2(P:Program)(hp:Nat->Option HE)(t:TypeId)(u:Value):Plc->Option Res
 |.own n off=>match hp n,zbh P t with
  |some (.cells ty cs),some m=>if u.cells.size=m/\off+m<=cs.length/\u.cells.toList.all zag then some {val:=.k undef,upd:=[(n,.cells ty (zb5 cs off u.cells.toList))],sides:=[]}else none
  |_,_=>none
 |.ix n off i len size=>match hp n,zbh P t with
  |some (.cells ty cs),some m=>if flat u&&allB zel cs&&decide (u.cells.size=m/\off+(len-1)*size+m<=cs.length/\u.cells.toList.all zag)&&allB zel (zfo i u.cells.toList off size 0 len cs)then some {val:=.k undef,upd:=[(n,.cells ty (zfo i u.cells.toList off size 0 len cs))],sides:=[]}else none
  |_,_=>none
 |.ex n j off size i=>match hp n,j,zbh P t,mapO (zpp (zi6 hp)) u.cells.toList with
  |some (.own ty k f),0,some m,some ds=>
   match frz (setF hp n .gone) (refs u)with
   |some l=>if u.cells.size=m/\(f i.toNat).length=size/\off+m<=size/\u.cells.toList.all zag then some {val:=.k undef,upd:=l++[(n,.own ty k (updF f i.toNat off ds))],sides:=[]}else none
   |none=>none
  |_,_,_,_=>none
 |.hp _ _ _=>none
def zv5(hp:Nat->Option HE)(fresh:Nat)(deep:Bool)(vs:List Value)(r:RV)(ps:List Prop):Option Res:=
 if pOk (zdh r)then
  if zee (zdh r)=true then some {val:=.v (zpt fresh r),upd:=[],sides:=ps}
  else match deep,frz hp (zdt refs vs)with
   |true,some l=>some {val:=.v (zpt fresh r),upd:=l++[(fresh,.deep (zdh r))],sides:=ps}
   |_,_=>none
 else none
def zv6(X:Tabs)(hp:Nat->Option HE)(fresh:Nat)(K:Nat)(vs:List Value):Option Res:=
 match zzo (zi6 hp) vs with
 |some ds=>match X.td K ds with
  |some (r,ps)=>zv5 hp fresh (X.dres K) vs r ps
  |none=>none
 |none=>match zzo hp vs with
  |some ds=>match X.tr K ds with
   |some (r,ps)=>zv5 hp fresh (X.dres K) vs r ps
   |none=>none
  |none=>none
def zsy(hp:Nat->Option HE)(n:Nat):Option HE:=
 match hp n with
 |some (.cells _ _)=>none
 |some (.raw _)=>none
 |x=>x
def ixAt(n:Nat):Nat->List Nat->Option Nat
 |_,[]=>none
 |k,m::l=>bif Nat.beq m n then some k else ixAt n (k+1) l
def addN(l:List Nat)(n:Nat):List Nat×Nat:=
 match ixAt n 0 l with
 |some k=>(l,k)
 |none=>(l++[n],l.length)
def zhm:List Nat->List Value->Option (List Nat×List (Nat×Nat))
 |l,[]=>some (l,[])
 |l,.pointer (some a)::vs=>match a.spot with
  |none=>match zhm (addN l a.block).1 vs with
   |some (l',cs)=>some (l',((addN l a.block).2,a.off)::cs)
   |none=>none
  |some _=>none
 |_,_::_=>none
def z0p(hp:Nat->Option HE)(l:List Nat):Value->Option (List Nat×LA)
 |.pointer (some a)=>match a.spot with
  |none=>some ((addN l a.block).1,.lp (addN l a.block).2 a.off)
  |some _=>match toDV (zsy hp) (.pointer (some a))with
   |some d=>some (l,.d d)
   |none=>none
 |.func (.func K) fst caps=>match fst.toList,zhm l caps.toList with
  |[],some (l',cs)=>some (l',.fn K cs)
  |_,_=>none
 |v=>match toDV (zsy hp) v with
  |some d=>some (l,.d d)
  |none=>none
def zoq(hp:Nat->Option HE):List Nat->List Value->Option (List Nat×List LA)
 |l,[]=>some (l,[])
 |l,v::vs=>match z0p hp l v with
  |some (l',a)=>match zoq hp l' vs with
   |some (l'',az)=>some (l'',a::az)
   |none=>none
  |none=>none
def zlw(hp:Nat->Option HE):List Nat->Option Lent
 |[]=>some []
 |n::l=>match hp n,zlw hp l with
  |some (.cells t cs),some m=>match allB zel cs with
   |true=>some ((t,cs)::m)
   |false=>none
  |_,_=>none
def zmi:List Nat->Lent->List (List Value)->Option (List (Nat×HE))
 |[],[],[]=>some []
 |n::l,(t,cs)::m,o::os=>match allB zel o,Nat.beq o.length cs.length,zmi l m os with
  |true,true,some u=>some ((n,.cells t o)::u)
  |_,_,_=>none
 |_,_,_=>none
def ycx(X:Tabs)(hp:Nat->Option HE)(K:Nat)(vs:List Value):Option Res:=
 match X.tx K,zoq hp [] vs with
 |some f,some (σ,az)=>match zlw hp σ with
  |some lent=>match f az lent with
   |some (u,os,ps)=>match zmi σ lent os,flat u with
    |some up,true=>some {val:=.v u,upd:=up,sides:=ps}
    |_,_=>none
   |none=>none
  |none=>none
 |_,_=>none
def zv7(X:Tabs)(hp:Nat->Option HE)(fresh:Nat)(K:Nat)(vs:List Value):Option Res:=
 match X.tx K with
 |some _=>match X.dres K with
  |true=>ycx X hp K vs
  |false=>none
 |none=>zv6 X hp fresh K vs
def zy4(hp:Nat->Option HE):Value->Option (Nat×(Nat->List DC))
 |.slice none 0 0=>some (0,λ_=>[])
 |.slice (some a) _ _=>match a.spot with
  |some _=>zl9 hp a.block a.off
  |none=>none
 |_=>none
def yo5(hp:Nat->Option HE)(e:TypeId):Value->Option ((Nat×(Nat->List DC))×List (Nat×HE))
 |.slice none 0 0=>some ((0,λ_=>[]),[])
 |.slice (some a) _ _=>match a.spot,a.off,hp a.block with
  |some _,0,some (.own t n f)=>if t=e then some ((n,f),[(a.block,.gone)])else none
  |_,_,_=>none
 |_=>none
def zjy(P:Program)(t:TypeId):Option Nat:=(P.info? t).map (·.bytes)
def z60(P:Program)(t:TypeId):Option (List DC):=
 match (P.info? t).bind (·.zero)with
 |some z=>if allB zel z.cells.toList&&z.cells.toList.all zag then mapO (zpp λ_=>none) z.cells.toList else none
 |none=>none
def ym4:SV->Bool
 |.v (.pointer (some a))=>match a.spot with
  |none=>true
  |some _=>false
 |.ix _ _ _ _ _=>true
 |.ex _ _ _ _ _=>true
 |.hp _ _ _=>true
 |_=>false
def zrh(P:Program)(X:Tabs)(ev:List (Nat×Bool)->Operand->SV)(hp:Nat->Option HE)(fresh:Nat)(cs:List (Nat×Bool))(o:Oper):Option Res:=
 match o.op with
 |.pick c x y=>
  match ev cs c,c with
  |.k (.bool b),_=>match named (ev (zwm cs c b) (if b then x else y))with
   |some u=>some {val:=.v u,upd:=[],sides:=[]}
   |none=>none
  |.v (.bool b),.tmp t=>match plain (ev (cs++[(t,true)]) x),plain (ev (cs++[(t,false)]) y)with
   |some u,some v=>if flat (zc1 3 b u v)then some {val:=.v (zc1 3 b u v),upd:=[],sides:=[]}else none
   |_,_=>none
  |_,_=>none
 |.move x=>some {val:=ev cs x,upd:=[],sides:=[]}
 |.assign x=>some {val:=ev cs x,upd:=[],sides:=[]}
 |.alloc t=>match (P.info? t).bind (·.zero)with
  |some z=>if allB zel z.cells.toList then some {val:=.v (.pointer (some ⟨fresh,0,none⟩)),upd:=[(fresh,.cells t z.cells.toList)],sides:=[]}else none
  |none=>none
 |.box t x=>match named (ev cs x)with
  |some u=>if u.cells.toList.all zag then some {val:=.v (.pointer (some ⟨fresh,0,none⟩)),upd:=[(fresh,.cells t u.cells.toList)],sides:=[]}else none
  |none=>none
 |.load t x=>match zi5 (ev cs x)with
  |some p=>zom P hp fresh (X.dty t) t p
  |none=>none
 |.store t x y=>match zi5 (ev cs x),named (ev cs y)with
  |some p,some u=>zk2 P hp t u p
  |_,_=>none
 |.fieldAddr s x f=>match zi5 (ev cs x),zjg P s f with
  |some p,some fd=>match zbh P fd.type with
   |some (_+1)=>match p with
    |.own n off=>some {val:=.v (.pointer (some ⟨n,off+fd.offset,none⟩)),upd:=[],sides:=[]}
    |.ix n off i len size=>some {val:=.ix n (off+fd.offset) i len size,upd:=[],sides:=[]}
    |.ex n j off size i=>some {val:=.ex n j (off+fd.offset) size i,upd:=[],sides:=[]}
    |.hp n j off=>match zqo hp n j with
     |some _=>some {val:=.hp n j (off+fd.offset),upd:=[],sides:=[]}
     |none=>none
   |_=>none
  |_,_=>none
 |.indexAddr t x y=>match ev cs x,plain (ev cs y),zge (ev cs y)with
  |.v (.pointer (some a)),some (.int _ i),c=>match a.spot,zky P t with
   |none,some (len,e)=>match zbh P e with
    |some size=>match c with
     |true=>if 0<=i/\i<len then some {val:=.v (.pointer (some ⟨a.block,a.off+i.toNat*size,none⟩)),upd:=[],sides:=[]}else none
     |false=>some {val:=.ix a.block a.off i len size,upd:=[],sides:=[0<=i/\i<len]}
    |none=>none
   |_,_=>none
  |.v (.slice (some a) n _),some (.int _ i),_=>match a.spot,zaw P t,zl9 hp a.block a.off with
   |some _,some e,some (k,_)=>match zbh P e with
    |some size=>some {val:=.ex a.block a.off 0 size i,upd:=[],sides:=sdL X.cl (0<=i/\i<(k:Int))}
    |none=>none
   |_,_,_=>none
  |_,_,_=>none
 |.build t parts=>match zdx (ev cs) (parts.toList.map (·.2)),P.underlying t,(P.info? t).bind (·.zero)with
  |some vs,some (.struct fields),some z=>match fields.toList.mapM (λf=>(zbh P f.type).map λs=>(f.offset,s))with
   |some places=>if allB zel z.cells.toList&&vs.all (λv=>v.cells.toList.all zag)then
     match Instr.fill (places[·]?) z.cells ((parts.toList.map (·.1)).zip vs)with
     |some cells=>some {val:=.v (.agg cells),upd:=[],sides:=[]}
     |none=>none
    else none
   |none=>none
  |_,some (.array _ _),_=>zce P (ev cs) o
  |_,_,_=>none
 |.extract x i=>match ev cs x with
  |.v (.tuple vs)=>match vs.toList[i]? with
   |some (.tuple _)=>none
   |some u=>some {val:=.v u,upd:=[],sides:=[]}
   |none=>none
  |_=>zce P (ev cs) o
 |.field t x f=>match ev cs x,zjg P t f with
  |.v (.agg vs),some fd=>match zgv P fd.type vs.toList fd.offset with
   |some u=>if zei P fd.type=some true\/zag u=true then some {val:=.v u,upd:=[],sides:=[]}else none
   |none=>none
  |_,_=>none
 |.makeFunc (.func K) first caps=>match first.toList,zdx (ev cs) caps.toList with
  |[],some vs=>if vs.all zag&&vs.all (λv=>match v with|.func _ _ _=>false|_=>true)then some {val:=.v (.func (.func K) #[] vs.toArray),upd:=[],sides:=[]}else none
  |_,_=>none
 |.buildSlice t len parts=>match zaw P t,zdx (ev cs) (parts.toList.map (·.2))with
  |some e,some vs=>match zbh P e,(P.info? e).bind (·.zero)with
   |some size,some z=>
    if len*size>2 ^ 24 then none else if size=0 then none else
    if vs.all (λv=>v.cells.toList.all zag)&&allB zel ((Array.range (len*size)).map (z.cells[· % z.cells.size]!)).toList then
     match Instr.fill (λi=>some (i*size,size)) ((Array.range (len*size)).map (z.cells[· % z.cells.size]!)) ((parts.toList.map (·.1)).zip vs)with
     |some cells=>match mapO (zpp (zi6 hp)) cells.toList,frz hp (zdt refs vs)with
      |some ds,some l=>some {val:=.v (.slice (some ⟨fresh,0,some 0⟩) len 0),upd:=l++[(fresh,.own e len (zpr 0 (zly size len ds)))],sides:=[]}
      |_,_=>none
     |none=>none
    else none
   |_,_=>none
  |_,_=>none
 |.makeSlice t x y=>match zaw P t,plain (ev cs x),plain (ev cs y)with
  |some e,some (.int _ i),some (.int _ j)=>match zbh P e,zjy P e,z60 P e with
   |some (size+1),some b,some ds=>if ds.length=size+1 then some {val:=.v (.slice (some ⟨fresh,0,some 0⟩) i.toNat 0),upd:=[(fresh,.own e i.toNat λ_=>ds)],sides:=[0<=i/\i<=j/\j<=9223372036854775807/\(b:Int)*j<=281474976710656]}else none
   |_,_,_=>none
  |_,_,_=>none
 |.call {callee:=.builtin .len,args,argTypes}=>match args.toList,argTypes.toList with
  |[x],[t]=>match ev cs x,zaw P t with
   |.v (.slice (some a) n c),some _=>match zy4 hp (.slice (some a) n c)with
    |some (k,_)=>some {val:=.v (.int .i64 (k:Int)),upd:=[],sides:=[]}
    |none=>none
   |.v (.slice none 0 0),some _=>some {val:=.k (.int .i64 0),upd:=[],sides:=[]}
   |.k (.slice none 0 0),some _=>some {val:=.k (.int .i64 0),upd:=[],sides:=[]}
   |_,_=>zce P (ev cs) o
  |_,_=>none
 |.call {callee:=.builtin .append,args,argTypes}=>match args.toList,argTypes.toList with
  |[x,y],[t,t']=>match named (ev cs x),named (ev cs y),zaw P t with
   |some u,some v,some e=>if t=t' then
     match yo5 hp e u,zy4 (zi6 hp) v,zbh P e,zjy P e,(P.info? e).bind (·.zero)with
     |some ((n,f),l),some (m,g),some (size+1),some b,some z=>
      if z.cells.size=size+1/\((g 0).length=size+1\/m=0)then
       match frz (λk=>bif l.any (λq=>Nat.beq q.1 k)then none else hp k) (refs v)with
       |some l'=>some {val:=.v (.slice (some ⟨fresh,0,some 0⟩) (n+m) 0),upd:=l'++l++[(fresh,.own e (n+m) (appF n f g))],sides:=sdL X.cl (((n+m:Nat):Int)*b<=140737488355328/\((n+m:Nat):Int)<=9223372036854775807)}
       |none=>none
      else none
     |_,_,_,_,_=>none
    else none
   |_,_,_=>none
  |_,_=>none
 |.call {callee:=.value (.func K),args,argTypes:=_}=>
  match (match zdz (ev cs) args.toList with
   |some vs=>X.tb K vs
   |none=>none)with
  |some (u,ps)=>if flat u then some {val:=.v u,upd:=[],sides:=ps}else none
  |none=>match zdx (ev cs) args.toList with
   |some vs=>zv7 X hp fresh K vs
   |none=>none
 |.call {callee:=.value (.tmp t),args,argTypes:=_}=>
  match ev cs (.tmp t),zdx (ev cs) args.toList with
  |.v (.func (.func K) fst caps),some vs=>match fst.toList,(match X.dres K with|true=>X.dtmp|false=>true)with
   |[],true=>if caps.toList.all zag&&caps.toList.all (λv=>match v with|.func _ _ _=>false|_=>true)then zv7 X hp fresh K (vs++caps.toList)else none
   |_,_=>none
  |.k (.func (.func K) fst caps),some vs=>match fst.toList,caps.toList,X.dres K with
   |[],[],false=>match (match zdz (ev cs) args.toList with
     |some ws=>X.tb K ws
     |none=>none)with
    |some (u,ps)=>if flat u then some {val:=.v u,upd:=[],sides:=ps}else none
    |none=>zv6 X hp fresh K vs
   |_,_,_=>none
  |_,_=>none
 |.binOp op t x y _=>
  match op,plain (ev cs x),plain (ev cs y),zge (ev cs y)with
  |.quo,some (.int k i),some (.int k' j),false=>if k=k' then some {val:=.v (.int k (k.wrap (i.tdiv j))),upd:=[],sides:=[j≠0]}else none
  |.rem,some (.int k i),some (.int k' j),false=>if k=k' then some {val:=.v (.int k (i.tmod j)),upd:=[],sides:=[j≠0]}else none
  |.shl,some (.int k i),some (.int _ j),false=>some {val:=.v (.int k (k.wrap (i*2 ^ min j.toNat k.bits))),upd:=[],sides:=[0<=j]}
  |.eql,some (.agg u),some (.agg v),_=>match eqOf P t (.agg u) (.agg v)with
   |some b=>some {val:=.v (.bool b),upd:=[],sides:=[]}
   |none=>none
  |.neq,some (.agg u),some (.agg v),_=>match eqOf P t (.agg u) (.agg v)with
   |some b=>some {val:=.v (.bool (!b)),upd:=[],sides:=[]}
   |none=>none
  |_,_,_,_=>zce P (ev cs) o
 |.nilCheck x=>match ym4 (ev cs x)with
  |true=>some {val:=ev cs x,upd:=[],sides:=[]}
  |false=>zce P (ev cs) o
 |_=>zce P (ev cs) o
def yba(P:Program)(t:TypeId):Bool:=
 match P.underlying t with
 |some (.map k _)=>match P.underlying k with
  |some (.struct fs)=>match fs.toList with
   |[f1,f2]=>match P.underlying f1.type,P.underlying f2.type with
    |some (.pointer e),some (.int _)=>match zbh P e with
     |some _=>f1.name != "_"&&f2.name != "_"&&Nat.beq f1.offset 0&&Nat.beq f2.offset 1 && !P.stoodInHeld k&&(match zei P f1.type,zei P f2.type with|some false,some false=>true|_,_=>false)
     |none=>false
    |_,_=>false
   |_=>false
  |_=>false
 |_=>false
def ykk:Value->Option (Nat×Int)
 |.agg cs=>match cs.toList with
  |[.chan (some q),.int .i64 i]=>some (q,i)
  |_=>none
 |_=>none
def ykg(v0:Value)(i0:Int)(q:Nat)(i:Int):Bool:=
 match v0 with
 |.bool false=>true
 |.chan (some q')=>Nat.beq q' q&&decide (i0=i)
 |_=>false
def zt1(P:Program)(ev:Operand->SV)(hp:Nat->Option HE)(t:TypeId)(m k:Operand):Option Res:=
 match ev m,ev k with
 |.v (.map (some n)),.v kv=>match hp n,ykk kv with
  |some (.mp v0 i0),some (q,i)=>match zl9 hp q 0 with
   |some _=>if yba P t&&ykg v0 i0 q i then some {val:=.k undef,upd:=[(n,.mp (.chan (some q)) i)],sides:=[]}else none
   |none=>none
  |_,_=>none
 |_,_=>none
def z5i(P:Program)(X:Tabs)(ev:Operand->SV)(hp:Nat->Option HE)(fresh:Nat)(o:Oper):Option Res:=
 match o.op with
 |.buildSlice t len parts=>match zaw P t,zdx ev (parts.toList.map (·.2))with
  |some e,some vs=>match zbh P e,(P.info? e).bind (·.zero)with
   |some size,some z=>
    if len*size>2 ^ 24 then none else if len*size=0 then none else
    if vs.all (λv=>v.cells.toList.all zag)&&allB zel ((Array.range (len*size)).map (z.cells[· % z.cells.size]!)).toList then
     match Instr.fill (λi=>some (i*size,size)) ((Array.range (len*size)).map (z.cells[· % z.cells.size]!)) ((parts.toList.map (·.1)).zip vs)with
     |some cells=>some {val:=.v (.slice (some ⟨fresh,0,none⟩) len len),upd:=[(fresh,.cells e cells.toList)],sides:=[]}
     |none=>none
    else none
   |_,_=>none
  |_,_=>none
 |.indexAddr t x y=>match ev x,plain (ev y)with
  |.v (.slice (some a) n _),some (.int _ i)=>match a.spot,zaw P t with
   |none,some e=>match zbh P e with
    |some size=>if 0<=i/\i<n then some {val:=.v (.pointer (some ⟨a.block,a.off+i.toNat*size,none⟩)),upd:=[],sides:=[]}else none
    |none=>none
   |_,_=>none
  |_,_=>none
 |.slice t x none (some y) none=>match ev x,plain (ev y)with
  |.v (.slice (some a) _ c),some (.int _ i)=>match a.spot,zaw P t with
   |none,some e=>match zbh P e with
    |some _=>if 0<=i/\i<=c then some {val:=.v (.slice (some ⟨a.block,a.off,none⟩) i.toNat c),upd:=[],sides:=[]}else none
    |none=>none
   |_,_=>none
  |_,_=>none
 |.call {callee:=.builtin .len,args,argTypes}=>match args.toList,argTypes.toList with
  |[x],[t]=>match ev x,zaw P t with
   |.v (.slice (some a) n _),some _=>match a.spot with
    |none=>some {val:=.k (.int .i64 (n:Int)),upd:=[],sides:=[]}
    |some _=>none
   |_,_=>none
  |_,_=>none
 |.call {callee:=.value (.func K),args,argTypes:=_}=>match X.pl K with
  |true=>match args.toList with
   |[x]=>match ev x with
    |.v (.slice (some a) _ _)=>match a.spot,a.off,zl9 hp a.block 0 with
     |some _,0,some (k,_)=>some {val:=.v (.agg #[.chan (some a.block),.int .i64 (k:Int)]),upd:=[],sides:=[0<k]}
     |_,_,_=>none
    |_=>none
   |_=>none
  |false=>none
 |.makeMap _ none=>some {val:=.v (.map (some fresh)),upd:=[(fresh,.mp (.bool false) 0)],sides:=[]}
 |.mapUpdate t m k _=>zt1 P ev hp t m k
 |.insert t m k _=>zt1 P ev hp t m k
 |_=>none
def kRes(r:Res):Res:=
 match r.val with
 |.v u=>match flat u with
  |true=>{val:=.k u,upd:=r.upd,sides:=r.sides}
  |false=>r
 |_=>r
def opMk(X:Tabs)(ev:Operand->SV)(fresh:Nat)(o:Oper):Option Res:=
 match o.op with
 |.call {callee:=.value (.func K),args,argTypes:=_}=>match X.nw K,X.dres K,args.toList with
  |some f,true,[x]=>match plain (ev x)with
   |some u=>match f u with
    |some (t,cs)=>if allB zel cs then some {val:=.v (.pointer (some ⟨fresh,0,none⟩)),upd:=[(fresh,.cells t cs)],sides:=[]}else none
    |none=>none
   |none=>none
  |_,_,_=>none
 |_=>none
def zyl(hp:Nat->Option HE)(n:Nat):List Nat->Bool
 |[]=>true
 |q::l=>match Nat.beq q n,hp q with
  |true,_=>zyl hp n l
  |false,some (.deep _)=>zyl hp n l
  |false,_=>false
def opGv(X:Tabs)(ev:Operand->SV)(hp:Nat->Option HE)(fresh:Nat)(o:Oper):Option Res:=
 match o.op with
 |.call {callee:=.value (.func K),args,argTypes:=_}=>match X.gv K,X.dres K,zdx ev args.toList with
  |some f,true,some vs=>match zoq hp [] vs with
   |some ([n],az)=>match hp n with
    |some (.cells t cs)=>match f az t cs with
     |some (r,ps)=>if allB zel cs&&pOk (zdh r) && !(zee (zdh r))&&zyl hp n (zdt refs vs)then some {val:=.v (zpt fresh r),upd:=[(n,.gone),(fresh,.deep (zdh r))],sides:=ps}else none
     |none=>none
    |_=>none
   |_=>none
  |_,_,_=>none
 |_=>none
def opOw(X:Tabs)(ev:Operand->SV)(hp:Nat->Option HE)(fresh:Nat)(o:Oper):Option Res:=
 match o.op with
 |.call {callee:=.value (.func K),args,argTypes:=_}=>match X.ow K,X.dres K,zdx ev args.toList with
  |some f,true,some vs=>match zzo (zi6 hp) vs,frz hp (zdt refs vs)with
   |some ds,some l=>match f ds with
    |some ((t,n,g),ps)=>some {val:=.v (.slice (some ⟨fresh,0,some 0⟩) n 0),upd:=l++[(fresh,.own t n g)],sides:=ps}
    |none=>none
   |_,_=>none
  |_,_,_=>none
 |_=>none
def rdH:Option HE->Option (Bool×List DC)
 |some (.deep ds)=>some (false,ds)
 |some (.raw ds)=>some (true,ds)
 |_=>none
def opSl(P:Program)(X:Tabs)(ev:Operand->SV)(hp:Nat->Option HE)(fresh:Nat)(o:Oper):Option Res:=
 match o.op with
 |.slice t x none (some y) none=>match X.sl,ev x,plain (ev y),(zaw P t).bind (zbh P)with
  |true,.v (.slice (some ad) _ _),some (.int _ i),some _=>match ad.spot,rdH (hp ad.block)with
   |some _,some (raw,ds)=>match ds[ad.off]? with
    |some (.row k f)=>some {val:=.v (.slice (some ⟨fresh,0,some 0⟩) i.toNat 0),upd:=updK raw fresh [.row i.toNat f],sides:=[0<=i/\i<=k]}
    |_=>none
   |_,_=>none
  |_,_,_,_=>none
 |.binOp op t x y _=>match op,ym4 (ev x),ev y,P.underlying t with
  |.eql,true,.k (.pointer none),some (.pointer _)=>some {val:=.k (.bool false),upd:=[],sides:=[]}
  |.neq,true,.k (.pointer none),some (.pointer _)=>some {val:=.k (.bool true),upd:=[],sides:=[]}
  |_,_,_,_=>none
 |_=>none
def zpf:Value->Bool
 |.tuple _=>false
 |_=>true
def zje(P:Program)(t:TypeId):Option TypeId:=
 match P.underlying t with
 |some (.map k e)=>match P.underlying k with
  |some (.int .i64)=>some e
  |_=>none
 |_=>none
def zvt(i:Int):List (Int×DV)->Option DV
 |[]=>none
 |x::l=>match decide (i=x.1)with
  |true=>some x.2
  |false=>zvt i l
def zne(f:Nat->List DC):Nat->Nat->Option (List Int)
 |_,0=>some []
 |i,n+1=>match f i with
  |[.p (.int .u8 c)]=>match zne f (i+1) n with
   |some l=>some (c::l)
   |none=>none
  |_=>none
def yl9(ns:List Int):ByteArray:=ns.foldl (λr n=>r.push (UInt8.ofNat n.toNat)) ByteArray.empty
def z39:List DC->Int
 |[.p (.int .u8 c)]=>c
 |_=>0
def yj2(k:Nat)(f:Nat->List DC):ByteArray:=yl9 ((List.range k).map λi=>z39 (f i))
def zsx(s:SV):Option Int:=
 match plain s with
 |some (.int _ i)=>some i
 |_=>none
def zj4(ev:Operand->SV)(k:Nat)(lo hi mx:Option Operand):Option (Int×Int×Int):=
 match (match lo with|none=>some 0|some x=>zsx (ev x)),(match hi with|none=>some (k:Int)|some x=>zsx (ev x)),(match mx,hi with|none,_=>some (k:Int)|some x,some _=>zsx (ev x)|some _,none=>none)with
 |some l,some h,some m=>some (l,h,m)
 |_,_,_=>none
def zhb(s:ByteArray)(i:Int):Int:=
 match s[i.toNat]? with
 |some b=>(b.toNat:Int)
 |none=>0
def opCl(P:Program)(X:Tabs)(ev:Operand->SV)(hp:Nat->Option HE)(fresh:Nat)(o:Oper):Option Res:=
 match X.mor with
 |false=>none
 |true=>match o.op with
  |.makeMap t none=>match zje P t with
   |some _=>some {val:=.v (.map (some fresh)),upd:=[(fresh,.im [])],sides:=[]}
   |none=>none
  |.lookup t m k ok=>match ev m,plain (ev k),zje P t with
   |.v (.map (some n)),some (.int .i64 i),some e=>match hp n with
    |some (.im l)=>match zvt i l with
     |some v=>match pOk (zbq v)with
      |true=>some {val:=.v (match ok with|true=>.tuple #[zc3 fresh 0 v,.bool true]|false=>zc3 fresh 0 v),upd:=updD fresh (zbq v),sides:=[]}
      |false=>none
     |none=>match (P.info? e).bind (·.zero)with
      |some z=>match zvs z&&zpf z with
       |true=>some {val:=.v (match ok with|true=>.tuple #[z,.bool false]|false=>z),upd:=[],sides:=[]}
       |false=>none
      |none=>none
    |_=>none
   |_,_,_=>none
  |.mapUpdate t m k x=>match ev m,plain (ev k),named (ev x),zje P t with
   |.v (.map (some n)),some (.int .i64 i),some u,some _=>match hp n with
    |some (.im l)=>match zvt i l,toDV (zi6 hp) u,frz hp (refs u)with
     |none,some v,some fz=>some {val:=.k undef,upd:=fz++[(n,.im (l++[(i,v)]))],sides:=[]}
     |_,_,_=>none
    |_=>none
   |_,_,_,_=>none
  |.convert s d x=>match ev x,zaw P s,P.underlying d with
   |.v (.slice (some ad) _ _),some e,some .string=>match ad.spot,zl9 (zi6 hp) ad.block ad.off,P.underlying e with
    |some _,some (k,f),some (.int .u8)=>match X.cl with
     |true=>match zne f 0 k with
      |some l=>some {val:=.k (.string (yl9 l)),upd:=[],sides:=[]}
      |none=>none
     |false=>some {val:=.v (.string (yj2 k f)),upd:=[],sides:=[∀i,i<k->f i=[.p (.int .u8 (z39 (f i)))]]}
    |_,_,_=>none
   |_,_,_=>none
  |.index t x y=>match plain (ev x),plain (ev y),P.underlying t with
   |some (.string s),some (.int _ i),some .string=>some {val:=.v (.int .u8 (zhb s i)),upd:=[],sides:=sdL X.cl (0<=i/\i<(s.size:Int))}
   |_,_,_=>none
  |.slice t x lo hi mx=>match P.underlying t with
   |some .string=>match plain (ev x),mx with
    |some (.string s),none=>match zj4 ev s.size lo hi none with
     |some (l,h,_)=>some {val:=.v (.string (s.extract l.toNat h.toNat)),upd:=[],sides:=sdL X.cl (0<=l/\l<=h/\h<=(s.size:Int))}
     |none=>none
    |_,_=>none
   |_=>match ev x,zaw P t with
   |.v (.slice (some ad) _ _),some e=>match ad.spot,zbh P e with
    |some _,some size=>match hp ad.block with
     |some (.own t' k f)=>match ad.off,zj4 ev k lo hi mx,mx,lo with
      |0,some (l,h,m),none,none=>some {val:=.v (.slice (some ⟨fresh,0,some 0⟩) h.toNat 0),upd:=[(ad.block,.gone),(fresh,.own t' h.toNat f)],sides:=sdL X.cl (0<=l/\l<=h/\h<=m/\m<=(k:Int))}
      |0,some (l,h,m),none,some _=>match decide (h=l)with
       |true=>some {val:=.v (.slice (some ⟨fresh,0,some 0⟩) 0 0),upd:=[(fresh,.deep [.row 0 λ_=>[]])],sides:=sdL X.cl (0<=l/\l<=h/\h<=m/\m<=(k:Int))}
       |false=>none
      |_,_,_,_=>none
     |some (.deep ds)=>match ds[ad.off]? with
      |some (.row k f)=>match zj4 ev k lo hi mx with
       |some (l,h,m)=>match decide ((f 0).length=size\/k=0)with
        |true=>some {val:=.v (.slice (some ⟨fresh,0,some 0⟩) (h.toNat-l.toNat) 0),upd:=[(fresh,.deep [.row (h.toNat-l.toNat) (λi=>f (i+l.toNat))])],sides:=sdL X.cl (0<=l/\l<=h/\h<=m/\m<=(k:Int))}
        |false=>none
       |none=>none
      |_=>none
     |_=>none
    |_,_=>none
   |_,_=>none
  |.makeSlice t x y=>match zaw P t,plain (ev x),plain (ev y),X.cl with
   |some e,some (.int _ i),some (.int _ j),true=>match zbh P e,zjy P e,(P.info? e).bind (·.zero)with
    |some (size+1),some b,some z=>match decide (z.cells.size=size+1/\0<=i/\i<=j/\j<=9223372036854775807/\(b:Int)*j<=281474976710656),allB zel z.cells.toList&&z.cells.toList.all zag with
     |true,true=>some {val:=.v (.slice (some ⟨fresh,0,some 0⟩) i.toNat 0),upd:=[(fresh,.own e i.toNat λ_=>z.cells.toList.map .p)],sides:=[]}
     |_,_=>none
    |_,_,_=>none
   |_,_,_,_=>none
  |_=>none
def opCs(P:Program)(X:Tabs)(ev:Operand->SV)(fresh:Nat)(o:Oper):Option Res:=
 match X.cl with
 |false=>none
 |true=>match o.op with
  |.makeSlice t x y=>match zaw P t,plain (ev x),plain (ev y)with
   |some e,some (.int _ i),some (.int _ j)=>match zbh P e,zjy P e,(P.info? e).bind (·.zero)with
    |some (size+2),some b,some z=>match decide (z.cells.size=size+2/\i=1/\j=1/\(b:Int)*j<=281474976710656),allB zel z.cells.toList with
     |true,true=>some {val:=.v (.slice (some ⟨fresh,0,none⟩) 1 1),upd:=[(fresh,.cells e z.cells.toList)],sides:=[]}
     |_,_=>none
    |_,_,_=>none
   |_,_,_=>none
  |.indexAddr t x y=>match ev x,plain (ev y),zaw P t with
   |.v (.slice (some ad) n _),some (.int _ i),some e=>match ad.spot,zbh P e,decide (0<=i/\i<n)with
    |none,some size,true=>some {val:=.v (.pointer (some ⟨ad.block,ad.off+i.toNat*size,none⟩)),upd:=[],sides:=[]}
    |_,_,_=>none
   |_,_,_=>none
  |.slice t x lo hi none=>match ev x,zaw P t with
   |.v (.slice (some ad) n c),some e=>match ad.spot,zbh P e,zj4 ev n lo hi none with
    |none,some _,some (l,h,_)=>match decide (l=h/\0<=l/\l=(n:Int)/\l=(c:Int))with
     |true=>some {val:=.v (.slice (some ad) 0 0),upd:=[],sides:=[]}
     |false=>none
    |_,_,_=>none
   |_,_=>none
  |.call {callee:=.builtin .len,args,argTypes}=>match args.toList,argTypes.toList with
   |[x],[t]=>match ev x,zaw P t with
    |.v (.slice (some ad) n _),some _=>match ad.spot with
     |none=>some {val:=.v (.int .i64 (n:Int)),upd:=[],sides:=[]}
     |some _=>none
    |_,_=>none
   |_,_=>none
  |_=>none
def z54(b:Bool):Option Res->Option Res
 |some r=>match b with
  |true=>some (kRes r)
  |false=>some r
 |none=>none
def zme(P:Program)(X:Tabs)(ev:List (Nat×Bool)->Operand->SV)(hp:Nat->Option HE)(fresh:Nat)(cs:List (Nat×Bool))(o:Oper):Option Res:=
 match opMk X (ev cs) fresh o with
 |some r=>some r
 |none=>
 match opSl P X (ev cs) hp fresh o with
 |some r=>some r
 |none=>
 match opOw X (ev cs) hp fresh o with
 |some r=>some r
 |none=>
 match opGv X (ev cs) hp fresh o with
 |some r=>some r
 |none=>
 match opCs P X (ev cs) fresh o with
 |some r=>z54 X.cl (some r)
 |none=>
 match opCl P X (ev cs) hp fresh o with
 |some r=>z54 X.cl (some r)
 |none=>
 match X.ext with
 |false=>z54 X.cl (zrh P X ev hp fresh cs o)
 |true=>match z5i P X (ev cs) hp fresh o with
  |some r=>some r
  |none=>match zrh P X ev hp fresh cs o with
   |some r=>some (kRes r)
   |none=>none
abbrev Tch:=List Nat×List Nat
def zfy(ev:Operand->SV):List Operand->List Nat
 |[]=>[]
 |x::l=>names (ev x)++zfy ev l
def zc9(X:Tabs)(ev:Operand->SV)(fresh:Nat)(o:Oper):Tch:=
 match o.op with
 |.load t x=>(names (ev x),if X.dty t then[fresh]else[])
 |.store _ x y=>match zi5 (ev x)with
  |some (.own n _)=>([],[n])
  |_=>([],names (ev x)++names (ev y))
 |.alloc _=>([],[fresh])
 |.box _ _=>([],[fresh])
 |.makeSlice _ _ _=>([],[fresh])
 |.buildSlice _ _ ps=>([],zfy ev (ps.toList.map (·.2))++[fresh])
 |.indexAddr _ x _=>(names (ev x),[])
 |.fieldAddr _ x _=>match zi5 (ev x)with
  |some (.hp n _ _)=>([n],[])
  |_=>([],[])
 |.makeMap _ _=>([],[fresh])
 |.slice _ x _ _ _=>if X.sl then(names (ev x),[fresh])else if X.mor then([],names (ev x)++[fresh])else([],[])
 |.lookup _ m _ _=>if X.mor then(names (ev m),[fresh])else([],[])
 |.convert _ _ x=>if X.mor then(names (ev x),[])else([],[])
 |.mapUpdate _ m k x=>if X.mor then([],names (ev m)++names (ev x))else(names (ev k),names (ev m))
 |.insert _ m k _=>(names (ev k),names (ev m))
 |.call {callee:=.builtin .append,args,argTypes:=_}=>([],zfy ev args.toList++[fresh])
 |.call {callee:=.builtin _,args,argTypes:=_}=>(zfy ev args.toList,[])
 |.call {callee:=.value (.func K),args,argTypes:=_}=>if X.dres K then([],zfy ev args.toList++[fresh])else(zfy ev args.toList,[])
 |.call {callee:=.value (.tmp t),args,argTypes:=_}=>if X.dtmp then([],names (ev (.tmp t))++zfy ev args.toList++[fresh])else(names (ev (.tmp t))++zfy ev args.toList,[])
 |_=>([],[])
def softB(hp:Nat->Option HE)(n:Nat):Bool:=
 match hp n with
 |some (.deep _)=>true
 |some (.raw _)=>true
 |_=>false
def ymd(hp:Nat->Option HE):List Nat->List Nat
 |[]=>[]
 |n::l=>match softB hp n with
  |true=>n::ymd hp l
  |false=>ymd hp l
def ymc(hp:Nat->Option HE):List Nat->List Nat
 |[]=>[]
 |n::l=>match softB hp n with
  |true=>ymc hp l
  |false=>n::ymc hp l
def z4x(hp:Nat->Option HE)(t:Tch):Tch:=(t.1++ymd hp t.2,ymc hp t.2)
section
variable{P:Program}{w0:Base P}{w:World}{β:Env}{h:List (Option HE)}
theorem zd6(fresh:Nat):∀(ds:List DC) (j:Nat),(zb1 fresh j ds).length=ds.length
 |[],_=>rfl
 |.p _::l,j=>by simp only[zb1,List.length_cons];rw[zd6 fresh l]
 |.row _ _::l,j=>by simp only[zb1,List.length_cons];rw[zd6 fresh l]
 |.ptr _::l,j=>by simp only[zb1,List.length_cons];rw[zd6 fresh l]
theorem zvk{N:Nat->Prop}{fresh:Nat}{β:Env}:∀(ds:List DC) (us:List Value) (j:Nat),DenL w N ds us->pOk ds=true->(∀i u,us[i]? = some u->(β fresh).2 (j+i)=u)->(zb1 fresh j ds).map (ren0 β)=us
 |[],[],_,_,_,_=>rfl
 |[],_::_,_,k,_,_=>k.elim
 |_::_,[],_,k,_,_=>k.elim
 |d::ds,u::us,j,k,hp,hr=>by
  have h0:(β fresh).2 j=u:=hr 0 u rfl
  have ih:=λhp=>zvk (β:=β) (fresh:=fresh) ds us (j+1) k.2 hp λi v hv=>by have:=hr (i+1) v (by simpa using hv);rwa [show j+1+i=j+(i+1)by omega]
  cases d with
  |p x=>
   simp only[pOk]at hp
   split at hp
   ·rename_i hf
    simp only[zb1,List.map_cons]
    rw[ih hp,zbn hf]
    cases k.1;rfl
   ·cases hp
  |row n f=>
   simp only[zb1,List.map_cons]
   rw[ih hp]
   show(β fresh).2 j::us=_
   rw[h0]
  |ptr cs=>
   simp only[zb1,List.map_cons]
   rw[ih hp]
   show(β fresh).2 j::us=_
   rw[h0]
theorem zd4{fresh:Nat}:∀(ds:List DC) (j:Nat),pOk ds=true->∀y∈zb1 fresh j ds,∀k∈zaz y,k=fresh/\zee ds=false
 |[],_,_,y,hy,_,_=>by cases hy
 |d::ds,j,hp,y,hy,k,hk=>by
  have ih:=λhp=>zd4 (fresh:=fresh) ds (j+1) hp y
  cases d with
  |p x=>
   simp only[pOk]at hp
   split at hp
   ·rename_i hf
    simp only[zb1,List.mem_cons]at hy
    rcases hy with rfl|hy
    ·rw[zb8 hf]at hk;cases hk
    ·exact ih hp hy k hk
   ·cases hp
  |row n f=>
   simp only[zb1,List.mem_cons]at hy
   rcases hy with rfl|hy
   ·simp only[zaz,zbc,List.mem_singleton]at hk;exact⟨hk,rfl⟩
   ·exact⟨(ih hp hy k hk).1,rfl⟩
  |ptr cs=>
   simp only[zb1,List.mem_cons]at hy
   rcases hy with rfl|hy
   ·simp only[zaz,zbc,List.mem_singleton]at hk;exact⟨hk,rfl⟩
   ·exact⟨(ih hp hy k hk).1,rfl⟩
theorem zd5{N:Nat->Prop}{fresh:Nat}{β:Env}:∀(ds:List DC) (us:List Value) (j:Nat),DenL w N ds us->pOk ds=true->zee ds=true->(zb1 fresh j ds).map (ren0 β)=us
 |[],[],_,_,_,_=>rfl
 |[],_::_,_,k,_,_=>k.elim
 |_::_,[],_,k,_,_=>k.elim
 |d::ds,u::us,j,k,hp,hf=>by
  cases d with
  |p x=>
   simp only[pOk]at hp
   split at hp
   ·rename_i hx
    simp only[zb1,List.map_cons]
    rw[zd5 ds us (j+1) k.2 hp hf,zbn hx]
    cases k.1;rfl
   ·cases hp
  |row n f=>cases hf
  |ptr cs=>cases hf
theorem za3:∀(a b:List (Nat×HE)) (h:List (Option HE)),zac h (a++b)=zac (zac h a) b
 |[],_,_=>rfl
 |_::a,b,_=>za3 a b _
theorem zba:∀(a:List (Nat×HE)) (h:List (Option HE)),(zac h a).length=h.length
 |[],_=>rfl
 |(n,c)::a,h=>by simp only[zac];rw[zba a];simp
theorem ze4:∀(a:List (Nat×HE)) (h:List (Option HE)) {n:Nat} {c:HE},h.getD n none=some c->∃d,(zac h a).getD n none=some d
 |[],_,_,c,hn=>⟨c,hn⟩
 |(k,e)::a,h,n,c,hn=>by
  simp only[zac]
  by_cases hk:k=n/\k<h.length
  ·exact ze4 a _ (c:=e) (by rw[zah,if_pos hk])
  ·exact ze4 a _ (c:=c) (by rw[zah,if_neg hk];exact hn)
theorem zpk:∀(a:List (Nat×HE)) (h:List (Option HE)) {n:Nat},h.getD n none=none->(∀c,(n,c)∉a)->(zac h a).getD n none=none
 |[],_,_,hn,_=>hn
 |(k,e)::a,h,n,hn,hq=>by
  simp only[zac]
  refine zpk a _ ?_ λc hc=>hq c (by simp[hc])
  rw[zah,if_neg λz=>hq e (by simp[z.1])];exact hn
theorem zlf(m:Mem w0 β h w){fresh:Nat}{ds:List DC}{us:List Value}(hfr:zee ds=false->fresh<h.length/\h.getD fresh none=none)(hd:DenL w (NF w0 β h w) ds us)(hp:pOk ds=true) :
  ∃β',(∀n c,h.getD n none=some c->β' n=β n)/\Mem w0 β' (zac h (updD fresh ds)) w/\(∀j,(j=0)->(zb1 fresh j ds).map (ren0 β')=us)/\(∀y∈zb1 fresh 0 ds,∀k∈zaz y,∃c,(zac h (updD fresh ds)).getD k none=some c)/\(zee ds=false->∀i u,us[i]? = some u->(β' fresh).2 i=u):=by
 cases hf:zee ds with
 |true=>
  simp only[updD,hf]
  exact⟨β,λ_ _ _=>rfl,m,λj _=>zd5 ds us j hd hp hf,λy hy k hk=>(by have:=(zd4 ds 0 hp y hy k hk).2;rw[hf]at this;cases this),λz=>by cases z⟩
 |false=>
  obtain⟨hl,hn⟩:=hfr hf
  simp only[updD,hf]
  have hat:∀i u,us[i]? = some u->(bump β fresh (0,λj=>us.getD j (.bool false)) fresh).2 i=u:=λi u hu=>by
   rw[zcs];show us.getD i _=u;rw[List.getD_eq_getElem?_getD,hu];rfl
  refine⟨bump β fresh (0,λj=>us.getD j (.bool false)),λn c hc=>zcf λe=>?_,?_,?_,λy hy k hk=>?_,λ_=>hat⟩
  ·rw[e,hn]at hc;cases hc
  ·refine m.view hl hn ds _ (λj=>?_) (λj d hj=>?_)
   ·rw[List.getD_eq_getElem?_getD]
    cases hu:us[j]? with
    |none=>rfl
    |some u=>
     have hlt:j<ds.length:=by rw[←hd.length];exact(List.getElem?_eq_some_iff.1 hu).1
     obtain⟨u',h1,h2⟩:=hd.at_ j _ (List.getElem?_eq_getElem hlt)
     rw[hu]at h1;simp only[Option.some.injEq]at h1;subst h1
     exact h2.one
   ·obtain⟨u,h1,h2⟩:=hd.at_ j d hj
    rw[List.getD_eq_getElem?_getD,h1];exact h2
  ·intro j hj
   subst hj
   exact zvk ds us 0 hd hp λi u hu=>by rw[Nat.zero_add];exact hat i u hu
  ·obtain⟨rfl,_⟩:=zd4 ds 0 hp y hy k hk
   exact⟨_,by simp only[zac];rw[zah,if_pos ⟨rfl,hl⟩]⟩
theorem zx9(m:Mem w0 β h w){fresh:Nat}{ds:List DC}{us:List Value}(hfr:zee ds=false->fresh<h.length/\h.getD fresh none=none)(hd:DenL w (w0.R) ds us)(hp:pOk ds=true) :
  ∃β',(∀n c,h.getD n none=some c->β' n=β n)/\Mem w0 β' (zac h (updK true fresh ds)) w/\(∀j,(j=0)->(zb1 fresh j ds).map (ren0 β')=us)/\(∀y∈zb1 fresh 0 ds,∀k∈zaz y,∃c,(zac h (updK true fresh ds)).getD k none=some c)/\(zee ds=false->∀i u,us[i]? = some u->(β' fresh).2 i=u):=by
 cases hf:zee ds with
 |true=>
  simp only[updK,hf]
  exact⟨β,λ_ _ _=>rfl,m,λj _=>zd5 ds us j hd hp hf,λy hy k hk=>(by have:=(zd4 ds 0 hp y hy k hk).2;rw[hf]at this;cases this),λz=>by cases z⟩
 |false=>
  obtain⟨hl,hn⟩:=hfr hf
  simp only[updK,hf]
  have hat:∀i u,us[i]? = some u->(bump β fresh (0,λj=>us.getD j (.bool false)) fresh).2 i=u:=λi u hu=>by
   rw[zcs];show us.getD i _=u;rw[List.getD_eq_getElem?_getD,hu];rfl
  refine⟨bump β fresh (0,λj=>us.getD j (.bool false)),λn c hc=>zcf λe=>?_,?_,?_,λy hy k hk=>?_,λ_=>hat⟩
  ·rw[e,hn]at hc;cases hc
  ·refine m.viewR hl hn ds _ (λj=>?_) (λj d hj=>?_)
   ·rw[List.getD_eq_getElem?_getD]
    cases hu:us[j]? with
    |none=>rfl
    |some u=>
     have hlt:j<ds.length:=by rw[←hd.length];exact(List.getElem?_eq_some_iff.1 hu).1
     obtain⟨u',h1,h2⟩:=hd.at_ j _ (List.getElem?_eq_getElem hlt)
     rw[hu]at h1;simp only[Option.some.injEq]at h1;subst h1
     exact h2.one
   ·obtain⟨u,h1,h2⟩:=hd.at_ j d hj
    rw[List.getD_eq_getElem?_getD,h1];exact h2
  ·intro j hj
   subst hj
   exact zvk ds us 0 hd hp λi u hu=>by rw[Nat.zero_add];exact hat i u hu
  ·obtain⟨rfl,_⟩:=zd4 ds 0 hp y hy k hk
   exact⟨_,by simp only[zac];rw[zah,if_pos ⟨rfl,hl⟩]⟩
def rdN(w0:Base P)(β:Env)(h:List (Option HE))(w:World)(raw:Bool)(b:Nat):Prop:=
 match raw with
 |true=>w0.R b
 |false=>NF w0 β h w b
theorem zr0(m:Mem w0 β h w){raw:Bool}{fresh:Nat}{ds:List DC}{us:List Value}(hfr:zee ds=false->fresh<h.length/\h.getD fresh none=none)(hd:DenL w (rdN w0 β h w raw) ds us)(hp:pOk ds=true) :
  ∃β',(∀n c,h.getD n none=some c->β' n=β n)/\Mem w0 β' (zac h (updK raw fresh ds)) w/\(∀j,(j=0)->(zb1 fresh j ds).map (ren0 β')=us)/\(∀y∈zb1 fresh 0 ds,∀k∈zaz y,∃c,(zac h (updK raw fresh ds)).getD k none=some c)/\(zee ds=false->∀i u,us[i]? = some u->(β' fresh).2 i=u):=by
 cases raw with
 |true=>exact zx9 m hfr hd hp
 |false=>exact zlf m hfr hd hp
theorem zk8{hp:Nat->Option HE}{n:Nat}{c:HE}(h:zi6 hp n=some c):hp n=some c:=by
 unfold zi6 at h
 split at h
 ·cases h
 ·exact h
theorem zgy{hp:Nat->Option HE}{n:Nat}{ds:List DC}:zi6 hp n≠some (.raw ds):=λh=>by
 unfold zi6 at h
 split at h
 ·cases h
 ·rename_i k;exact k ds h
theorem zk3(m:Mem w0 β h w){hp:Nat->Option HE}(hhp:∀n c,hp n=some c->h.getD n none=some c){n j k:Nat}{f:Nat->List DC}(hr:zl9 hp n j=some (k,f)) :
  ((∃oa cap,(β n).2 j=.slice oa 0 cap)/\k=0)\/∃b o cap size,(β n).2 j=.slice (some ⟨b,o,none⟩) k cap/\∀i,i<k->(f i).length=size/\∃us,DenL w (rdN w0 β h w (zps hp n)) (f i) us/\∀q u,us[q]? = some u->w.cell? ⟨b,o+i*size+q,none⟩=some u:=by
 unfold zl9 at hr
 split at hr
 ·rename_i ds hn
  rw[show zps hp n=false by unfold zps;rw[hn]]
  have hk:=m.ok n _ (hhp n _ hn)
  split at hr
  ·rename_i k' f' hj
   simp only[Option.some.injEq,Prod.mk.injEq]at hr
   obtain⟨rfl,rfl⟩:=hr
   have hd:=hk j _ hj
   generalize (β n).2 j=u at hd
   cases hd with
   |nil f oa cap=>exact .inl ⟨⟨oa,cap,rfl⟩,rfl⟩
   |row n f b off cap size g hk hF hc hg=>
    refine .inr ⟨b,off,cap,size,rfl,λi hi=>⟨(hc i hi).1,(List.range size).map (g i),DenL.of (by simp[(hc i hi).1]) (λq d hq=>?_),λq u hq=>?_⟩⟩
    ·have hlt:q<size:=by rw[←(hc i hi).1];exact(List.getElem?_eq_some_iff.1 hq).1
     refine⟨g i q,by simp[hlt],?_⟩
     have:=hg i q hi hlt
     rw[List.getD_eq_getElem?_getD,hq]at this
     exact this
    ·rw[List.getElem?_map]at hq
     have hlt:q<size:=by
      rcases Nat.lt_or_ge q size with z|z
      ·exact z
      ·rw[List.getElem?_eq_none (by simpa using z)]at hq;cases hq
     rw[List.getElem?_range hlt]at hq
     simp only[Option.map_some,Option.some.injEq]at hq;subst hq
     exact(hc i hi).2 q hlt
  ·cases hr
 ·rename_i ds hn
  rw[show zps hp n=true by unfold zps;rw[hn]]
  have hk:=m.ok n _ (hhp n _ hn)
  split at hr
  ·rename_i k' f' hj
   simp only[Option.some.injEq,Prod.mk.injEq]at hr
   obtain⟨rfl,rfl⟩:=hr
   have hd:=hk j _ hj
   generalize (β n).2 j=u at hd
   cases hd with
   |nil f oa cap=>exact .inl ⟨⟨oa,cap,rfl⟩,rfl⟩
   |row n f b off cap size g hk hF hc hg=>
    refine .inr ⟨b,off,cap,size,rfl,λi hi=>⟨(hc i hi).1,(List.range size).map (g i),DenL.of (by simp[(hc i hi).1]) (λq d hq=>?_),λq u hq=>?_⟩⟩
    ·have hlt:q<size:=by rw[←(hc i hi).1];exact(List.getElem?_eq_some_iff.1 hq).1
     refine⟨g i q,by simp[hlt],?_⟩
     have:=hg i q hi hlt
     rw[List.getD_eq_getElem?_getD,hq]at this
     exact this
    ·rw[List.getElem?_map]at hq
     have hlt:q<size:=by
      rcases Nat.lt_or_ge q size with z|z
      ·exact z
      ·rw[List.getElem?_eq_none (by simpa using z)]at hq;cases hq
     rw[List.getElem?_range hlt]at hq
     simp only[Option.map_some,Option.some.injEq]at hq;subst hq
     exact(hc i hi).2 q hlt
  ·cases hr
 ·rename_i t k' f' hn
  rw[show zps hp n=false by unfold zps;rw[hn]]
  have hk:=m.ok n _ (hhp n _ hn)
  split at hr
  ·simp only[Option.some.injEq,Prod.mk.injEq]at hr
   obtain⟨rfl,rfl⟩:=hr
   obtain⟨size,xs,h1,h2,h3,h4⟩:=hk
   rcases h3.2 with⟨hv,hz⟩|⟨g,cap,cur,hv,hg,hc,hle,hcap,hsz,htake⟩
   ·exact .inl ⟨⟨none,0,hv⟩,hz⟩
   ·refine .inr ⟨g,0,cap,size,hv,λi hi=>⟨(h4 i hi).1,(xs.drop (i*size)).take size,?_,λq u hq=>?_⟩⟩
    ·refine DenL.of ?_ λq d hq=>?_
     ·rw[(h4 i hi).1,List.length_take,List.length_drop,h3.1]
      have:(i+1)*size<=k'*size:=Nat.mul_le_mul_right _ hi
      rw[Nat.add_mul]at this
      omega
     ·have hlt:q<size:=by rw[←(h4 i hi).1];exact(List.getElem?_eq_some_iff.1 hq).1
      obtain⟨v,hv',hd⟩:=(h4 i hi).2 q hlt
      refine⟨v,by rw[List.getElem?_take,if_pos hlt,List.getElem?_drop];exact hv',?_⟩
      rw[List.getD_eq_getElem?_getD,hq]at hd
      exact hd
    ·rw[List.getElem?_take]at hq
     split at hq
     ·rw[List.getElem?_drop,←htake,List.getElem?_take]at hq
      split at hq
      ·rw[show 0+i*size+q=i*size+q by omega]
       simpa [World.cell?,hc]using hq
      ·cases hq
     ·cases hq
  ·cases hr
 ·cases hr
theorem zxz{t:TypeId}{b o:Nat}{us:List Value}(hc:∀q u,us[q]? = some u->w.cell? ⟨b,o+q,none⟩=some u){off:Nat}{v:Value}(hl:zep P t us off=some v):(loadVar t ⟨b,o+off,none⟩).run P w=.ok v w:=by
 unfold zep at hl
 split at hl
 ·rename_i n ha hs
  split at hl
  ·rename_i hle
   simp only[Option.some.injEq]at hl;subst hl
   have hlen:((us.drop off).take n).length=n:=by rw[List.length_take,List.length_drop];omega
   have:=run_loadCells_list (P:=P) w ⟨b,o+off,none⟩ ((us.drop off).take n) (λj u hu=>by
    rw[List.getElem?_take]at hu
    split at hu
    ·rw[List.getElem?_drop]at hu
     rw[zhd,show o+off+j=o+(off+j)by omega]
     exact hc _ _ hu
    ·cases hu)
   rw[hlen]at this
   unfold loadVar
   simp only[Sem.run_bind,zik ha,Result.andThen_ok,if_true,za5 hs,this,Sem.run_pure]
  ·cases hl
 ·rename_i m ha hs
  unfold loadVar
  simp only[Sem.run_bind,zik ha,Result.andThen_ok,Bool.false_eq_true,if_false,run_load,hc _ _ hl]
 ·cases hl
theorem zon{t:TypeId}{cs:List Value}{off:Nat}{u:Value}(hl:zep P t cs off=some u)(h1:zei P t=some true\/zag u=true):zep P t (cs.map (ren0 β)) off=some (ren β u):=by
 unfold zep at hl ⊢
 split at hl
 ·split at hl
  ·rename_i hle
   simp only[Option.some.injEq]at hl;subst hl
   simp only[List.length_map]
   rw[if_pos hle]
   simp[ren,ren1,List.map_drop,List.map_take]
  ·cases hl
 ·rename_i ha hs
  rw[List.getElem?_map,hl,zq9 (h1.resolve_left (by rw[ha];simp))];rfl
 ·cases hl
theorem zrs{t:TypeId}{cs:List Value}{off:Nat}{u:Value}(hl:zep P t cs off=some u)(h1:zei P t=some true\/zag u=true){n:Nat}(hn:n∈refs u):∃v∈cs,n∈zaz v:=by
 unfold zep at hl
 split at hl
 ·split at hl
  ·simp only[Option.some.injEq]at hl;subst hl
   simp only[refs,zbk]at hn
   obtain⟨v,hv,hk⟩:=zbb.1 hn
   exact⟨v,List.mem_of_mem_drop (List.mem_of_mem_take hv),hk⟩
  ·cases hl
 ·rename_i ha hs
  rw[zng (h1.resolve_left (by rw[ha];simp))]at hn
  exact⟨u,List.mem_of_getElem? hl,hn⟩
 ·cases hl
end
section
variable{P:Program}
structure Post(w0:Base P)(β:Env)(l:List SV)(h:List (Option HE))(r:Res)(u:Value)(β':Env)(w':World):Prop where
 keep:∀n c,h.getD n none=some c->β' n=β n
 den:Den β' l r.val u
 nm:∀n∈names r.val,∃c,(zac h r.upd).getD n none=some c
 mem:Mem w0 β' (zac h r.upd) w'
variable{w0:Base P}{w:World}{β:Env}{st:St}{a:Act}{cs:List (Nat×Bool)}{o:Oper}{r:Res}{K:Act->World->Prop}{Q:Exit->Act->World->Prop}
theorem zaj(m:M w0 β st a w)(hc:holds st.slots cs){x:Operand}{v:Value}(h:plain (evS st.slots cs x)=some v):a.eval x=v:=zk7 (zap m hc x) h
theorem ze5(m:M w0 β st a w)(hc:holds st.slots cs){x:Operand}{v:Value}(h:named (evS st.slots cs x)=some v):a.eval x=ren β v/\∀n∈refs v,∃c,st.heap.getD n none=some c:=
 ⟨zoi (zap m hc x) h,λn hn=>zbt m (z5s h hn)⟩
theorem Post.same(m:M w0 β st a w){r:Res}{u:Value}(hu:r.upd=[])(hd:Den β st.slots r.val u)(hn:∀n∈names r.val,∃c,st.heap.getD n none=some c):Post w0 β st.slots st.heap r u β w:=
 ⟨λ_ _ _=>rfl,hd,by rw[hu];exact hn,by rw[hu];exact m.mem⟩
theorem zdk{ev:Operand->SV}:∀{xs:List Operand} {vs:List Value},zdz ev xs=some vs->vs=xs.map (λx=>zdw (ev x))/\∀x∈xs,plain (ev x)=some (zdw (ev x))
 |[],vs,h=>by simp only[zdz,Option.some.injEq]at h;subst h;exact⟨rfl,λ_ hx=>(by cases hx)⟩
 |x::xs,vs,h=>by
  simp only[zdz]at h
  split at h
  ·rename_i v vs' hv hvs
   simp only[Option.some.injEq]at h;subst h
   obtain⟨h1,h2⟩:=zdk hvs
   have e:zdw (ev x)=v:=by simp[zdw,hv]
   refine⟨by rw[List.map_cons,e,h1],λy hy=>?_⟩
   rcases List.mem_cons.1 hy with rfl|hy
   ·rw[hv,e]
   ·exact h2 y hy
  ·cases h
theorem zc7(m:M w0 β st a w)(hc:holds st.slots cs):∀{xs:List Operand} {vs:List Value},zdx (evS st.slots cs) xs=some vs->xs.map a.eval=vs.map (ren β)/\∀v∈vs,∀n∈refs v,∃c,st.heap.getD n none=some c
 |[],vs,h=>by simp only[zdx,Option.some.injEq]at h;subst h;exact⟨rfl,λ_ hx=>(by cases hx)⟩
 |x::xs,vs,h=>by
  simp only[zdx]at h
  split at h
  ·rename_i v vs' hv hvs
   simp only[Option.some.injEq]at h;subst h
   obtain⟨h1,h2⟩:=zc7 m hc hvs
   obtain⟨h3,h4⟩:=ze5 m hc hv
   refine⟨by rw[List.map_cons,List.map_cons,h1,h3],λy hy=>?_⟩
   rcases List.mem_cons.1 hy with rfl|hy
   ·exact h4
   ·exact h2 y hy
  ·cases h
theorem zcd(m:M w0 β st a w)(hc:holds st.slots cs)(h:zce P (evS st.slots cs) o=some r)(hK:∀β' u w',Post w0 β st.slots st.heap r u β' w'->K (a.put o.dst u) w'):o.wp P a w K Q:=by
 unfold zce at h
 split at h
 ·cases h
 ·rename_i vs _ hvs hsel
  split at h
  ·rename_i u hu
   split at h
   ·rename_i hf
    simp only[Option.some.injEq]at h;subst h
    have hev:execOp a.eval o=execOp (λx=>zdw (evS st.slots cs x)) o:=execOp_congr o hsel λx hx=>by
     have:=(zdk hvs).2 x (Array.mem_toList_iff.2 hx)
     exact zaj m hc this
    have hrun:=zre _ hu w
    rw[←hev]at hrun
    refine zaf hrun (hK β u w (Post.same m rfl ?_ ?_))
    ·dsimp only;split
     ·rfl
     ·exact(zdj hf).symm
    ·intro n hn;dsimp only at hn;split at hn
     ·simp[names]at hn
     ·simp only[names]at hn;rw[zen hf]at hn;cases hn
   ·cases h
  ·cases h
 ·cases h
theorem zz6{s:SV}{l:List SV}{u:Value}{n off:Nat}(hd:Den β l s u)(h:zi5 s=some (.own n off)):u=.pointer (some ⟨(β n).1,off,none⟩)/\n∈names s:=by
 cases s with
 |v x=>
  cases x with
  |pointer ad=>cases ad with
   |none=>cases h
   |some ad=>
    obtain⟨b,q,sp⟩:=ad
    simp only[zi5]at h
    cases sp with
    |none=>
     simp only[Option.some.injEq,Plc.own.injEq]at h
     obtain⟨rfl,rfl⟩:=h
     exact⟨hd,by simp[names,refs,zbk,zaz,zbc]⟩
    |some _=>cases h
  |_=>cases h
 |_=>cases h
theorem z94{s:SV}{l:List SV}{u:Value}{n off len size:Nat}{i:Int}(hd:Den β l s u)(h:zi5 s=some (.ix n off i len size)):(u=.pointer (some ⟨(β n).1,off+i.toNat*size,none⟩)/\0<=i/\i<len)/\n∈names s:=by
 cases s with
 |v x=>
  cases x with
  |pointer ad=>cases ad with
   |none=>cases h
   |some ad=>obtain⟨b,q,sp⟩:=ad;simp only[zi5]at h;cases sp<;>cases h
  |_=>cases h
 |ix n' off' i' len' size'=>
  simp only[zi5,Option.some.injEq,Plc.ix.injEq]at h
  obtain⟨rfl,rfl,rfl,rfl,rfl⟩:=h
  exact⟨hd,by simp[names]⟩
 |_=>cases h
theorem z95{s:SV}{l:List SV}{u:Value}{n j off size:Nat}{i:Int}(hd:Den β l s u)(h:zi5 s=some (.ex n j off size i)):(∃b o len cap,(β n).2 j=.slice (some ⟨b,o,none⟩) len cap/\u=.pointer (some ⟨b,o+i.toNat*size+off,none⟩)/\0<=i/\i<len)/\n∈names s:=by
 cases s with
 |v x=>
  cases x with
  |pointer ad=>cases ad with
   |none=>cases h
   |some ad=>obtain⟨b,q,sp⟩:=ad;simp only[zi5]at h;cases sp<;>cases h
  |_=>cases h
 |ex n' j' off' size' i'=>
  simp only[zi5,Option.some.injEq,Plc.ex.injEq]at h
  obtain⟨rfl,rfl,rfl,rfl,rfl⟩:=h
  exact⟨hd,by simp[names]⟩
 |_=>cases h
theorem yj6(m:Mem w0 β st.heap w){s:SV}{u:Value}{n j off:Nat}(hd:Den β st.slots s u)(h:zi5 s=some (.hp n j off)):(off=0/\u=(β n).2 j\/∃b o,(β n).2 j=.pointer (some ⟨b,o,none⟩)/\u=.pointer (some ⟨b,o+off,none⟩))/\n∈names s:=by
 cases s with
 |v x=>
  cases x with
  |pointer ad=>cases ad with
   |none=>cases h
   |some ad=>
    obtain⟨b,q,sp⟩:=ad
    simp only[zi5]at h
    cases sp with
    |none=>cases h
    |some _=>
     simp only[Option.some.injEq,Plc.hp.injEq]at h
     obtain⟨rfl,rfl,rfl⟩:=h
     exact⟨.inl ⟨rfl,hd⟩,by simp[names,refs,zbk,zaz,zbc]⟩
  |_=>cases h
 |hp n' j' off'=>
  simp only[zi5,Option.some.injEq,Plc.hp.injEq]at h
  obtain⟨rfl,rfl,rfl⟩:=h
  exact⟨.inr hd,by simp[names]⟩
 |_=>cases h
theorem zrt{t:TypeId}{x:Operand}{fresh:Nat}{deep raw:Bool}{ds:List DC}{us:List Value}{b p off:Nat}(m:M w0 β st a w)(ho:o.op=.load t x)(hfr:deep=true->fresh<st.heap.length/\st.heap.getD fresh none=none)
  (hx:a.eval x=.pointer (some ⟨b,p+off,none⟩)) (hd:DenL w (rdN w0 β st.heap w raw) ds us) (hc:∀q u,us[q]? = some u->w.cell? ⟨b,p+q,none⟩=some u)
  (h:yha P t fresh deep raw ds off=some r) (hK:∀β' u w',Post w0 β st.slots st.heap r u β' w'->K (a.put o.dst u) w'):o.wp P a w K Q:=by
 have sub:∀(n:Nat),DenL w (rdN w0 β st.heap w raw) ((ds.drop off).take n) ((us.drop off).take n):=λn=>DenL.of (by simp[hd.length]) λj d hj=>by
  rw[List.getElem?_take]at hj ⊢
  split at hj
  ·rename_i hlt
   rw[List.getElem?_drop]at hj
   obtain⟨u,h1,h2⟩:=hd.at_ _ d hj
   exact⟨u,by rw[if_pos hlt,List.getElem?_drop];exact h1,h2⟩
  ·cases hj
 unfold yha at h
 split at h
 ·rename_i n ha hs
  split at h
  ·rename_i hall
   obtain⟨hle,hp,hdeep⟩:=hall
   simp only[Option.some.injEq]at h;subst h
   obtain⟨β',k1,k2,k3,k4,_⟩:=zr0 m.mem (raw:=raw) (fresh:=fresh) (λhf=>hfr (by rw[hf]at hdeep;simpa using hdeep)) (sub n) hp
   have hl:zep P t us off=some (.agg ((us.drop off).take n).toArray):=by
    unfold zep;rw[ha,hs];dsimp only;rw[if_pos (by rw[hd.length];exact hle)]
   refine zaf (zlb ho hx (zxz hc hl)) (hK β' _ w ⟨k1,?_,λk hk=>?_,k2⟩)
   ·show _=ren β' _
    simp only[ren,ren1]
    rw[k3 0 rfl]
   ·simp only[names,refs,zbk]at hk
    obtain⟨y,hy,hk⟩:=zbb.1 hk
    exact k4 y (by simpa using hy) k hk
  ·cases h
 ·rename_i n ha hs
  split at h
  ·rename_i d hdo
   split at h
   ·rename_i hall
    obtain⟨hp,hdeep⟩:=hall
    simp only[Option.some.injEq]at h;subst h
    obtain⟨u,h1,h2⟩:=hd.at_ off d hdo
    obtain⟨β',k1,k2,k3,k4,_⟩:=zr0 m.mem (raw:=raw) (fresh:=fresh) (ds:=[d]) (us:=[u]) (λhf=>hfr (by rw[hf]at hdeep;simpa using hdeep)) ⟨h2,trivial⟩ hp
    have hl:zep P t us off=some u:=by unfold zep;rw[ha,hs];exact h1
    have k3':=k3 0 rfl
    have hlen:=zd6 fresh [d] 0
    refine zaf (zlb ho hx (zxz hc hl)) (hK β' u w ⟨k1,?_,λk hk=>?_,k2⟩)
    ·show u=ren β' ((zb1 fresh 0 [d]).headD undef)
     cases hi:zb1 fresh 0 [d]with
     |nil=>rw[hi]at hlen;cases hlen
     |cons y l=>
      rw[hi]at k3'
      simp only[List.map_cons,List.cons.injEq]at k3'
      show u=ren β' y
      have hy1:zag y=true:=by
       cases d with
       |p z=>simp only[zb1,List.cons.injEq]at hi;rw[←hi.1];cases h2;assumption
       |row n f=>simp only[zb1,List.cons.injEq]at hi;rw[←hi.1];rfl
       |ptr c=>simp only[zb1,List.cons.injEq]at hi;rw[←hi.1];rfl
      rw[zq9 hy1,k3'.1]
    ·have hk':k∈refs ((zb1 fresh 0 [d]).headD undef):=hk
     cases hi:zb1 fresh 0 [d]with
     |nil=>rw[hi]at hlen;cases hlen
     |cons y l=>
      rw[hi]at hk' k4
      have hk':k∈refs y:=hk'
      have hy1:zag y=true:=by
       cases d with
       |p z=>simp only[zb1,List.cons.injEq]at hi;rw[←hi.1];cases h2;assumption
       |row n f=>simp only[zb1,List.cons.injEq]at hi;rw[←hi.1];rfl
       |ptr c=>simp only[zb1,List.cons.injEq]at hi;rw[←hi.1];rfl
      rw[zng hy1]at hk'
      exact k4 y (by simp) k hk'
   ·cases h
  ·cases h
 ·cases h
theorem zol{hp:Nat->Option HE}(hhp:∀n c,hp n=some c->st.heap.getD n none=some c){t:TypeId}{x:Operand}{fresh:Nat}{deep:Bool}{p:Plc}(m:M w0 β st a w)(hc:holds st.slots cs)(ho:o.op=.load t x)(hfr:deep=true->fresh<st.heap.length/\st.heap.getD fresh none=none)
  (hp':zi5 (evS st.slots cs x)=some p) (h:zom P hp fresh deep t p=some r) (hK:∀β' u w',Post w0 β st.slots st.heap r u β' w'->K (a.put o.dst u) w'):o.wp P a w K Q:=by
 have hd:=zap m hc x
 cases p with
 |own n off=>
  obtain⟨hx,_⟩:=zz6 hd hp'
  simp only[zom]at h
  split at h
  ·rename_i ty c hn0
   have hn:=hhp n _ hn0
   have hk:=m.mem.ok n _ hn
   split at h
   ·rename_i u hu
    split at h
    ·rename_i h1
     simp only[Option.some.injEq]at h;subst h
     refine zaf (zlb ho hx (zet hk.1 (zon hu h1))) (hK β _ w (Post.same m rfl rfl λk hk'=>?_))
     obtain⟨v,hv,hr⟩:=zrs hu h1 hk'
     exact m.mem.refs n _ _ hn v hv k hr
    ·cases h
   ·cases h
  ·cases h
 |ix n off i len size=>
  obtain⟨⟨hx,h0,h1⟩,_⟩:=z94 hd hp'
  simp only[zom]at h
  split at h
  ·rename_i ty c hn0
   have hn:=hhp n _ hn0
   have hk:=m.mem.ok n _ hn
   split at h
   ·rename_i us hus
    split at h
    ·rename_i u hu
     split at h
     ·rename_i hf
      simp only[Bool.and_eq_true]at hf
      simp only[Option.some.injEq]at h;subst h
      obtain⟨hl,hk'⟩:=zoo len 0 hus
      have hp:=zrf us 0 hu (by simpa using h0) (by rw[hl];simpa using h1)
      have:=hk' _ u hp
      simp only[Nat.sub_zero,Nat.zero_add]at this
      have hc1:=hk.1
      rw[zbi λy hy=>zbn (za4.1 hf.1 y hy)]at hc1
      refine zaf (zlb ho hx (zet hc1 this)) (hK β u w (Post.same m rfl (zdj hf.2).symm λk hk''=>?_))
      simp only[names]at hk'';rw[zen hf.2]at hk'';cases hk''
     ·cases h
    ·cases h
   ·cases h
  ·cases h
 |ex n j off size i=>
  obtain⟨⟨b,q,len,cap,hs,hx,h0,h1⟩,_⟩:=z95 hd hp'
  simp only[zom]at h
  split at h
  ·rename_i k f hr
   split at h
   ·rename_i hsz
    rcases zk3 m.mem hhp hr with⟨⟨oa,cp,hz⟩,_⟩|⟨b',q',cap',size',hv,hel⟩
    ·rw[hs]at hz;simp only[Value.slice.injEq]at hz;omega
    ·rw[hs]at hv
     simp only[Value.slice.injEq,Option.some.injEq,Addr.mk.injEq]at hv
     obtain⟨⟨rfl,rfl,-⟩,rfl,-⟩:=hv
     obtain⟨hl,us,hdl,hcl⟩:=hel i.toNat (by omega)
     have e:size'=size:=by rw[←hl,hsz]
     subst e
     exact zrt m ho hfr hx hdl hcl h hK
   ·cases h
  ·cases h
 |hp n j off=>
  obtain⟨hx,_⟩:=yj6 m.mem hd hp'
  simp only[zom]at h
  split at h
  ·rename_i vs hv
   unfold zqo at hv
   split at hv
   ·rename_i ds hn
    have hk:=m.mem.ok n _ (hhp n _ hn)
    split at hv
    ·rename_i vs' hj
     simp only[Option.some.injEq]at hv;subst hv
     have hdd:=hk j _ hj
     have key:∃b q,(β n).2 j=.pointer (some ⟨b,q,none⟩)/\∃us,DenL w (NF w0 β st.heap w) vs' us/\∀z u,us[z]? = some u->w.cell? ⟨b,q+z,none⟩=some u:=by
      generalize (β n).2 j=u at hdd
      cases hdd with
      |ptr _ b q g hF hc1 hg=>
       refine⟨b,q,rfl,(List.range vs'.length).map g,DenL.of (by simp) (λz d hz=>?_),λz u hz=>?_⟩
       ·have hlt:z<vs'.length:=(List.getElem?_eq_some_iff.1 hz).1
        refine⟨g z,by simp[hlt],?_⟩
        have:=hg z hlt
        rw[List.getD_eq_getElem?_getD,hz]at this
        exact this
       ·rw[List.getElem?_map]at hz
        have hlt:z<vs'.length:=by
         rcases Nat.lt_or_ge z vs'.length with y|y
         ·exact y
         ·rw[List.getElem?_eq_none (by simpa using y)]at hz;cases hz
        rw[List.getElem?_range hlt]at hz
        simp only[Option.map_some,Option.some.injEq]at hz;subst hz
        exact hc1 z hlt
     obtain⟨b,q,hb,us,hdl,hcl⟩:=key
     have hx':a.eval x=.pointer (some ⟨b,q+off,none⟩):=by
      rcases hx with⟨rfl,hx⟩|⟨b',q',h1,h2⟩
      ·rw[hx,hb];rfl
      ·rw[hb]at h1
       simp only[Value.pointer.injEq,Option.some.injEq,Addr.mk.injEq]at h1
       obtain⟨rfl,rfl,-⟩:=h1
       exact h2
     exact zrt (raw:=false) m ho hfr hx' hdl hcl h hK
    ·cases hv
   ·cases hv
  ·cases h
theorem zi7(m:M w0 β st a w){fresh:Nat}(hf:fresh<st.heap.length)(hn:st.heap.getD fresh none=none)(t:TypeId)(cells:List Value)(hr:∀v∈cells,∀k∈zaz v,∃c,st.heap.getD k none=some c) :
  Post w0 β st.slots st.heap {val:=.v (.pointer (some ⟨fresh,0,none⟩)),upd:=[(fresh,.cells t cells)],sides:=[]} (.pointer (some ⟨w.heap.size,0,none⟩)) (bump β fresh (w.heap.size,λ_=>.bool false)) (push w (.cells (cells.map (ren0 β)).toArray t)) where
 keep n c hc:=zcf λe=>by rw[e,hn]at hc;cases hc
 den:=by
  show _=ren _ _
  simp only[ren,ren1,ren0,renP]
  rw[zcs]
 nm n hn':=by
  simp only[names,refs,zbk,zaz,zbc,List.mem_singleton]at hn';subst hn'
  exact⟨.cells t cells,by simp only[zac];rw[zah,if_pos ⟨rfl,hf⟩]⟩
 mem:=m.mem.new hf hn t cells hr
theorem zm1{t:TypeId}{fresh:Nat}(m:M w0 β st a w)(hf:fresh<st.heap.length)(hn:st.heap.getD fresh none=none)(ho:o.op=.alloc t){z:Value}(hz:(P.info? t).bind (·.zero)=some z)(hfl:allB zel z.cells.toList=true)
  (hK:∀β' u w',Post w0 β st.slots st.heap {val:=.v (.pointer (some ⟨fresh,0,none⟩)),upd:=[(fresh,.cells t z.cells.toList)],sides:=[]} u β' w'->K (a.put o.dst u) w'):o.wp P a w K Q:=by
 refine zaf (u:=.pointer (some ⟨w.heap.size,0,none⟩)) ?_ (hK _ _ _ (zi7 m hf hn t z.cells.toList λv hv k hk=>?_))
 ·rw[zbi λy hy=>zbn (za4.1 hfl y hy)]
  simp only[execOp,ho,Instr.alloc,Sem.run_bind,ze8 hz,Result.andThen_ok,newVar,newRow,run_newObj,Sem.run_pure,Array.toArray_toList]
  rfl
 ·rw[zb8 (za4.1 hfl v hv)]at hk;cases hk
theorem zjj(hone:∀n j,zag ((β n).2 j)=true){u:Value}(h1:u.cells.toList.all zag=true):(ren β u).cells.toList=u.cells.toList.map (ren0 β)/\(∀v∈u.cells.toList,∀k∈zaz v,k∈refs u)/\(u.cells.toList.map (ren0 β)).all zag=true:=by
 have ho:zag u=true\/∃cs,u=.agg cs:=by
  cases u with
  |agg cs=>exact .inr ⟨cs,rfl⟩
  |tuple vs=>simp[Value.cells,zag]at h1
  |_=>exact .inl rfl
 refine⟨z9v ho hone,λv hv k hk=>?_,?_⟩
 ·rcases ho with ho|⟨cs,rfl⟩
  ·rw[zng ho]
   have:u.cells.toList=[u]:=by cases u<;>first|rfl|cases ho
   rw[this,List.mem_singleton]at hv;subst hv;exact hk
  ·exact zbb.2 ⟨v,hv,hk⟩
 ·rw[List.all_eq_true]
  intro y hy
  obtain⟨v,hv,rfl⟩:=List.mem_map.1 hy
  exact z2l (List.all_eq_true.1 h1 v hv) hone
theorem zsi{t:TypeId}{x:Operand}{fresh:Nat}{u:Value}(m:M w0 β st a w)(hc:holds st.slots cs)(hf:fresh<st.heap.length)(hn:st.heap.getD fresh none=none)(ho:o.op=.box t x)(hu:named (evS st.slots cs x)=some u)(h1:u.cells.toList.all zag=true)
  (hK:∀β' v w',Post w0 β st.slots st.heap {val:=.v (.pointer (some ⟨fresh,0,none⟩)),upd:=[(fresh,.cells t u.cells.toList)],sides:=[]} v β' w'->K (a.put o.dst v) w'):o.wp P a w K Q:=by
 obtain⟨hx,hr⟩:=ze5 m hc hu
 obtain⟨k1,k2,_⟩:=zjj m.mem.one h1
 refine zaf (u:=.pointer (some ⟨w.heap.size,0,none⟩)) ?_ (hK _ _ _ (zi7 m hf hn t u.cells.toList λv hv k hk=>hr k (k2 v hv k hk)))
 rw[←k1]
 simp only[execOp,ho,hx,Instr.box,Sem.run_bind,Result.andThen_ok,newVar,newRow,run_newObj,Sem.run_pure,Array.toArray_toList]
 rfl
theorem zl8(f:Value->Value):∀(vs cs:List Value) (off:Nat),(zb5 cs off vs).map f=zb5 (cs.map f) off (vs.map f)
 |[],_,_=>rfl
 |v::vs,cs,off=>by simp only[zb5,List.map_cons];rw[zl8 f vs,List.map_set]
theorem zl7:∀(vs cs:List Value) (off:Nat) {x:Value},x∈zb5 cs off vs->x∈cs\/x∈vs
 |[],_,_,_,h=>.inl h
 |v::vs,cs,off,x,h=>by
  rcases zl7 vs _ _ h with h|h
  ·rcases List.mem_or_eq_of_mem_set h with h|h
   ·exact .inl h
   ·exact .inr (by simp[h])
  ·exact .inr (by simp[h])
theorem z9a{hp:Nat->Option HE}(hhp:∀n c,hp n=some c->st.heap.getD n none=some c){t ty:TypeId}{x y:Operand}{n off k:Nat}{u:Value}{c:List Value}(m:M w0 β st a w)(hc:holds st.slots cs)(ho:o.op=.store t x y)
  (hx:a.eval x=.pointer (some ⟨(β n).1,off,none⟩)) (hu:named (evS st.slots cs y)=some u) (hn0:hp n=some (.cells ty c)) (hk:zbh P t=some k) (h1:u.cells.size=k) (h2:off+k<=c.length) (h3:u.cells.toList.all zag=true)
  (hK:∀β' v w',Post w0 β st.slots st.heap {val:=.k undef,upd:=[(n,.cells ty (zb5 c off u.cells.toList))],sides:=[]} v β' w'->K (a.put o.dst v) w'):o.wp P a w K Q:=by
 have hn:=hhp n _ hn0
 obtain⟨hy,hr⟩:=ze5 m hc hu
 obtain⟨k1,k2,k3⟩:=zjj m.mem.one h3
 have hok:=m.mem.ok n _ hn
 have hz:(ren β u).cells.size=k:=by
  have:=congrArg List.length k1
  simp only[Array.length_toList,List.length_map]at this
  rw[this,h1]
 obtain⟨w',hrun,hb,hrest,hs,g1,g2,g3⟩:=zfu (u:=ren β u) hok.1 hk hz (by rw[List.length_map];exact h2) (by rw[k1];exact k3)
 rw[k1,←zl8]at hb
 refine ziz (w':=w') ?_ (hK β undef w' ⟨λ_ _ _=>rfl,rfl,λq hq=>by simp[names]at hq,m.mem.put hn (λv hv q hq=>?_) hb hrest hs g1 g2 g3⟩)
 ·simp only[execOp,ho,Instr.storeAt,hy,hx,Instr.sureAddr,Sem.run_bind,Sem.run_pure,Result.andThen_ok,hrun]
 ·rcases zl7 _ _ _ hv with hv|hv
  ·exact m.mem.refs n _ _ hn v hv q hq
  ·exact hr q (k2 v hv q hq)
theorem zkw{l:List SV}{cs:List (Nat×Bool)}{t:Nat}{b:Bool}(h:evS l cs (.tmp t)=.k (.bool b)\/evS l cs (.tmp t)=.v (.bool b)):zbw l t=some b:=by
 simp only[evS]at h
 unfold zbw
 rw[List.getD_eq_getElem?_getD]at h
 cases hs:l[t]? with
 |none=>simp[hs,resolve]at h
 |some s=>
  simp only[hs,Option.getD_some]at h
  cases s with
  |g cs' z=>
   simp only[resolve]at h
   split at h
   ·rcases h with h|h<;>(subst h;rfl)
   ·rcases h with h|h<;>cases h
  |_=>simp only[resolve]at h<;>rcases h with h|h<;>first|(cases h;rfl)|cases h
theorem zmo{l:List SV}{cs:List (Nat×Bool)}{c:Operand}{b:Bool}(hc:holds l cs)(h:evS l cs c=.k (.bool b)\/evS l cs c=.v (.bool b)):holds l (zwm cs c b):=by
 cases c with
 |tmp t=>
  have hb:=zkw h
  intro z hz
  rcases List.mem_append.1 hz with hz|hz
  ·exact hc z hz
  ·simp only[List.mem_singleton]at hz;subst hz;exact hb
 |_=>exact hc
theorem zoc{c x y:Operand}(m:M w0 β st a w)(hc:holds st.slots cs)
  (h:(match evS st.slots cs c,c with
  |.k (.bool b),_=>match named (evS st.slots (zwm cs c b) (if b then x else y))with
   |some u=>some ({val:=.v u,upd:=[],sides:=[]}:Res)
   |none=>none
  |.v (.bool b),.tmp t=>match plain (evS st.slots (cs++[(t,true)]) x),plain (evS st.slots (cs++[(t,false)]) y)with
   |some u,some v=>if flat (zc1 3 b u v)then some {val:=.v (zc1 3 b u v),upd:=[],sides:=[]}else none
   |_,_=>none
  |_,_=>none)=some r) (ho:o.op=.pick c x y) (hK:∀β' u w',Post w0 β st.slots st.heap r u β' w'->K (a.put o.dst u) w'):o.wp P a w K Q:=by
 have hd:=zap m hc c
 have hrun:∀b,a.eval c=.bool b->(execOp a.eval o).run P w=.ok (.value (if b then a.eval x else a.eval y)) w:=λb hb=>by
  simp only[execOp,ho,hb,asBool,Sem.run_bind,Sem.run_pure,Result.andThen_ok]
 split at h
 ·rename_i b hev
  rw[hev]at hd
  split at h
  ·rename_i u hu
   simp only[Option.some.injEq]at h;subst h
   obtain⟨hx,hn⟩:=ze5 m (zmo hc (.inl hev)) hu
   refine zaf (u:=ren β u) ?_ (hK β _ w (Post.same m rfl rfl hn))
   rw[hrun b hd];cases b
   ·exact congrArg (λz=>Result.ok (Next.value z) w) hx
   ·exact congrArg (λz=>Result.ok (Next.value z) w) hx
  ·cases h
 ·rename_i b t hev
  have hev':=hev
  rw[hev]at hd
  split at h
  ·rename_i u v hu hv
   split at h
   ·rename_i hf
    simp only[Option.some.injEq]at h;subst h
    have hb:zbw st.slots t=some b:=zkw (.inr hev')
    have hcc:∀q,zbw st.slots t=some q->holds st.slots (cs++[(t,q)]):=λq hq z hz=>by
     rcases List.mem_append.1 hz with hz|hz
     ·exact hc z hz
     ·simp only[List.mem_singleton]at hz;subst hz;exact hq
    refine zaf (u:=zc1 3 b u v) ?_ (hK β _ w (Post.same m rfl (zdj hf).symm (λk hk=>by simp only[names]at hk;rw[zen hf]at hk;cases hk)))
    have hd':a.eval (.tmp t)=.bool b:=hd
    rw[hrun b hd',zrn]
    cases b
    ·rw[if_neg (by simp),if_neg (by simp),zaj m (hcc false hb) hv]
    ·rw[if_pos rfl,if_pos rfl,zaj m (hcc true hb) hu]
   ·cases h
  ·cases h
 ·cases h
end
section
variable{P:Program}{w0:Base P}{w:World}{β:Env}{st:St}{a:Act}{cs:List (Nat×Bool)}{o:Oper}{r:Res}{K:Act->World->Prop}{Q:Exit->Act->World->Prop}
theorem zms{hp:Nat->Option HE}(hhp:∀n c,hp n=some c->st.heap.getD n none=some c){s f:Nat}{x:Operand}(m:M w0 β st a w)(hc:holds st.slots cs)
  (h:(match zi5 (evS st.slots cs x),zjg P s f with
  |some p,some fd=>match zbh P fd.type with
   |some (_+1)=>match p with
    |.own n off=>some ({val:=.v (.pointer (some ⟨n,off+fd.offset,none⟩)),upd:=[],sides:=[]}:Res)
    |.ix n off i len size=>some {val:=.ix n (off+fd.offset) i len size,upd:=[],sides:=[]}
    |.ex n j off size i=>some {val:=.ex n j (off+fd.offset) size i,upd:=[],sides:=[]}
    |.hp n j off=>match zqo hp n j with
     |some _=>some {val:=.hp n j (off+fd.offset),upd:=[],sides:=[]}
     |none=>none
   |_=>none
  |_,_=>none)=some r) (ho:o.op=.fieldAddr s x f) (hK:∀β' u w',Post w0 β st.slots st.heap r u β' w'->K (a.put o.dst u) w'):o.wp P a w K Q:=by
 have hd:=zap m hc x
 have hn:=λn=>zbt (cs:=cs) m (x:=x) (n:=n)
 split at h
 ·rename_i p fd hp' hfd
  split at h
  ·rename_i k hk
   cases p with
   |own n off=>
    obtain⟨hx,hm⟩:=zz6 hd hp'
    simp only[Option.some.injEq]at h;subst h
    exact zaf (zio ho hx hfd hk) (hK β _ w (Post.same m rfl rfl (λq hq=>by simp only[names,refs,zbk,zaz,zbc,List.mem_singleton]at hq;subst hq;exact hn _ hm)))
   |ix n off i len size=>
    obtain⟨⟨hx,h0,h1⟩,hm⟩:=z94 hd hp'
    simp only[Option.some.injEq]at h;subst h
    exact zaf (zio ho hx hfd hk) (hK β _ w (Post.same m rfl ⟨by rw[show off+fd.offset+i.toNat*size=off+i.toNat*size+fd.offset by omega],h0,h1⟩ (λq hq=>by simp only[names,List.mem_singleton]at hq;subst hq;exact hn _ hm)))
   |ex n j off size i=>
    obtain⟨⟨b,q,len,cap,hs,hx,h0,h1⟩,hm⟩:=z95 hd hp'
    simp only[Option.some.injEq]at h;subst h
    exact zaf (zio ho hx hfd hk) (hK β _ w (Post.same m rfl ⟨b,q,len,cap,hs,by rw[show q+i.toNat*size+(off+fd.offset)=q+i.toNat*size+off+fd.offset by omega],h0,h1⟩ (λq hq=>by simp only[names,List.mem_singleton]at hq;subst hq;exact hn _ hm)))
   |hp n j off=>
    obtain⟨hx,hm⟩:=yj6 m.mem hd hp'
    dsimp only at h
    split at h
    ·rename_i vs hv
     simp only[Option.some.injEq]at h;subst h
     have key:∃b q,(β n).2 j=.pointer (some ⟨b,q,none⟩):=by
      unfold zqo at hv
      split at hv
      ·rename_i ds hnn
       have hk':=m.mem.ok n _ (hhp n _ hnn)
       split at hv
       ·rename_i vs' hj
        have hdd:=hk' j _ hj
        generalize (β n).2 j=u at hdd
        cases hdd with
        |ptr _ b q g hF hc1 hg=>exact⟨b,q,rfl⟩
       ·cases hv
      ·cases hv
     obtain⟨b,q,hb⟩:=key
     have hx':a.eval x=.pointer (some ⟨b,q+off,none⟩):=by
      rcases hx with⟨rfl,hx⟩|⟨b',q',h1,h2⟩
      ·rw[hx,hb];rfl
      ·rw[hb]at h1
       simp only[Value.pointer.injEq,Option.some.injEq,Addr.mk.injEq]at h1
       obtain⟨rfl,rfl,-⟩:=h1
       exact h2
     exact zaf (zio ho hx' hfd hk) (hK β _ w (Post.same m rfl ⟨b,q,hb,by rw[show q+(off+fd.offset)=q+off+fd.offset by omega]⟩ (λq hq=>by simp only[names,List.mem_singleton]at hq;subst hq;exact hn _ hm)))
    ·cases h
  ·cases h
 ·cases h
theorem zot{t:Nat}{x y:Operand}{b q len cap size e:Nat}{ki:IntKind}{i:Int}(ho:o.op=.indexAddr t x y)(hx:a.eval x=.slice (some ⟨b,q,none⟩) len cap)(hy:a.eval y=.int ki i)
  (ha:zaw P t=some e) (hs:zbh P e=some size) (h0:0<=i) (h1:i<len):(execOp a.eval o).run P w=.ok (.value (.pointer (some ⟨b,q+i.toNat*size,none⟩))) w:=by
 unfold zaw at ha
 split at ha
 ·rename_i e' hu
  simp only[Option.some.injEq]at ha
  subst ha
  simp only[execOp,ho,Instr.indexAt,Sem.run_bind,hy,asIntOf,underlying,run_program,hu,hx,Sem.run_pure,Result.andThen_ok,h0,h1,and_self,if_true,za5 hs,zhd]
 ·cases ha
theorem zmn{b0:Bool}{hp:Nat->Option HE}(hhp:∀n c,hp n=some c->st.heap.getD n none=some c){t:TypeId}{x y:Operand}(m:M w0 β st a w)(hc:holds st.slots cs)
  (h:(match evS st.slots cs x,plain (evS st.slots cs y),zge (evS st.slots cs y)with
  |.v (.pointer (some a)),some (.int _ i),c=>match a.spot,zky P t with
   |none,some (len,e)=>match zbh P e with
    |some size=>match c with
     |true=>if 0<=i/\i<len then some ({val:=.v (.pointer (some ⟨a.block,a.off+i.toNat*size,none⟩)),upd:=[],sides:=[]}:Res)else none
     |false=>some {val:=.ix a.block a.off i len size,upd:=[],sides:=[0<=i/\i<len]}
    |none=>none
   |_,_=>none
  |.v (.slice (some a) n _),some (.int _ i),_=>match a.spot,zaw P t,zl9 hp a.block a.off with
   |some _,some e,some (k,_)=>match zbh P e with
    |some size=>some {val:=.ex a.block a.off 0 size i,upd:=[],sides:=sdL b0 (0<=i/\i<(k:Int))}
    |none=>none
   |_,_,_=>none
  |_,_,_=>none)=some r) (hs:allP r.sides) (ho:o.op=.indexAddr t x y) (hK:∀β' u w',Post w0 β st.slots st.heap r u β' w'->K (a.put o.dst u) w'):o.wp P a w K Q:=by
 have hd:=zap m hc x
 have hn:=λn=>zbt (cs:=cs) m (x:=x) (n:=n)
 split at h
 ·rename_i ad ki i hev hy
  rw[hev]at hd hn
  have hy:=zaj m hc hy
  obtain⟨b,q,sp⟩:=ad
  have hx:sp=none->a.eval x=.pointer (some ⟨(β b).1,q,none⟩):=λe=>by subst e;exact hd
  have hb:∃c,st.heap.getD b none=some c:=hn b (by simp[names,refs,zbk,zaz,zbc])
  dsimp only at h
  split at h
  ·rename_i len e ha
   split at h
   ·rename_i size hsz
    split at h
    ·split at h
     ·rename_i hi
      simp only[Option.some.injEq]at h;subst h
      exact zaf (znr ho (hx rfl) hy ha hsz hi.1 hi.2) (hK β _ w (Post.same m rfl rfl (λq hq=>by simp only[names,refs,zbk,zaz,zbc,List.mem_singleton]at hq;subst hq;exact hb)))
     ·cases h
    ·simp only[Option.some.injEq]at h;subst h
     exact zaf (znr ho (hx rfl) hy ha hsz hs.1.1 hs.1.2) (hK β _ w (Post.same m rfl ⟨rfl,hs.1⟩ (λq hq=>by simp only[names,List.mem_singleton]at hq;subst hq;exact hb)))
   ·cases h
  ·cases h
 ·rename_i ad n c ki i hev hy
  rw[hev]at hd hn
  have hy:=zaj m hc hy
  obtain⟨b,q,sp⟩:=ad
  dsimp only at h
  split at h
  ·rename_i s0 e k f hsl hrow
   split at h
   ·rename_i size hsz
    simp only[Option.some.injEq]at h;subst h
    have hx:a.eval x=(β b).2 q:=hd
    have hb:∃c,st.heap.getD b none=some c:=hn b (by simp[names,refs,zbk,zaz,zbc])
    have hs1:=zhi hs
    rcases zk3 m.mem hhp hrow with⟨_,hz⟩|⟨b',q',cap',size',hv,_⟩
    ·subst hz;omega
    ·rw[hv]at hx
     exact zaf (zot ho hx hy hsl hsz hs1.1 (by omega)) (hK β _ w (Post.same m rfl ⟨b',q',k,cap',hv,by rw[Nat.add_zero],hs1.1,hs1.2⟩ (λq hq=>by simp only[names,List.mem_singleton]at hq;subst hq;exact hb)))
   ·cases h
  ·cases h
 ·cases h
theorem zqu{h:List (Option HE)}(m:Mem w0 β h w){hp:Nat->Option HE}(hhp:∀n c,hp n=some c->c=.gone\/h.getD n none=some c){F:Nat->Prop}(hR:(∀n ds,hp n≠some (.raw ds))\/∀b,w0.R b->F b)(hF:∀b,NF w0 β h w b->F b){c:Value}{d:DC}(hc:zpp hp c=some d)
  (hO:∀n∈zaz c,∀t k f,h.getD n none=some (.own t k f)->∀b,((β n).2 0).ownBlock=some b->F b):DenC w F d (ren0 β c):=by
 unfold zpp at hc
 split at hc
 ·simp only[Option.some.injEq]at hc;subst hc;exact .nil _ none 0
 ·rename_i ad n cap
  obtain⟨b,q,sp⟩:=ad
  dsimp only at hc
  split at hc
  ·rename_i s0 k f hrow
   simp only[Option.some.injEq]at hc;subst hc
   show DenC w F (.row k f) ((β b).2 q)
   unfold zl9 at hrow
   split at hrow
   ·rename_i ds hn
    have hk:=m.ok b _ ((hhp b _ hn).resolve_left (by simp))
    split at hrow
    ·rename_i k' f' hj
     simp only[Option.some.injEq,Prod.mk.injEq]at hrow
     obtain⟨rfl,rfl⟩:=hrow
     exact(hk q _ hj).mono λb hb=>⟨hF b hb,rfl⟩
    ·cases hrow
   ·rename_i ds hn
    have hk:=m.ok b _ ((hhp b _ hn).resolve_left (by simp))
    split at hrow
    ·rename_i k' f' hj
     simp only[Option.some.injEq,Prod.mk.injEq]at hrow
     obtain⟨rfl,rfl⟩:=hrow
     exact(hk q _ hj).mono λb hb=>⟨(hR.resolve_left λz=>z _ _ hn) b hb,rfl⟩
    ·cases hrow
   ·rename_i t k' f' hn
    have hn':=(hhp b _ hn).resolve_left (by simp)
    obtain⟨size,xs,h1,h2,h3,h4⟩:=m.ok b _ hn'
    split at hrow
    ·simp only[Option.some.injEq,Prod.mk.injEq]at hrow
     obtain⟨rfl,rfl⟩:=hrow
     rcases h3.2 with⟨hv,hk⟩|⟨g,cap,cur,hv,hg,hc,hle,hcap,hsz,htake⟩
     ·rw[hv];subst hk;exact .nil f' none 0
     ·have hFg:F g:=hO b (by simp[zaz,zbc]) _ _ _ hn' g (by simp[hv,Value.ownBlock])
      rw[hv]
      refine .row k' f' g 0 cap size (λi j=>cur.toList.getD (i*size+j) undef) hle hFg (λi hi=>⟨(h4 i hi).1,λj hj=>?_⟩) (λi j hi hj=>?_)
      ·obtain⟨v,hv',_⟩:=(h4 i hi).2 j hj
       rw[←htake,List.getElem?_take]at hv'
       split at hv'
       ·simp only[World.cell?,hc,Option.isSome_none,Bool.false_eq_true,if_false]
        rw[show 0+i*size+j=i*size+j by omega,List.getD_eq_getElem?_getD,hv']
        simpa using hv'
       ·cases hv'
      ·obtain⟨v,hv',hd⟩:=(h4 i hi).2 j hj
       rw[←htake,List.getElem?_take]at hv'
       split at hv'
       ·have e:cur.toList.getD (i*size+j) undef=v:=by rw[List.getD_eq_getElem?_getD,hv'];rfl
        rw[e]
        exact hd.mono λb hb=>⟨hF b hb,rfl⟩
       ·cases hv'
    ·cases hrow
   ·cases hrow
  ·cases hc
 ·rename_i ad
  obtain⟨b,q,sp⟩:=ad
  dsimp only at hc
  split at hc
  ·rename_i s0 vs hv
   simp only[Option.some.injEq]at hc;subst hc
   show DenC w F (.ptr vs) ((β b).2 q)
   unfold zqo at hv
   split at hv
   ·rename_i ds hn
    have hk:=m.ok b _ ((hhp b _ hn).resolve_left (by simp))
    split at hv
    ·rename_i vs' hj
     simp only[Option.some.injEq]at hv;subst hv
     exact(hk q _ hj).mono λb hb=>⟨hF b hb,rfl⟩
    ·cases hv
   ·cases hv
  ·cases hc
 ·split at hc
  ·rename_i hf
   simp only[Bool.and_eq_true]at hf
   simp only[Option.some.injEq]at hc;subst hc
   rw[zbn hf.1]
   exact .p c hf.2
  ·cases hc
theorem zig{f:Value->Option DC}:∀{l:List Value} {ds:List DC},mapO f l=some ds->ds.length=l.length/\∀(j:Nat) (x:Value),l[j]? = some x->∃d,ds[j]? = some d/\f x=some d
 |[],ds,h=>by simp only[mapO,Option.some.injEq]at h;subst h;exact⟨rfl,λj x hx=>by simp at hx⟩
 |x::l,ds,h=>by
  simp only[mapO]at h
  split at h
  ·rename_i y m hy hm
   simp only[Option.some.injEq]at h;subst h
   obtain⟨h1,h2⟩:=zig hm
   refine⟨by simp[h1],λj z hz=>?_⟩
   cases j with
   |zero=>simp only[List.getElem?_cons_zero,Option.some.injEq]at hz;subst hz;exact⟨y,rfl,hy⟩
   |succ j=>
    obtain⟨d,h3,h4⟩:=h2 j z (by simpa using hz)
    exact⟨d,by simpa using h3,h4⟩
  ·cases h
theorem zj7{h:List (Option HE)}(m:Mem w0 β h w){hp:Nat->Option HE}(hhp:∀n c,hp n=some c->c=.gone\/h.getD n none=some c){F:Nat->Prop}(hR:(∀n ds,hp n≠some (.raw ds))\/∀b,w0.R b->F b)(hF:∀b,NF w0 β h w b->F b){l:List Value}{ds:List DC}(hc:mapO (zpp hp) l=some ds)
  (hO:∀c∈l,∀n∈zaz c,∀t k f,h.getD n none=some (.own t k f)->∀b,((β n).2 0).ownBlock=some b->F b):DenL w F ds (l.map (ren0 β)):=by
 obtain⟨h1,h2⟩:=zig hc
 refine DenL.of (by simp[h1]) λj d hj=>?_
 have hlt:j<l.length:=by rw[←h1];exact(List.getElem?_eq_some_iff.1 hj).1
 obtain⟨d',h3,h4⟩:=h2 j _ (List.getElem?_eq_getElem hlt)
 rw[hj]at h3;simp only[Option.some.injEq]at h3;subst h3
 refine⟨ren0 β l[j],by rw[List.getElem?_map,List.getElem?_eq_getElem hlt];rfl,zqu m hhp hR hF h4 (hO _ (List.getElem_mem hlt))⟩
theorem zer:∀(l:List Nat) {h:List (Option HE)} {hp:Nat->Option HE} {u:List (Nat×HE)},Mem w0 β h w->(∀n c,hp n=some c->c=.gone\/h.getD n none=some c)->frz hp l=some u->
  Mem w0 β (zac h u) w/\(∀b,NF w0 β h w b->NF w0 β (zac h u) w b)/\(∀q∈l,∀he,h.getD q none=some he->(∀t c,he≠.cells t c)/\∀b,zc8 he (β q)=some b->NF w0 β (zac h u) w b)/\(∀q c,(q,c)∈u->q∈l/\(∃t k f,h.getD q none=some (.own t k f))/\hp q≠some .gone)
 |[],h,hp,u,m,hhp,hu=>by
  simp only[frz,Option.some.injEq]at hu;subst hu
  exact⟨m,λ_ hb=>hb,λ_ hq=>(by cases hq),λ_ _ hq=>(by cases hq)⟩
 |n::l,h,hp,u,m,hhp,hu=>by
  simp only[frz]at hu
  split at hu
  ·rename_i t k f hn
   have hn':=(hhp n _ hn).resolve_left (by simp)
   split at hu
   ·rename_i u' hu'
    simp only[Option.some.injEq]at hu;subst hu
    have hl:n<h.length:=by
     rcases Nat.lt_or_ge n h.length with z|z
     ·exact z
     ·rw[List.getD_eq_getElem?_getD,List.getElem?_eq_none z]at hn';cases hn'
    have hat:∀q,q≠n->(h.set n (some (HE.deep [.row k f]))).getD q none=h.getD q none:=λq hq=>by rw[zah,if_neg (λz=>hq z.1.symm)]
    have hatn:(h.set n (some (HE.deep [.row k f]))).getD n none=some (.deep [.row k f]):=by rw[zah,if_pos ⟨rfl,hl⟩]
    have hhp':∀q c,setF hp n (.deep [.row k f]) q=some c->c=.gone\/(h.set n (some (.deep [.row k f]))).getD q none=some c:=λq c hq=>by
     unfold setF at hq
     cases hb:Nat.beq q n with
     |true=>
      rw[hb]at hq
      have:q=n:=Nat.eq_of_beq_eq_true hb
      subst this
      simp only[cond_true,Option.some.injEq]at hq;subst hq
      exact .inr hatn
     |false=>
      rw[hb]at hq
      have:q≠n:=λe=>by subst e;rw[Nat.beq_refl]at hb;cases hb
      rw[hat q this];exact hhp q c hq
    obtain⟨i1,i2,i3,i4⟩:=zer l (m.freeze hn') hhp' hu'
    have nft:=ydj m hn' (.deep [.row k f]) rfl
    refine⟨i1,λb hb=>i2 b (nft b (.inl hb)),λq hq he hqe=>?_,λq c hq=>?_⟩
    ·by_cases e:q=n
     ·subst e
      rw[hn']at hqe;simp only[Option.some.injEq]at hqe;subst hqe
      exact⟨λ_ _ z=>by(cases z),λb hb=>i2 b (nft b (.inr ⟨hb,(m.ownlt hn' hb).1,m.ownpl hn' hb⟩))⟩
     ·rcases List.mem_cons.1 hq with z|hq
      ·exact absurd z e
      ·exact i3 q hq he (by rw[hat q e];exact hqe)
    ·rcases List.mem_cons.1 hq with z|hq
     ·simp only[Prod.mk.injEq]at z
      obtain⟨rfl,_⟩:=z
      exact⟨by simp,⟨t,k,f,hn'⟩,by rw[hn];simp⟩
     ·obtain⟨j1,⟨t',k',f',j2⟩,j3⟩:=i4 q c hq
      have e:q≠n:=λe=>by
       subst e;rw[hatn]at j2;cases j2
      refine⟨by simp[j1],⟨t',k',f',by rw[hat q e]at j2;exact j2⟩,λz=>j3 ?_⟩
      unfold setF
      have:Nat.beq q n=false:=by
       cases hb:Nat.beq q n with
       |false=>rfl
       |true=>exact absurd (Nat.eq_of_beq_eq_true hb) e
      rw[this];exact z
   ·cases hu
  ·rename_i ds hn
   have hn':=(hhp n _ hn).resolve_left (by simp)
   obtain⟨i1,i2,i3,i4⟩:=zer l m hhp hu
   refine⟨i1,i2,λq hq he hqe=>?_,λq c hq=>?_⟩
   ·rcases List.mem_cons.1 hq with e|hq
    ·subst e
     rw[hn']at hqe;simp only[Option.some.injEq]at hqe;subst hqe
     exact⟨λ_ _ z=>by(cases z),λb hb=>by cases hb⟩
    ·exact i3 q hq he hqe
   ·obtain⟨j1,j2,j3⟩:=i4 q c hq
    exact⟨by simp[j1],j2,j3⟩
  ·rename_i ds hn
   have hn':=(hhp n _ hn).resolve_left (by simp)
   obtain⟨i1,i2,i3,i4⟩:=zer l m hhp hu
   refine⟨i1,i2,λq hq he hqe=>?_,λq c hq=>?_⟩
   ·rcases List.mem_cons.1 hq with e|hq
    ·subst e
     rw[hn']at hqe;simp only[Option.some.injEq]at hqe;subst hqe
     exact⟨λ_ _ z=>by(cases z),λb hb=>by cases hb⟩
    ·exact i3 q hq he hqe
   ·obtain⟨j1,j2,j3⟩:=i4 q c hq
    exact⟨by simp[j1],j2,j3⟩
  ·cases hu
end
theorem zdr:∀(l:List (Nat×HE)) (h:List (Option HE)) {n:Nat},(∀c,(n,c)∉l)->(zac h l).getD n none=h.getD n none
 |[],_,_,_=>rfl
 |(k,e)::l,h,n,hn=>by
  simp only[zac]
  rw[zdr l _ λc hc=>hn c (by simp[hc]),zah,if_neg λz=>hn e (by simp[z.1])]
theorem zq1:∀(vs cs:List Value) (off j:Nat),off+vs.length<=cs.length->(zb5 cs off vs)[j]? = if off<=j/\j<off+vs.length then vs[j-off]? else cs[j]?
 |[],cs,off,j,_=>by simp only[zb5,List.length_nil];rw[if_neg (by omega)]
 |v::vs,cs,off,j,h=>by
  simp only[List.length_cons]at h
  simp only[zb5,List.length_cons]
  rw[zq1 vs _ (off+1) j (by simp;omega)]
  by_cases e:j=off
  ·subst e
   rw[if_neg (by omega),if_pos (by omega),List.getElem?_set,if_pos rfl,if_pos (by omega)]
   simp
  ·rw[List.getElem?_set,if_neg (Ne.symm e)]
   by_cases k:off+1<=j/\j<off+1+vs.length
   ·rw[if_pos k,if_pos (by omega)]
    rw[show j-off=(j-(off+1))+1 by omega,List.getElem?_cons_succ]
   ·rw[if_neg k,if_neg (by omega)]
theorem zpb:∀(vs cs:List DC) (off j:Nat),off+vs.length<=cs.length->(zgh cs off vs)[j]? = if off<=j/\j<off+vs.length then vs[j-off]? else cs[j]?
 |[],cs,off,j,_=>by simp only[zgh,List.length_nil];rw[if_neg (by omega)]
 |v::vs,cs,off,j,h=>by
  simp only[List.length_cons]at h
  simp only[zgh,List.length_cons]
  rw[zpb vs _ (off+1) j (by simp;omega)]
  by_cases e:j=off
  ·subst e
   rw[if_neg (by omega),if_pos (by omega),List.getElem?_set,if_pos rfl,if_pos (by omega)]
   simp
  ·rw[List.getElem?_set,if_neg (Ne.symm e)]
   by_cases k:off+1<=j/\j<off+1+vs.length
   ·rw[if_pos k,if_pos (by omega)]
    rw[show j-off=(j-(off+1))+1 by omega,List.getElem?_cons_succ]
   ·rw[if_neg k,if_neg (by omega)]
theorem zkb:∀(vs cs:List DC) (off:Nat),(zgh cs off vs).length=cs.length
 |[],_,_=>rfl
 |v::vs,cs,off=>by simp only[zgh];rw[zkb vs];simp
section
variable{P:Program}{w0:Base P}{w:World}{β:Env}{st:St}{a:Act}{cs:List (Nat×Bool)}{o:Oper}{r:Res}{K:Act->World->Prop}{Q:Exit->Act->World->Prop}
theorem Mem.setRow{h:List (Option HE)}(m:Mem w0 β h w){n:Nat}{t:TypeId}{k:Nat}{f f':Nat->List DC}(hn:h.getD n none=some (.own t k f)){w':World}{g:Nat}(hg:((β n).2 0).ownBlock=some g)
  (hk:∀q,q≠g->w'.heap[q]? = w.heap[q]?) (hs:w'.heap.size=w.heap.size) (ho:w'.os=w.os) (ht:w'.tape=w.tape) (hu:w'.output=w.output)
  (hok:(∀b,NF w0 β h w b->NF w0 β (h.set n (some (.own t k f'))) w' b/\w'.heap[b]? = w.heap[b]?)->HeOk w0 β (NF w0 β (h.set n (some (.own t k f'))) w') w' (β n) (.own t k f')):Mem w0 β (h.set n (some (.own t k f'))) w':=by
 have hl:n<h.length:=by
  rcases Nat.lt_or_ge n h.length with z|z
  ·exact z
  ·rw[List.getD_eq_getElem?_getD,List.getElem?_eq_none z]at hn;cases hn
 have hat:∀q,q≠n->(h.set n (some (HE.own t k f'))).getD q none=h.getD q none:=λq hq=>by rw[zah,if_neg (λz=>hq z.1.symm)]
 have hatn:(h.set n (some (HE.own t k f'))).getD n none=some (.own t k f'):=by rw[zah,if_pos ⟨rfl,hl⟩]
 have hlt:=m.ownlt hn (b:=g) hg
 have hNF:∀b,NF w0 β h w b->NF w0 β (h.set n (some (HE.own t k f'))) w' b/\w'.heap[b]? = w.heap[b]?:=λb hN=>by
  have hne:b≠g:=by
   rintro rfl
   rcases hN with z|z
   ·have:=w0.lt _ z;omega
   ·exact z.2.2 n _ hn hg
  refine⟨?_,hk b hne⟩
  rcases hN with z|⟨k1,k2,k3⟩
  ·exact .inl z
  ·refine .inr ⟨k1,⟨by omega,k2.2.of (hk b hne)⟩,λq c hq hx=>?_⟩
   by_cases eq:q=n
   ·subst eq
    rw[hatn]at hq;simp only[Option.some.injEq]at hq;subst hq
    exact k3 q _ hn hx
   ·rw[hat q eq]at hq;exact k3 q c hq hx
 refine m.next (λq=>q=n) (λ_ _ _ _=>rfl) (λ_ _ _ _ _ _ _=>rfl) (λq c hkc hkn=>?_) hNF (by omega) (λq c hkc hkn=>?_) (λq z c d b hkc hq hc hd hkn=>?_) (λq t' cs'' hkc v hv z hz=>?_) m.one ⟨ho.trans m.below.os,ht.trans m.below.tape,hu.trans m.below.output,by have:=m.below.size;omega,λq hq hL=>(hk q (by omega)).trans (m.below.block q hq hL)⟩ (λq v i hkc z hz=>by
  have hqn:q≠n:=λe=>by subst e;rw[hatn]at hkc;cases hkc
  rw[hat q hqn]at hkc
  obtain⟨c,hc⟩:=m.mrefs q v i hkc z hz
  by_cases eq:z=n
  ·subst eq;exact⟨_,hatn⟩
  ·exact⟨c,(hat z eq).trans hc⟩)
 ·rw[hat q hkn]at hkc
  refine⟨hkc,λb hx=>hk b λe=>hkn ?_⟩
  subst e
  exact m.inj q n c _ _ hkc hn hx hg
 ·subst hkn
  rw[hatn]at hkc;simp only[Option.some.injEq]at hkc;subst hkc
  exact hok hNF
 ·subst hkn
  rw[hatn]at hkc;simp only[Option.some.injEq]at hkc;subst hkc
  by_cases e':z=q
  ·exact e'.symm
  ·rw[hat z e']at hq
   exact m.inj q z _ d b hn hq hc hd
 ·have hqn:q≠n:=λe=>by subst e;rw[hatn]at hkc;cases hkc
  rw[hat q hqn]at hkc
  obtain⟨c,hc⟩:=m.refs q t' cs'' hkc v hv z hz
  by_cases eq:z=n
  ·subst eq;exact⟨_,hatn⟩
  ·exact⟨c,(hat z eq).trans hc⟩
theorem zl5{hp:Nat->Option HE}(hhp:∀n c,hp n=some c->st.heap.getD n none=some c){t:TypeId}{x y:Operand}{p:Plc}{u:Value}(m:M w0 β st a w)(hc:holds st.slots cs)(ho:o.op=.store t x y)
  (hp':zi5 (evS st.slots cs x)=some p) (hu:named (evS st.slots cs y)=some u) (h:zk2 P hp t u p=some r) (hK:∀β' u w',Post w0 β st.slots st.heap r u β' w'->K (a.put o.dst u) w'):o.wp P a w K Q:=by
 have hd:=zap m hc x
 cases p with
 |own n off=>
  obtain⟨hx,_⟩:=zz6 hd hp'
  simp only[zk2]at h
  split at h
  ·rename_i ty c k hn0 hk
   split at h
   ·rename_i hall
    simp only[Option.some.injEq]at h;subst h
    exact z9a hhp m hc ho hx hu hn0 hk hall.1 hall.2.1 hall.2.2 hK
   ·cases h
  ·cases h
 |ix n off i len size=>
  obtain⟨⟨hx,h0,h1⟩,_⟩:=z94 hd hp'
  simp only[zk2]at h
  split at h
  ·rename_i ty c k hn0 hk
   have hn:=hhp n _ hn0
   have hok:=m.mem.ok n _ hn
   split at h
   ·rename_i hall
    simp only[Bool.and_eq_true,decide_eq_true_eq]at hall
    obtain⟨⟨⟨hf,hfc⟩,hz,hl,h1c⟩,hfs⟩:=hall
    simp only[Option.some.injEq]at h;subst h
    have hy:a.eval y=u:=by rw[(ze5 m hc hu).1,zdj hf]
    have hc1:=hok.1
    rw[zbi λy hy=>zbn (za4.1 hfc y hy)]at hc1
    have hle:i.toNat<=len-1:=by omega
    have hmul:i.toNat*size<=(len-1)*size:=Nat.mul_le_mul_right _ hle
    obtain⟨w',hr,hb,hrest,hs,g1,g2,g3⟩:=zfu (off:=off+i.toNat*size) hc1 hk hz (by omega) h1c
    have hst:zfo i u.cells.toList off size 0 len c=zb5 c (off+i.toNat*size) u.cells.toList:=by
     rw[zgg len 0 c (λq hq=>?_),if_pos (by omega)]
     have hq':q*size<=(len-1)*size:=Nat.mul_le_mul_right _ (by omega)
     rw[Nat.zero_add,Array.length_toList]
     omega
    rw[←hst]at hb
    refine ziz (w':=w') ?_ (hK β undef w' ⟨λ_ _ _=>rfl,rfl,λk hk=>by simp[names]at hk,m.mem.put hn (λv hv q hq=>?_) (by rw[zbi λy hy=>zbn (za4.1 hfs y hy)];exact hb) hrest hs g1 g2 g3⟩)
    ·simp only[execOp,ho,Instr.storeAt,hy,hx,Instr.sureAddr,Sem.run_bind,Sem.run_pure,Result.andThen_ok,hr]
    ·rw[zb8 (za4.1 hfs v hv)]at hq;cases hq
   ·cases h
  ·cases h
 |hp n j off=>simp only[zk2]at h;cases h
 |ex n j off size i=>
  obtain⟨⟨b,q,len,cap,hs0,hx,h0,h1⟩,_⟩:=z95 hd hp'
  simp only[zk2]at h
  split at h
  ·rename_i ty k f mm ds hn0 hk hds
   split at h
   ·rename_i l hl
    split at h
    ·rename_i hall
     obtain⟨hz,hfl,hoff,h1c⟩:=hall
     simp only[Option.some.injEq]at h;subst h
     have hn:=hhp n _ hn0
     obtain⟨hy,hr⟩:=ze5 m hc hu
     obtain⟨k1,k2,k3⟩:=zjj m.mem.one h1c
     obtain⟨f1,f2,f3,f4⟩:=zer (refs u) m.mem (hp:=setF hp n .gone) (λq c hq=>by
      unfold setF at hq
      cases hb:Nat.beq q n with
      |true=>rw[hb]at hq;simp only[cond_true,Option.some.injEq]at hq;exact .inl hq.symm
      |false=>rw[hb]at hq;exact .inr (hhp q c hq)) hl
     have hne:∀c,(n,c)∉l:=λc hc'=>by
      have:=(f4 n c hc').2.2
      simp[setF,Nat.beq_refl]at this
     have hn1:(zac st.heap l).getD n none=some (.own ty k f):=by rw[zdr l _ hne];exact hn
     obtain⟨size0,xs,s1,s2,s3,s4⟩:=f1.ok n _ hn1
     rcases s3.2 with⟨hv,_⟩|⟨g,cap',cur,hv,hg,hcur,hle,hcap,hsz,htake⟩
     ·rw[hv]at hs0;cases hs0
     ·rw[hv]at hs0
      simp only[Value.slice.injEq,Option.some.injEq,Addr.mk.injEq]at hs0
      obtain⟨⟨rfl,rfl,-⟩,rfl,rfl⟩:=hs0
      have hi:i.toNat<k:=by omega
      have esz:size0=size:=by rw[←(s4 _ hi).1,hfl]
      subst esz
      have hbd:(i.toNat+1)*size0<=k*size0:=Nat.mul_le_mul_right _ hi
      have hbk:k*size0<=cap'*size0:=Nat.mul_le_mul_right _ hle
      rw[Nat.add_mul,Nat.one_mul]at hbd
      have hzr:(ren β u).cells.size=mm:=by
       have:=congrArg List.length k1
       simp only[Array.length_toList,List.length_map]at this
       rw[this,hz]
      have hcur':w.heap[g]? = some (.cells cur.toList.toArray ty (0,0)):=by rw[Array.toArray_toList];exact hcur
      obtain⟨w',hrun,hb,hrest,hs,g1,g2,g3⟩:=zfu (u:=ren β u) (off:=i.toNat*size0+off) hcur' hk hzr (by rw[Array.length_toList,hsz];omega) (by rw[k1];exact k3)
      rw[k1]at hb
      have hvl:(u.cells.toList.map (ren0 β)).length=mm:=by rw[List.length_map,Array.length_toList,hz]
      have hdl:ds.length=mm:=by rw[(zig hds).1,Array.length_toList,hz]
      refine ziz (w':=w') ?_ (hK β undef w' ⟨λ_ _ _=>rfl,rfl,λk hk=>by simp[names]at hk,?_⟩)
      ·rw[show 0+i.toNat*size0+off=i.toNat*size0+off by omega]at hx
       simp only[execOp,ho,Instr.storeAt,hy,hx,Instr.sureAddr,Sem.run_bind,Sem.run_pure,Result.andThen_ok,hrun]
      ·dsimp only
       rw[za3]
       simp only[zac]
       refine f1.setRow hn1 (g:=g) (by rw[hv];rfl) hrest hs g1 g2 g3 (λhNF=>?_)
       refine⟨size0,(zb5 cur.toList (i.toNat*size0+off) (u.cells.toList.map (ren0 β))).take (k*size0),s1,s2,⟨?_,.inr ⟨g,cap',_,hv,hg,hb,hle,hcap,?_,?_⟩⟩,λj hj=>?_⟩
       ·rw[List.length_take,zem,Array.length_toList,hsz];omega
       ·rw[List.size_toArray,zem,Array.length_toList,hsz]
       ·rfl
       ·have hlj:(updF f i.toNat off ds j).length=size0:=by
         unfold updF
         cases Nat.beq j i.toNat with
         |true=>simp only[cond_true];rw[zkb,(s4 j hj).1]
         |false=>exact(s4 j hj).1
        refine⟨hlj,λz hz'=>?_⟩
        have hjk:(j+1)*size0<=k*size0:=Nat.mul_le_mul_right _ hj
        rw[Nat.add_mul,Nat.one_mul]at hjk
        obtain⟨v0,v1,v2⟩:=(s4 j hj).2 z hz'
        have v1':cur.toList[j*size0+z]? = some v0:=by
         rw[←htake,List.getElem?_take]at v1
         split at v1
         ·exact v1
         ·cases v1
        have hget:((zb5 cur.toList (i.toNat*size0+off) (u.cells.toList.map (ren0 β))).take (k*size0))[j*size0+z]? = if i.toNat*size0+off<=j*size0+z/\j*size0+z<i.toNat*size0+off+mm then(u.cells.toList.map (ren0 β))[j*size0+z-(i.toNat*size0+off)]? else some v0:=by
         rw[List.getElem?_take,if_pos (by omega),zq1 _ _ _ _ (by rw[hvl,Array.length_toList,hsz];omega),hvl,v1']
        rw[hget]
        by_cases e:j=i.toNat
        ·subst e
         have hu':updF f i.toNat off ds i.toNat=zgh (f i.toNat) off ds:=by unfold updF;rw[Nat.beq_refl];rfl
         rw[hu',List.getD_eq_getElem?_getD,zpb _ _ _ _ (by rw[hdl,(s4 _ hj).1];exact hoff),hdl]
         by_cases e2:off<=z/\z<off+mm
         ·rw[if_pos (by omega),if_pos e2]
          rw[show i.toNat*size0+z-(i.toNat*size0+off)=z-off by omega]
          have hden:=zj7 (w0:=w0) (β:=β) m.mem (hp:=zi6 hp) (λq c hq=>.inr (hhp q c (zk8 hq))) (.inl λ_ _=>zgy) (F:=NF w0 β (zac st.heap l) w) f2 hds (λc hc' q hq t k f hhe b hbb=>(f3 q (k2 c hc' q hq) _ hhe).2 b hbb)
          obtain⟨d,hd1⟩:∃d,ds[z-off]? = some d:=⟨_,List.getElem?_eq_getElem (by omega)⟩
          obtain⟨v,hv1,hv2⟩:=hden.at_ _ d hd1
          refine⟨v,hv1,?_⟩
          rw[hd1]
          exact hv2.mono hNF
         ·rw[if_neg (by omega),if_neg e2]
          refine⟨v0,rfl,?_⟩
          rw[←List.getD_eq_getElem?_getD]
          exact v2.mono hNF
        ·have hne':¬(i.toNat*size0+off<=j*size0+z/\j*size0+z<i.toNat*size0+off+mm):=by
          rcases Nat.lt_or_gt_of_ne e with lt|lt
          ·have:(j+1)*size0<=i.toNat*size0:=Nat.mul_le_mul_right _ lt
           rw[Nat.add_mul,Nat.one_mul]at this
           omega
          ·have:(i.toNat+1)*size0<=j*size0:=Nat.mul_le_mul_right _ lt
           rw[Nat.add_mul,Nat.one_mul]at this
           omega
         rw[if_neg hne']
         refine⟨v0,rfl,?_⟩
         have hu':updF f i.toNat off ds j=f j:=by
          unfold updF
          cases hb':Nat.beq j i.toNat with
          |true=>exact absurd (Nat.eq_of_beq_eq_true hb') e
          |false=>rfl
         rw[hu']
         exact v2.mono hNF
    ·cases h
   ·cases h
  ·cases h
end
end Go.Proofs.YtmekpbopoknigaaGreatDoor.Dyn

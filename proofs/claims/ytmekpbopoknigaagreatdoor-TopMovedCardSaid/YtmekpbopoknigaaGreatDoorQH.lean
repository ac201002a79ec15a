import Derived.Orders
import Derived.Below
import Derived.Laws.Sem
import Derived.Laws.World
import Derived.Laws.Small
import Derived.Laws.StructEq
import Derived.RegionTactic
import Derived.Laws.Build
import Derived.Laws.Pointers
namespace Go.Proofs.YtmekpbopoknigaaGreatDoor.Sym
open Go Go.RowKit
def zi4{α:Type}(P:Program):Sem α->Option α
 |.pure a=>some a
 |.program k=>zi4 P (k P)
 |.mark _ k=>zi4 P k
 |_=>none
theorem zre{α:Type}{P:Program}:∀(s:Sem α) {a:α},zi4 P s=some a->∀w,s.run P w=.ok a w:=by
 intro s
 induction s with
 |pure b=>intro a h w;simp only[zi4,Option.some.injEq]at h;subst h;rfl
 |program k ih=>intro a h w;exact ih P (by simpa [zi4]using h) w
 |mark m k ih=>intro a h w;exact ih (by simpa [zi4]using h) w
 |_=>intro a h;simp[zi4]at h
def zc1:Nat->Bool->Value->Value->Value
 |0,b,x,y=>bif b then x else y
 |n+1,b,x,y=>
  match x,y with
  |.int k p,.int k' q=>if k=k' then .int k (bif b then p else q)else(bif b then .int k p else .int k' q)
  |.bool p,.bool q=>.bool (bif b then p else q)
  |.string p,.string q=>.string (bif b then p else q)
  |.agg xs,.agg ys=>if xs.size=ys.size then .agg (List.zipWith (zc1 n b) xs.toList ys.toList).toArray else(bif b then .agg xs else .agg ys)
  |.tuple xs,.tuple ys=>if xs.size=ys.size then .tuple (List.zipWith (zc1 n b) xs.toList ys.toList).toArray else(bif b then .tuple xs else .tuple ys)
  |x,y=>bif b then x else y
theorem zhh{α:Type}{f:α->α->α}(h:∀x y,f x y=x):∀(xs ys:List α),xs.length=ys.length->List.zipWith f xs ys=xs
 |[],[],_=>rfl
 |x::xs,y::ys,hl=>by simp only[List.zipWith_cons_cons,h,zhh h xs ys (by simpa using hl)]
 |[],_::_,hl=>by simp at hl
 |_::_,[],hl=>by simp at hl
theorem zgf{α:Type}{f:α->α->α}(h:∀x y,f x y=y):∀(xs ys:List α),xs.length=ys.length->List.zipWith f xs ys=ys
 |[],[],_=>rfl
 |x::xs,y::ys,hl=>by simp only[List.zipWith_cons_cons,h,zgf h xs ys (by simpa using hl)]
 |[],_::_,hl=>by simp at hl
 |_::_,[],hl=>by simp at hl
theorem zcj:∀(n:Nat) (x y:Value),zc1 n true x y=x
 |0,_,_=>rfl
 |n+1,x,y=>by
  have ih:=zcj n
  unfold zc1
  split
  ·rename_i k p k' q;by_cases h:k=k'<;>simp[h]
  ·rfl
  ·rfl
  ·rename_i xs ys;split
   ·rename_i h;rw[zhh ih _ _ (by simpa using h)]
   ·rfl
  ·rename_i xs ys;split
   ·rename_i h;rw[zhh ih _ _ (by simpa using h)]
   ·rfl
  ·rfl
theorem zb3:∀(n:Nat) (x y:Value),zc1 n false x y=y
 |0,_,_=>rfl
 |n+1,x,y=>by
  have ih:=zb3 n
  unfold zc1
  split
  ·rename_i k p k' q;by_cases h:k=k'<;>simp[h]
  ·rfl
  ·rfl
  ·rename_i xs ys;split
   ·rename_i h;rw[zgf ih _ _ (by simpa using h)]
   ·rfl
  ·rename_i xs ys;split
   ·rename_i h;rw[zgf ih _ _ (by simpa using h)]
   ·rfl
  ·rfl
theorem zrn(n:Nat)(b:Bool)(x y:Value):zc1 n b x y=if b then x else y:=by
 cases b
 ·rw[zb3];rfl
 ·rw[zcj];rfl
inductive SV where
 |k (x:Value)
 |v (x:Value)
 |loc (n off:Nat)
 |ix (n off:Nat) (i:Int) (len size:Nat)
 |sl (n len:Nat)
 |g (cs:List (Nat×Bool)) (x:SV)
 |junk
def zbw(l:List SV)(t:Nat):Option Bool:=
 match l[t]? with
 |some (.k (.bool b))=>some b
 |some (.v (.bool b))=>some b
 |some (.g _ (.k (.bool b)))=>some b
 |some (.g _ (.v (.bool b)))=>some b
 |_=>none
def holds(l:List SV)(cs:List (Nat×Bool)):Prop:=∀c∈cs,zbw l c.1=some c.2
def Den(β:Nat->Nat)(l:List SV):SV->Value->Prop
 |.k x,u=>u=x
 |.v x,u=>u=x
 |.loc n off,u=>u=.pointer (some ⟨β n,off,none⟩)
 |.ix n off i len size,u=>u=.pointer (some ⟨β n,off+i.toNat*size,none⟩)/\0<=i/\i<len
 |.sl n len,u=>u=.slice (some ⟨β n,0,none⟩) len len
 |.g cs x,u=>(holds l cs->Den β l x u)/\(¬holds l cs->u=undef)
 |.junk,_=>True
def resolve(cs:List (Nat×Bool)):SV->SV
 |.g cs' x=>if cs'.all (λc=>cs.contains c)then x else .junk
 |s=>s
theorem zm2{β:Nat->Nat}{l:List SV}{cs:List (Nat×Bool)}(hc:holds l cs){s:SV}{u:Value}(h:Den β l s u):Den β l (resolve cs s) u:=by
 cases s with
 |g cs' x=>
  simp only[resolve]
  split
  ·rename_i ha
   refine h.1 λc hcm=>hc c ?_
   have:=List.all_eq_true.1 ha c hcm
   simpa using this
  ·trivial
 |_=>exact h
def evS(l:List SV)(cs:List (Nat×Bool)):Operand->SV
 |.tmp t=>resolve cs (l.getD t .junk)
 |.const v=>.k v
 |.global g=>.k (.pointer (some ⟨g,0,none⟩))
 |.func f=>.k (.func (.func f) #[] #[])
def plain:SV->Option Value
 |.k x=>some x
 |.v x=>some x
 |_=>none
def zdw(s:SV):Value:=(plain s).getD undef
def zge:SV->Bool
 |.k _=>true
 |_=>false
def zdz(ev:Operand->SV):List Operand->Option (List Value)
 |[]=>some []
 |x::xs=>match plain (ev x),zdz ev xs with
  |some v,some vs=>some (v::vs)
  |_,_=>none
abbrev zh2:=TypeId×List Value
structure Res where
 val:SV
 upd:Option (Nat×zh2)
 sides:List Prop
def allP:List Prop->Prop
 |[]=>True
 |p::ps=>p/\allP ps
theorem zbp{l m:List Prop}:allP (l++m)↔allP l/\allP m:=by
 induction l with
 |nil=>simp[allP]
 |cons p l ih=>simp[allP,ih,and_assoc]
def zei(P:Program)(t:TypeId):Option Bool:=
 match P.underlying t with
 |some (.struct _)=>some true
 |some (.array _ _)=>some true
 |some _=>some false
 |none=>none
def zbh(P:Program)(t:TypeId):Option Nat:=(P.info? t).map (·.size)
def zep(P:Program)(t:TypeId)(cs:List Value)(off:Nat):Option Value:=
 match zei P t,zbh P t with
 |some true,some n=>if off+n<=cs.length then some (.agg ((cs.drop off).take n).toArray)else none
 |some false,some _=>cs[off]?
 |_,_=>none
def zb5:List Value->Nat->List Value->List Value
 |cs,_,[]=>cs
 |cs,off,v::vs=>zb5 (cs.set off v) (off+1) vs
def zag:Value->Bool
 |.agg _=>false
 |.tuple _=>false
 |_=>true
def zpe(i:Int):Nat->List Value->Option Value
 |_,[]=>none
 |_,[x]=>some x
 |j,x::y::xs=>match zpe i (j+1) (y::xs)with
  |some r=>some (zc1 3 (decide (i=(j:Int))) x r)
  |none=>none
def zmh(P:Program)(t:TypeId)(cs:List Value)(off size:Nat):Nat->Nat->Option (List Value)
 |_,0=>some []
 |j,n+1=>match zep P t cs (off+j*size),zmh P t cs off size (j+1) n with
  |some v,some vs=>some (v::vs)
  |_,_=>none
def zfo(i:Int)(vs:List Value)(off size:Nat):Nat->Nat->List Value->List Value
 |_,0,cs=>cs
 |j,n+1,cs=>zfo i vs off size (j+1) n (zb5 cs (off+j*size) (List.zipWith (zc1 3 (decide (i=(j:Int)))) vs ((cs.drop (off+j*size)).take vs.length)))
def zjg(P:Program)(s:TypeId)(f:Nat):Option Field:=
 match P.underlying s with
 |some (.struct fs)=>fs[f]?
 |_=>none
def zky(P:Program)(t:TypeId):Option (Nat×TypeId):=
 match P.underlying t with
 |some (.array n e)=>some (n,e)
 |_=>none
def zaw(P:Program)(t:TypeId):Option TypeId:=
 match P.underlying t with
 |some (.slice e)=>some e
 |_=>none
def zgv(P:Program)(t:TypeId)(cs:List Value)(off:Nat):Option Value:=
 match zei P t,zbh P t with
 |some true,some n=>some (.agg ((cs.drop off).take n).toArray)
 |some false,_=>cs[off]?
 |_,_=>none
def eqFs(P:Program)(eq:TypeId->Value->Value->Option Bool)(xs ys:List Value):List Field->Option Bool
 |[]=>some true
 |f::fs=>
  if f.name=="_" then eqFs P eq xs ys fs else
  match zgv P f.type xs f.offset,zgv P f.type ys f.offset with
  |some a,some b=>match eq f.type a b,eqFs P eq xs ys fs with
   |some r,some q=>some (bif r then q else false)
   |_,_=>none
  |_,_=>none
def eqV(P:Program):Nat->TypeId->Value->Value->Option Bool
 |0,_,_,_=>none
 |n+1,t,x,y=>
  match P.underlying t,x,y with
  |some .bool,.bool a,.bool b=>some (a==b)
  |some (.int _),.int k a,.int k' b=>if k=k' then some (a==b)else none
  |some (.struct fs),.agg xs,.agg ys=>if P.stoodInHeld t then none else eqFs P (eqV P n) xs.toList ys.toList fs.toList
  |_,_,_=>none
def eqOf(P:Program)(t:TypeId)(x y:Value):Option Bool:=
 match x,y with
 |.agg _,.agg _=>if P.eqGuardType P.depth t then none else eqV P 6 t x y
 |_,_=>none
def ybw(P:Program)(elem:TypeId)(len:Nat)(parts:List (Nat×Value)):Option (List Value):=
 match zbh P elem,(P.info? elem).bind (·.zero)with
 |some size,some z=>
  if len*size>2 ^ 24 then none else if len*size=0 then none else
  match Instr.fill (λi=>some (i*size,size)) ((Array.range (len*size)).map (z.cells[· % z.cells.size]!)) parts with
  |some cells=>some cells.toList
  |none=>none
 |_,_=>none
def zce(P:Program)(ev:Operand->SV)(o:Oper):Option Res:=
 match zdz ev o.op.operands.toList,o.op with
 |_,.select _ _=>none
 |some _,_=>
  match zi4 P (execOp (λx=>zdw (ev x)) o)with
  |some (.value u)=>some {val:=if o.op.operands.toList.all (λx=>zge (ev x))then .k u else .v u,upd:=none,sides:=[]}
  |_=>none
 |none,_=>none
def zwm(cs:List (Nat×Bool))(c:Operand)(b:Bool):List (Nat×Bool):=
 match c with
 |.tmp t=>cs++[(t,b)]
 |_=>cs
def zme(P:Program)(tb:Nat->List Value->Option (Value×List Prop))(ev:List (Nat×Bool)->Operand->SV)(hp:Nat->Option zh2)(fresh:Nat)(cs:List (Nat×Bool))(o:Oper):Option Res:=
 match o.op with
 |.pick c x y=>
  match ev cs c,c with
  |.k (.bool b),_=>match plain (ev (zwm cs c b) (if b then x else y))with
   |some u=>some {val:=if zge (ev (zwm cs c b) (if b then x else y))then .k u else .v u,upd:=none,sides:=[]}
   |none=>none
  |.v (.bool b),.tmp t=>match plain (ev (cs++[(t,true)]) x),plain (ev (cs++[(t,false)]) y)with
   |some u,some v=>some {val:=.v (zc1 3 b u v),upd:=none,sides:=[]}
   |_,_=>none
  |_,_=>none
 |.move x=>some {val:=ev cs x,upd:=none,sides:=[]}
 |.assign x=>some {val:=ev cs x,upd:=none,sides:=[]}
 |.alloc t=>match (P.info? t).bind (·.zero)with
  |some z=>some {val:=.loc fresh 0,upd:=some (fresh,t,z.cells.toList),sides:=[]}
  |none=>none
 |.box t x=>match plain (ev cs x)with
  |some u=>some {val:=.loc fresh 0,upd:=some (fresh,t,u.cells.toList),sides:=[]}
  |none=>none
 |.load t x=>match ev cs x with
  |.loc n off=>match hp n with
   |some c=>match zep P t c.2 off with
    |some u=>some {val:=.v u,upd:=none,sides:=[]}
    |none=>none
   |none=>none
  |.ix n off i len size=>match hp n with
   |some c=>match zmh P t c.2 off size 0 len with
    |some us=>match zpe i 0 us with
     |some u=>some {val:=.v u,upd:=none,sides:=[]}
     |none=>none
    |none=>none
   |none=>none
  |_=>none
 |.store t x y=>match ev cs x,plain (ev cs y)with
  |.loc n off,some u=>match hp n,zbh P t with
   |some c,some m=>if u.cells.size=m/\off+m<=c.2.length/\u.cells.toList.all zag then some {val:=.k undef,upd:=some (n,c.1,zb5 c.2 off u.cells.toList),sides:=[]}else none
   |_,_=>none
  |.ix n off i len size,some u=>match hp n,zbh P t with
   |some c,some m=>if u.cells.size=m/\off+(len-1)*size+m<=c.2.length/\u.cells.toList.all zag then some {val:=.k undef,upd:=some (n,c.1,zfo i u.cells.toList off size 0 len c.2),sides:=[]}else none
   |_,_=>none
  |_,_=>none
 |.fieldAddr s x f=>match ev cs x,zjg P s f with
  |.loc n off,some fd=>match zbh P fd.type with
   |some (_+1)=>some {val:=.loc n (off+fd.offset),upd:=none,sides:=[]}
   |_=>none
  |.ix n off i len size,some fd=>match zbh P fd.type with
   |some (_+1)=>some {val:=.ix n (off+fd.offset) i len size,upd:=none,sides:=[]}
   |_=>none
  |_,_=>none
 |.indexAddr t x y=>match ev cs x,ev cs y with
  |.loc n off,.k (.int _ i)=>match zky P t with
   |some (len,e)=>match zbh P e with
    |some size=>if 0<=i/\i<len then some {val:=.loc n (off+i.toNat*size),upd:=none,sides:=[]}else none
    |none=>none
   |none=>none
  |.loc n off,.v (.int _ i)=>match zky P t with
   |some (len,e)=>match zbh P e with
    |some size=>some {val:=.ix n off i len size,upd:=none,sides:=[0<=i/\i<len]}
    |none=>none
   |none=>none
  |.sl n len,.k (.int _ i)=>match zaw P t with
   |some e=>match zbh P e with
    |some size=>if 0<=i/\i<len then some {val:=.loc n (i.toNat*size),upd:=none,sides:=[]}else none
    |none=>none
   |none=>none
  |.sl n len,.v (.int _ i)=>match zaw P t with
   |some e=>match zbh P e with
    |some size=>some {val:=.ix n 0 i len size,upd:=none,sides:=[0<=i/\i<len]}
    |none=>none
   |none=>none
  |_,_=>none
 |.buildSlice t len parts=>match zaw P t,zdz (ev cs) (parts.toList.map (·.2))with
  |some e,some _=>match ybw P e len (parts.toList.map λp=>(p.1,zdw (ev cs p.2)))with
   |some cells=>some {val:=.sl fresh len,upd:=some (fresh,e,cells),sides:=[]}
   |none=>none
  |_,_=>none
 |.call {callee:=.value (.func K),args,argTypes:=_}=>match zdz (ev cs) args.toList with
  |some vs=>match tb K vs with
   |some (u,ps)=>some {val:=.v u,upd:=none,sides:=ps}
   |none=>none
  |none=>none
 |.binOp op t x y _=>
  match op,plain (ev cs x),plain (ev cs y),zge (ev cs y)with
  |.quo,some (.int k i),some (.int k' j),false=>if k=k' then some {val:=.v (.int k (k.wrap (i.tdiv j))),upd:=none,sides:=[j≠0]}else none
  |.rem,some (.int k i),some (.int k' j),false=>if k=k' then some {val:=.v (.int k (i.tmod j)),upd:=none,sides:=[j≠0]}else none
  |.eql,some (.agg u),some (.agg v),_=>match eqOf P t (.agg u) (.agg v)with
   |some b=>some {val:=.v (.bool b),upd:=none,sides:=[]}
   |none=>none
  |.neq,some (.agg u),some (.agg v),_=>match eqOf P t (.agg u) (.agg v)with
   |some b=>some {val:=.v (.bool (!b)),upd:=none,sides:=[]}
   |none=>none
  |_,_,_,_=>zce P (ev cs) o
 |_=>zce P (ev cs) o
structure St where
 slots:List SV
 heap:List (Option zh2)
def names:SV->List Nat
 |.loc n _=>[n]
 |.ix n _ _ _ _=>[n]
 |.sl n _=>[n]
 |.g _ x=>names x
 |_=>[]
def za8:SV->List (Nat×Bool)
 |.g cs x=>cs++za8 x
 |_=>[]
structure Mem(w0:World)(β:Nat->Nat)(h:List (Option zh2))(w:World):Prop where
 at_:∀n c,h.getD n none=some c->w.heap[β n]? = some (.cells c.2.toArray c.1 (0,0))/\w0.heap.size<=β n
 inj:∀n m c d,h.getD n none=some c->h.getD m none=some d->β n=β m->n=m
 below:Below w0.heap.size w0 w
structure M(w0:World)(β:Nat->Nat)(st:St)(a:Act)(w:World):Prop where
 defers:a.defers=[]
 size:a.tmps.size=st.slots.length
 slot:∀i u,a.tmps[i]? = some u->Den β st.slots (st.slots.getD i .junk) u
 locs:∀i n,n∈names (st.slots.getD i .junk)->∃c,st.heap.getD n none=some c
 mem:Mem w0 β st.heap w
theorem zmp{l l':List SV}{cs:List (Nat×Bool)}(h:∀c∈cs,zbw l' c.1=zbw l c.1):holds l' cs↔holds l cs:=
 ⟨λk c hc=>(h c hc)▸k c hc,λk c hc=>(h c hc).trans (k c hc)⟩
theorem zbg{β β':Nat->Nat}{l l':List SV}:∀{s:SV} {u:Value},(∀n∈names s,β' n=β n)->(∀c∈za8 s,zbw l' c.1=zbw l c.1)->Den β l s u->Den β' l' s u
 |.k _,_,_,_,h=>h
 |.v _,_,_,_,h=>h
 |.loc n off,u,hn,_,h=>by have e:=hn n (by simp[names]);simp only[Den]at *;rw[e];exact h
 |.ix n off i len size,u,hn,_,h=>by have e:=hn n (by simp[names]);simp only[Den]at *;rw[e];exact h
 |.sl n len,u,hn,_,h=>by have e:=hn n (by simp[names]);simp only[Den]at *;rw[e];exact h
 |.g cs x,u,hn,hc,h=>by
  have e:=zmp (l:=l) (l':=l') (cs:=cs) λc hcm=>hc c (by simp[za8,hcm])
  refine⟨λhh=>zbg hn (λc hcm=>hc c (by simp[za8,hcm])) (h.1 (e.1 hh)),λhh=>h.2 λk=>hh (e.2 k)⟩
 |.junk,_,_,_,_=>trivial
theorem zap{w0 w:World}{β:Nat->Nat}{st:St}{a:Act}{cs:List (Nat×Bool)}(m:M w0 β st a w)(hc:holds st.slots cs)(x:Operand):Den β st.slots (evS st.slots cs x) (a.eval x):=by
 cases x with
 |tmp t=>
  refine zm2 hc ?_
  cases h:a.tmps[t]? with
  |some u=>
   have e:a.eval (.tmp t)=u:=by simp[Act.eval,h]
   rw[e];exact m.slot t u h
  |none=>
   have hs:st.slots.length<=t:=by rw[←m.size];exact Array.getElem?_eq_none_iff.1 h
   have:st.slots.getD t .junk=.junk:=by simp[List.getElem?_eq_none hs]
   rw[this];trivial
 |const v=>rfl
 |global g=>rfl
 |func f=>rfl
theorem zk7{β:Nat->Nat}{l:List SV}{s:SV}{u v:Value}(h:Den β l s u)(hp:plain s=some v):u=v:=by
 cases s<;>simp[plain]at hp<;>subst hp<;>exact h
theorem zi8{cs:List (Nat×Bool)}{s:SV}{n:Nat}(h:n∈names (resolve cs s)):n∈names s:=by
 cases s with
 |g cs' x=>
  simp only[resolve]at h
  split at h
  ·exact h
  ·simp[names]at h
 |_=>exact h
theorem zbt{w0 w:World}{β:Nat->Nat}{st:St}{a:Act}{cs:List (Nat×Bool)}(m:M w0 β st a w){x:Operand}{n:Nat}(h:n∈names (evS st.slots cs x)):∃c,st.heap.getD n none=some c:=by
 cases x with
 |tmp t=>exact m.locs t n (zi8 h)
 |const v=>simp[evS,names]at h
 |global g=>simp[evS,names]at h
 |func f=>simp[evS,names]at h
section
variable{P:Program}{w:World}
theorem zik{t:TypeId}{b:Bool}(h:zei P t=some b):(isAgg t).run P w=.ok b w:=by
 unfold zei at h
 split at h<;>simp at h<;>subst h<;>simp[isAgg,underlying, *]
theorem za5{t:TypeId}{n:Nat}(h:zbh P t=some n):(sizeOf t).run P w=.ok n w:=by
 unfold zbh at h
 cases hi:P.info? t with
 |none=>simp[hi]at h
 |some i=>simp[hi]at h;subst h;simp[sizeOf,typeInfo,hi]
theorem zhd(b off i:Nat):(Addr.mk b off none).add i=⟨b,off+i,none⟩:=by
 unfold Addr.add;split
 ·rename_i h;subst h;rfl
 ·rfl
theorem z09{b:Nat}{cs:List Value}{t:TypeId}(h:w.heap[b]? = some (.cells cs.toArray t (0,0)))(i:Nat):w.cell? ⟨b,i,none⟩=cs[i]?:=by
 simp[World.cell?,h]
theorem znm{b:Nat}{cs:List Value}{t:TypeId}(h:w.heap[b]? = some (.cells cs.toArray t (0,0)))(off:Nat) :
  ∀(n i:Nat) (acc:Array Value),off+i+n<=cs.length->(loadCellsFrom ⟨b,off,none⟩ i n acc).run P w=.ok (acc++((cs.drop (off+i)).take n).toArray) w
 |0,i,acc,_=>by simp[loadCellsFrom]
 |n+1,i,acc,hl=>by
  have hc:w.cell? ⟨b,off+i,none⟩=some (cs[off+i]'(by omega)):=by rw[z09 h];exact List.getElem?_eq_getElem (by omega)
  have ih:=znm h off n (i+1) (acc.push (cs[off+i]'(by omega))) (by omega)
  unfold loadCellsFrom
  simp only[zhd,Sem.run_bind,run_load,hc,Result.andThen_ok,ih]
  congr 1
  apply Array.ext'
  have e:off+(i+1)=off+i+1:=by omega
  have d:cs.drop (off+i)=cs[off+i]'(by omega)::cs.drop (off+i+1):=List.drop_eq_getElem_cons (by omega)
  rw[e]
  simp only[Array.toList_append,Array.toList_push,List.append_assoc,List.singleton_append]
  rw[d,List.take_succ_cons]
theorem zet{b:Nat}{cs:List Value}{t ty:TypeId}{off:Nat}{u:Value}(h:w.heap[b]? = some (.cells cs.toArray ty (0,0)))(hl:zep P t cs off=some u):(loadVar t ⟨b,off,none⟩).run P w=.ok u w:=by
 unfold zep at hl
 split at hl
 ·rename_i n ha hs
  split at hl
  ·rename_i hle
   simp only[Option.some.injEq]at hl;subst hl
   unfold loadVar loadCells
   have:=znm (P:=P) h off n 0 #[] (by omega)
   simp only[Sem.run_bind,zik ha,Result.andThen_ok,if_true,za5 hs,this]
   simp
  ·cases hl
 ·rename_i m ha hs
  unfold loadVar
  have e:w.cell? ⟨b,off,none⟩=some u:=by rw[z09 h];exact hl
  simp only[Sem.run_bind,zik ha,Result.andThen_ok,Bool.false_eq_true,if_false,run_load,e]
 ·cases hl
end
theorem zem:∀(vs cs:List Value) (off:Nat),(zb5 cs off vs).length=cs.length
 |[],cs,off=>rfl
 |v::vs,cs,off=>by simp[zb5,zem vs]
theorem zlr{P:Program}{b t:Nat}{off:Nat}:∀(vs cs:List Value) (i:Nat) (w:World),w.heap[b]? = some (.cells cs.toArray t (0,0))->off+i+vs.length<=cs.length->(vs.all zag=true)->
  ∃w',(storeCells ⟨b,off,none⟩ vs i).run P w=.ok () w'/\w'.heap[b]? = some (.cells (zb5 cs (off+i) vs).toArray t (0,0))/\(∀k,k≠b->w'.heap[k]? = w.heap[k]?)/\w'.heap.size=w.heap.size/\w'.os=w.os/\w'.tape=w.tape/\w'.output=w.output
 |[],cs,i,w,h,_,_=>⟨w,rfl,h,λ_ _=>rfl,rfl,rfl,rfl,rfl⟩
 |v::vs,cs,i,w,h,hl,h1=>by
  have h1':zag v=true/\vs.all zag=true:=by simpa using h1
  have hv:v.oneCell'=true:=by have:=h1'.1;cases v<;>simp_all [zag,Value.oneCell']
  simp only[List.length_cons]at hl
  have hc:w.cell? ⟨b,off+i,none⟩=some (cs[off+i]'(by omega)):=by rw[z09 h];exact List.getElem?_eq_getElem (by omega)
  have hf:w.frozen? ⟨b,off+i,none⟩=false:=by simp[World.frozen?,h]
  have hset:(w.setCell ⟨b,off+i,none⟩ v).heap[b]? = some (.cells (cs.set (off+i) v).toArray t (0,0)):=by
   simp[World.setCell,Array.getElem?_modify,h]
  obtain⟨w',hr,hb,hk,hs,ho,ht,hu⟩:=zlr (P:=P) (off:=off) vs (cs.set (off+i) v) (i+1) (w.setCell ⟨b,off+i,none⟩ v) hset (by simp;omega) h1'.2
  refine⟨w',?_,?_,λk hkb=>?_,?_,ho,ht,hu⟩
  ·unfold storeCells
   simp only[zhd,Sem.run_bind,run_store P _ _ _ _ hv,hc,hf,Bool.false_eq_true,if_false,Result.andThen_ok,hr]
  ·have e:off+(i+1)=off+i+1:=by omega
   rw[hb,e];rfl
  ·rw[hk k hkb];exact Below.heap_setCell _ _ _ _ hkb
  ·rw[hs];simp[World.setCell]
theorem zfu{P:Program}{b ty:Nat}{off m:Nat}{t:TypeId}{u:Value}{cs:List Value}{w:World}(h:w.heap[b]? = some (.cells cs.toArray ty (0,0)))(hs:zbh P t=some m)(hz:u.cells.size=m)(hl:off+m<=cs.length)(h1:u.cells.toList.all zag=true) :
  ∃w',(storeVar t ⟨b,off,none⟩ u).run P w=.ok () w'/\w'.heap[b]? = some (.cells (zb5 cs off u.cells.toList).toArray ty (0,0))/\(∀k,k≠b->w'.heap[k]? = w.heap[k]?)/\w'.heap.size=w.heap.size/\w'.os=w.os/\w'.tape=w.tape/\w'.output=w.output:=by
 obtain⟨w',hr,hb,hrest⟩:=zlr (P:=P) (t:=ty) (off:=off) u.cells.toList cs 0 w h (by simp;omega) h1
 refine⟨w',?_,by simpa using hb,hrest⟩
 unfold storeVar
 simp only[Sem.run_bind,za5 hs,Result.andThen_ok,hz,ne_eq,not_true_eq_false,if_false]
 exact hr
theorem zbe{α:Type}(l:List α)(n m:Nat)(x d:α):(l.set n x).getD m d=if n=m/\n<l.length then x else l.getD m d:=by
 simp only[List.getD_eq_getElem?_getD,List.getElem?_set]
 by_cases h:n=m
 ·subst h
  by_cases h':n<l.length
  ·simp[h']
  ·simp[h']
 ·simp[h]
def zac(h:List (Option zh2)):Option (Nat×zh2)->List (Option zh2)
 |some (n,c)=>h.set n (some c)
 |none=>h
structure Post(w0:World)(β:Nat->Nat)(l:List SV)(h:List (Option zh2))(r:Res)(u:Value)(β':Nat->Nat)(w':World):Prop where
 keep:∀n c,h.getD n none=some c->β' n=β n
 den:Den β' l r.val u
 nm:∀n∈names r.val,∃c,(zac h r.upd).getD n none=some c
 mem:Mem w0 β' (zac h r.upd) w'
def za2(P:Program)(K:Nat)(args:List Value)(v:Value):Prop:=∀w:World,
 match (callFunc K args.toArray).run P w with
 |.ok (.value u) w'=>u=v/\Below w.heap.size w w'
 |.ok (.enter f az) w'=>w'=w/\Calls P f az w (λe w''=>e=.returned v/\Below w.heap.size w w'')
 |_=>False
def TbOk(P:Program)(tb:Nat->List Value->Option (Value×List Prop)):Prop:=∀K args v ps,tb K args=some (v,ps)->allP ps->za2 P K args v
section
variable{P:Program}{w0 w:World}{β:Nat->Nat}{h:List (Option zh2)}
theorem Mem.lt(m:Mem w0 β h w){n:Nat}{c:zh2}(hn:h.getD n none=some c):β n<w.heap.size:=by
 have:=(m.at_ n c hn).1
 rcases Nat.lt_or_ge (β n) w.heap.size with hl|hl
 ·exact hl
 ·rw[Array.getElem?_eq_none hl]at this;cases this
theorem Mem.call(m:Mem w0 β h w){w':World}(hb:Below w.heap.size w w'):Mem w0 β h w' where
 at_ n c hn:=⟨(hb.block _ (m.lt hn)).trans (m.at_ n c hn).1,(m.at_ n c hn).2⟩
 inj:=m.inj
 below:=m.below.trans (hb.mono m.below.size)
def bump(β:Nat->Nat)(n b:Nat):Nat->Nat:=λk=>if k=n then b else β k
theorem Mem.new(m:Mem w0 β h w){n:Nat}(hl:n<h.length)(t:TypeId)(cs:List Value) :
  Mem w0 (bump β n w.heap.size) (h.set n (some (t,cs))) {w with heap:=w.heap.push (.cells cs.toArray t)} where
 at_ k c hk:=by
  rw[zbe]at hk
  unfold bump
  by_cases e:n=k
  ·subst e
   rw[if_pos ⟨rfl,hl⟩]at hk
   simp only[Option.some.injEq]at hk;subst hk
   simp only[if_true]
   exact⟨by simp,m.below.size⟩
  ·rw[if_neg (λx=>e x.1)]at hk
   rw[if_neg (λx=>e x.symm)]
   have:=m.lt hk
   exact⟨by rw[←(m.at_ k c hk).1];simp[Array.getElem?_push,Nat.ne_of_lt this],(m.at_ k c hk).2⟩
 inj k l c d hk hd hb:=by
  rw[zbe]at hk hd
  unfold bump at hb
  by_cases e:n=k<;>by_cases e':n=l
  ·exact e.symm.trans e'
  ·subst e
   rw[if_neg (λx=>e' x.1)]at hd
   rw[if_pos rfl,if_neg (λx=>e' x.symm)]at hb
   have:=m.lt hd
   omega
  ·subst e'
   rw[if_neg (λx=>e x.1)]at hk
   rw[if_neg (λx=>e x.symm),if_pos rfl]at hb
   have:=m.lt hk
   omega
  ·rw[if_neg (λx=>e x.1)]at hk
   rw[if_neg (λx=>e' x.1)]at hd
   rw[if_neg (λx=>e x.symm),if_neg (λx=>e' x.symm)]at hb
   exact m.inj k l c d hk hd hb
 below:=m.below.trans ⟨rfl,rfl,rfl,by simp,λk hk=>by
  have h0:k<w.heap.size:=Nat.lt_of_lt_of_le hk m.below.size
  simp[Array.getElem?_push,Nat.ne_of_lt h0]⟩
theorem Mem.put(m:Mem w0 β h w){n:Nat}{c:zh2}(hn:h.getD n none=some c){cs:List Value}{w':World}(hb:w'.heap[β n]? = some (.cells cs.toArray c.1 (0,0)))
  (hk:∀k,k≠β n->w'.heap[k]? = w.heap[k]?) (hs:w'.heap.size=w.heap.size) (ho:w'.os=w.os) (ht:w'.tape=w.tape) (hu:w'.output=w.output):Mem w0 β (h.set n (some (c.1,cs))) w' where
 at_ k d hd:=by
  rw[zbe]at hd
  by_cases e:n=k
  ·subst e
   by_cases hl:n<h.length
   ·rw[if_pos ⟨rfl,hl⟩]at hd
    simp only[Option.some.injEq]at hd;subst hd
    exact⟨hb,(m.at_ n c hn).2⟩
   ·have:h.getD n none=none:=by simp[List.getElem?_eq_none (Nat.le_of_not_lt hl)]
    rw[this]at hn;cases hn
  ·rw[if_neg (λx=>e x.1)]at hd
   have hne:β k≠β n:=λhb=>e (m.inj k n d c hd hn hb).symm
   exact⟨(hk _ hne).trans (m.at_ k d hd).1,(m.at_ k d hd).2⟩
 inj k l d d' hd hd':=by
  rw[zbe]at hd hd'
  have key:∀j x,(if n=j/\n<h.length then some (c.1,cs)else h.getD j none)=some x->∃y,h.getD j none=some y:=by
   intro j x hx
   by_cases e:n=j
   ·subst e;exact⟨c,hn⟩
   ·rw[if_neg (λz=>e z.1)]at hx;exact⟨x,hx⟩
  obtain⟨y,hy⟩:=key k d hd
  obtain⟨y',hy'⟩:=key l d' hd'
  exact m.inj k l y y' hy hy'
 below:=m.below.trans ⟨ho,ht,hu,by omega,λk hk'=>hk k (by have:=(m.at_ n c hn).2;omega)⟩
end
theorem zdk{ev:Operand->SV}:∀{xs:List Operand} {vs:List Value},zdz ev xs=some vs->vs=xs.map (λx=>zdw (ev x))/\∀x∈xs,plain (ev x)=some (zdw (ev x))
 |[],vs,h=>by simp only[zdz,Option.some.injEq]at h;subst h;exact⟨rfl,λ_ hx=>(by cases hx)⟩
 |x::xs,vs,h=>by
  simp only[zdz]at h
  split at h
  ·rename_i v vs' hv hvs
   simp only[Option.some.injEq]at h;subst h
   obtain⟨h1,h2⟩:=zdk hvs
   have e:zdw (ev x)=v:=by simp[zdw,hv]
   refine⟨by rw[List.map_cons,e,h1],λy hy=>?_⟩
   rcases List.mem_cons.1 hy with rfl|hy
   ·rw[hv,e]
   ·exact h2 y hy
  ·cases h
section
variable{P:Program}{w0 w:World}{β:Nat->Nat}{st:St}{a:Act}{cs:List (Nat×Bool)}{o:Oper}{r:Res}{K:Act->World->Prop}{Q:Exit->Act->World->Prop}
theorem zaj(m:M w0 β st a w)(hc:holds st.slots cs){x:Operand}{v:Value}(h:plain (evS st.slots cs x)=some v):a.eval x=v:=zk7 (zap m hc x) h
theorem Post.same(m:M w0 β st a w){r:Res}{u:Value}(hu:r.upd=none)(hd:Den β st.slots r.val u)(hn:∀n∈names r.val,∃c,st.heap.getD n none=some c):Post w0 β st.slots st.heap r u β w:=
 ⟨λ_ _ _=>rfl,hd,by rw[hu];exact hn,by rw[hu];exact m.mem⟩
theorem zaf{u:Value}{w':World}(hr:(execOp a.eval o).run P w=.ok (.value u) w')(hk:K (a.put o.dst u) w'):o.wp P a w K Q:=by
 unfold Oper.wp;rw[hr];exact hk
theorem ziz{w':World}(hr:(execOp a.eval o).run P w=.ok .skip w')(hk:K (a.put o.dst undef) w'):o.wp P a w K Q:=by
 unfold Oper.wp;rw[hr];exact hk
theorem zcd(m:M w0 β st a w)(hc:holds st.slots cs)(h:zce P (evS st.slots cs) o=some r)(hK:∀β' u w',Post w0 β st.slots st.heap r u β' w'->K (a.put o.dst u) w'):o.wp P a w K Q:=by
 unfold zce at h
 split at h
 ·cases h
 ·rename_i vs _ hvs hsel
  split at h
  ·rename_i u hu
   simp only[Option.some.injEq]at h;subst h
   have hev:execOp a.eval o=execOp (λx=>zdw (evS st.slots cs x)) o:=execOp_congr o hsel λx hx=>by
    have:=(zdk hvs).2 x (Array.mem_toList_iff.2 hx)
    exact zaj m hc this
   have hrun:=zre _ hu w
   rw[←hev]at hrun
   refine zaf hrun (hK β u w (Post.same m rfl ?_ ?_))
   ·dsimp only;split<;>rfl
   ·intro n hn;dsimp only at hn;split at hn<;>simp[names]at hn
  ·cases h
 ·cases h
end
section
variable{P:Program}{w0 w:World}{β:Nat->Nat}{st:St}{a:Act}{cs:List (Nat×Bool)}{o:Oper}{r:Res}{K:Act->World->Prop}{Q:Exit->Act->World->Prop}
theorem zrf{i:Int}:∀(vs:List Value) (j:Nat) {u:Value},zpe i j vs=some u->(j:Int)<=i->i<j+vs.length->vs[i.toNat-j]? = some u
 |[],j,u,h,_,_=>by simp[zpe]at h
 |[x],j,u,h,h0,h1=>by
  simp only[zpe,Option.some.injEq]at h;subst h
  simp only[List.length_cons,List.length_nil]at h1
  have:i.toNat-j=0:=by omega
  simp[this]
 |x::y::xs,j,u,h,h0,h1=>by
  simp only[zpe]at h
  split at h
  ·rename_i r hr
   simp only[Option.some.injEq]at h;subst h
   rw[zrn]
   by_cases e:i=(j:Int)
   ·simp[e]
   ·have ih:=zrf (i:=i) (y::xs) (j+1) hr (by omega) (by simp only[List.length_cons]at h1 ⊢;omega)
    have e2:i.toNat-j=(i.toNat-(j+1))+1:=by omega
    rw[e2,List.getElem?_cons_succ,ih]
    simp[e]
  ·cases h
theorem zoo{t:TypeId}{c:List Value}{off size:Nat}:∀(n j:Nat) {us:List Value},zmh P t c off size j n=some us->us.length=n/\∀k u,us[k]? = some u->zep P t c (off+(j+k)*size)=some u
 |0,j,us,h=>by simp only[zmh,Option.some.injEq]at h;subst h;exact⟨rfl,λk u hk=>by simp at hk⟩
 |n+1,j,us,h=>by
  simp only[zmh]at h
  split at h
  ·rename_i v vs hv hvs
   simp only[Option.some.injEq]at h;subst h
   obtain⟨hl,hk⟩:=zoo n (j+1) hvs
   refine⟨by simp[hl],λk u hu=>?_⟩
   cases k with
   |zero=>simp at hu;subst hu;simpa using hv
   |succ k=>
    have:=hk k u (by simpa using hu)
    rw[show j+(k+1)=j+1+k by omega];exact this
  ·cases h
theorem zlb{t:TypeId}{x:Operand}{ad:Addr}{u:Value}(ho:o.op=.load t x)(hx:a.eval x=.pointer (some ad))(hl:(loadVar t ad).run P w=.ok u w):(execOp a.eval o).run P w=.ok (.value u) w:=by
 simp only[execOp,ho,Instr.loadAt,hx,Instr.sureAddr,Sem.run_bind,Sem.run_pure,Result.andThen_ok,hl]
theorem zol{hp:Nat->Option zh2}(hhp:∀n c,hp n=some c->st.heap.getD n none=some c){t:TypeId}{x:Operand}(m:M w0 β st a w)(hc:holds st.slots cs)(ho:o.op=.load t x)
  (h:(match evS st.slots cs x with
  |.loc n off=>match hp n with
   |some c=>match zep P t c.2 off with
    |some u=>some ({val:=.v u,upd:=none,sides:=[]}:Res)
    |none=>none
   |none=>none
  |.ix n off i len size=>match hp n with
   |some c=>match zmh P t c.2 off size 0 len with
    |some us=>match zpe i 0 us with
     |some u=>some {val:=.v u,upd:=none,sides:=[]}
     |none=>none
    |none=>none
   |none=>none
  |_=>none)=some r) (hK:∀β' u w',Post w0 β st.slots st.heap r u β' w'->K (a.put o.dst u) w'):o.wp P a w K Q:=by
 have hd:=zap m hc x
 split at h
 ·rename_i n off hev
  rw[hev]at hd
  split at h
  ·rename_i c hn0
   have hn:=hhp n c hn0
   split at h
   ·rename_i u hu
    simp only[Option.some.injEq]at h;subst h
    exact zaf (zlb ho hd (zet (m.mem.at_ n c hn).1 hu)) (hK β u w (Post.same m rfl rfl (λk hk=>by simp[names]at hk)))
   ·cases h
  ·cases h
 ·rename_i n off i len size hev
  rw[hev]at hd
  split at h
  ·rename_i c hn0
   have hn:=hhp n c hn0
   split at h
   ·rename_i us hus
    split at h
    ·rename_i u hu
     simp only[Option.some.injEq]at h;subst h
     obtain⟨hd1,h0,h1⟩:=hd
     obtain⟨hl,hk⟩:=zoo len 0 hus
     have hp:=zrf us 0 hu (by simpa using h0) (by rw[hl];simpa using h1)
     have:=hk _ u hp
     simp only[Nat.sub_zero,Nat.zero_add]at this
     exact zaf (zlb ho hd1 (zet (m.mem.at_ n c hn).1 this)) (hK β u w (Post.same m rfl rfl (λk hk=>by simp[names]at hk)))
    ·cases h
   ·cases h
  ·cases h
 ·cases h
theorem zpa:∀(n off:Nat) (cs:List Value),off+n<=cs.length->zb5 cs off ((cs.drop off).take n)=cs
 |0,off,cs,_=>by simp[zb5]
 |n+1,off,cs,h=>by
  have e:cs.drop off=cs[off]'(by omega)::cs.drop (off+1):=List.drop_eq_getElem_cons (by omega)
  rw[e,List.take_succ_cons]
  simp only[zb5,List.set_getElem_self]
  exact zpa n (off+1) cs (by omega)
theorem zgg{i:Int}{vs:List Value}{off size:Nat}:∀(n j:Nat) (cs:List Value),(∀k,k<n->off+(j+k)*size+vs.length<=cs.length)->
  zfo i vs off size j n cs=if(j:Int)<=i/\i<j+n then zb5 cs (off+i.toNat*size) vs else cs
 |0,j,cs,_=>by
  simp only[zfo]
  rw[if_neg (by omega)]
 |n+1,j,cs,h=>by
  have h0:=h 0 (by omega)
  simp only[Nat.add_zero]at h0
  have hlen:((cs.drop (off+j*size)).take vs.length).length=vs.length:=by simp;omega
  simp only[zfo]
  by_cases e:i=(j:Int)
  ·have hz:List.zipWith (zc1 3 (decide (i=(j:Int)))) vs ((cs.drop (off+j*size)).take vs.length)=vs:=by
    rw[decide_eq_true e];exact zhh (zcj 3) _ _ hlen.symm
   rw[hz,zgg n (j+1) _ (λk hk=>by rw[zem];have:=h (k+1) (by omega);rw[show j+1+k=j+(k+1)by omega];exact this)]
   rw[if_neg (by omega),if_pos (by omega)]
   have:i.toNat=j:=by omega
   rw[this]
  ·have hz:List.zipWith (zc1 3 (decide (i=(j:Int)))) vs ((cs.drop (off+j*size)).take vs.length)=(cs.drop (off+j*size)).take vs.length:=by
    rw[decide_eq_false e];exact zgf (zb3 3) _ _ hlen.symm
   rw[hz,zpa _ _ _ (by omega),zgg n (j+1) cs (λk hk=>by have:=h (k+1) (by omega);rw[show j+1+k=j+(k+1)by omega];exact this)]
   by_cases hq:(j:Int)<=i/\i<j+(n+1:Nat)
   ·rw[if_pos hq,if_pos (by omega)]
   ·rw[if_neg hq,if_neg (by omega)]
theorem zl5{hp:Nat->Option zh2}(hhp:∀n c,hp n=some c->st.heap.getD n none=some c){t:TypeId}{x y:Operand}(m:M w0 β st a w)(hc:holds st.slots cs)(ho:o.op=.store t x y)
  (h:(match evS st.slots cs x,plain (evS st.slots cs y)with
  |.loc n off,some u=>match hp n,zbh P t with
   |some c,some m=>if u.cells.size=m/\off+m<=c.2.length/\u.cells.toList.all zag then some ({val:=.k undef,upd:=some (n,c.1,zb5 c.2 off u.cells.toList),sides:=[]}:Res)else none
   |_,_=>none
  |.ix n off i len size,some u=>match hp n,zbh P t with
   |some c,some m=>if u.cells.size=m/\off+(len-1)*size+m<=c.2.length/\u.cells.toList.all zag then some {val:=.k undef,upd:=some (n,c.1,zfo i u.cells.toList off size 0 len c.2),sides:=[]}else none
   |_,_=>none
  |_,_=>none)=some r) (hK:∀β' u w',Post w0 β st.slots st.heap r u β' w'->K (a.put o.dst u) w'):o.wp P a w K Q:=by
 have hd:=zap m hc x
 split at h
 ·rename_i n off u hev hu
  rw[hev]at hd
  have hy:=zaj m hc hu
  split at h
  ·rename_i c k hn0 hk
   have hn:=hhp n c hn0
   split at h
   ·rename_i hall
    simp only[Option.some.injEq]at h;subst h
    obtain⟨w',hr,hb,hrest,hs,h1,h2,h3⟩:=zfu (m.mem.at_ n c hn).1 hk hall.1 hall.2.1 hall.2.2
    refine ziz (w':=w') ?_ (hK β undef w' ⟨λ_ _ _=>rfl,rfl,λk hk=>by simp[names]at hk,m.mem.put hn hb hrest hs h1 h2 h3⟩)
    simp only[execOp,ho,Instr.storeAt,hy,(show a.eval x=_ from hd),Instr.sureAddr,Sem.run_bind,Sem.run_pure,Result.andThen_ok,hr]
   ·cases h
  ·cases h
 ·rename_i n off i len size u hev hu
  rw[hev]at hd
  have hy:=zaj m hc hu
  split at h
  ·rename_i c k hn0 hk
   have hn:=hhp n c hn0
   split at h
   ·rename_i hall
    simp only[Option.some.injEq]at h;subst h
    obtain⟨hd1,hi0,hi1⟩:=hd
    have hle:i.toNat<=len-1:=by omega
    have hmul:i.toNat*size<=(len-1)*size:=Nat.mul_le_mul_right _ hle
    obtain⟨w',hr,hb,hrest,hs,h1,h2,h3⟩:=zfu (off:=off+i.toNat*size) (m.mem.at_ n c hn).1 hk hall.1 (by have:=hall.2.1;omega) hall.2.2
    have hst:zfo i u.cells.toList off size 0 len c.2=zb5 c.2 (off+i.toNat*size) u.cells.toList:=by
     rw[zgg len 0 c.2 (λq hq=>?_),if_pos (by omega)]
     have hq':q*size<=(len-1)*size:=Nat.mul_le_mul_right _ (by omega)
     have hz:=hall.1
     rw[Nat.zero_add,Array.length_toList]
     have:=hall.2.1
     omega
    refine ziz (w':=w') ?_ (hK β undef w' ⟨λ_ _ _=>rfl,rfl,λk hk=>by simp[names]at hk,by dsimp only[zac];rw[hst];exact m.mem.put hn hb hrest hs h1 h2 h3⟩)
    simp only[execOp,ho,Instr.storeAt,hy,hd1,Instr.sureAddr,Sem.run_bind,Sem.run_pure,Result.andThen_ok,hr]
   ·cases h
  ·cases h
 ·cases h
theorem ze8{t:TypeId}{z:Value}(h:(P.info? t).bind (·.zero)=some z):(zeroValue t).run P w=.ok z w:=by
 cases hi:P.info? t with
 |none=>simp[hi]at h
 |some i=>
  simp only[hi,Option.bind_some]at h
  simp[zeroValue,typeInfo,hi,h]
theorem zi7(m:M w0 β st a w){fresh:Nat}(hf:fresh<st.heap.length)(hn:st.heap.getD fresh none=none)(t:TypeId)(cells:List Value){sv:SV}{u:Value}{sides:List Prop}
  (hd:∀β',β' fresh=w.heap.size->Den β' st.slots sv u) (hs:names sv=[fresh]) :
  Post w0 β st.slots st.heap {val:=sv,upd:=some (fresh,t,cells),sides} u (bump β fresh w.heap.size) {w with heap:=w.heap.push (.cells cells.toArray t)} where
 keep n c hc:=by
  unfold bump
  split
  ·rename_i e;subst e;rw[hn]at hc;cases hc
  ·rfl
 den:=hd _ (by simp[bump])
 nm n hn':=by
  simp only[hs,List.mem_singleton]at hn';subst hn'
  exact⟨(t,cells),by simp only[zac];rw[zbe,if_pos ⟨rfl,hf⟩]⟩
 mem:=m.mem.new hf t cells
theorem zm1{t:TypeId}{fresh:Nat}(m:M w0 β st a w)(hf:fresh<st.heap.length)(hn:st.heap.getD fresh none=none)(ho:o.op=.alloc t)
  (h:(match (P.info? t).bind (·.zero)with
  |some z=>some ({val:=.loc fresh 0,upd:=some (fresh,t,z.cells.toList),sides:=[]}:Res)
  |none=>none)=some r) (hK:∀β' u w',Post w0 β st.slots st.heap r u β' w'->K (a.put o.dst u) w'):o.wp P a w K Q:=by
 split at h
 ·rename_i z hz
  simp only[Option.some.injEq]at h;subst h
  refine zaf (u:=.pointer (some ⟨w.heap.size,0,none⟩)) ?_ (hK _ _ _ (zi7 m hf hn t z.cells.toList (sv:=.loc fresh 0) (λβ' hb=>by simp[Den,hb]) rfl))
  simp only[execOp,ho,Instr.alloc,Sem.run_bind,ze8 hz,Result.andThen_ok,newVar,newRow,run_newObj,Sem.run_pure,Array.toArray_toList]
 ·cases h
theorem zsi{t:TypeId}{x:Operand}{fresh:Nat}(m:M w0 β st a w)(hc:holds st.slots cs)(hf:fresh<st.heap.length)(hn:st.heap.getD fresh none=none)(ho:o.op=.box t x)
  (h:(match plain (evS st.slots cs x)with
  |some u=>some ({val:=.loc fresh 0,upd:=some (fresh,t,u.cells.toList),sides:=[]}:Res)
  |none=>none)=some r) (hK:∀β' u w',Post w0 β st.slots st.heap r u β' w'->K (a.put o.dst u) w'):o.wp P a w K Q:=by
 split at h
 ·rename_i u hu
  simp only[Option.some.injEq]at h;subst h
  have hx:=zaj m hc hu
  refine zaf (u:=.pointer (some ⟨w.heap.size,0,none⟩)) ?_ (hK _ _ _ (zi7 m hf hn t u.cells.toList (sv:=.loc fresh 0) (λβ' hb=>by simp[Den,hb]) rfl))
  simp only[execOp,ho,hx,Instr.box,Sem.run_bind,Result.andThen_ok,newVar,newRow,run_newObj,Sem.run_pure,Array.toArray_toList]
 ·cases h
theorem zkw{l:List SV}{cs:List (Nat×Bool)}{t:Nat}{b:Bool}(h:evS l cs (.tmp t)=.k (.bool b)\/evS l cs (.tmp t)=.v (.bool b)):zbw l t=some b:=by
 simp only[evS]at h
 unfold zbw
 rw[List.getD_eq_getElem?_getD]at h
 cases hs:l[t]? with
 |none=>simp[hs,resolve]at h
 |some s=>
  simp only[hs,Option.getD_some]at h
  cases s with
  |g cs' z=>
   simp only[resolve]at h
   split at h
   ·rcases h with h|h<;>(subst h;rfl)
   ·rcases h with h|h<;>cases h
  |_=>simp only[resolve]at h<;>rcases h with h|h<;>first|(cases h;rfl)|cases h
theorem zmo{l:List SV}{cs:List (Nat×Bool)}{c:Operand}{b:Bool}(hc:holds l cs)(h:evS l cs c=.k (.bool b)\/evS l cs c=.v (.bool b)):holds l (zwm cs c b):=by
 cases c with
 |tmp t=>
  have hb:=zkw h
  intro z hz
  rcases List.mem_append.1 hz with hz|hz
  ·exact hc z hz
  ·simp only[List.mem_singleton]at hz;subst hz;exact hb
 |_=>exact hc
theorem zoc{c x y:Operand}(m:M w0 β st a w)(hc:holds st.slots cs)
  (h:(match evS st.slots cs c,c with
  |.k (.bool b),_=>match plain (evS st.slots (zwm cs c b) (if b then x else y))with
   |some u=>some ({val:=if zge (evS st.slots (zwm cs c b) (if b then x else y))then .k u else .v u,upd:=none,sides:=[]}:Res)
   |none=>none
  |.v (.bool b),.tmp t=>match plain (evS st.slots (cs++[(t,true)]) x),plain (evS st.slots (cs++[(t,false)]) y)with
   |some u,some v=>some {val:=.v (zc1 3 b u v),upd:=none,sides:=[]}
   |_,_=>none
  |_,_=>none)=some r) (ho:o.op=.pick c x y) (hK:∀β' u w',Post w0 β st.slots st.heap r u β' w'->K (a.put o.dst u) w'):o.wp P a w K Q:=by
 have hd:=zap m hc c
 have hrun:∀b,a.eval c=.bool b->(execOp a.eval o).run P w=.ok (.value (if b then a.eval x else a.eval y)) w:=λb hb=>by
  simp only[execOp,ho,hb,asBool,Sem.run_bind,Sem.run_pure,Result.andThen_ok]
 split at h
 ·rename_i b hev
  rw[hev]at hd
  split at h
  ·rename_i u hu
   simp only[Option.some.injEq]at h;subst h
   have hx:=zaj m (zmo hc (.inl hev)) hu
   refine zaf (u:=u) ?_ (hK β u w (Post.same m rfl ?_ ?_))
   ·rw[hrun b hd];cases b
    ·exact congrArg (λz=>Result.ok (Next.value z) w) hx
    ·exact congrArg (λz=>Result.ok (Next.value z) w) hx
   ·dsimp only;generalize zge _=q;cases q<;>rfl
   ·intro n hn;revert hn;dsimp only;generalize zge _=q;cases q<;>simp[names]
  ·cases h
 ·rename_i b t hev
  have hev':=hev
  rw[hev]at hd
  split at h
  ·rename_i u v hu hv
   simp only[Option.some.injEq]at h;subst h
   have hb:zbw st.slots t=some b:=zkw (.inr hev')
   have hcc:∀q,zbw st.slots t=some q->holds st.slots (cs++[(t,q)]):=λq hq z hz=>by
    rcases List.mem_append.1 hz with hz|hz
    ·exact hc z hz
    ·simp only[List.mem_singleton]at hz;subst hz;exact hq
   refine zaf (u:=zc1 3 b u v) ?_ (hK β _ w (Post.same m rfl rfl (λk hk=>by simp[names]at hk)))
   rw[hrun b hd,zrn]
   cases b
   ·rw[if_neg (by simp),if_neg (by simp),zaj m (hcc false hb) hv]
   ·rw[if_pos rfl,if_pos rfl,zaj m (hcc true hb) hu]
  ·cases h
 ·cases h
theorem zio{s f:Nat}{x:Operand}{b off:Nat}{fd:Field}{k:Nat}(ho:o.op=.fieldAddr s x f)(hx:a.eval x=.pointer (some ⟨b,off,none⟩))(hf:zjg P s f=some fd)(hk:zbh P fd.type=some (k+1)) :
  (execOp a.eval o).run P w=.ok (.value (.pointer (some ⟨b,off+fd.offset,none⟩))) w:=by
 unfold zjg at hf
 split at hf
 ·rename_i fs hs
  simp only[execOp,ho,Instr.fieldAt,Sem.run_bind,underlying,run_program,hs,hf,hx,Instr.sureAddr,fieldPlace,za5 hk,Sem.run_pure,Result.andThen_ok,Nat.add_one_ne_zero,if_false,zhd]
 ·cases hf
theorem zms{s f:Nat}{x:Operand}(m:M w0 β st a w)(hc:holds st.slots cs)
  (h:(match evS st.slots cs x,zjg P s f with
  |.loc n off,some fd=>match zbh P fd.type with
   |some (_+1)=>some ({val:=.loc n (off+fd.offset),upd:=none,sides:=[]}:Res)
   |_=>none
  |.ix n off i len size,some fd=>match zbh P fd.type with
   |some (_+1)=>some {val:=.ix n (off+fd.offset) i len size,upd:=none,sides:=[]}
   |_=>none
  |_,_=>none)=some r) (ho:o.op=.fieldAddr s x f) (hK:∀β' u w',Post w0 β st.slots st.heap r u β' w'->K (a.put o.dst u) w'):o.wp P a w K Q:=by
 have hd:=zap m hc x
 have hn:=λn=>zbt (cs:=cs) m (x:=x) (n:=n)
 split at h
 ·rename_i n off fd hev hfd
  rw[hev]at hd hn
  split at h
  ·rename_i k hk
   simp only[Option.some.injEq]at h;subst h
   exact zaf (zio ho hd hfd hk) (hK β _ w (Post.same m rfl rfl (λq hq=>hn q hq)))
  ·cases h
 ·rename_i n off i len size fd hev hfd
  rw[hev]at hd hn
  split at h
  ·rename_i k hk
   simp only[Option.some.injEq]at h;subst h
   exact zaf (zio ho hd.1 hfd hk) (hK β _ w (Post.same m rfl ⟨by rw[show off+fd.offset+i.toNat*size=off+i.toNat*size+fd.offset by omega],hd.2⟩ (λq hq=>hn q hq)))
  ·cases h
 ·cases h
theorem znr{t:Nat}{x y:Operand}{b off len size e:Nat}{ki:IntKind}{i:Int}(ho:o.op=.indexAddr t x y)(hx:a.eval x=.pointer (some ⟨b,off,none⟩))(hy:a.eval y=.int ki i)
  (ha:zky P t=some (len,e)) (hs:zbh P e=some size) (h0:0<=i) (h1:i<len):(execOp a.eval o).run P w=.ok (.value (.pointer (some ⟨b,off+i.toNat*size,none⟩))) w:=by
 unfold zky at ha
 split at ha
 ·rename_i n e' hu
  simp only[Option.some.injEq,Prod.mk.injEq]at ha
  obtain⟨rfl,rfl⟩:=ha
  simp only[execOp,ho,Instr.indexAt,Sem.run_bind,hy,asIntOf,underlying,run_program,hu,hx,Instr.sureAddr,Sem.run_pure,Result.andThen_ok,h0,h1,and_self,if_true,za5 hs,zhd]
 ·cases ha
theorem zt5{t:Nat}{x y:Operand}{b len cap size e:Nat}{ki:IntKind}{i:Int}(ho:o.op=.indexAddr t x y)(hx:a.eval x=.slice (some ⟨b,0,none⟩) len cap)(hy:a.eval y=.int ki i)
  (ha:zaw P t=some e) (hs:zbh P e=some size) (h0:0<=i) (h1:i<len):(execOp a.eval o).run P w=.ok (.value (.pointer (some ⟨b,i.toNat*size,none⟩))) w:=by
 unfold zaw at ha
 split at ha
 ·rename_i e' hu
  simp only[Option.some.injEq]at ha
  subst ha
  simp only[execOp,ho,Instr.indexAt,Sem.run_bind,hy,asIntOf,underlying,run_program,hu,hx,Sem.run_pure,Result.andThen_ok,h0,h1,and_self,if_true,za5 hs,zhd,Nat.zero_add]
 ·cases ha
theorem zmn{t:Nat}{x y:Operand}(m:M w0 β st a w)(hc:holds st.slots cs)
  (h:(match evS st.slots cs x,evS st.slots cs y with
  |.loc n off,.k (.int _ i)=>match zky P t with
   |some (len,e)=>match zbh P e with
    |some size=>if 0<=i/\i<len then some ({val:=.loc n (off+i.toNat*size),upd:=none,sides:=[]}:Res)else none
    |none=>none
   |none=>none
  |.loc n off,.v (.int _ i)=>match zky P t with
   |some (len,e)=>match zbh P e with
    |some size=>some {val:=.ix n off i len size,upd:=none,sides:=[0<=i/\i<len]}
    |none=>none
   |none=>none
  |.sl n len,.k (.int _ i)=>match zaw P t with
   |some e=>match zbh P e with
    |some size=>if 0<=i/\i<len then some {val:=.loc n (i.toNat*size),upd:=none,sides:=[]}else none
    |none=>none
   |none=>none
  |.sl n len,.v (.int _ i)=>match zaw P t with
   |some e=>match zbh P e with
    |some size=>some {val:=.ix n 0 i len size,upd:=none,sides:=[0<=i/\i<len]}
    |none=>none
   |none=>none
  |_,_=>none)=some r) (hs:allP r.sides) (ho:o.op=.indexAddr t x y) (hK:∀β' u w',Post w0 β st.slots st.heap r u β' w'->K (a.put o.dst u) w'):o.wp P a w K Q:=by
 have hd:=zap m hc x
 have hy:=zap m hc y
 have hn:=λn=>zbt (cs:=cs) m (x:=x) (n:=n)
 split at h
 ·rename_i n off ki i hev hevy
  rw[hev]at hd hn
  rw[hevy]at hy
  split at h
  ·rename_i len e ha
   split at h
   ·rename_i size hsz
    split at h
    ·rename_i hi
     simp only[Option.some.injEq]at h;subst h
     exact zaf (znr ho hd hy ha hsz hi.1 hi.2) (hK β _ w (Post.same m rfl rfl (λq hq=>hn q hq)))
    ·cases h
   ·cases h
  ·cases h
 ·rename_i n off ki i hev hevy
  rw[hev]at hd hn
  rw[hevy]at hy
  split at h
  ·rename_i len e ha
   split at h
   ·rename_i size hsz
    simp only[Option.some.injEq]at h;subst h
    exact zaf (znr ho hd hy ha hsz hs.1.1 hs.1.2) (hK β _ w (Post.same m rfl ⟨rfl,hs.1⟩ (λq hq=>hn q hq)))
   ·cases h
  ·cases h
 ·rename_i n len ki i hev hevy
  rw[hev]at hd hn
  rw[hevy]at hy
  split at h
  ·rename_i e ha
   split at h
   ·rename_i size hsz
    split at h
    ·rename_i hi
     simp only[Option.some.injEq]at h;subst h
     exact zaf (zt5 ho hd hy ha hsz hi.1 hi.2) (hK β _ w (Post.same m rfl rfl (λq hq=>hn q hq)))
    ·cases h
   ·cases h
  ·cases h
 ·rename_i n len ki i hev hevy
  rw[hev]at hd hn
  rw[hevy]at hy
  split at h
  ·rename_i e ha
   split at h
   ·rename_i size hsz
    simp only[Option.some.injEq]at h;subst h
    exact zaf (zt5 ho hd hy ha hsz hs.1.1 hs.1.2) (hK β _ w (Post.same m rfl ⟨by rw[Nat.zero_add],hs.1⟩ (λq hq=>hn q hq)))
   ·cases h
  ·cases h
 ·cases h
theorem zgd{t len fresh:Nat}{parts:Array (Nat×Operand)}(m:M w0 β st a w)(hc:holds st.slots cs)(hf:fresh<st.heap.length)(hn:st.heap.getD fresh none=none)
  (h:(match zaw P t,zdz (evS st.slots cs) (parts.toList.map (·.2))with
  |some e,some _=>match ybw P e len (parts.toList.map λp=>(p.1,zdw (evS st.slots cs p.2)))with
   |some cells=>some ({val:=.sl fresh len,upd:=some (fresh,e,cells),sides:=[]}:Res)
   |none=>none
  |_,_=>none)=some r) (ho:o.op=.buildSlice t len parts) (hK:∀β' u w',Post w0 β st.slots st.heap r u β' w'->K (a.put o.dst u) w'):o.wp P a w K Q:=by
 split at h
 ·rename_i e vs he hvs
  split at h
  ·rename_i cells hcells
   simp only[Option.some.injEq]at h;subst h
   refine zaf (u:=.slice (some ⟨w.heap.size,0,none⟩) len len) ?_ (hK _ _ _ (zi7 m hf hn e cells (sv:=.sl fresh len) (λβ' hb=>by simp[Den,hb]) rfl))
   have hev:(parts.map λp=>(p.1,a.eval p.2)).toList=parts.toList.map λp=>(p.1,zdw (evS st.slots cs p.2)):=by
    rw[Array.toList_map]
    refine List.map_congr_left λp hp=>?_
    have:=(zdk hvs).2 p.2 (List.mem_map.2 ⟨p,hp,rfl⟩)
    rw[zaj m hc this]
   unfold zaw at he
   split at he
   ·rename_i e' hu
    simp only[Option.some.injEq]at he;subst he
    unfold ybw at hcells
    split at hcells
    ·rename_i size z hsz hz
     split at hcells
     ·cases hcells
     ·rename_i h1
      split at hcells
      ·cases hcells
      ·rename_i h2
       split at hcells
       ·rename_i cl hcl
        simp only[Option.some.injEq]at hcells;subst hcells
        rw[←hev]at hcl
        simp only[execOp,ho,Instr.buildSlice,Sem.run_bind,underlying,run_program,hu,Sem.run_pure,Result.andThen_ok,za5 hsz,h1,h2,if_false,ze8 hz,hcl,newRow,run_newObj,Array.toArray_toList]
       ·cases hcells
    ·cases hcells
   ·cases he
  ·cases h
 ·cases h
theorem z6o{tb:Nat->List Value->Option (Value×List Prop)}(ht:TbOk P tb){f:Nat}{args:Array Operand}{ts:Array TypeId}(m:M w0 β st a w)(hc:holds st.slots cs)
  (h:(match zdz (evS st.slots cs) args.toList with
  |some vs=>match tb f vs with
   |some (u,ps)=>some ({val:=.v u,upd:=none,sides:=ps}:Res)
   |none=>none
  |none=>none)=some r) (hs:allP r.sides) (ho:o.op=.call {callee:=.value (.func f),args,argTypes:=ts}) (hK:∀β' u w',Post w0 β st.slots st.heap r u β' w'->K (a.put o.dst u) w'):o.wp P a w K Q:=by
 split at h
 ·rename_i vs hvs
  split at h
  ·rename_i u ps hu
   simp only[Option.some.injEq]at h;subst h
   have hcall:=ht f vs u ps hu hs w
   have hargs:args.map a.eval=vs.toArray:=by
    obtain⟨h1,h2⟩:=zdk hvs
    apply Array.ext'
    rw[Array.toList_map,h1]
    exact List.map_congr_left λx hx=>zaj m hc (h2 x hx)
   have hrun:(execOp a.eval o).run P w=(callFunc f vs.toArray).run P w:=by
    simp only[execOp,ho,Go.resolve,Deferred.ofValue,Act.eval,Sem.run_bind,Sem.run_pure,Result.andThen_ok,invoke,hargs]
    simp
   have hpost:∀w',Below w.heap.size w w'->Post w0 β st.slots st.heap {val:=.v u,upd:=none,sides:=ps} u β w':=λw' hb=>
    ⟨λ_ _ _=>rfl,rfl,λk hk=>by simp[names]at hk,m.mem.call hb⟩
   unfold Oper.wp
   rw[hrun]
   split at hcall
   ·rename_i u' w' hr
    rw[hr]
    obtain⟨rfl,hb⟩:=hcall
    exact hK β _ w' (hpost w' hb)
   ·rename_i f' az w' hr
    rw[hr]
    obtain⟨rfl,hcs⟩:=hcall
    exact hcs.mono λe w'' ⟨he,hb⟩=>by subst he;exact hK β _ w'' (hpost w'' hb)
   ·exact hcall.elim
  ·cases h
 ·cases h
end
section
variable{P:Program}{w0 w:World}{β:Nat->Nat}{st:St}{a:Act}{cs:List (Nat×Bool)}{o:Oper}{r:Res}{K:Act->World->Prop}{Q:Exit->Act->World->Prop}
def zbo(o:Oper):Bool:=
 match o.op with
 |.alloc _=>true
 |.box _ _=>true
 |.buildSlice _ _ _=>true
 |_=>false
theorem zgj{t:TypeId}{xs:Array Value}{off:Nat}{u:Value}(h:zgv P t xs.toList off=some u):(part t xs off).run P w=.ok u w:=by
 unfold zgv at h
 split at h
 ·rename_i n ha hs
  simp only[Option.some.injEq]at h;subst h
  simp only[part,Sem.run_bind,zik ha,Result.andThen_ok,if_true,za5 hs,Sem.run_pure]
  congr 2
  apply Array.ext'
  simp
 ·rename_i ha
  have e:xs[off]? = some u:=by simpa using h
  simp only[part,Sem.run_bind,zik ha,Result.andThen_ok,Bool.false_eq_true,if_false,e,Sem.run_pure]
 ·cases h
theorem zvy{eq:TypeId->Value->Value->Option Bool}{d:Nat}(heq:∀t x y b,eq t x y=some b->(Op.equalIn d t x y).run P w=.ok b w){xs ys:Array Value}:∀{fs:List Field} {b:Bool},eqFs P eq xs.toList ys.toList fs=some b->
  (Op.eqFields d xs ys fs).run P w=.ok b w
 |[],b,h=>by simp only[eqFs,Option.some.injEq]at h;subst h;rfl
 |f::fs,b,h=>by
  simp only[eqFs]at h
  unfold Op.eqFields
  split at h
  ·rename_i hn
   rw[if_neg (by simpa using hn)]
   exact zvy heq h
  ·rename_i hn
   rw[if_pos (by simpa using hn)]
   split at h
   ·rename_i u v hu hv
    split at h
    ·rename_i r q hr hq
     simp only[Option.some.injEq]at h;subst h
     have ih:=zvy heq hq
     simp only[Sem.run_bind,zgj hu,zgj hv,Result.andThen_ok,heq _ _ _ _ hr]
     cases r
     ·rfl
     ·exact ih
    ·cases h
   ·cases h
theorem yb1:∀(n:Nat) {t:TypeId} {x y:Value} {b:Bool} (d:Nat),eqV P n t x y=some b->(Op.equalIn (d+n) t x y).run P w=.ok b w
 |0,t,x,y,b,d,h=>by simp[eqV]at h
 |n+1,t,x,y,b,d,h=>by
  have ih:=λ{t x y b}=>yb1 n (t:=t) (x:=x) (y:=y) (b:=b) d
  simp only[eqV]at h
  split at h
  ·rename_i p q hu
   simp only[Option.some.injEq]at h;subst h
   exact run_equalIn_bool' w (d+n) t p q hu
  ·rename_i k0 k p k' q hu
   split at h
   ·rename_i hk;subst hk
    simp only[Option.some.injEq]at h;subst h
    exact run_equalIn_int w (d+n) t k k0 p q hu
   ·cases h
  ·rename_i fs xs ys hu
   split at h
   ·cases h
   ·rename_i hp
    have hf:P.fieldsOf t=fs:=by simp[Program.fieldsOf,hu]
    rw[show d+(n+1)=d+n+1 from rfl,run_equalIn_struct w (d+n) t xs ys (by rw[hf];exact hu) (by simpa using hp),hf]
    exact zvy (λt x y b hb=>ih hb) h
  ·cases h
theorem zqd{t:TypeId}{xs ys:Array Value}{b:Bool}(h:eqOf P t (.agg xs) (.agg ys)=some b):(Op.equalIn 10000 t (.agg xs) (.agg ys)).run P w=.ok b w:=by
 unfold eqOf at h
 dsimp only at h
 split at h
 ·cases h
 ·exact yb1 6 9994 h
theorem zlh{t:TypeId}{xs ys:Array Value}{b:Bool}{op:BinOp}{x y:Operand}(h:eqOf P t (.agg xs) (.agg ys)=some b):(eqGuard op t x y (.agg xs) (.agg ys)).run P w=.ok () w:=by
 unfold eqOf at h
 dsimp only at h
 split at h
 ·cases h
 ·rename_i hm
  exact run_eqGuard_agg w op t x y xs ys (by simpa using hm)
theorem zgx{tb:Nat->List Value->Option (Value×List Prop)}(ht:TbOk P tb){fresh:Nat}(m:M w0 β st a w)(hc:holds st.slots cs)(hfr:zbo o=true->fresh<st.heap.length/\st.heap.getD fresh none=none)
  {hp:Nat->Option zh2} (hhp:∀n c,hp n=some c->st.heap.getD n none=some c)
  (h:zme P tb (evS st.slots) hp fresh cs o=some r) (hs:allP r.sides) (hK:∀β' u w',Post w0 β st.slots st.heap r u β' w'->K (a.put o.dst u) w'):o.wp P a w K Q:=by
 unfold zme at h
 split at h
 ·rename_i c x y ho
  exact zoc m hc h ho hK
 ·rename_i x ho
  simp only[Option.some.injEq]at h;subst h
  exact zaf (u:=a.eval x) (by simp only[execOp,ho,Sem.run_pure]) (hK β _ w (Post.same m rfl (zap m hc x) (λk hk=>zbt m hk)))
 ·rename_i x ho
  simp only[Option.some.injEq]at h;subst h
  exact zaf (u:=a.eval x) (by simp only[execOp,ho,Sem.run_pure]) (hK β _ w (Post.same m rfl (zap m hc x) (λk hk=>zbt m hk)))
 ·rename_i t ho
  obtain⟨hf,hn⟩:=hfr (by simp[zbo,ho])
  exact zm1 m hf hn ho h hK
 ·rename_i t x ho
  obtain⟨hf,hn⟩:=hfr (by simp[zbo,ho])
  exact zsi m hc hf hn ho h hK
 ·rename_i t x ho
  exact zol hhp m hc ho h hK
 ·rename_i t x y ho
  exact zl5 hhp m hc ho h hK
 ·rename_i s x f ho
  exact zms m hc h ho hK
 ·rename_i t x y ho
  exact zmn m hc h hs ho hK
 ·rename_i t len parts ho
  obtain⟨hf,hn⟩:=hfr (by simp[zbo,ho])
  exact zgd m hc hf hn h ho hK
 ·rename_i f args ts ho
  exact z6o ht m hc h hs ho hK
 ·rename_i op t x y ty ho
  have key:∀(q:BinOp) (i j:Int) (k k':IntKind) (u:Value),(q=.quo\/q=.rem)->op=q->plain (evS st.slots cs x)=some (.int k i)->plain (evS st.slots cs y)=some (.int k' j)->k=k'->
    (Op.intDiv q k i j).run P w=.ok u w->r = {val:=.v u,upd:=none,sides:=[j≠0]}->o.wp P a w K Q:=by
   intro q i j k k' u hq he hx hy hk hrun hr
   subst hr;subst he;subst hk
   refine zaf (u:=u) ?_ (hK β _ w (Post.same m rfl rfl (λk hk=>by simp[names]at hk)))
   rcases hq with rfl|rfl<;>simp only[execOp,ho,zaj m hc hx,zaj m hc hy,binOp,eqGuard,Sem.run_bind,Sem.run_pure,ne_eq,not_true_eq_false,if_false]<;>simp[hrun]
  split at h
  ·rename_i k i k' j hx hy _
   split at h
   ·rename_i hk
    simp only[Option.some.injEq]at h
    refine key .quo i j k k' (.int k (k.wrap (i.tdiv j))) (.inl rfl) rfl hx hy hk ?_ h.symm
    have hj:j≠0:=by subst h;exact hs.1
    simp only[Op.intDiv,hj,if_false,Sem.run_pure]
   ·cases h
  ·rename_i k i k' j hx hy _
   split at h
   ·rename_i hk
    simp only[Option.some.injEq]at h
    refine key .rem i j k k' (.int k (i.tmod j)) (.inr rfl) rfl hx hy hk ?_ h.symm
    have hj:j≠0:=by subst h;exact hs.1
    simp only[Op.intDiv,hj,if_false,Sem.run_pure]
   ·cases h
  ·rename_i u v hx hy
   split at h
   ·rename_i b hb
    simp only[Option.some.injEq]at h;subst h
    refine zaf (u:=.bool b) ?_ (hK β _ w (Post.same m rfl rfl (λk hk=>by simp[names]at hk)))
    simp only[execOp,ho,zaj m hc hx,zaj m hc hy,Sem.run_bind,zlh hb,Result.andThen_ok,run_eql_struct,zqd hb,Sem.run_pure]
   ·cases h
  ·rename_i u v hx hy
   split at h
   ·rename_i b hb
    simp only[Option.some.injEq]at h;subst h
    refine zaf (u:=.bool (!b)) ?_ (hK β _ w (Post.same m rfl rfl (λk hk=>by simp[names]at hk)))
    simp only[execOp,ho,zaj m hc hx,zaj m hc hy,Sem.run_bind,zlh hb,Result.andThen_ok,run_neq_struct,zqd hb,Sem.run_pure]
   ·cases h
  ·exact zcd m hc h hK
 ·exact zcd m hc h hK
theorem zpd(h:zce P (evS st.slots cs) o=some r):names r.val=[]/\r.upd=none:=by
 unfold zce at h
 split at h
 ·cases h
 ·split at h
  ·simp only[Option.some.injEq]at h;subst h
   refine⟨?_,rfl⟩
   dsimp only;split<;>rfl
  ·cases h
 ·cases h
theorem z0a{tb:Nat->List Value->Option (Value×List Prop)}{fresh:Nat}(m:M w0 β st a w){hp:Nat->Option zh2}(h:zme P tb (evS st.slots) hp fresh cs o=some r) :
  (r.upd=none->∀n∈names r.val,∃c,st.heap.getD n none=some c)/\(∀n c,r.upd=some (n,c)->(n=fresh/\zbo o=true)\/∃d,hp n=some d):=by
 have nil:∀{sv:SV},names sv=[]->(r.upd=none->∀n∈names sv,∃c,st.heap.getD n none=some c):=λh0 _ n hn=>by rw[h0]at hn;cases hn
 unfold zme at h
 split at h
 ·split at h
  ·split at h
   ·simp only[Option.some.injEq]at h;subst h
    exact⟨nil (by dsimp only;generalize zge _=q;cases q<;>rfl),λn c hu=>by cases hu⟩
   ·cases h
  ·split at h
   ·simp only[Option.some.injEq]at h;subst h
    exact⟨nil rfl,λn c hu=>by cases hu⟩
   ·cases h
  ·cases h
 ·simp only[Option.some.injEq]at h;subst h
  exact⟨λ_ n hn=>zbt m hn,λn c hu=>by cases hu⟩
 ·simp only[Option.some.injEq]at h;subst h
  exact⟨λ_ n hn=>zbt m hn,λn c hu=>by cases hu⟩
 ·rename_i t ho
  split at h
  ·simp only[Option.some.injEq]at h;subst h
   exact⟨λhu=>by(cases hu),λn c hu=>by simp only[Option.some.injEq,Prod.mk.injEq]at hu;exact .inl ⟨hu.1.symm,by simp[zbo,ho]⟩⟩
  ·cases h
 ·rename_i t x ho
  split at h
  ·simp only[Option.some.injEq]at h;subst h
   exact⟨λhu=>by(cases hu),λn c hu=>by simp only[Option.some.injEq,Prod.mk.injEq]at hu;exact .inl ⟨hu.1.symm,by simp[zbo,ho]⟩⟩
  ·cases h
 ·split at h
  ·split at h
   ·split at h
    ·simp only[Option.some.injEq]at h;subst h
     exact⟨nil rfl,λn c hu=>by cases hu⟩
    ·cases h
   ·cases h
  ·split at h
   ·split at h
    ·split at h
     ·simp only[Option.some.injEq]at h;subst h
      exact⟨nil rfl,λn c hu=>by cases hu⟩
     ·cases h
    ·cases h
   ·cases h
  ·cases h
 ·split at h
  ·split at h
   ·rename_i n0 off0 u0 _ _ _ _ c0 k0 hn0 _
    split at h
    ·simp only[Option.some.injEq]at h;subst h
     exact⟨λhu=>by(cases hu),λn c hu=>by simp only[Option.some.injEq,Prod.mk.injEq]at hu;exact .inr ⟨c0,hu.1▸hn0⟩⟩
    ·cases h
   ·cases h
  ·split at h
   ·rename_i c0 k0 hn0 _
    split at h
    ·simp only[Option.some.injEq]at h;subst h
     exact⟨λhu=>by(cases hu),λn c hu=>by simp only[Option.some.injEq,Prod.mk.injEq]at hu;exact .inr ⟨c0,hu.1▸hn0⟩⟩
    ·cases h
   ·cases h
  ·cases h
 ·rename_i s x f ho
  have hn:=λn=>zbt (cs:=cs) m (x:=x) (n:=n)
  split at h
  ·rename_i n off fd hev _
   rw[hev]at hn
   split at h
   ·simp only[Option.some.injEq]at h;subst h
    exact⟨λ_ q hq=>hn q hq,λn c hu=>by cases hu⟩
   ·cases h
  ·rename_i n off i len size fd hev _
   rw[hev]at hn
   split at h
   ·simp only[Option.some.injEq]at h;subst h
    exact⟨λ_ q hq=>hn q hq,λn c hu=>by cases hu⟩
   ·cases h
  ·cases h
 ·rename_i t x y ho
  have hn:=λn=>zbt (cs:=cs) m (x:=x) (n:=n)
  split at h
  ·rename_i hev _
   rw[hev]at hn
   split at h
   ·split at h
    ·split at h
     ·simp only[Option.some.injEq]at h;subst h
      exact⟨λ_ q hq=>hn q hq,λn c hu=>by cases hu⟩
     ·cases h
    ·cases h
   ·cases h
  ·rename_i hev _
   rw[hev]at hn
   split at h
   ·split at h
    ·simp only[Option.some.injEq]at h;subst h
     exact⟨λ_ q hq=>hn q hq,λn c hu=>by cases hu⟩
    ·cases h
   ·cases h
  ·rename_i hev _
   rw[hev]at hn
   split at h
   ·split at h
    ·split at h
     ·simp only[Option.some.injEq]at h;subst h
      exact⟨λ_ q hq=>hn q hq,λn c hu=>by cases hu⟩
     ·cases h
    ·cases h
   ·cases h
  ·rename_i hev _
   rw[hev]at hn
   split at h
   ·split at h
    ·simp only[Option.some.injEq]at h;subst h
     exact⟨λ_ q hq=>hn q hq,λn c hu=>by cases hu⟩
    ·cases h
   ·cases h
  ·cases h
 ·rename_i t len parts ho
  split at h
  ·split at h
   ·simp only[Option.some.injEq]at h;subst h
    exact⟨λhu=>by(cases hu),λn c hu=>by simp only[Option.some.injEq,Prod.mk.injEq]at hu;exact .inl ⟨hu.1.symm,by simp[zbo,ho]⟩⟩
   ·cases h
  ·cases h
 ·split at h
  ·split at h
   ·simp only[Option.some.injEq]at h;subst h
    exact⟨nil rfl,λn c hu=>by cases hu⟩
   ·cases h
  ·cases h
 ·split at h
  ·split at h
   ·simp only[Option.some.injEq]at h;subst h
    exact⟨nil rfl,λn c hu=>by cases hu⟩
   ·cases h
  ·split at h
   ·simp only[Option.some.injEq]at h;subst h
    exact⟨nil rfl,λn c hu=>by cases hu⟩
   ·cases h
  ·split at h
   ·simp only[Option.some.injEq]at h;subst h
    exact⟨nil rfl,λn c hu=>by cases hu⟩
   ·cases h
  ·split at h
   ·simp only[Option.some.injEq]at h;subst h
    exact⟨nil rfl,λn c hu=>by cases hu⟩
   ·cases h
  ·obtain⟨h1,h2⟩:=zpd h
   exact⟨nil h1,λn c hu=>by rw[h2]at hu;cases hu⟩
 ·obtain⟨h1,h2⟩:=zpd h
  exact⟨nil h1,λn c hu=>by rw[h2]at hu;cases hu⟩
end
def zdu(ops:Array Oper):Nat->Oper->Option (List (Nat×Bool))
 |0,_=>none
 |n+1,o=>match o.guard with
  |none=>some []
  |some (j,want)=>match ops[j]? with
   |some oj=>match oj.dst,zdu ops n oj with
    |some d,some cs=>some (cs++[(d,want)])
    |_,_=>none
   |none=>none
abbrev Tch:=List Nat×List Nat
def zc9(ev:Operand->SV)(fresh:Nat)(o:Oper):Tch:=
 match o.op with
 |.load _ x=>(names (ev x),[])
 |.store _ x _=>([],names (ev x))
 |.alloc _=>([],[fresh])
 |.box _ _=>([],[fresh])
 |.buildSlice _ _ _=>([],[fresh])
 |_=>([],[])
def hpOf(h:List (Option zh2))(t:Tch)(n:Nat):Option zh2:=if t.1.contains n||t.2.contains n then h.getD n none else none
def zmr(l:List SV)(d:Nat)(cs:List (Nat×Bool)):Bool:=
 match l[d]? with
 |some (.k (.bool _))=>cs.isEmpty
 |some (.v (.bool _))=>cs.isEmpty
 |some (.g cs' (.k (.bool _)))=>cs'==cs
 |some (.g cs' (.v (.bool _)))=>cs'==cs
 |_=>false
def zku(l:List SV):List (Nat×Bool)->Prop
 |[]=>True
 |c::cs=>zbw l c.1=some c.2/\zku l cs
theorem zmw{l:List SV}{cs:List (Nat×Bool)}(h:holds l cs):zku l cs:=by
 induction cs with
 |nil=>trivial
 |cons c cs ih=>exact⟨h c (by simp),ih λd hd=>h d (by simp[hd])⟩
def isG:SV->Bool
 |.g _ _=>true
 |_=>false
def zzk(t:Tch):Option (Nat×zh2)->Bool
 |some (n,_)=>t.2.contains n
 |none=>true
def core(P:Program)(tb:Nat->List Value->Option (Value×List Prop))(ops:Array Oper)(base j:Nat)(o:Oper)(t:Tch)(st:St):Option Res:=
 match zdu ops (ops.size+1) o with
 |none=>none
 |some cs=>
  if zc9 (evS st.slots cs) (base+j) o==t then
   match zme P tb (evS st.slots) (hpOf st.heap t) (base+j) cs o with
   |none=>none
   |some r=>
    if zzk t r.upd && !isG r.val then
     match o.guard with
     |none=>some r
     |some (g,want)=>
      match (ops[g]?).bind (·.dst),r.upd with
      |some d,none=>
       if zmr st.slots d cs.dropLast&&cs==cs.dropLast++[(d,want)]then
        some {val:=.g cs r.val,upd:=none,sides:=match r.sides with|[]=>[]|ss=>[zku st.slots cs->allP ss]}
       else none
      |_,_=>none
    else none
  else none
def St.put(st:St)(dst:Option Nat)(r:Res):St:=
 {slots:=match dst with|some d=>st.slots.set d r.val|none=>st.slots,heap:=zac st.heap r.upd}
theorem ziu{l:List SV}{d t:Nat}{s:SV}(h:t≠d):zbw (l.set d s) t=zbw l t:=by
 unfold zbw
 rw[List.getElem?_set_ne (Ne.symm h)]
section
variable{P:Program}{w0 w:World}{β β':Nat->Nat}{st:St}{a:Act}{o:Oper}{r:Res}{K:Act->World->Prop}{Q:Exit->Act->World->Prop}
theorem zzc{u:Value}{w':World}{dst:Option Nat}(m:M w0 β st a w)(hp:Post w0 β st.slots st.heap r u β' w')
  (hd:∀d,dst=some d->(∀i,∀c∈za8 (st.slots.getD i .junk),c.1≠d)/\∀c∈za8 r.val,c.1≠d):M w0 β' (st.put dst r) (a.put dst u) w':=by
 have keepD:∀i v,Den β st.slots (st.slots.getD i .junk) v->Den β' st.slots (st.slots.getD i .junk) v:=λi v hv=>
  zbg (λn hn=>by obtain⟨c,hc⟩:=m.locs i n hn;exact hp.keep n c hc) (λ_ _=>rfl) hv
 have keepN:∀n c,st.heap.getD n none=some c->∃c',(zac st.heap r.upd).getD n none=some c':=λn c hc=>by
  cases hu:r.upd with
  |none=>exact⟨c,hc⟩
  |some x=>
   obtain⟨k,c'⟩:=x
   simp only[zac]
   rw[zbe]
   split
   ·exact⟨c',rfl⟩
   ·exact⟨c,hc⟩
 cases dst with
 |none=>exact {defers:=m.defers,size:=m.size,slot:=λi v hv=>keepD i v (m.slot i v hv),locs:=λi n hn=>by obtain⟨c,hc⟩:=m.locs i n hn;exact keepN n c hc,mem:=hp.mem}
 |some d=>
  obtain⟨h1,h2⟩:=hd d rfl
  have hb:∀t,t≠d->zbw (st.slots.set d r.val) t=zbw st.slots t:=λt ht=>ziu ht
  refine {defers:=m.defers,size:=by simp[Act.put,St.put,m.size],slot:=λi v hv=>?_,locs:=λi n hn=>?_,mem:=hp.mem}
  ·simp only[Act.put,Array.getElem?_setIfInBounds]at hv
   show Den β' (st.slots.set d r.val) ((st.slots.set d r.val).getD i .junk) v
   rw[zbe]
   by_cases e:d=i
   ·subst e
    by_cases hl:d<st.slots.length
    ·rw[if_pos ⟨rfl,hl⟩]
     rw[if_pos rfl,if_pos (by rw[m.size];exact hl)]at hv
     simp only[Option.some.injEq]at hv;subst hv
     exact zbg (λ_ _=>rfl) (λc hc=>hb c.1 (h2 c hc)) hp.den
    ·rw[if_pos rfl,if_neg (by rw[m.size];exact hl)]at hv;cases hv
   ·rw[if_neg (λx=>e x.1)]
    rw[if_neg e]at hv
    exact zbg (λ_ _=>rfl) (λc hc=>hb c.1 (h1 i c hc)) (keepD i v (m.slot i v hv))
  ·have hn':n∈names ((st.slots.set d r.val).getD i .junk):=hn
   rw[zbe]at hn'
   split at hn'
   ·exact hp.nm n hn'
   ·obtain⟨c,hc⟩:=m.locs i n hn';exact keepN n c hc
structure z1q(ops:Array Oper):Prop where
 dsts:∀(i j:Nat) (oi oj:Oper) (d:Nat),ops[i]? = some oi->ops[j]? = some oj->oi.dst=some d->oj.dst=some d->i=j
 guards:∀(j:Nat) (o:Oper) (g:Nat) (w:Bool),ops[j]? = some o->o.guard=some (g,w)->g<j/\∃e∈o.after,Region.binds .any e=true/\e.on=g
structure Inv(ops:Array Oper)(base:Nat)(L:Nat->Prop)(st:St):Prop where
 conds:∀i c,c∈za8 (st.slots.getD i .junk)->∃j oj,ops[j]? = some oj/\L j/\oj.dst=some c.1
 fresh:∀j o,ops[j]? = some o->¬L j->zbo o=true->base+j<st.heap.length/\st.heap.getD (base+j) none=none
theorem zf3{h:List (Option zh2)}{t:Tch}{n:Nat}{c:zh2}(hh:hpOf h t n=some c):h.getD n none=some c:=by
 unfold hpOf at hh;split at hh
 ·exact hh
 ·cases hh
theorem zn7{ops:Array Oper}{g d:Nat}{want:Bool}{og:Oper}{cs:List (Nat×Bool)}(m:M w0 β st a w)(ho:o.guard=some (g,want))(hg:ops[g]? = some og)(hd:og.dst=some d)(hs:zmr st.slots d cs=true) :
  Region.wanted o (yielded ops a.tmps)=true↔holds st.slots (cs++[(d,want)]):=by
 unfold zmr at hs
 have lt:∀s,st.slots[d]? = some s->∃u,a.tmps[d]? = some u/\Den β st.slots s u:=λs hsd=>by
  have h1:d<st.slots.length:=(List.getElem?_eq_some_iff.1 hsd).1
  have h2:d<a.tmps.size:=by rw[m.size];exact h1
  refine⟨a.tmps[d],Array.getElem?_eq_getElem h2,?_⟩
  have:=m.slot d _ (Array.getElem?_eq_getElem h2)
  rwa [List.getD_eq_getElem?_getD,hsd]at this
 have plainCase:∀b,cs=[]->st.slots[d]? = some (.k (.bool b))\/st.slots[d]? = some (.v (.bool b))->(Region.wanted o (yielded ops a.tmps)=true↔holds st.slots (cs++[(d,want)])):=by
  intro b hc hb
  subst hc
  have hu:a.tmps[d]? = some (.bool b):=by
   rcases hb with hb|hb<;>obtain⟨u,hu,hd⟩:=lt _ hb<;>rw[hu,(show u=_ from hd)]
  have hba:zbw st.slots d=some b:=by unfold zbw;rcases hb with hb|hb<;>rw[hb]
  simp only[Region.wanted,ho,yielded,hg,Option.bind_some,hd,hu,holds,List.nil_append,List.mem_singleton,forall_eq,hba,beq_iff_eq]
 have guardCase:∀b,st.slots[d]? = some (.g cs (.k (.bool b)))\/st.slots[d]? = some (.g cs (.v (.bool b)))->(Region.wanted o (yielded ops a.tmps)=true↔holds st.slots (cs++[(d,want)])):=by
  intro b hb
  have hba:zbw st.slots d=some b:=by unfold zbw;rcases hb with hb|hb<;>rw[hb]
  have hu:∃u,a.tmps[d]? = some u/\(holds st.slots cs->u=.bool b)/\(¬holds st.slots cs->u=undef):=by
   rcases hb with hb|hb<;>obtain⟨u,hu,hd⟩:=lt _ hb<;>exact⟨u,hu,hd⟩
  obtain⟨u,hu,h1,h2⟩:=hu
  have happ:holds st.slots (cs++[(d,want)])↔holds st.slots cs/\b=want:=by
   constructor
   ·intro h
    refine⟨λc hc=>h c (by simp[hc]),?_⟩
    have:=h (d,want) (by simp)
    rw[hba]at this;simpa using this
   ·rintro⟨h,rfl⟩ c hc
    rcases List.mem_append.1 hc with hc|hc
    ·exact h c hc
    ·simp only[List.mem_singleton]at hc;subst hc;exact hba
  rw[happ]
  by_cases hh:holds st.slots cs
  ·have:=h1 hh;subst this
   simp only[Region.wanted,ho,yielded,hg,Option.bind_some,hd,hu,hh,true_and,beq_iff_eq,Option.some.injEq]
  ·have:=h2 hh;subst this
   simp only[Region.wanted,ho,yielded,hg,Option.bind_some,hd,hu,hh,false_and,iff_false,undef]
   simp
 split at hs
 ·rename_i b hb;exact plainCase b (by simpa using hs) (.inl hb)
 ·rename_i b hb;exact plainCase b (by simpa using hs) (.inr hb)
 ·rename_i cs' b hb
  have e:cs'=cs:=by simpa using hs
  subst e;exact guardCase b (.inl hb)
 ·rename_i cs' b hb
  have e:cs'=cs:=by simpa using hs
  subst e;exact guardCase b (.inr hb)
 ·cases hs
theorem zbj{s:SV}(h:isG s=false):za8 s=[]:=by cases s<;>first|rfl|(simp[isG]at h)
theorem zh6{tb:Nat->List Value->Option (Value×List Prop)}{ops:Array Oper}{base j:Nat}{t:Tch}{L:Nat->Prop}(rk:z1q ops)(ht:TbOk P tb)(m:M w0 β st a w)(inv:Inv ops base L st)
  (hj:ops[j]? = some o) (hL:¬L j) (hg:∀g q,o.guard=some (g,q)->L g) (h:core P tb ops base j o t st=some r) (hs:allP r.sides)
  (hK:∀β' a' w',M w0 β' (st.put o.dst r) a' w'->Inv ops base (λi=>L i\/i=j) (st.put o.dst r)->K a' w'):wpOp P ops Q j K a w:=by
 unfold core at h
 split at h
 ·cases h
 ·rename_i cs hcs
  split at h
  ·split at h
   ·cases h
   ·rename_i r0 hr0
    split at h
    ·rename_i hchk
     simp only[Bool.and_eq_true,Bool.not_eq_true']at hchk
     obtain⟨_,hng⟩:=hchk
     obtain⟨hnm,hup⟩:=z0a m hr0
     have hfr:zbo o=true->base+j<st.heap.length/\st.heap.getD (base+j) none=none:=inv.fresh j o hj hL
     have invOf:∀(r1:Res),(∀n c,r1.upd=some (n,c)->(n=base+j/\zbo o=true)\/∃d,hpOf st.heap t n=some d)->(∀c∈za8 r1.val,∃i oi,ops[i]? = some oi/\L i/\oi.dst=some c.1)->Inv ops base (λi=>L i\/i=j) (st.put o.dst r1):=by
      intro r1 hu1 hc1
      refine⟨λi c hc=>?_,λk ok hk hLk hmk=>?_⟩
      ·have:c∈za8 r1.val\/c∈za8 (st.slots.getD i .junk):=by
        unfold St.put at hc
        cases hd:o.dst with
        |none=>rw[hd]at hc;exact .inr hc
        |some d=>
         rw[hd]at hc
         have hc':c∈za8 ((st.slots.set d r1.val).getD i .junk):=hc
         rw[zbe]at hc'
         split at hc'
         ·exact .inl hc'
         ·exact .inr hc'
       rcases this with hc|hc
       ·obtain⟨i',oi,h1,h2,h3⟩:=hc1 c hc
        exact⟨i',oi,h1,.inl h2,h3⟩
       ·obtain⟨i',oi,h1,h2,h3⟩:=inv.conds i c hc
        exact⟨i',oi,h1,.inl h2,h3⟩
      ·have hkj:k≠j:=λe=>hLk (.inr e)
       obtain⟨h1,h2⟩:=inv.fresh k ok hk (λhl=>hLk (.inl hl)) hmk
       show base+k<(zac st.heap r1.upd).length/\(zac st.heap r1.upd).getD (base+k) none=none
       cases hu:r1.upd with
       |none=>exact⟨h1,h2⟩
       |some x=>
        obtain⟨n,c⟩:=x
        simp only[zac]
        refine⟨by simpa using h1,?_⟩
        rw[zbe,if_neg ?_]
        ·exact h2
        ·rintro⟨e,_⟩
         rcases hu1 n c hu with⟨e',_⟩|⟨d,hd⟩
         ·omega
         ·have hz:=zf3 hd
          rw[e,h2]at hz;cases hz
     have condD:∀d,o.dst=some d->∀i,∀c∈za8 (st.slots.getD i .junk),c.1≠d:=λd hd i c hc he=>by
      obtain⟨i',oi,h1,h2,h3⟩:=inv.conds i c hc
      have:=rk.dsts i' j oi o d h1 hj (by rw[h3,he]) hd
      exact hL (this▸h2)
     unfold wpOp
     rw[hj]
     dsimp only
     split at h
     ·rename_i hgd
      simp only[Option.some.injEq]at h;subst h
      have hw:Region.wanted o (yielded ops a.tmps)=true:=by simp[Region.wanted,hgd]
      have hc0:cs=[]:=by
       simp only[zdu,hgd,Option.some.injEq]at hcs;exact hcs.symm
      subst hc0
      rw[if_pos hw]
      refine .inl (zgx ht m (λc hc=>by cases hc) hfr (λn c hc=>zf3 hc) hr0 hs λβ' u w' hp=>?_)
      refine hK β' _ w' (zzc m hp λd hd=>⟨condD d hd,λc hc=>by rw[zbj hng]at hc;cases hc⟩) (invOf r0 hup λc hc=>by rw[zbj hng]at hc;cases hc)
     ·rename_i g want hgd
      split at h
      ·rename_i d hd hun
       split at h
       ·rename_i hgs
        simp only[Bool.and_eq_true,beq_iff_eq]at hgs
        obtain⟨hgs1,hgs2⟩:=hgs
        simp only[Option.some.injEq]at h;subst h
        obtain⟨og,hog,hogd⟩:∃og,ops[g]? = some og/\og.dst=some d:=by
         cases hx:ops[g]? with
         |none=>rw[hx]at hd;cases hd
         |some og=>rw[hx]at hd;exact⟨og,rfl,hd⟩
        have hwi:=zn7 m hgd hog hogd hgs1
        rw[←hgs2]at hwi
        have hLg:L g:=hg g want hgd
        have hconds:∀c∈za8 (SV.g cs r0.val),∃i oi,ops[i]? = some oi/\L i/\oi.dst=some c.1:=by
         intro c hc
         simp only[za8,zbj hng,List.append_nil]at hc
         rw[hgs2]at hc
         rcases List.mem_append.1 hc with hc|hc
         ·have hgc:c∈za8 (st.slots.getD d .junk):=by
           unfold zmr at hgs1
           rw[List.getD_eq_getElem?_getD]
           split at hgs1
           ·have:cs.dropLast=[]:=by simpa using hgs1
            rw[this]at hc;cases hc
           ·have:cs.dropLast=[]:=by simpa using hgs1
            rw[this]at hc;cases hc
           ·rename_i cs' b hb
            have e:cs'=cs.dropLast:=by simpa using hgs1
            rw[hb];simp only[Option.getD_some,za8,List.append_nil];rw[e];exact hc
           ·rename_i cs' b hb
            have e:cs'=cs.dropLast:=by simpa using hgs1
            rw[hb];simp only[Option.getD_some,za8,List.append_nil];rw[e];exact hc
           ·cases hgs1
          exact inv.conds d c hgc
         ·simp only[List.mem_singleton]at hc;subst hc
          exact⟨g,og,hog,hLg,hogd⟩
        have hdn:∀d',o.dst=some d'->∀c∈za8 (SV.g cs r0.val),c.1≠d':=λd' hd' c hc he=>by
         obtain⟨i,oi,h1,h2,h3⟩:=hconds c hc
         have:=rk.dsts i j oi o d' h1 hj (by rw[h3,he]) hd'
         exact hL (this▸h2)
        have hinv:∀ss,Inv ops base (λi=>L i\/i=j) (st.put o.dst {val:=.g cs r0.val,upd:=none,sides:=ss}):=λss=>invOf _ (λn c hu=>by cases hu) hconds
        split
        ·rename_i hw
         have hh:=hwi.1 hw
         have hs0:allP r0.sides:=by
          cases hss:r0.sides with
          |nil=>trivial
          |cons p ps=>rw[hss]at hs;exact hs.1 (zmw hh)
         refine .inl (zgx ht m hh hfr (λn c hc=>zf3 hc) hr0 hs0 λβ' u w' hp=>?_)
         have hp':∀ss,Post w0 β st.slots st.heap {val:=.g cs r0.val,upd:=none,sides:=ss} u β' w':=λss=>
          ⟨hp.keep,⟨λ_=>hp.den,λhn=>absurd hh hn⟩,λn hn=>by have:=hp.nm n hn;rw[hun]at this;exact this,by have:=hp.mem;rw[hun]at this;exact this⟩
         exact hK β' _ w' (zzc m (hp' _) λd' hd'=>⟨condD d' hd',hdn d' hd'⟩) (hinv _)
        ·rename_i hw
         have hh:¬holds st.slots cs:=λz=>hw (hwi.2 z)
         have hp':∀ss,Post w0 β st.slots st.heap {val:=.g cs r0.val,upd:=none,sides:=ss} undef β w:=λss=>
          ⟨λ_ _ _=>rfl,⟨λz=>absurd z hh,λ_=>rfl⟩,λn hn=>hnm hun n hn,m.mem⟩
         exact hK β _ w (zzc m (hp' _) λd' hd'=>⟨condD d' hd',hdn d' hd'⟩) (hinv _)
       ·cases h
      ·cases h
    ·cases h
  ·cases h
end
theorem zc0{ev ev':Operand->SV}:∀{xs:List Operand},(∀x∈xs,ev x=ev' x)->zdz ev xs=zdz ev' xs
 |[],_=>rfl
 |x::xs,h=>by
  simp only[zdz]
  rw[h x (by simp),zc0 (xs:=xs) λy hy=>h y (by simp[hy])]
theorem zhy{P:Program}{ev ev':Operand->SV}{o:Oper}(h:∀x∈o.op.operands,ev x=ev' x):zce P ev o=zce P ev' o:=by
 unfold zce
 rw[zc0 (xs:=o.op.operands.toList) λx hx=>h x (Array.mem_toList_iff.1 hx)]
 split
 ·rfl
 ·rename_i hsel
  rw[execOp_congr (ρ:=λx=>zdw (ev x)) (ρ':=λx=>zdw (ev' x)) o hsel λx hx=>congrArg zdw (h x hx)]
  have e:o.op.operands.toList.all (λx=>zge (ev x))=o.op.operands.toList.all (λx=>zge (ev' x)):=by
   rw[Bool.eq_iff_iff,List.all_eq_true,List.all_eq_true]
   exact⟨λk x hx=>by rw[←h x (Array.mem_toList_iff.1 hx)];exact k x hx,λk x hx=>by rw[h x (Array.mem_toList_iff.1 hx)];exact k x hx⟩
  rw[e]
 ·rfl
theorem zmd{P:Program}{tb:Nat->List Value->Option (Value×List Prop)}{ev ev':List (Nat×Bool)->Operand->SV}{hp:Nat->Option zh2}{fresh:Nat}{cs:List (Nat×Bool)}{o:Oper}
  (h:∀x∈o.op.operands,∀c,ev c x=ev' c x):zme P tb ev hp fresh cs o=zme P tb ev' hp fresh cs o:=by
 have hpl:=zhy (P:=P) (o:=o) (ev:=ev cs) (ev':=ev' cs) λx hx=>h x hx cs
 unfold zme
 split
 ·rename_i c x y ho
  have hc:∀q,ev q c=ev' q c:=h c (by simp[ho,Op.operands])
  have hx:∀q,ev q x=ev' q x:=h x (by simp[ho,Op.operands])
  have hy:∀q,ev q y=ev' q y:=h y (by simp[ho,Op.operands])
  have hb:∀(b:Bool) q,ev q (if b then x else y)=ev' q (if b then x else y):=λb q=>by cases b<;>simp[hx,hy]
  simp only[hc,hx,hy,hb]
 ·rename_i x ho;rw[h x (by simp[ho,Op.operands])]
 ·rename_i x ho;rw[h x (by simp[ho,Op.operands])]
 ·rfl
 ·rename_i t x ho;rw[h x (by simp[ho,Op.operands])]
 ·rename_i t x ho;rw[h x (by simp[ho,Op.operands])]
 ·rename_i t x y ho;rw[h x (by simp[ho,Op.operands]),h y (by simp[ho,Op.operands])]
 ·rename_i s x f ho;rw[h x (by simp[ho,Op.operands])]
 ·rename_i t x y ho;rw[h x (by simp[ho,Op.operands]),h y (by simp[ho,Op.operands])]
 ·rename_i t len parts ho
  have hm:∀p∈parts.toList,∀q,ev q p.2=ev' q p.2:=λp hp=>h p.2 (by simp only[ho,Op.operands];rw[←Array.mem_toList_iff];exact List.mem_map.2 ⟨p,hp,rfl⟩)
  rw[zc0 (ev:=ev cs) (ev':=ev' cs) (xs:=parts.toList.map (·.2)) λx hx=>by obtain⟨p,hp,rfl⟩:=List.mem_map.1 hx;exact hm p hp cs]
  have e:(parts.toList.map λp=>(p.1,zdw (ev cs p.2)))=parts.toList.map λp=>(p.1,zdw (ev' cs p.2)):=List.map_congr_left λp hp=>by rw[hm p hp]
  rw[e]
 ·rename_i f args ts ho
  rw[zc0 (ev:=ev cs) (ev':=ev' cs) (xs:=args.toList) λx hx=>h x (by simp only[ho,Op.operands,Call.operands];simp;exact .inr (Array.mem_toList_iff.1 hx)) cs]
 ·rename_i op t x y ty ho
  have hx:=h x (by simp[ho,Op.operands]) cs
  have hy:=h y (by simp[ho,Op.operands]) cs
  rw[hx,hy,hpl]
 ·exact hpl
def yld:Operand->Option Nat
 |.tmp t=>some t
 |_=>none
def zhx(o:Oper):List Nat:=o.op.operands.toList.filterMap yld
theorem z0w{l:List SV}{d:Nat}{s:SV}{cs:List (Nat×Bool)}{x:Operand}(h:x≠.tmp d):evS (l.set d s) cs x=evS l cs x:=by
 cases x with
 |tmp t=>
  have:d≠t:=λe=>h (by rw[e])
  simp only[evS]
  rw[zbe,if_neg (λz=>this z.1)]
 |_=>rfl
theorem zzp{o:Oper}{x:Operand}{d:Nat}(hx:x∈o.op.operands)(hd:d∉zhx o):x≠.tmp d:=λe=>hd (by
 subst e
 exact List.mem_filterMap.2 ⟨.tmp d,Array.mem_toList_iff.2 hx,rfl⟩)
theorem zi0{ev ev':Operand->SV}{fresh:Nat}{o:Oper}(h:∀x∈o.op.operands,ev x=ev' x):zc9 ev fresh o=zc9 ev' fresh o:=by
 unfold zc9
 split
 ·rename_i t x ho;rw[h x (by simp[ho,Op.operands])]
 ·rename_i t x y ho;rw[h x (by simp[ho,Op.operands])]
 ·rfl
 ·rfl
 ·rfl
 ·rfl
theorem zkt{l:List SV}{d:Nat}{s:SV}:∀{cs:List (Nat×Bool)},(∀c∈cs,c.1≠d)->zku (l.set d s) cs=zku l cs
 |[],_=>rfl
 |c::cs,h=>by
  simp only[zku]
  rw[ziu (h c (by simp)),zkt λx hx=>h x (by simp[hx])]
theorem zir{P:Program}{tb:Nat->List Value->Option (Value×List Prop)}{ops:Array Oper}{base j:Nat}{o:Oper}{t:Tch}{st:St}{dst:Option Nat}{r:Res}{cs:List (Nat×Bool)}
  (hcs:zdu ops (ops.size+1) o=some cs) (hd:∀d,dst=some d->d∉zhx o/\∀c∈cs,c.1≠d) (hu:∀n c,r.upd=some (n,c)->n∉t.1/\n∉t.2) :
  core P tb ops base j o t (st.put dst r)=core P tb ops base j o t st:=by
 have hev:∀x∈o.op.operands,∀c,evS (st.put dst r).slots c x=evS st.slots c x:=λx hx c=>by
  unfold St.put
  cases hdst:dst with
  |none=>rfl
  |some d=>exact z0w (zzp hx (hd d hdst).1)
 have hhp:hpOf (st.put dst r).heap t=hpOf st.heap t:=by
  funext n
  show hpOf (zac st.heap r.upd) t n=hpOf st.heap t n
  cases hupd:r.upd with
  |none=>rfl
  |some x=>
   obtain⟨k,c⟩:=x
   obtain⟨h1,h2⟩:=hu k c hupd
   unfold hpOf zac
   by_cases hk:k=n
   ·subst hk
    rw[if_neg (by simp[h1,h2]),if_neg (by simp[h1,h2])]
   ·have e:(st.heap.set k (some c)).getD n none=st.heap.getD n none:=by rw[zbe,if_neg (λz=>hk z.1)]
    dsimp only
    rw[e]
 have hcp:zku (st.put dst r).slots cs=zku st.slots cs:=by
  unfold St.put
  cases hdst:dst with
  |none=>rfl
  |some d=>exact zkt (hd d hdst).2
 unfold core
 rw[hcs]
 dsimp only
 rw[zi0 (ev:=evS (st.put dst r).slots cs) (ev':=evS st.slots cs) λx hx=>hev x hx cs,zmd (ev:=evS (st.put dst r).slots) (ev':=evS st.slots) hev,hhp,hcp]
 split
 ·split
  ·rfl
  ·split
   ·split
    ·rfl
    ·rename_i g want hg
     split
     ·rename_i d0 hd0 _
      have hgs:zmr (st.put dst r).slots d0 cs.dropLast=zmr st.slots d0 cs.dropLast\/(cs==cs.dropLast++[(d0,want)])=false:=by
       by_cases hq:(cs==cs.dropLast++[(d0,want)])=true
       ·left
        have hm:(d0,want)∈cs:=by
         have:=eq_of_beq hq
         rw[this];simp
        unfold St.put
        cases hdst:dst with
        |none=>rfl
        |some d=>
         have hne:d0≠d:=(hd d hdst).2 _ hm
         unfold zmr
         dsimp only
         rw[List.getElem?_set_ne (Ne.symm hne)]
       ·right;simpa using hq
      rcases hgs with hgs|hgs<;>rw[hgs]
      ·simp
     ·rfl
   ·rfl
 ·rfl
def zb4:List Nat->Nat
 |[]=>0
 |n::ns=>2 ^ n ||| zb4 ns
theorem zfk{l:List Nat}{n:Nat}(h:n∈l):(zb4 l).testBit n=true:=by
 induction l with
 |nil=>cases h
 |cons m ms ih=>
  simp only[zb4,Nat.testBit_or,Bool.or_eq_true]
  rcases List.mem_cons.1 h with rfl|h
  ·left;simp[Nat.testBit_two_pow_self]
  ·exact .inr (ih h)
theorem zla{l m:List Nat}(h:zb4 l &&& zb4 m=0){n:Nat}(h1:n∈l)(h2:n∈m):False:=by
 have e:(zb4 l &&& zb4 m).testBit n=true:=by rw[Nat.testBit_and,zfk h1,zfk h2];rfl
 rw[h]at e;simp at e
structure FP where
 w:Nat
 rd:Nat
 d:Nat
 hr:Nat
 hw:Nat
def zf9(o:Oper):List Nat:=(o.after.toList.filter λe=>Region.binds .any e).map (·.on)
def ydg(o:Oper)(i:Nat):Prop:=∃e∈o.after,Region.binds .any e=true/\e.on=i
theorem zh4{o:Oper}{i:Nat}:i∈zf9 o↔ydg o i:=by
 unfold zf9 ydg
 constructor
 ·intro h
  obtain⟨e,he,rfl⟩:=List.mem_map.1 h
  rw[List.mem_filter]at he
  exact⟨e,Array.mem_toList_iff.1 he.1,he.2,rfl⟩
 ·rintro⟨e,he,hb,rfl⟩
  exact List.mem_map.2 ⟨e,List.mem_filter.2 ⟨Array.mem_toList_iff.2 he,hb⟩,rfl⟩
def zj6(acc:List Nat):List Nat->Nat
 |[]=>0
 |n::ns=>2 ^ n ||| acc.getD n 0 ||| zj6 acc ns
def twGo:List Nat->List Oper->List Nat
 |acc,[]=>acc
 |acc,o::l=>twGo (acc++[zj6 acc (zf9 o)]) l
def twOf(ops:Array Oper):List Nat:=twGo [] ops.toList
theorem zs6{acc:List Nat}{i:Nat}:∀{ns:List Nat},(zj6 acc ns).testBit i=true->∃n∈ns,i=n\/(acc.getD n 0).testBit i=true
 |[],h=>by simp[zj6]at h
 |n::ns,h=>by
  simp only[zj6,Nat.testBit_or,Bool.or_eq_true]at h
  rcases h with(h|h)|h
  ·by_cases e:n=i
   ·exact⟨n,by simp,.inl e.symm⟩
   ·rw[Nat.testBit_two_pow_of_ne e]at h;cases h
  ·exact⟨n,by simp,.inr h⟩
  ·obtain⟨k,hk,h⟩:=zs6 h
   exact⟨k,by simp[hk],h⟩
theorem ze9:∀(l:List Oper) (acc:List Nat),∃r,twGo acc l=acc++r/\r.length=l.length/\∀j o,l[j]? = some o->r[j]? = some (zj6 (acc++r.take j) (zf9 o))
 |[],acc=>⟨[],by simp[twGo],rfl,λj o h=>by simp at h⟩
 |o::l,acc=>by
  obtain⟨r,h1,h2,h3⟩:=ze9 l (acc++[zj6 acc (zf9 o)])
  refine⟨zj6 acc (zf9 o)::r,by simp only[twGo,h1,List.append_assoc,List.singleton_append],by simp[h2],λj o' hj=>?_⟩
  cases j with
  |zero=>
   simp only[List.getElem?_cons_zero,Option.some.injEq]at hj;subst hj
   simp
  |succ j=>
   have:=h3 j o' (by simpa using hj)
   simp only[List.getElem?_cons_succ,List.take_succ_cons]
   rw[this]
   simp[List.append_assoc]
theorem zqq{ops:Array Oper}{j i:Nat}{o:Oper}(hj:ops[j]? = some o)(h:((twOf ops).getD j 0).testBit i=true):∃n∈zf9 o,i=n\/(n<j/\((twOf ops).getD n 0).testBit i=true):=by
 obtain⟨r,h1,h2,h3⟩:=ze9 ops.toList []
 have e:twOf ops=r:=by unfold twOf;rw[h1];rfl
 rw[e]at h ⊢
 have hr:=h3 j o (by simpa using hj)
 rw[List.getD_eq_getElem?_getD,hr,Option.getD_some]at h
 obtain⟨n,hn,hb⟩:=zs6 h
 refine⟨n,hn,?_⟩
 rcases hb with hb|hb
 ·exact .inl hb
 ·rw[List.nil_append,List.getD_eq_getElem?_getD]at hb
  by_cases hlt:n<j
  ·rw[List.getElem?_take_of_lt hlt]at hb
   exact .inr ⟨hlt,by rw[List.getD_eq_getElem?_getD];exact hb⟩
  ·rw[List.getElem?_eq_none (by simp;omega)]at hb
   simp at hb
def fpOf(ops:Array Oper)(o:Oper)(t:Tch):FP:=
 {w:=0,
  rd:=zb4 (zhx o++match zdu ops (ops.size+1) o with|some cs=>cs.map (·.1)|none=>[]),
  d:=zb4 o.dst.toList,hr:=zb4 t.1,hw:=zb4 t.2}
def ind(f g:FP):Bool:=
 f.d &&& g.rd==0&&g.d &&& f.rd==0&&f.d &&& g.d==0&&f.hw &&& (g.hr ||| g.hw)==0&&g.hw &&& f.hr==0
def zvh(k:Nat)(f:FP):List FP->Bool
 |[]=>true
 |g::gs=>(g.w.testBit k||ind f g)&&zvh k f gs
def zls:Nat->List FP->Bool
 |_,[]=>true
 |k,f::fs=>decide (f.w<2 ^ k)&&zvh k f fs&&zls (k+1) fs
theorem zpj{k:Nat}{f:FP}:∀{gs:List FP},zvh k f gs=true->∀g∈gs,g.w.testBit k=true\/ind f g=true
 |[],_,_,hg=>by cases hg
 |g::gs,h,g',hg=>by
  simp only[zvh,Bool.and_eq_true,Bool.or_eq_true]at h
  rcases List.mem_cons.1 hg with rfl|hg
  ·exact h.1
  ·exact zpj h.2 g' hg
theorem zmc:∀{fs:List FP} {k:Nat},zls k fs=true->∀i f,fs[i]? = some f->f.w<2 ^ (k+i)/\∀j g,i<j->fs[j]? = some g->g.w.testBit (k+i)=true\/ind f g=true
 |[],_,_,i,f,hi=>by simp at hi
 |f::fs,k,h,i,f',hi=>by
  simp only[zls,Bool.and_eq_true,decide_eq_true_eq]at h
  cases i with
  |zero=>
   simp only[List.getElem?_cons_zero,Option.some.injEq]at hi;subst hi
   refine⟨h.1.1,λj g hj hg=>?_⟩
   cases j with
   |zero=>omega
   |succ j=>exact zpj h.1.2 g (List.mem_of_getElem? (by simpa using hg))
  |succ i=>
   obtain⟨h1,h2⟩:=zmc h.2 i f' (by simpa using hi)
   rw[show k+(i+1)=k+1+i by omega]
   refine⟨h1,λj g hj hg=>?_⟩
   cases j with
   |zero=>omega
   |succ j=>exact h2 j g (by omega) (by simpa using hg)
theorem zt0{l:List Nat}{n:Nat}(h:(zb4 l).testBit n=true):n∈l:=by
 induction l with
 |nil=>simp[zb4]at h
 |cons m ms ih=>
  simp only[zb4,Nat.testBit_or,Bool.or_eq_true]at h
  rcases h with h|h
  ·by_cases e:m=n
   ·simp[e]
   ·rw[Nat.testBit_two_pow_of_ne e]at h;cases h
  ·exact List.mem_cons_of_mem _ (ih h)
section
variable(P:Program)(tb:Nat->List Value->Option (Value×List Prop))(ops:Array Oper)(base:Nat)(ts:List Tch)
def zdo(i:Nat)(s:St):Option (Oper×Res):=
 match ops[i]? with
 |some o=>match core P tb ops base i o (ts.getD i ([],[])) s with
  |some r=>some (o,r)
  |none=>none
 |none=>none
def AllO(F:St->Prop):Nat->Array Bool->St->Prop
 |0,L,s=>Region.ready .any ops L=[]/\F s
 |f+1,L,s=>(Region.ready .any ops L=[]->F s)/\
  ∀i∈Region.ready .any ops L,∃o r,zdo P tb ops base ts i s=some (o,r)/\allP r.sides/\AllO F f (L.setIfInBounds i true) (s.put o.dst r)
end
section
variable{P:Program}{tb:Nat->List Value->Option (Value×List Prop)}{ops:Array Oper}{base:Nat}{ts:List Tch}{F:St->Prop}
theorem zes{i:Nat}{s:St}{o:Oper}{r:Res}(h:zdo P tb ops base ts i s=some (o,r)):ops[i]? = some o/\core P tb ops base i o (ts.getD i ([],[])) s=some r:=by
 unfold zdo at h
 split at h
 ·rename_i o' ho
  split at h
  ·rename_i r' hr
   simp only[Option.some.injEq,Prod.mk.injEq]at h
   obtain⟨rfl,rfl⟩:=h
   exact⟨ho,hr⟩
  ·cases h
 ·cases h
theorem zji{i:Nat}{o:Oper}{t:Tch}{s:St}{r:Res}(h:core P tb ops base i o t s=some r):(∃cs,zdu ops (ops.size+1) o=some cs)/\∀n c,r.upd=some (n,c)->n∈t.2:=by
 unfold core at h
 split at h
 ·cases h
 ·rename_i cs hcs
  refine⟨⟨cs,hcs⟩,?_⟩
  split at h
  ·split at h
   ·cases h
   ·rename_i r0 _
    split at h
    ·rename_i hc
     simp only[Bool.and_eq_true]at hc
     split at h
     ·simp only[Option.some.injEq]at h;subst h
      intro n c hn
      have:=hc.1
      rw[hn]at this
      simpa [zzk]using this
     ·split at h
      ·split at h
       ·simp only[Option.some.injEq]at h;subst h
        intro n c hn;cases hn
       ·cases h
      ·cases h
    ·cases h
  ·cases h
def yiw(i j:Nat):Prop:=∀oi oj,ops[i]? = some oi->ops[j]? = some oj->ind (fpOf ops oi (ts.getD i ([],[]))) (fpOf ops oj (ts.getD j ([],[])))=true
theorem z3m{oi oj:Oper}{ti tj:Tch}(h:ind (fpOf ops oi ti) (fpOf ops oj tj)=true) :
  (∀d,oi.dst=some d->d∉zhx oj/\∀cs,zdu ops (ops.size+1) oj=some cs->∀c∈cs,c.1≠d)/\
  (∀d,oj.dst=some d->d∉zhx oi/\∀cs,zdu ops (ops.size+1) oi=some cs->∀c∈cs,c.1≠d)/\
  (∀d,oi.dst=some d->oj.dst≠some d)/\(∀n∈ti.2,n∉tj.1/\n∉tj.2)/\(∀n∈tj.2,n∉ti.1/\n∉ti.2):=by
 simp only[ind,fpOf,Bool.and_eq_true,beq_iff_eq]at h
 obtain⟨⟨⟨⟨h1,h2⟩,h3⟩,h4⟩,h5⟩:=h
 have key:∀{o o':Oper},zb4 o.dst.toList &&& zb4 (zhx o'++match zdu ops (ops.size+1) o' with|some cs=>cs.map (·.1)|none=>[])=0->
   ∀d,o.dst=some d->d∉zhx o'/\∀cs,zdu ops (ops.size+1) o'=some cs->∀c∈cs,c.1≠d:=by
  intro o o' hm d hd
  have hdm:d∈o.dst.toList:=by simp[hd]
  refine⟨λhr=>zla hm hdm (by simp[hr]),λcs hcs c hc he=>zla hm hdm ?_⟩
  rw[hcs]
  exact List.mem_append.2 (.inr (List.mem_map.2 ⟨c,hc,he⟩))
 have h4':∀n∈ti.2,n∉tj.1/\n∉tj.2:=by
  intro n hn
  have e:∀m,(zb4 ti.2 &&& (zb4 tj.1 ||| zb4 tj.2)).testBit m=false:=λm=>by rw[h4];simp
  have:=e n
  rw[Nat.testBit_and,Nat.testBit_or,zfk hn,Bool.true_and,Bool.or_eq_false_iff]at this
  exact⟨λz=>(by rw[zfk z]at this;exact Bool.noConfusion this.1),λz=>(by rw[zfk z]at this;exact Bool.noConfusion this.2)⟩
 refine⟨key h1,key h2,λd hd he=>zla h3 (n:=d) (by simp[hd]) (by simp[he]),h4',λn hn=>⟨λz=>zla h5 hn z,λz=>(h4' n z).2 hn⟩⟩
theorem zu1{s:St}{ri rj:Res}{di dj:Option Nat}(hd:∀d,di=some d->dj≠some d)(hu:∀n c m e,ri.upd=some (n,c)->rj.upd=some (m,e)->n≠m) :
  (s.put di ri).put dj rj=(s.put dj rj).put di ri:=by
 unfold St.put
 congr 1
 ·cases di with
  |none=>cases dj<;>rfl
  |some d=>cases dj with
   |none=>rfl
   |some e=>
    have:d≠e:=λz=>hd d rfl (by rw[z])
    exact List.set_comm _ _ this
 ·cases hi:ri.upd with
  |none=>cases hj:rj.upd<;>rfl
  |some x=>cases hj:rj.upd with
   |none=>rfl
   |some y=>
    obtain⟨n,c⟩:=x
    obtain⟨m,e⟩:=y
    exact List.set_comm _ _ (hu n c m e hi hj)
theorem swap{i j:Nat}{s:St}{oi oj:Oper}{ri rj:Res}(hap:yiw (ops:=ops) (ts:=ts) i j)(hi:zdo P tb ops base ts i s=some (oi,ri))(hj:zdo P tb ops base ts j (s.put oi.dst ri)=some (oj,rj)) :
  zdo P tb ops base ts j s=some (oj,rj)/\zdo P tb ops base ts i (s.put oj.dst rj)=some (oi,ri)/\(s.put oi.dst ri).put oj.dst rj=(s.put oj.dst rj).put oi.dst ri:=by
 obtain⟨hoi,hci⟩:=zes hi
 obtain⟨hoj,hcj⟩:=zes hj
 obtain⟨h1,h2,h3,h4,h5⟩:=z3m (hap oi oj hoi hoj)
 obtain⟨⟨csi,hcsi⟩,hui⟩:=zji hci
 obtain⟨⟨csj,hcsj⟩,huj⟩:=zji hcj
 have ej:=zir (P:=P) (tb:=tb) (base:=base) (j:=j) (t:=ts.getD j ([],[])) (st:=s) (dst:=oi.dst) (r:=ri) hcsj (λd hd=>⟨(h1 d hd).1,(h1 d hd).2 csj hcsj⟩) (λn c hn=>h4 n (hui n c hn))
 rw[ej]at hcj
 have ei:=zir (P:=P) (tb:=tb) (base:=base) (j:=i) (t:=ts.getD i ([],[])) (st:=s) (dst:=oj.dst) (r:=rj) hcsi (λd hd=>⟨(h2 d hd).1,(h2 d hd).2 csi hcsi⟩) (λn c hn=>h5 n (huj n c hn))
 refine⟨by unfold zdo;rw[hoj];dsimp only;rw[hcj],by unfold zdo;rw[hoi];dsimp only;rw[ei,hci],zu1 h3 λn c m e hn hm he=>?_⟩
 subst he
 exact(h4 n (hui n c hn)).2 (huj n e hm)
def ziy(ops:Array Oper)(L:Array Bool):Prop:=∀j oj,ops[j]? = some oj->L.getD j false=true->∀n,ydg oj n->L.getD n false=true
theorem ziy.through{L:Array Bool}(h:ziy ops L){i:Nat}:∀(j:Nat) (oj:Oper),ops[j]? = some oj->L.getD j false=true->((twOf ops).getD j 0).testBit i=true->L.getD i false=true:=by
 intro j
 induction j using Nat.strongRecOn with
 |_ j ih=>
  intro oj hj hl hb
  obtain⟨n,hn,hx⟩:=zqq hj hb
  have hnl:=h j oj hj hl n (zh4.1 hn)
  rcases hx with rfl|⟨hlt,hx⟩
  ·exact hnl
  ·cases hon:ops[n]? with
   |some on=>exact ih n hlt on hon hnl hx
   |none=>
    have hsz:(twOf ops).length=ops.size:=by
     obtain⟨r,h1,h2,_⟩:=ze9 ops.toList []
     unfold twOf;rw[h1];simpa using h2
    have:ops.size<=n:=Array.getElem?_eq_none_iff.1 hon
    rw[List.getD_eq_getElem?_getD,List.getElem?_eq_none (by omega)]at hx
    simp at hx
theorem ziy.set{L:Array Bool}(h:ziy ops L){i:Nat}(hi:i∈Region.ready .any ops L):ziy ops (L.setIfInBounds i true):=by
 obtain⟨_,oi,hoi,hw⟩:=mem_ready.1 hi
 intro j oj hj hl n hn
 refine getD_set_true ?_
 by_cases e:i=j
 ·subst e
  have:oj=oi:=Option.some.inj (hj.symm.trans hoi)
  subst this
  obtain⟨e,he,hb,rfl⟩:=hn
  exact hw e he hb
 ·rw[getD_set_ne false e]at hl
  exact h j oj hj hl n hn
theorem zo6{i:Nat}{oi:Oper}:∀(f:Nat) (L:Array Bool) (s:St) (ri:Res),
  (∀j oj,ops[j]? = some oj->j≠i->L.getD j true=false->((twOf ops).getD j 0).testBit i=false->yiw (ops:=ops) (ts:=ts) i j)->ziy ops L->
  i∈Region.ready .any ops L->zdo P tb ops base ts i s=some (oi,ri)->allP ri.sides->
  AllO P tb ops base ts F f (L.setIfInBounds i true) (s.put oi.dst ri)->AllO P tb ops base ts F (f+1) L s:=by
 intro f
 induction f with
 |zero=>
  intro L s ri _ _ hr hi hs H
  refine⟨λh=>(by rw[h]at hr;cases hr),λj hj=>?_⟩
  by_cases hji:j=i
  ·subst hji;exact⟨oi,ri,hi,hs,H⟩
  ·have:=ready_mono hj hji
   rw[H.1]at this
   cases this
 |succ f ih=>
  intro L s ri hfree hcl hr hi hs H
  refine⟨λh=>(by rw[h]at hr;cases hr),λj hj=>?_⟩
  by_cases hji:j=i
  ·subst hji;exact⟨oi,ri,hi,hs,H⟩
  ·obtain⟨oj,rj,hsj,hsides,hall⟩:=H.2 j (ready_mono hj hji)
   obtain⟨hjun,oj',hoj,hwait⟩:=mem_ready.1 hj
   have hnot:((twOf ops).getD j 0).testBit i=false:=by
    cases hb:((twOf ops).getD j 0).testBit i with
    |false=>rfl
    |true=>
     have h0:=(mem_ready.1 hr).1
     have hil:L.getD i false=true:=by
      obtain⟨n,hn,hx⟩:=zqq hoj hb
      obtain⟨e,he,hbd,rfl⟩:=zh4.1 hn
      have hnl:=hwait e he hbd
      rcases hx with rfl|⟨hlt,hx⟩
      ·exact hnl
      ·have hjlt:j<ops.size:=(Array.getElem?_eq_some_iff.1 hoj).1
       exact hcl.through e.on (ops[e.on]'(by omega)) (Array.getElem?_eq_getElem (by omega)) hnl hx
     rcases Nat.lt_or_ge i L.size with h'|h'
     ·simp[h']at h0 hil;rw[h0]at hil;cases hil
     ·simp[Array.getElem?_eq_none h']at hil
   obtain⟨e1,e2,e3⟩:=swap (hfree j oj' hoj hji hjun hnot) hi hsj
   refine⟨oj,rj,e1,hsides,ih _ _ ri (λk ok hk hki hun hno=>hfree k ok hk hki ?_ hno) (hcl.set hj) (ready_mono hr (Ne.symm hji)) e2 hs ?_⟩
   ·by_cases hjk:j=k
    ·subst hjk;exact hjun
    ·rw[getD_set_ne true hjk]at hun;exact hun
   ·rw[Array.setIfInBounds_comm _ _ hji,←e3]
    exact hall
end
def zcb(P:Program)(tb:Nat->List Value->Option (Value×List Prop))(ops:Array Oper)(base:Nat):Nat->List Oper->St->Option (St×List Prop×List Tch)
 |_,[],s=>some (s,[],[])
 |j,o::l,s=>
  match zdu ops (ops.size+1) o with
  |none=>none
  |some cs=>
   match core P tb ops base j o (zc9 (evS s.slots cs) (base+j) o) s with
   |none=>none
   |some r=>
    match zcb P tb ops base (j+1) l (s.put o.dst r)with
    |some (s',ps,ts)=>some (s',r.sides++ps,zc9 (evS s.slots cs) (base+j) o::ts)
    |none=>none
def z02:Nat->List Oper->Bool
 |_,[]=>true
 |m,o::l=>match o.dst with
  |none=>z02 m l
  |some d=>!m.testBit d&&z02 (m ||| 2 ^ d) l
def yhn:Nat->List Oper->Bool
 |_,[]=>true
 |j,o::l=>(match o.guard with
  |none=>true
  |some (g,_)=>decide (g<j)&&o.after.any λe=>Region.binds .any e&&e.on==g)&&yhn (j+1) l
def regB(ops:Array Oper):Bool:=z02 0 ops.toList&&yhn 0 ops.toList
theorem zmu:∀{l:List Oper} {m:Nat},z02 m l=true->∀(j:Nat) (o:Oper) (d:Nat),l[j]? = some o->o.dst=some d->m.testBit d=false
 |[],_,_,j,o,d,hj,_=>by simp at hj
 |o'::l,m,h,j,o,d,hj,hd=>by
  simp only[z02]at h
  cases j with
  |zero=>
   simp only[List.getElem?_cons_zero,Option.some.injEq]at hj;subst hj
   rw[hd]at h
   simp only[Bool.and_eq_true,Bool.not_eq_true']at h
   exact h.1
  |succ j=>
   split at h
   ·exact zmu h j o d (by simpa using hj) hd
   ·simp only[Bool.and_eq_true]at h
    have:=zmu h.2 j o d (by simpa using hj) hd
    rw[Nat.testBit_or,Bool.or_eq_false_iff]at this
    exact this.1
theorem zli:∀{l:List Oper} {m:Nat},z02 m l=true->∀(i j:Nat) (oi oj:Oper) (d:Nat),i<j->l[i]? = some oi->l[j]? = some oj->oi.dst=some d->oj.dst=some d->False
 |[],_,_,i,j,oi,oj,d,_,hi,_,_,_=>by simp at hi
 |o'::l,m,h,i,j,oi,oj,d,hij,hi,hj,hdi,hdj=>by
  simp only[z02]at h
  cases j with
  |zero=>omega
  |succ j=>
   cases i with
   |zero=>
    simp only[List.getElem?_cons_zero,Option.some.injEq]at hi;subst hi
    rw[hdi]at h
    simp only[Bool.and_eq_true]at h
    have:=zmu h.2 j oj d (by simpa using hj) hdj
    rw[Nat.testBit_or,Nat.testBit_two_pow_self]at this
    simp at this
   |succ i=>
    split at h
    ·exact zli h i j oi oj d (by omega) (by simpa using hi) (by simpa using hj) hdi hdj
    ·simp only[Bool.and_eq_true]at h
     exact zli h.2 i j oi oj d (by omega) (by simpa using hi) (by simpa using hj) hdi hdj
theorem zt6:∀{l:List Oper} {k:Nat},yhn k l=true->∀(j:Nat) (o:Oper) (g:Nat) (w:Bool),l[j]? = some o->o.guard=some (g,w)->g<k+j/\∃e∈o.after,Region.binds .any e=true/\e.on=g
 |[],_,_,j,o,g,w,hj,_=>by simp at hj
 |o'::l,k,h,j,o,g,w,hj,hg=>by
  simp only[yhn,Bool.and_eq_true]at h
  cases j with
  |zero=>
   simp only[List.getElem?_cons_zero,Option.some.injEq]at hj;subst hj
   rw[hg]at h
   simp only[Bool.and_eq_true,decide_eq_true_eq]at h
   obtain⟨e,he,hb⟩:=Array.any_eq_true'.1 h.1.2
   simp only[Bool.and_eq_true,beq_iff_eq]at hb
   exact⟨by omega,e,he,hb.1,hb.2⟩
  |succ j=>
   have:=zt6 h.2 j o g w (by simpa using hj) hg
   exact⟨by omega,this.2⟩
theorem zrc{ops:Array Oper}(h:regB ops=true):z1q ops:=by
 simp only[regB,Bool.and_eq_true]at h
 refine⟨λi j oi oj d hi hj hdi hdj=>?_,λj o g w hj hg=>?_⟩
 ·have hi':ops.toList[i]? = some oi:=by simpa using hi
  have hj':ops.toList[j]? = some oj:=by simpa using hj
  rcases Nat.lt_trichotomy i j with hlt|he|hlt
  ·exact(zli h.1 i j oi oj d hlt hi' hj' hdi hdj).elim
  ·exact he
  ·exact(zli h.1 j i oj oi d hlt hj' hi' hdj hdi).elim
 ·have:=zt6 h.2 j o g w (by simpa using hj) hg
  exact⟨by omega,this.2⟩
section
variable{P:Program}{tb:Nat->List Value->Option (Value×List Prop)}{ops:Array Oper}{base:Nat}{ts:List Tch}{F:St->Prop}{w0:World}{Q:Exit->Act->World->Prop}
theorem Inv.iff{L L':Nat->Prop}{s:St}(h:Inv ops base L s)(e:∀i,L i↔L' i):Inv ops base L' s:=
 ⟨λi c hc=>by obtain⟨j,oj,h1,h2,h3⟩:=h.conds i c hc;exact⟨j,oj,h1,(e j).1 h2,h3⟩,λj o hj hL hm=>h.fresh j o hj (λz=>hL ((e j).1 z)) hm⟩
theorem zfd{L:Array Bool}{i:Nat}(h:L.getD i true=false):L.getD i false=false:=by
 rcases Nat.lt_or_ge i L.size with h'|h'
 ·simp[h']at h ⊢;exact h
 ·simp[Array.getElem?_eq_none h']at h
theorem zho{L:Array Bool}{i j:Nat}(h:L.getD j true=false):(L.setIfInBounds j true).getD i false=true↔(L.getD i false=true\/i=j):=by
 have hlt:j<L.size:=by
  rcases Nat.lt_or_ge j L.size with h'|h'
  ·exact h'
  ·simp[Array.getElem?_eq_none h']at h
 by_cases e:j=i
 ·subst e;simp[hlt]
 ·rw[getD_set_ne false e]
  exact⟨.inl,λz=>z.resolve_right (λz=>e z.symm)⟩
theorem zd9(rk:z1q ops)(ht:TbOk P tb)(hQ:∀β s a w,F s->M w0 β s a w->Q .normal a w):∀(f:Nat) (L:Array Bool) (s:St) (a:Act) (w:World) (β:Nat->Nat),
  AllO P tb ops base ts F f L s->M w0 β s a w->Inv ops base (λi=>L.getD i false=true) s->wpAny P .any ops Q f L a w
 |0,L,s,a,w,β,h,m,_=>⟨h.1,hQ β s a w h.2 m⟩
 |f+1,L,s,a,w,β,h,m,inv=>by
  refine⟨λhr=>hQ β s a w (h.1 hr) m,λi hi=>?_⟩
  obtain⟨o,r,hs,hsd,hall⟩:=h.2 i hi
  obtain⟨ho,hc⟩:=zes hs
  obtain⟨h0,o',ho',hw⟩:=mem_ready.1 hi
  have e:o'=o:=Option.some.inj (ho'.symm.trans ho)
  subst e
  refine zh6 rk ht m inv ho (by simp[zfd h0]) (λg q hg=>?_) hc hsd λβ' a' w' m' inv'=>?_
  ·obtain⟨_,e,he,hb,hon⟩:=rk.guards i o' g q ho hg
   rw[←hon];exact hw e he hb
  ·exact zd9 rk ht hQ f _ _ _ _ β' hall m' (inv'.iff λk=>(zho h0).symm)
def zr6(ops:Array Oper)(ts:List Tch):List FP:=List.zipWith (λf w=>{f with w:=w}) (List.zipWith (fpOf ops) ops.toList ts) (twOf ops)
theorem zii:∀(l:List Oper) (k:Nat) (s s':St) (ps:List Prop) (ts:List Tch),zcb P tb ops base k l s=some (s',ps,ts)->ts.length=l.length
 |[],k,s,s',ps,ts,h=>by simp only[zcb,Option.some.injEq,Prod.mk.injEq]at h;rw[←h.2.2];rfl
 |o::l,k,s,s',ps,ts,h=>by
  simp only[zcb]at h
  split at h
  ·cases h
  ·split at h
   ·cases h
   ·split at h
    ·rename_i s2 ps2 ts2 h2
     simp only[Option.some.injEq,Prod.mk.injEq]at h
     rw[←h.2.2,List.length_cons,List.length_cons,zii l _ _ _ _ _ h2]
    ·cases h
theorem zll(hB:zls 0 (zr6 ops ts)=true)(hts:ts.length=ops.size)(hF:∀s',F s'↔F s'):∀(l:List Oper) (k:Nat) (L:Array Bool) (s s':St) (ps:List Prop) (ts':List Tch),
  (∀j,l[j]? = ops[k+j]?)->k+l.length=ops.size->(∀i,L.getD i true=false↔(k<=i/\i<ops.size))->(∀i,L.getD i false=true↔i<k)->ziy ops L->
  zcb P tb ops base k l s=some (s',ps,ts')->(∀j,ts'[j]? = ts[k+j]?)->allP ps->F s'->AllO P tb ops base ts F l.length L s
 |[],k,L,s,s',ps,ts',hl,hk,hL,hL',hcl,hrun,htk,hps,hf=>by
  simp only[zcb,Option.some.injEq,Prod.mk.injEq]at hrun
  obtain⟨rfl,_,_⟩:=hrun
  refine⟨?_,hf⟩
  cases hr:Region.ready .any ops L with
  |nil=>rfl
  |cons x xs=>
   have hx:x∈Region.ready .any ops L:=by rw[hr];simp
   have:=(hL x).1 (mem_ready.1 hx).1
   simp only[List.length_nil]at hk
   omega
 |o::l,k,L,s,s',ps,ts',hl,hk,hL,hL',hcl,hrun,htk,hps,hf=>by
  have h0:ops[k]? = some o:=by simpa using (hl 0).symm
  have hklt:k<ops.size:=(Array.getElem?_eq_some_iff.1 h0).1
  simp only[zcb]at hrun
  split at hrun
  ·cases hrun
  ·rename_i cs hcs
   split at hrun
   ·cases hrun
   ·rename_i r hr
    split at hrun
    ·rename_i s2 ps2 ts2 h2
     simp only[Option.some.injEq,Prod.mk.injEq]at hrun
     obtain⟨rfl,rfl,rfl⟩:=hrun
     rw[zbp]at hps
     have htk0:ts.getD k ([],[])=zc9 (evS s.slots cs) (base+k) o:=by
      have:=htk 0
      simp only[List.getElem?_cons_zero,Nat.add_zero]at this
      rw[List.getD_eq_getElem?_getD,←this];rfl
     have hstep:zdo P tb ops base ts k s=some (o,r):=by
      unfold zdo;rw[h0];dsimp only;rw[htk0,hr]
     have fpAt:∀j oj,ops[j]? = some oj->(zr6 ops ts)[j]? = some {fpOf ops oj (ts.getD j ([],[]))with w:=(twOf ops).getD j 0}:=λj oj hj=>by
      have hlt:j<ops.size:=(Array.getElem?_eq_some_iff.1 hj).1
      unfold zr6
      rw[List.getElem?_zipWith,List.getElem?_zipWith]
      have h1:ops.toList[j]? = some oj:=by simpa using hj
      have h3:ts[j]? = some (ts.getD j ([],[])):=by
       rw[List.getD_eq_getElem?_getD,List.getElem?_eq_getElem (by omega)];rfl
      have h4:(twOf ops)[j]? = some ((twOf ops).getD j 0):=by
       obtain⟨r,g1,g2,_⟩:=ze9 ops.toList []
       have e:twOf ops=r:=by unfold twOf;rw[g1];rfl
       rw[List.getD_eq_getElem?_getD,List.getElem?_eq_getElem (by rw[e,g2];simpa using hlt)];rfl
      rw[h1,h3,h4]
     obtain⟨hw,hlater⟩:=zmc hB k _ (fpAt k o h0)
     rw[Nat.zero_add]at hw
     dsimp only at hw
     have hready:k∈Region.ready .any ops L:=by
      rw[mem_ready]
      refine⟨(hL k).2 ⟨Nat.le_refl _,hklt⟩,o,h0,λe he hb=>(hL' e.on).2 ?_⟩
      have hm:e.on∈zf9 o:=zh4.2 ⟨e,he,hb,rfl⟩
      have hbit:((twOf ops).getD k 0).testBit e.on=true:=by
       obtain⟨r,g1,g2,g3⟩:=ze9 ops.toList []
       have e':twOf ops=r:=by unfold twOf;rw[g1];rfl
       rw[e',List.getD_eq_getElem?_getD,g3 k o (by simpa using h0),Option.getD_some]
       generalize []++r.take k=acc
       revert hm
       generalize zf9 o=ws
       intro hm
       induction ws with
       |nil=>cases hm
       |cons x xs ih=>
        simp only[zj6,Nat.testBit_or,Bool.or_eq_true]
        rcases List.mem_cons.1 hm with rfl|hm
        ·exact .inl (.inl (Nat.testBit_two_pow_self))
        ·exact .inr (ih hm)
      rcases Nat.lt_or_ge e.on k with h|h
      ·exact h
      ·have:((twOf ops).getD k 0).testBit e.on=false:=Nat.testBit_lt_two_pow (Nat.lt_of_lt_of_le hw (Nat.pow_le_pow_right (by decide) h))
       rw[this]at hbit;cases hbit
     refine zo6 (oi:=o) l.length L s r (λj oj hj hjk hun hno=>?_) hcl hready hstep hps.1 ?_
     ·intro oi oj' hoi hoj'
      have e1:oi=o:=Option.some.inj (hoi.symm.trans h0)
      have e2:oj'=oj:=Option.some.inj (hoj'.symm.trans hj)
      subst e1;subst e2
      have hkj:k<j:=by have:=((hL j).1 hun).1;omega
      rcases hlater j _ hkj (fpAt j oj' hj)with h|h
      ·rw[Nat.zero_add]at h
       dsimp only at h
       rw[hno]at h;cases h
      ·exact h
     ·refine zll hB hts hF l (k+1) _ _ _ ps2 ts2 (λj=>by have:=hl (j+1);simpa [Nat.add_assoc,Nat.add_comm 1 j]using this) (by simp only[List.length_cons]at hk;omega)
       (λi=>?_) (λi=>?_) (hcl.set hready) h2 (λj=>by have:=htk (j+1);simpa [Nat.add_assoc,Nat.add_comm 1 j]using this) hps.2 hf
      ·have hkL:L.getD k true=false:=(hL k).2 ⟨Nat.le_refl _,hklt⟩
       have hksz:k<L.size:=by
        rcases Nat.lt_or_ge k L.size with h'|h'
        ·exact h'
        ·simp[Array.getElem?_eq_none h']at hkL
       by_cases e:k=i
       ·subst e
        constructor
        ·intro h;simp[hksz]at h
        ·intro h;omega
       ·rw[getD_set_ne true e,hL i];omega
      ·rw[zho ((hL k).2 ⟨Nat.le_refl _,hklt⟩),hL' i];omega
    ·cases hrun
theorem zh3(rk:z1q ops)(ht:TbOk P tb):∀(l:List Oper) (k:Nat) (s s':St) (ps:List Prop) (ts':List Tch) (a:Act) (w:World) (β:Nat->Nat),
  (∀j,l[j]? = ops[k+j]?)->zcb P tb ops base k l s=some (s',ps,ts')->allP ps->M w0 β s a w->Inv ops base (λi=>i<k) s->(∀β a w,M w0 β s' a w->Q .normal a w)->
  wpOps P ops Q (List.range' k l.length) a w
 |[],k,s,s',ps,ts',a,w,β,hl,hrun,hps,m,inv,hQ=>by
  simp only[zcb,Option.some.injEq,Prod.mk.injEq]at hrun
  obtain⟨rfl,_,_⟩:=hrun
  exact hQ β a w m
 |o::l,k,s,s',ps,ts',a,w,β,hl,hrun,hps,m,inv,hQ=>by
  have h0:ops[k]? = some o:=by simpa using (hl 0).symm
  simp only[zcb]at hrun
  split at hrun
  ·cases hrun
  ·rename_i cs hcs
   split at hrun
   ·cases hrun
   ·rename_i r hr
    split at hrun
    ·rename_i s2 ps2 ts2 h2
     simp only[Option.some.injEq,Prod.mk.injEq]at hrun
     obtain⟨rfl,rfl,rfl⟩:=hrun
     rw[zbp]at hps
     rw[List.length_cons,List.range'_succ,wpOps_cons]
     refine zh6 rk ht m inv h0 (by omega) (λg q hg=>(rk.guards k o g q h0 hg).1) hr hps.1 λβ' a' w' m' inv'=>?_
     exact zh3 rk ht l (k+1) _ _ ps2 ts2 a' w' β' (λj=>by have:=hl (j+1);simpa [Nat.add_assoc,Nat.add_comm 1 j]using this) h2 hps.2 m' (inv'.iff λi=>by omega) hQ
    ·cases hrun
end
theorem zdb(n i:Nat):(Array.replicate n false).getD i false=false:=by
 by_cases h:i<n
 ·simp[h]
 ·simp[h]
def zh0(s:St):St:={s with slots:=s.slots.map λx=>if isG x then .junk else x}
def zki(ops:Array Oper):Nat:=if ops.any zbo then ops.size else 0
def zeh(P:Program)(tb:Nat->List Value->Option (Value×List Prop))(ops:Array Oper)(draw:Bool)(st:St):Option (St×List Prop):=
 if regB ops then
  match zcb P tb ops st.heap.length 0 ops.toList {st with heap:=st.heap++List.replicate (zki ops) none}with
  |some (s,ps,ts)=>if !draw||zls 0 (zr6 ops ts)then some (zh0 s,ps)else none
  |none=>none
 else none
def NoG(st:St):Prop:=∀s∈st.slots,isG s=false
section
variable{P:Program}{tb:Nat->List Value->Option (Value×List Prop)}{ops:Array Oper}{w0 w:World}{β:Nat->Nat}{st s':St}{a:Act}{ps:List Prop}{Q:Exit->Act->World->Prop}
theorem NoG.at_(h:NoG st)(i:Nat):isG (st.slots.getD i .junk)=false:=by
 rw[List.getD_eq_getElem?_getD]
 cases hi:st.slots[i]? with
 |none=>rfl
 |some s=>exact h s (List.mem_of_getElem? hi)
theorem zis(s:St):NoG (zh0 s):=by
 intro x hx
 obtain⟨y,_,rfl⟩:=List.mem_map.1 hx
 split
 ·rfl
 ·rename_i h;simpa using h
theorem zv3(m:M w0 β st a w):M w0 β (zh0 st) a w:=by
 have hg:∀i,(zh0 st).slots.getD i .junk=if isG (st.slots.getD i .junk)then .junk else st.slots.getD i .junk:=λi=>by
  simp only[zh0,List.getD_eq_getElem?_getD,List.getElem?_map]
  cases st.slots[i]?<;>rfl
 refine {defers:=m.defers,size:=by simp[zh0,m.size],slot:=λi u hu=>?_,locs:=λi n hn=>?_,mem:=m.mem}
 ·rw[hg i]
  split
  ·trivial
  ·rename_i h
   exact zbg (λ_ _=>rfl) (λc hc=>by rw[zbj (by simpa using h)]at hc;cases hc) (m.slot i u hu)
 ·rw[hg i]at hn
  split at hn
  ·simp[names]at hn
  ·exact m.locs i n hn
theorem ygn(m:M w0 β st a w)(k:Nat):M w0 β {st with heap:=st.heap++List.replicate k none} a w:=by
 have hg:∀n,(st.heap++List.replicate k none).getD n none=st.heap.getD n none:=λn=>by
  simp only[List.getD_eq_getElem?_getD,List.getElem?_append]
  split
  ·rfl
  ·rename_i h
   rw[List.getElem?_replicate,List.getElem?_eq_none (Nat.le_of_not_lt h)]
   split<;>rfl
 exact {defers:=m.defers,size:=m.size,slot:=m.slot,locs:=λi n hn=>(by obtain⟨c,hc⟩:=m.locs i n hn;exact⟨c,(hg n).trans hc⟩),mem:={at_:=λn c hc=>m.mem.at_ n c ((hg n).symm.trans hc),inj:=λn k c d hn hk=>m.mem.inj n k c d ((hg n).symm.trans hn) ((hg k).symm.trans hk),below:=m.mem.below}}
theorem zu6(ng:NoG st):Inv ops st.heap.length (λi=>(Array.replicate ops.size false).getD i false=true) {st with heap:=st.heap++List.replicate (zki ops) none}:=by
 refine⟨λi c hc=>?_,λj o hj _ hm=>?_⟩
 ·rw[zbj (ng.at_ i)]at hc;cases hc
 ·have hlt:j<ops.size:=(Array.getElem?_eq_some_iff.1 hj).1
  have hp:zki ops=ops.size:=by
   unfold zki
   rw[if_pos]
   rw[Array.any_eq_true']
   exact⟨o,Array.mem_of_getElem? hj,hm⟩
  rw[hp]
  refine⟨by simp;omega,?_⟩
  simp only[List.getD_eq_getElem?_getD,List.getElem?_append,List.getElem?_replicate]
  rw[if_neg (by omega)]
  split<;>rfl
theorem M.drew'(m:M w0 β st a w):M w0 β st a {w with drawn:=w.drawn+1}:=
 {defers:=m.defers,size:=m.size,slot:=m.slot,locs:=m.locs,mem:={at_:=m.mem.at_,inj:=m.mem.inj,below:=⟨m.mem.below.os,m.mem.below.tape,m.mem.below.output,m.mem.below.size,m.mem.below.block⟩}}
theorem ze3(ht:TbOk P tb){id:Nat}{draw:Bool}(hm:P.follows .mixedOrders=true)(m:M w0 β st a w)(ng:NoG st)(h:zeh P tb ops draw st=some (s',ps))(hs:allP ps)
  (hQ:∀β a w,M w0 β s' a w->NoG s'->Q .normal a w):(Code.region id ops draw).wp P Q a w:=by
 unfold zeh at h
 split at h
 ·rename_i hreg
  have rk:=zrc hreg
  split at h
  ·rename_i s ps' ts hrun
   split at h
   ·rename_i hord
    simp only[Option.some.injEq,Prod.mk.injEq]at h
    obtain⟨rfl,rfl⟩:=h
    have m0:=ygn m (zki ops)
    have inv0:=zu6 (ops:=ops) ng
    have hfin:∀β a w,M w0 β s a w->Q .normal a w:=λβ a w mm=>hQ β a w (zv3 mm) (zis s)
    cases draw with
    |false=>
     refine wp_region ?_
     rw[List.range_eq_range']
     have:=zh3 (Q:=Q) rk ht ops.toList 0 _ _ ps' ts a w β (λj=>by simp) hrun hs m0 (inv0.iff λi=>?_) hfin
     ·simpa using this
     ·rw[zdb];simp
    |true=>
     have hord':zls 0 (zr6 ops ts)=true:=by simpa using hord
     refine wp_region_any hm ?_
     have hall:=zll (F:=λx=>x=s) hord' (by rw[zii _ _ _ _ _ _ hrun];simp) (λ_=>Iff.rfl) ops.toList 0 (Array.replicate ops.size false) _ s ps' ts (λj=>by simp) (by simp)
      (λi=>?_) (λi=>by rw[zdb];simp) (λj oj _ hl=>by rw[zdb]at hl;cases hl) hrun (λj=>by simp) hs rfl
     ·have:=zd9 (Q:=Q) rk ht (λβ x a w hx mm=>by subst hx;exact hfin β a w mm) _ _ _ a _ β hall m0.drew' inv0
      simpa using this
     ·by_cases hi:i<ops.size
      ·simp[hi]
      ·simp[hi]
   ·cases h
  ·cases h
 ·cases h
end
inductive zcg where
 |normal
 |exit (id:Nat)
 |ret
def zcg.real:zcg->Exit
 |.normal=>.normal
 |.exit id=>.exit id
 |.ret=>.ret
inductive Out where
 |leaf (e:zcg) (s:St)
 |ite (b:Bool) (x y:Out)
 |side (ps:List Prop) (x:Out)
 |fail
def Out.sat(Q:zcg->St->Prop):Out->Prop
 |.leaf e s=>Q e s
 |.ite b x y=>(b=true->x.sat Q)/\(b=false->y.sat Q)
 |.side ps x=>allP ps/\x.sat Q
 |.fail=>False
def zi2(ops:Array Oper):Bool:=ops.any λo=>zbo o||(match o.op with|.store _ _ _=>true|_=>false)
def zcp(b:Bool):SV->SV->SV
 |.k u,.k v=>match u,v with
  |.int k p,.int k' q=>if k=k'/\p=q then .k (.int k p)else .v (zc1 3 b (.int k p) (.int k' q))
  |u,v=>.v (zc1 3 b u v)
 |.k u,.v v=>.v (zc1 3 b u v)
 |.v u,.k v=>.v (zc1 3 b u v)
 |.v u,.v v=>.v (zc1 3 b u v)
 |.loc n o,.loc n' o'=>if n=n'/\o=o' then .loc n o else .junk
 |_,_=>.junk
def zaq:Code->List Nat
 |.region _ ops _=>ops.toList.filterMap (·.dst)
 |.seq a b=>zaq a++zaq b
 |.cond _ a b=>zaq a++zaq b
 |_=>[]
def za6(b:Bool)(m:Nat):Nat->List SV->List SV->List SV
 |i,x::xs,y::ys=>(if m.testBit i then zcp b x y else y)::za6 b m (i+1) xs ys
 |_,_,_=>[]
def asim(P:Program)(tb:Nat->List Value->Option (Value×List Prop)):Code->St->Option (St×List Prop)
 |.skip,s=>some (s,[])
 |.region _ ops draw,s=>if zi2 ops then none else zeh P tb ops draw s
 |.seq a b,s=>match asim P tb a s with
  |some (s1,p1)=>match asim P tb b s1 with
   |some (s2,p2)=>some (s2,p1++p2)
   |none=>none
  |none=>none
 |.cond c a b,s=>match evS s.slots [] c with
  |.v (.bool q)=>match asim P tb a s,asim P tb b s with
   |some (s1,p1),some (s0,p0)=>
    if s1.slots.length=s0.slots.length then
     some ({slots:=za6 q (zb4 (zaq a++zaq b)) 0 s1.slots s0.slots,heap:=s.heap},(match p1 with|[]=>[]|ps=>[q=true->allP ps])++(match p0 with|[]=>[]|ps=>[q=false->allP ps]))
    else none
   |_,_=>none
  |_=>none
 |_,_=>none
def zhz(step:(St->Out)->St->Out):Nat->St->Out
 |0,_=>.fail
 |n+1,s=>step (zhz step n) s
def zjs(ps:List Prop)(o:Out):Out:=
 match ps with
 |[]=>o
 |ps=>.side ps o
def zhg(P:Program)(tb:Nat->List Value->Option (Value×List Prop))(fuel:Nat):Code->(zcg->St->Out)->St->Out
 |.skip,k,s=>k .normal s
 |.region _ ops draw,k,s=>match zeh P tb ops draw s with
  |some (s',ps)=>zjs ps (k .normal s')
  |none=>.fail
 |.seq a b,k,s=>zhg P tb fuel a (λe s=>match e with|.normal=>zhg P tb fuel b k s|.exit id=>k (.exit id) s|.ret=>k .ret s) s
 |.cond c a b,k,s=>match evS s.slots [] c with
  |.k (.bool q)=>bif q then zhg P tb fuel a k s else zhg P tb fuel b k s
  |.v (.bool q)=>match asim P tb (.cond c a b) s with
   |some (s',ps)=>zjs ps (k .normal s')
   |none=>.ite q (zhg P tb fuel a k s) (zhg P tb fuel b k s)
  |_=>.fail
 |.block id c,k,s=>zhg P tb fuel c (λe s=>match e with|.exit id'=>if id'=id then k .normal s else k (.exit id') s|.normal=>k .normal s|.ret=>k .ret s) s
 |.loop c,k,s=>zhz (λself s=>zhg P tb fuel c (λe s=>match e with|.normal=>self s|.exit id=>k (.exit id) s|.ret=>k .ret s) s) fuel s
 |.exit id,k,s=>k (.exit id) s
 |.ret,k,s=>k .ret s
 |_,_,_=>.fail
section
variable{P:Program}{tb:Nat->List Value->Option (Value×List Prop)}{w0:World}
theorem ze1{Q:zcg->St->Prop}{ps:List Prop}{o:Out}(h:(zjs ps o).sat Q):allP ps/\o.sat Q:=by
 unfold zjs at h
 split at h
 ·exact⟨trivial,h⟩
 ·exact h
theorem zdl{b:Bool}{m:Nat}:∀(xs ys:List SV) (i:Nat),xs.length=ys.length->∀j,(za6 b m i xs ys).getD j .junk=if m.testBit (i+j)/\j<ys.length then zcp b (xs.getD j .junk) (ys.getD j .junk)else ys.getD j .junk
 |[],[],_,_,j=>by simp[za6]
 |[],_::_,_,h,_=>by simp at h
 |_::_,[],_,h,_=>by simp at h
 |x::xs,y::ys,i,h,j=>by
  cases j with
  |zero=>
   simp only[za6,List.getD_cons_zero,Nat.add_zero,List.length_cons,Nat.zero_lt_succ,and_true]
  |succ j=>
   have:=zdl (b:=b) (m:=m) xs ys (i+1) (by simpa using h) j
   simp only[za6,List.getD_cons_succ,List.length_cons,Nat.add_lt_add_iff_right]
   rw[this,show i+1+j=i+(j+1)by omega]
theorem zb9{b:Bool}{m:Nat}:∀(xs ys:List SV) (i:Nat),xs.length=ys.length->(za6 b m i xs ys).length=ys.length
 |[],[],_,_=>rfl
 |[],_::_,_,h=>by simp at h
 |_::_,[],_,h=>by simp at h
 |x::xs,y::ys,i,h=>by simp only[za6,List.length_cons];rw[zb9 xs ys (i+1) (by simpa using h)]
theorem zg0(b:Bool)(x y:SV):isG (zcp b x y)=false:=by
 unfold zcp
 split
 ·split
  ·split<;>rfl
  ·rfl
 all_goals first|rfl|(split<;>rfl)
theorem zkl{β:Nat->Nat}{l l':List SV}{x y:SV}{u:Value}(h:Den β l x u):Den β l' (zcp true x y) u:=by
 unfold zcp
 split
 ·rename_i p q
  split
  ·split
   ·exact h
   ·show u=_;rw[zcj];exact h
  ·show u=_;rw[zcj];exact h
 ·show u=_;rw[zcj];exact h
 ·show u=_;rw[zcj];exact h
 ·show u=_;rw[zcj];exact h
 ·split
  ·exact h
  ·trivial
 ·trivial
theorem zi9{β:Nat->Nat}{l l':List SV}{x y:SV}{u:Value}(h:Den β l y u):Den β l' (zcp false x y) u:=by
 unfold zcp
 split
 ·rename_i p q
  split
  ·split
   ·rename_i e;obtain⟨rfl,rfl⟩:=e;exact h
   ·show u=_;rw[zb3];exact h
  ·show u=_;rw[zb3];exact h
 ·show u=_;rw[zb3];exact h
 ·show u=_;rw[zb3];exact h
 ·show u=_;rw[zb3];exact h
 ·split
  ·rename_i e;obtain⟨rfl,rfl⟩:=e;exact h
  ·trivial
 ·trivial
theorem zja{b:Bool}{x y:SV}{n:Nat}(h:n∈names (zcp b x y)):n∈names x:=by
 unfold zcp at h
 split at h
 ·split at h
  ·split at h<;>simp[names]at h
  ·simp[names]at h
 all_goals first|(simp[names]at h;done)|(split at h<;>first|exact h|(simp[names]at h;done))
theorem zf1{ops:Array Oper}{base:Nat}:∀(l:List Oper) (k:Nat) (s s':St) (ps:List Prop) (ts:List Tch),zcb P tb ops base k l s=some (s',ps,ts)->
  s'.slots.length=s.slots.length/\∀i,i∉l.filterMap (·.dst)->s'.slots.getD i .junk=s.slots.getD i .junk
 |[],k,s,s',ps,ts,h=>by
  simp only[zcb,Option.some.injEq,Prod.mk.injEq]at h
  obtain⟨rfl,_,_⟩:=h
  exact⟨rfl,λ_ _=>rfl⟩
 |o::l,k,s,s',ps,ts,h=>by
  simp only[zcb]at h
  split at h
  ·cases h
  ·split at h
   ·cases h
   ·rename_i r _
    split at h
    ·rename_i s2 ps2 ts2 h2
     simp only[Option.some.injEq,Prod.mk.injEq]at h
     obtain⟨rfl,_,_⟩:=h
     obtain⟨h3,h4⟩:=zf1 l _ _ _ _ _ h2
     have hl:(s.put o.dst r).slots.length=s.slots.length:=by unfold St.put;cases o.dst<;>simp
     refine⟨h3.trans hl,λi hi=>?_⟩
     rw[h4 i (λz=>hi (by
      rw[List.filterMap_cons];split
      ·exact z
      ·exact List.mem_cons_of_mem _ z))]
     unfold St.put
     cases hd:o.dst with
     |none=>rfl
     |some d=>
      have:d≠i:=λe=>hi (by rw[List.filterMap_cons,hd,e];simp)
      dsimp only
      rw[zbe,if_neg (λz=>this z.1)]
    ·cases h
theorem zv2(s:St)(i:Nat):(zh0 s).slots.getD i .junk=if isG (s.slots.getD i .junk)then .junk else s.slots.getD i .junk:=by
 simp only[zh0,List.getD_eq_getElem?_getD,List.getElem?_map]
 cases s.slots[i]?<;>rfl
theorem zkf{ops:Array Oper}{draw:Bool}{s s':St}{ps:List Prop}(ng:NoG s)(h:zeh P tb ops draw s=some (s',ps)) :
  s'.slots.length=s.slots.length/\∀i,i∉ops.toList.filterMap (·.dst)->s'.slots.getD i .junk=s.slots.getD i .junk:=by
 unfold zeh at h
 split at h
 ·split at h
  ·rename_i s2 ps2 ts2 hrun
   split at h
   ·simp only[Option.some.injEq,Prod.mk.injEq]at h
    obtain⟨rfl,_⟩:=h
    obtain⟨h1,h2⟩:=zf1 _ _ _ _ _ _ hrun
    refine⟨by simp only[zh0,List.length_map];exact h1,λi hi=>?_⟩
    rw[zv2,h2 i hi,if_neg (by rw[ng.at_ i];simp)]
   ·cases h
  ·cases h
 ·cases h
theorem zeg:∀(c:Code) (s s':St) (ps:List Prop),NoG s->asim P tb c s=some (s',ps)->NoG s'/\s'.slots.length=s.slots.length/\∀i,i∉zaq c->s'.slots.getD i .junk=s.slots.getD i .junk:=by
 intro c
 induction c with
 |skip=>intro s s' ps ng h;simp only[asim,Option.some.injEq,Prod.mk.injEq]at h;obtain⟨rfl,_⟩:=h;exact⟨ng,rfl,λ_ _=>rfl⟩
 |region id ops draw=>
  intro s s' ps ng h
  simp only[asim]at h
  split at h
  ·cases h
  ·have:=zkf ng h
   refine⟨?_,this⟩
   unfold zeh at h
   split at h
   ·split at h
    ·split at h
     ·simp only[Option.some.injEq,Prod.mk.injEq]at h
      obtain⟨rfl,_⟩:=h
      exact zis _
     ·cases h
    ·cases h
   ·cases h
 |seq a b iha ihb=>
  intro s s' ps ng h
  simp only[asim]at h
  split at h
  ·rename_i s1 p1 h1
   split at h
   ·rename_i s2 p2 h2
    simp only[Option.some.injEq,Prod.mk.injEq]at h
    obtain⟨rfl,_⟩:=h
    obtain⟨n1,l1,f1⟩:=iha _ _ _ ng h1
    obtain⟨n2,l2,f2⟩:=ihb _ _ _ n1 h2
    exact⟨n2,l2.trans l1,λi hi=>by simp only[zaq,List.mem_append,not_or]at hi;rw[f2 i hi.2,f1 i hi.1]⟩
   ·cases h
  ·cases h
 |cond c a b iha ihb=>
  intro s s' ps ng h
  simp only[asim]at h
  split at h
  ·rename_i q hq
   split at h
   ·rename_i s1 p1 s0 p0 h1 h0
    split at h
    ·rename_i hlen
     simp only[Option.some.injEq,Prod.mk.injEq]at h
     obtain⟨rfl,_⟩:=h
     obtain⟨n1,l1,f1⟩:=iha _ _ _ ng h1
     obtain⟨n0,l0,f0⟩:=ihb _ _ _ ng h0
     have hat:=λq=>zdl (b:=q) (m:=zb4 (zaq a++zaq b)) s1.slots s0.slots 0 hlen
     refine⟨λx hx=>?_,(zb9 _ _ 0 hlen).trans l0,λi hi=>?_⟩
     ·obtain⟨j,hj⟩:=List.getElem?_of_mem hx
      have e:=hat q j
      rw[List.getD_eq_getElem?_getD,hj,Option.getD_some]at e
      rw[e]
      split
      ·exact zg0 _ _ _
      ·exact n0.at_ j
     ·dsimp only
      rw[hat q i,if_neg]
      ·exact f0 i λz=>hi (by simp only[zaq,List.mem_append];exact .inr z)
      ·rintro⟨hb,_⟩
       rw[Nat.zero_add]at hb
       exact hi (by simp only[zaq];exact zt0 hb)
    ·cases h
   ·cases h
  ·cases h
 |_=>intro s s' ps ng h;simp[asim]at h
theorem zkx:∀(c:Code) (s s':St) (ps:List Prop),asim P tb c s=some (s',ps)->s'.heap=s.heap:=by
 have reg:∀(ops:Array Oper) (base:Nat) (l:List Oper) (k:Nat) (s s':St) (ps:List Prop) (ts:List Tch),(∀o∈l,zbo o=false/\∀t x y,o.op≠.store t x y)->zcb P tb ops base k l s=some (s',ps,ts)->s'.heap=s.heap:=by
  intro ops base l
  induction l with
  |nil=>intro k s s' ps ts _ h;simp only[zcb,Option.some.injEq,Prod.mk.injEq]at h;rw[←h.1]
  |cons o l ih=>
   intro k s s' ps ts hl h
   simp only[zcb]at h
   split at h
   ·cases h
   ·rename_i cs hcs
    split at h
    ·cases h
    ·rename_i r hr
     split at h
     ·rename_i s2 ps2 ts2 h2
      simp only[Option.some.injEq,Prod.mk.injEq]at h
      obtain⟨rfl,_,_⟩:=h
      rw[ih _ _ _ _ _ (λo ho=>hl o (by simp[ho])) h2]
      obtain⟨_,hu⟩:=zji hr
      have ht:(zc9 (evS s.slots cs) (base+k) o).2=[]:=by
       obtain⟨h1,h3⟩:=hl o (by simp)
       unfold zc9
       split
       ·rfl
       ·rename_i t x y ho;exact(h3 t x y ho).elim
       ·rename_i t ho;simp[zbo,ho]at h1
       ·rename_i t x ho;simp[zbo,ho]at h1
       ·rename_i t n ps ho;simp[zbo,ho]at h1
       ·rfl
      unfold St.put
      cases hru:r.upd with
      |none=>rfl
      |some x=>
       obtain⟨n,c⟩:=x
       have:=hu n c hru
       rw[ht]at this;cases this
     ·cases h
 intro c
 induction c with
 |skip=>intro s s' ps h;simp only[asim,Option.some.injEq,Prod.mk.injEq]at h;rw[←h.1]
 |region id ops draw=>
  intro s s' ps h
  simp only[asim]at h
  split at h
  ·cases h
  ·rename_i hst
   have hno:∀o∈ops,zbo o=false/\∀t x y,o.op≠.store t x y:=λo ho=>by
    have hst':zi2 ops=false:=by simpa using hst
    unfold zi2 at hst'
    have:=(Array.any_eq_false'.1 hst') o ho
    simp only[Bool.or_eq_true,not_or,Bool.not_eq_true]at this
    refine⟨this.1,λt x y e=>?_⟩
    have h2:=this.2
    rw[e]at h2;cases h2
   unfold zeh at h
   split at h
   ·split at h
    ·rename_i s2 ps2 ts2 hrun
     split at h
     ·simp only[Option.some.injEq,Prod.mk.injEq]at h
      obtain⟨rfl,_⟩:=h
      have:=reg _ _ _ _ _ _ _ _ (λo ho=>hno o (Array.mem_toList_iff.1 ho)) hrun
      simp only[zh0]
      rw[this]
      have hp:zki ops=0:=by
       unfold zki
       rw[if_neg]
       intro hany
       obtain⟨o,ho,hm⟩:=Array.any_eq_true'.1 hany
       rw[(hno o ho).1]at hm;cases hm
      rw[hp];simp
     ·cases h
    ·cases h
   ·cases h
 |seq a b iha ihb=>
  intro s s' ps h
  simp only[asim]at h
  split at h
  ·rename_i s1 p1 h1
   split at h
   ·rename_i s2 p2 h2
    simp only[Option.some.injEq,Prod.mk.injEq]at h
    obtain⟨rfl,_⟩:=h
    rw[ihb _ _ _ h2,iha _ _ _ h1]
   ·cases h
  ·cases h
 |cond c a b iha ihb=>
  intro s s' ps h
  simp only[asim]at h
  split at h
  ·split at h
   ·split at h
    ·simp only[Option.some.injEq,Prod.mk.injEq]at h
     rw[←h.1]
    ·cases h
   ·cases h
  ·cases h
 |_=>intro s s' ps h;simp[asim]at h
theorem zg9{c:Operand}{w:World}{β:Nat->Nat}{s:St}{a:Act}{q:Bool}(m:M w0 β s a w)(h:evS s.slots [] c=.k (.bool q)\/evS s.slots [] c=.v (.bool q)):a.eval c=.bool q:=by
 have hd:=zap (cs:=[]) m (λc hc=>by cases hc) c
 rcases h with h|h<;>rw[h]at hd<;>exact hd
theorem zo1(ht:TbOk P tb)(hm:P.follows .mixedOrders=true):∀(c:Code) (s s':St) (ps:List Prop) (Q:Exit->Act->World->Prop) (a:Act) (w:World) (β:Nat->Nat),M w0 β s a w->NoG s->asim P tb c s=some (s',ps)->allP ps->
  (∀β a w,M w0 β s' a w->Q .normal a w)->c.wp P Q a w:=by
 intro c
 induction c with
 |skip=>intro s s' ps Q a w β m ng h hs hQ;simp only[asim,Option.some.injEq,Prod.mk.injEq]at h;obtain⟨rfl,_⟩:=h;exact wp_skip (hQ β a w m)
 |region id ops draw=>
  intro s s' ps Q a w β m ng h hs hQ
  simp only[asim]at h
  split at h
  ·cases h
  ·exact ze3 ht hm m ng h hs λβ a w m' _=>hQ β a w m'
 |seq x y ihx ihy=>
  intro s s' ps Q a w β m ng h hs hQ
  have hfr:=zeg (P:=P) (tb:=tb) x s
  simp only[asim]at h
  split at h
  ·rename_i s1 p1 h1
   split at h
   ·rename_i s2 p2 h2
    simp only[Option.some.injEq,Prod.mk.injEq]at h
    obtain⟨rfl,rfl⟩:=h
    rw[zbp]at hs
    exact wp_seq (ihx _ _ _ _ a w β m ng h1 hs.1 λβ a w m'=>ihy _ _ _ _ a w β m' (hfr _ _ ng h1).1 h2 hs.2 hQ)
   ·cases h
  ·cases h
 |cond c x y ihx ihy=>
  intro s s' ps Q a w β m ng h hs hQ
  have hfx:=zeg (P:=P) (tb:=tb) x s
  have hfy:=zeg (P:=P) (tb:=tb) y s
  have hhx:=zkx (P:=P) (tb:=tb) x s
  have hhy:=zkx (P:=P) (tb:=tb) y s
  simp only[asim]at h
  split at h
  ·rename_i q hq
   have hb:=zg9 m (.inr hq)
   split at h
   ·rename_i s1 p1 s0 p0 h1 h0
    split at h
    ·rename_i hlen
     simp only[Option.some.injEq,Prod.mk.injEq]at h
     obtain⟨rfl,rfl⟩:=h
     rw[zbp]at hs
     obtain⟨n1,l1,f1⟩:=hfx _ _ ng h1
     obtain⟨n0,l0,f0⟩:=hfy _ _ ng h0
     have hat:=zdl (b:=q) (m:=zb4 (zaq x++zaq y)) s1.slots s0.slots 0 hlen
     have hout:∀i,¬((zb4 (zaq x++zaq y)).testBit (0+i)/\i<s0.slots.length)->s1.slots.getD i .junk=s0.slots.getD i .junk:=by
      intro i hi
      by_cases hlt:i<s0.slots.length
      ·have hnot:i∉zaq x++zaq y:=λz=>hi ⟨by rw[Nat.zero_add];exact zfk z,hlt⟩
       simp only[List.mem_append,not_or]at hnot
       rw[f1 i hnot.1,f0 i hnot.2]
      ·simp only[List.getD_eq_getElem?_getD]
       rw[List.getElem?_eq_none (by omega),List.getElem?_eq_none (by omega)]
     have key:∀(s2:St),s2.heap=s.heap->s2.slots.length=s0.slots.length->NoG s2->(∀i u (β:Nat->Nat),Den β s2.slots (s2.slots.getD i .junk) u->Den β s2.slots ((za6 q (zb4 (zaq x++zaq y)) 0 s1.slots s0.slots).getD i .junk) u)->
       (∀i n,n∈names ((za6 q (zb4 (zaq x++zaq y)) 0 s1.slots s0.slots).getD i .junk)->∃c,s.heap.getD n none=some c)->
       ∀β a w,M w0 β s2 a w->M w0 β {slots:=za6 q (zb4 (zaq x++zaq y)) 0 s1.slots s0.slots,heap:=s.heap} a w:=by
      intro s2 hh hl hn hden hnm β a w m2
      refine {defers:=m2.defers,size:=by rw[m2.size,hl,zb9 _ _ 0 hlen],slot:=λi u hu=>?_,locs:=λi n hi=>hnm i n hi,mem:=hh▸m2.mem}
      have h3:=hden i u β (m2.slot i u hu)
      refine zbg (λ_ _=>rfl) (λc hc=>?_) h3
      have:isG ((za6 q (zb4 (zaq x++zaq y)) 0 s1.slots s0.slots).getD i .junk)=false:=by
       rw[hat i]
       split
       ·exact zg0 _ _ _
       ·exact n0.at_ i
      rw[zbj this]at hc;cases hc
     have nm1:∀i n,n∈names (s1.slots.getD i .junk)->(∀β a w,M w0 β s1 a w->∃c,s.heap.getD n none=some c):=λi n hn β a w m1=>by
      obtain⟨c,hc⟩:=m1.locs i n hn
      exact⟨c,by rw[←hhx _ _ h1];exact hc⟩
     have nm0:∀i n,n∈names (s0.slots.getD i .junk)->(∀β a w,M w0 β s0 a w->∃c,s.heap.getD n none=some c):=λi n hn β a w m1=>by
      obtain⟨c,hc⟩:=m1.locs i n hn
      exact⟨c,by rw[←hhy _ _ h0];exact hc⟩
     cases q with
     |true=>
      refine wp_cond_true hb (ihx _ _ _ _ a w β m ng h1 ?_ λβ a w m1=>hQ β a w (key s1 (hhx _ _ h1) hlen n1 (λi u β hd=>?_) (λi n hn=>?_) β a w m1))
      ·have:=hs.1
       cases p1 with
       |nil=>trivial
       |cons p ps=>exact this.1 rfl
      ·rw[hat i]
       split
       ·exact zkl hd
       ·rename_i hno;rw[←hout i hno];exact hd
      ·rw[hat i]at hn
       split at hn
       ·exact nm1 i n (zja hn) β a w m1
       ·rename_i hno;rw[←hout i hno]at hn;exact nm1 i n hn β a w m1
     |false=>
      refine wp_cond_false hb (ihy _ _ _ _ a w β m ng h0 ?_ λβ a w m1=>hQ β a w (key s0 (hhy _ _ h0) rfl n0 (λi u β hd=>?_) (λi n hn=>?_) β a w m1))
      ·have:=hs.2
       cases p0 with
       |nil=>trivial
       |cons p ps=>exact this.1 rfl
      ·rw[hat i]
       split
       ·exact zi9 hd
       ·exact hd
      ·rw[hat i]at hn
       split at hn
       ·have:n∈names (s0.slots.getD i .junk):=by
         revert hn
         generalize s1.slots.getD i .junk=x1
         generalize s0.slots.getD i .junk=y1
         intro hn
         unfold zcp at hn
         split at hn
         ·split at hn
          ·split at hn<;>simp[names]at hn
          ·simp[names]at hn
         ·simp[names]at hn
         ·simp[names]at hn
         ·simp[names]at hn
         ·split at hn
          ·rename_i e;obtain⟨rfl,rfl⟩:=e;exact hn
          ·simp[names]at hn
         ·simp[names]at hn
        exact nm0 i n this β a w m1
       ·exact nm0 i n hn β a w m1
    ·cases h
   ·cases h
  ·cases h
 |_=>intro s s' ps Q a w β m ng h;simp[asim]at h
end
section
variable{P:Program}{tb:Nat->List Value->Option (Value×List Prop)}{w0:World}
theorem z1o(ht:TbOk P tb)(hm:P.follows .mixedOrders=true){F:zcg->St->Prop}{fuel:Nat}:∀(c:Code) (k:zcg->St->Out) (s:St) (Q:Exit->Act->World->Prop) (a:Act) (w:World) (β:Nat->Nat),M w0 β s a w->NoG s->
  (zhg P tb fuel c k s).sat F->(∀e s β a w,M w0 β s a w->NoG s->(k e s).sat F->Q e.real a w)->c.wp P Q a w:=by
 intro c
 induction c with
 |skip=>intro k s Q a w β m ng h hk;exact wp_skip (hk .normal s β a w m ng h)
 |region id ops draw=>
  intro k s Q a w β m ng h hk
  simp only[zhg]at h
  split at h
  ·rename_i s' ps hr
   obtain⟨h1,h2⟩:=ze1 h
   exact ze3 ht hm m ng hr h1 λβ a w m' ng'=>hk .normal s' β a w m' ng' h2
  ·exact h.elim
 |seq x y ihx ihy=>
  intro k s Q a w β m ng h hk
  simp only[zhg]at h
  refine wp_seq (ihx _ s _ a w β m ng h λe s' β' a' w' m' ng' hs=>?_)
  cases e with
  |normal=>exact ihy k s' Q a' w' β' m' ng' hs hk
  |exit id=>exact hk (.exit id) s' β' a' w' m' ng' hs
  |ret=>exact hk .ret s' β' a' w' m' ng' hs
 |cond c x y ihx ihy=>
  intro k s Q a w β m ng h hk
  simp only[zhg]at h
  split at h
  ·rename_i q hq
   have hb:=zg9 m (.inl hq)
   cases q with
   |true=>exact wp_cond_true hb (ihx k s Q a w β m ng h hk)
   |false=>exact wp_cond_false hb (ihy k s Q a w β m ng h hk)
  ·rename_i q hq
   have hb:=zg9 m (.inr hq)
   split at h
   ·rename_i s' ps hsim
    obtain⟨h1,h2⟩:=ze1 h
    have ng':=(zeg _ _ _ _ ng hsim).1
    exact zo1 ht hm _ _ _ _ Q a w β m ng hsim h1 λβ a w m'=>hk .normal s' β a w m' ng' h2
   ·cases q with
    |true=>exact wp_cond_true hb (ihx k s Q a w β m ng (h.1 rfl) hk)
    |false=>exact wp_cond_false hb (ihy k s Q a w β m ng (h.2 rfl) hk)
  ·exact h.elim
 |block id c ih=>
  intro k s Q a w β m ng h hk
  simp only[zhg]at h
  refine wp_block (ih _ s _ a w β m ng h λe s' β' a' w' m' ng' hs=>?_)
  cases e with
  |normal=>exact hk .normal s' β' a' w' m' ng' hs
  |ret=>exact hk .ret s' β' a' w' m' ng' hs
  |exit id'=>
   show if id'=id then Q Exit.normal a' w' else Q (Exit.exit id') a' w'
   dsimp only at hs
   split at hs
   ·rename_i e
    rw[if_pos e]
    exact hk .normal s' β' a' w' m' ng' hs
   ·rename_i e
    rw[if_neg e]
    exact hk (.exit id') s' β' a' w' m' ng' hs
 |loop c ih=>
  intro k s Q a w β m ng h hk
  simp only[zhg]at h
  refine wp_loop (λa' w'=>∃n s' β',M w0 β' s' a' w'/\NoG s'/\(zhz (λself s=>zhg P tb fuel c (λe s=>match e with|.normal=>self s|.exit id=>k (.exit id) s|.ret=>k .ret s) s) n s').sat F)
   (λa' w'=>Classical.epsilon λn=>(∃s' β',M w0 β' s' a' w'/\NoG s'/\(zhz (λself s=>zhg P tb fuel c (λe s=>match e with|.normal=>self s|.exit id=>k (.exit id) s|.ret=>k .ret s) s) n s').sat F)/\
    ∀n',(∃s' β',M w0 β' s' a' w'/\NoG s'/\(zhz (λself s=>zhg P tb fuel c (λe s=>match e with|.normal=>self s|.exit id=>k (.exit id) s|.ret=>k .ret s) s) n' s').sat F)->n<=n') ⟨fuel,s,β,m,ng,h⟩ ?_
  intro a1 w1 hI
  have hleast:∀(p:Nat->Prop),(∃n,p n)->∃n,p n/\∀n',p n'->n<=n':=by
   intro p ⟨n,hn⟩
   induction n using Nat.strongRecOn with
   |_ n ihn=>
    by_cases hx:∃n',n'<n/\p n'
    ·obtain⟨n',h1,h2⟩:=hx
     exact ihn n' h1 h2
    ·exact⟨n,hn,λn' hn'=>Nat.le_of_not_lt λhlt=>hx ⟨n',hlt,hn'⟩⟩
  have heps:∀(p:Nat->Prop),(∃n,p n)->p (Classical.epsilon λn=>p n/\∀n',p n'->n<=n')/\∀n',p n'->(Classical.epsilon λn=>p n/\∀n',p n'->n<=n')<=n':=λp hp=>
   Classical.epsilon_spec (p:=λn=>p n/\∀n',p n'->n<=n') (hleast p hp)
  obtain⟨⟨s1,β1,m1,ng1,hs1⟩,hmin⟩:=heps (λn=>∃s' β',M w0 β' s' a1 w1/\NoG s'/\(zhz (λself s=>zhg P tb fuel c (λe s=>match e with|.normal=>self s|.exit id=>k (.exit id) s|.ret=>k .ret s) s) n s').sat F) hI
  generalize (Classical.epsilon λn=>(∃s' β',M w0 β' s' a1 w1/\NoG s'/\(zhz (λself s=>zhg P tb fuel c (λe s=>match e with|.normal=>self s|.exit id=>k (.exit id) s|.ret=>k .ret s) s) n s').sat F)/\
    ∀n',(∃s' β',M w0 β' s' a1 w1/\NoG s'/\(zhz (λself s=>zhg P tb fuel c (λe s=>match e with|.normal=>self s|.exit id=>k (.exit id) s|.ret=>k .ret s) s) n' s').sat F)->n<=n')=N at *
  cases N with
  |zero=>exact hs1.elim
  |succ N=>
   simp only[zhz]at hs1
   refine ih _ s1 _ a1 w1 β1 m1 ng1 hs1 λe s2 β2 a2 w2 m2 ng2 hs2=>?_
   cases e with
   |normal=>
    have hI2:∃n s' β',M w0 β' s' a2 w2/\NoG s'/\(zhz (λself s=>zhg P tb fuel c (λe s=>match e with|.normal=>self s|.exit id=>k (.exit id) s|.ret=>k .ret s) s) n s').sat F:=⟨N,s2,β2,m2,ng2,hs2⟩
    refine⟨hI2,?_⟩
    have:=(heps _ hI2).2 N ⟨s2,β2,m2,ng2,hs2⟩
    exact Nat.lt_succ_of_le this
   |exit id=>exact hk (.exit id) s2 β2 a2 w2 m2 ng2 hs2
   |ret=>exact hk .ret s2 β2 a2 w2 m2 ng2 hs2
 |exit id=>intro k s Q a w β m ng h hk;exact wp_exit (hk (.exit id) s β a w m ng h)
 |ret=>intro k s Q a w β m ng h hk;exact wp_ret (hk .ret s β a w m ng h)
 |_=>intro k s Q a w β m ng h;exact h.elim
def zh8(P:Program)(s:St):ResultVar->Option Value
 |.tmp t=>plain (s.slots.getD t .junk)
 |.cell t ty=>match s.slots.getD t .junk with
  |.loc n off=>match s.heap.getD n none with
   |some c=>zep P ty c.2 off
   |none=>none
  |_=>none
def z2j(P:Program)(rs:Array ResultVar)(s:St):Option Value:=
 match rs.toList with
 |[r]=>zh8 P s r
 |[r,q]=>match zh8 P s r,zh8 P s q with
  |some u,some v=>some (.tuple #[u,v])
  |_,_=>none
 |[r,q,p]=>match zh8 P s r,zh8 P s q,zh8 P s p with
  |some u,some v,some x=>some (.tuple #[u,v,x])
  |_,_,_=>none
 |[]=>some (.tuple #[])
 |_=>none
def zg3(fn:Func)(args:List Value):St:={slots:=args.map SV.v++List.replicate (fn.ntmps-args.length) .junk,heap:=[]}
def afun(P:Program)(tb:Nat->List Value->Option (Value×List Prop))(fuel:Nat)(fn:Func)(args:List Value):Out:=
 match fn.body with
 |some c=>zhg P tb fuel c .leaf (zg3 fn args)
 |none=>.fail
def Out.val(P:Program)(rs:Array ResultVar):Out->Option Value
 |.leaf e s=>match e with
  |.exit _=>none
  |_=>z2j P rs s
 |.ite b x y=>match x.val P rs,y.val P rs with
  |some u,some v=>some (zc1 3 b u v)
  |_,_=>none
 |.side _ x=>x.val P rs
 |.fail=>none
def Out.sides:Out->Prop
 |.leaf _ _=>True
 |.ite b x y=>(b=true->x.sides)/\(b=false->y.sides)
 |.side ps x=>allP ps/\x.sides
 |.fail=>False
def Out.noSides:Out->Bool
 |.leaf _ _=>true
 |.ite _ x y=>x.noSides&&y.noSides
 |.side _ _=>false
 |.fail=>false
theorem Out.sides_of:∀{o:Out},o.noSides=true->o.sides
 |.leaf _ _,_=>trivial
 |.ite b x y,h=>by
  simp only[Out.noSides,Bool.and_eq_true]at h
  exact⟨λ_=>Out.sides_of h.1,λ_=>Out.sides_of h.2⟩
 |.side _ _,h=>by cases h
 |.fail,h=>by cases h
def Out.sideList:Out->List Prop
 |.leaf _ _=>[]
 |.ite b x y=>(x.sideList.map λp=>(b=true->p))++(y.sideList.map λp=>(b=false->p))
 |.side ps x=>ps++x.sideList
 |.fail=>[False]
theorem zhs{l:List Prop}:allP l↔∀p∈l,p:=by
 induction l with
 |nil=>simp[allP]
 |cons p l ih=>rw[List.forall_mem_cons,←ih];rfl
theorem Out.sides_list:∀{o:Out},allP o.sideList->o.sides
 |.leaf _ _,_=>trivial
 |.ite b x y,h=>by
  simp only[Out.sideList,zbp]at h
  refine⟨λhb=>Out.sides_list (zhs.2 λp hp=>?_),λhb=>Out.sides_list (zhs.2 λp hp=>?_)⟩
  ·exact(zhs.1 h.1 _ (List.mem_map.2 ⟨p,hp,rfl⟩)) hb
  ·exact(zhs.1 h.2 _ (List.mem_map.2 ⟨p,hp,rfl⟩)) hb
 |.side ps x,h=>by
  simp only[Out.sideList,zbp]at h
  exact⟨h.1,Out.sides_list h.2⟩
 |.fail,h=>h.1
theorem Out.sat_val{rs:Array ResultVar}:∀{o:Out} {v:Value},o.val P rs=some v->o.sides->o.sat λe s=>(e=.normal\/e=.ret)/\z2j P rs s=some v
 |.leaf e s,v,h,_=>by
  simp only[Out.val]at h
  cases e with
  |normal=>exact⟨.inl rfl,h⟩
  |ret=>exact⟨.inr rfl,h⟩
  |exit id=>cases h
 |.ite b x y,v,h,hs=>by
  simp only[Out.val]at h
  split at h
  ·rename_i u u' hx hy
   simp only[Option.some.injEq]at h;subst h
   refine⟨λhb=>?_,λhb=>?_⟩
   ·subst hb;rw[zcj];exact Out.sat_val hx (hs.1 rfl)
   ·subst hb;rw[zb3];exact Out.sat_val hy (hs.2 rfl)
  ·cases h
 |.side ps x,v,h,hs=>⟨hs.1,Out.sat_val (o:=x) h hs.2⟩
 |.fail,v,h,_=>by cases h
def OneOk(P:Program)(a:Act)(w:World)(v:Value):ResultVar->Prop
 |.tmp t=>a.tmps.getD t undef=v
 |.cell t ty=>∃ad,a.tmps.getD t undef=.pointer (some ad)/\(loadVar ty ad).run P w=.ok v w
theorem ztu{s:St}{β:Nat->Nat}{a:Act}{w:World}(m:M w0 β s a w){r:ResultVar}{v:Value}(h:zh8 P s r=some v):OneOk P a w v r:=by
 have hd:∀t,Den β s.slots (s.slots.getD t .junk) (a.tmps.getD t undef):=λt=>by
  rw[Array.getD_eq_getD_getElem?]
  cases hu:a.tmps[t]? with
  |some u=>exact m.slot t u hu
  |none=>
   have hs:s.slots.length<=t:=by rw[←m.size];exact Array.getElem?_eq_none_iff.1 hu
   have:s.slots.getD t .junk=.junk:=by simp[List.getElem?_eq_none hs]
   rw[this];trivial
 cases r with
 |tmp t=>exact zk7 (hd t) h
 |cell t ty=>
  simp only[zh8]at h
  split at h
  ·rename_i n off hev
   have hd':=hd t
   rw[hev]at hd'
   split at h
   ·rename_i c hn
    exact⟨_,hd',zet (m.mem.at_ n c hn).1 h⟩
   ·cases h
  ·cases h
def zib(a:Act):ResultVar->Sem Value
 |.tmp t=>pure (a.tmps.getD t undef)
 |.cell t ty=>do loadVar ty (←asAddr (a.tmps.getD t undef))
theorem zof{a:Act}{w:World}{v:Value}{r:ResultVar}(h:OneOk P a w v r):(zib a r).run P w=.ok v w:=by
 cases r with
 |tmp t=>show Result.ok _ w=_;rw[show a.tmps.getD t undef=v from h]
 |cell t ty=>
  obtain⟨ad,h1,h2⟩:=h
  simp only[zib,Sem.run_bind,h1,asAddr,Sem.run_pure,Result.andThen_ok,h2]
theorem zzz{s:St}{β:Nat->Nat}{a:Act}{w:World}{fn:Func}(m:M w0 β s a w){v:Value}(h:z2j P fn.results s=some v):(results fn a.tmps).run P w=.ok v w:=by
 have hmk:∀l,fn.results.toList=l->fn.results=l.toArray:=λl hl=>by rw[←hl]
 have hres:results fn a.tmps=(do let vs←fn.results.mapM (zib a);pure (if h:vs.size=1 then vs[0]else .tuple vs)):=by
  unfold results
  refine congrArg (λf=>(do let vs←fn.results.mapM f;pure (if h:vs.size=1 then vs[0]else .tuple vs):Sem Value)) ?_
  funext r;cases r<;>rfl
 rw[hres]
 unfold z2j at h
 split at h
 ·rename_i r hl
  have h1:=zof (ztu m h)
  rw[hmk _ hl]
  simp[h1]
 ·rename_i r q hl
  split at h
  ·rename_i u v' h1 h2
   simp only[Option.some.injEq]at h;subst h
   have h1:=zof (ztu m h1)
   have h2:=zof (ztu m h2)
   rw[hmk _ hl]
   simp[h1,h2]
  ·cases h
 ·rename_i r q p hl
  split at h
  ·rename_i u v' x h1 h2 h3
   simp only[Option.some.injEq]at h;subst h
   have h1:=zof (ztu m h1)
   have h2:=zof (ztu m h2)
   have h3:=zof (ztu m h3)
   rw[hmk _ hl]
   simp[h1,h2,h3]
  ·cases h
 ·rename_i hl
  simp only[Option.some.injEq]at h;subst h
  rw[hmk _ hl]
  simp
 ·cases h
theorem z35(ht:TbOk P tb)(hm:P.follows .mixedOrders=true){K:Nat}{fn:Func}(hf:P.funcs[K]? = some fn){fuel:Nat}{args:List Value}{v:Value}
  (hv:(afun P tb fuel fn args).val P fn.results=some v) (hs:(afun P tb fuel fn args).sides) (w:World) :
  Calls P K args.toArray w λe w'=>e=.returned v/\Below w.heap.size w w':=by
 have hsat:=Out.sat_val hv hs
 unfold afun at hsat
 split at hsat
 ·rename_i c hb
  refine calls_of_wp hf hb ?_
  have m:M w (λ_=>0) (zg3 fn args) {tmps:=args.toArray++Array.replicate (fn.ntmps-args.toArray.size) undef,defers:=[]} w:=by
   refine {defers:=rfl,size:=by simp[zg3],slot:=λi u hu=>?_,locs:=λi n hn=>?_,mem:={at_:=λn c hc=>by simp[zg3]at hc,inj:=λn k c d hc=>by simp[zg3]at hc,below:=Below.refl _ _}}
   ·by_cases hi:i<args.length
    ·have e1:(zg3 fn args).slots.getD i .junk=.v args[i]:=by
      simp[zg3,List.getD_eq_getElem?_getD,List.getElem?_append,hi]
     have e2:(args.toArray++Array.replicate (fn.ntmps-args.toArray.size) undef)[i]? = some args[i]:=by
      simp[Array.getElem?_append,hi]
     rw[e1]
     exact(Option.some.inj (hu.symm.trans e2))
    ·have e1:(zg3 fn args).slots.getD i .junk=.junk:=by
      simp only[zg3,List.getD_eq_getElem?_getD]
      rw[List.getElem?_append_right (by simpa using hi),List.getElem?_replicate]
      split<;>rfl
     rw[e1];trivial
   ·by_cases hi:i<args.length
    ·have e1:(zg3 fn args).slots.getD i .junk=.v args[i]:=by
      simp[zg3,List.getD_eq_getElem?_getD,List.getElem?_append,hi]
     rw[e1]at hn;simp[names]at hn
    ·have e1:(zg3 fn args).slots.getD i .junk=.junk:=by
      simp only[zg3,List.getD_eq_getElem?_getD]
      rw[List.getElem?_append_right (by simpa using hi),List.getElem?_replicate]
      split<;>rfl
     rw[e1]at hn;simp[names]at hn
  have ng:NoG (zg3 fn args):=by
   intro x hx
   simp only[zg3,List.mem_append,List.mem_map,List.mem_replicate]at hx
   rcases hx with⟨y,_,rfl⟩|⟨_,rfl⟩<;>rfl
  refine z1o ht hm c .leaf _ _ _ w _ m ng hsat λe s β a w' m' _ hl=>?_
  obtain⟨he,hr⟩:=hl
  have hpost:a.defers=[]/\∃v',(results fn a.tmps).run P w'=.ok v' w'/\(Ending.returned v'=.returned v/\Below w.heap.size w w'):=⟨m'.defers,v,zzz m' hr,rfl,m'.mem.below⟩
  rcases he with rfl|rfl<;>exact hpost
 ·exact hsat.elim
end
abbrev zay:=Nat×(List Value->Option (Value×List Prop))
def tbOf:List zay->Nat->List Value->Option (Value×List Prop)
 |[],_,_=>none
 |e::es,K,args=>bif Nat.beq e.1 K then e.2 args else tbOf es K args
def zae(P:Program)(e:zay):Prop:=∀args v ps,e.2 args=some (v,ps)->allP ps->za2 P e.1 args v
theorem zas{P:Program}:∀{es:List zay},(∀e∈es,zae P e)->TbOk P (tbOf es)
 |[],_=>λK args v ps h=>by simp[tbOf]at h
 |e::es,h=>λK args v ps hv=>by
  simp only[tbOf]at hv
  cases hb:Nat.beq e.1 K with
  |true=>
   rw[hb]at hv
   have:e.1=K:=Nat.eq_of_beq_eq_true hb
   subst this
   exact h e (by simp) args v ps hv
  |false=>
   rw[hb]at hv
   exact zas (es:=es) (λx hx=>h x (by simp[hx])) K args v ps hv
theorem ycw{P:Program}{K:Nat}{fn:Func}(hf:P.funcs[K]? = some fn)(hb:fn.body.isNone=false)(hn:(fn.name=="runtime.NumGoroutine")=false){args:List Value}{v:Value}
  (h:∀w,Calls P K args.toArray w λe w'=>e=.returned v/\Below w.heap.size w w'):za2 P K args v:=by
 intro w
 have hr:(callFunc K args.toArray).run P w=.ok (.enter K args.toArray) w:=by
  unfold callFunc
  simp only[Sem.run_bind,run_program,Result.andThen_ok,hf,hn,hb]
  simp
 rw[hr]
 exact⟨rfl,h w⟩
def Out.bind:Out->(zcg->St->Out)->Out
 |.leaf e s,k=>k e s
 |.ite b x y,k=>.ite b (x.bind k) (y.bind k)
 |.side ps x,k=>.side ps (x.bind k)
 |.fail,_=>.fail
def zam:Code->List (Nat×Code)
 |.seq a b=>zam a++zam b
 |.cond _ a b=>zam a++zam b
 |.block id c=>(id,c)::zam c
 |.loop c=>zam c
 |_=>[]
abbrev Lp:=Nat->St->Option Out
section
variable{P:Program}{tb:Nat->List Value->Option (Value×List Prop)}{lp:Lp}
def Sem(w0:World)(Q:Exit->Act->World->Prop)(e:zcg)(s:St):Prop:=∀β a w,M w0 β s a w->NoG s->Q e.real a w
theorem least{p:Nat->Prop}(h:∃n,p n):∃n,p n/\∀n',p n'->n<=n':=by
 obtain⟨n,hn⟩:=h
 induction n using Nat.strongRecOn with
 |_ n ihn=>
  by_cases hx:∃n',n'<n/\p n'
  ·obtain⟨n',h1,h2⟩:=hx
   exact ihn n' h1 h2
  ·exact⟨n,hn,λn' hn'=>Nat.le_of_not_lt λhlt=>hx ⟨n',hlt,hn'⟩⟩
theorem zno{p:Nat->Prop}(h:∃n,p n):p (Classical.epsilon λn=>p n/\∀n',p n'->n<=n')/\∀n',p n'->(Classical.epsilon λn=>p n/\∀n',p n'->n<=n')<=n':=
 Classical.epsilon_spec (p:=λn=>p n/\∀n',p n'->n<=n') (least h)
end
end Go.Proofs.YtmekpbopoknigaaGreatDoor.Sym

import Derived.Test.YtmekpbopoknigaaGreatDoorQI
import Derived.MapKept
import Derived.LaidEql
namespace Go.Proofs.YtmekpbopoknigaaGreatDoor.Dyn
open Go Go.RowKit Sym
theorem zpl(off:Nat):∀(l:List Value) (k:Nat) (cells:Array Value),((l.zipIdx k).foldl (λcs p=>cs.setIfInBounds (off+p.2) p.1) cells).toList=zb5 cells.toList (off+k) l
 |[],_,_=>rfl
 |v::l,k,cells=>by
  simp only[List.zipIdx_cons,List.foldl_cons]
  rw[zpl off l (k+1)]
  simp only[zb5,Array.toList_setIfInBounds]
  rw[show off+(k+1)=off+k+1 by omega]
theorem yho(off:Nat)(vs cells:Array Value):(vs.zipIdx.foldl (λcs (p:Value×Nat)=>cs.setIfInBounds (off+p.2) p.1) cells)=(zb5 cells.toList off vs.toList).toArray:=by
 apply Array.ext'
 rw[←Array.foldl_toList,Array.toList_zipIdx,zpl]
 rfl
theorem zqc{β:Env}(hone:∀n j,zag ((β n).2 j)=true){place:Nat->Option (Nat×Nat)}:∀(ps:List (Nat×Value)) (cells c:Array Value),(∀p∈ps,p.2.cells.toList.all zag=true)->Instr.fill place cells ps=some c->
  Instr.fill place (cells.toList.map (ren0 β)).toArray (ps.map λp=>(p.1,ren β p.2))=some (c.toList.map (ren0 β)).toArray/\c.size=cells.size/\∀y∈c.toList,y∈cells.toList\/∃p∈ps,y∈p.2.cells.toList
 |[],cells,c,_,h=>by
  simp only[Instr.fill,Option.some.injEq]at h;subst h
  exact⟨rfl,rfl,λy hy=>.inl hy⟩
 |(i,v)::ps,cells,c,h1,h=>by
  obtain⟨k1,_,_⟩:=zjj hone (h1 (i,v) (by simp))
  dsimp only at k1
  have hz:(ren β v).cells.size=v.cells.size:=by
   have:=congrArg List.length k1
   simpa using this
  simp only[Instr.fill]at h
  simp only[List.map_cons,Instr.fill]
  split at h
  ·cases h
  ·rename_i off size hp
   split at h
   ·cases h
   ·rename_i hno
    have hsz:(List.map (ren0 β) cells.toList).toArray.size=cells.size:=by simp
    rw[hz,hsz,if_neg hno]
    rw[yho]at h ⊢
    obtain⟨i1,i2,i3⟩:=zqc hone ps _ c (λp hp=>h1 p (by simp[hp])) h
    refine⟨?_,?_,λy hy=>?_⟩
    ·rw[k1]
     simp only[]at i1 ⊢
     rw[←zl8]
     exact i1
    ·rw[i2,List.size_toArray,zem,Array.length_toList]
    ·rcases i3 y hy with hy|⟨p,hp,hy⟩
     ·rcases zl7 _ _ _ hy with hy|hy
      ·exact .inl hy
      ·exact .inr ⟨_,List.mem_cons_self ..,hy⟩
     ·exact .inr ⟨p,List.mem_cons_of_mem _ hp,hy⟩
section
variable{P:Program}{w0:Base P}{w:World}{β:Env}{st:St}{a:Act}{cs:List (Nat×Bool)}{o:Oper}{r:Res}{K:Act->World->Prop}{Q:Exit->Act->World->Prop}
theorem z3f{α γ:Type}{g:α->Sem γ}{g':α->Option γ}(h:∀x y,g' x=some y->(g x).run P w=.ok y w):∀(l:List α) (ys:List γ),l.mapM g'=some ys->(l.mapM g).run P w=.ok ys w
 |[],ys,hl=>by simp at hl;subst hl;rfl
 |x::l,ys,hl=>by
  rw[List.mapM_cons]at hl ⊢
  cases hx:g' x with
  |none=>rw[hx]at hl;cases hl
  |some y=>
   rw[hx]at hl
   cases hm:l.mapM g' with
   |none=>rw[hm]at hl;cases hl
   |some ys'=>
    rw[hm]at hl
    have:y::ys'=ys:=by simpa using hl
    subst this
    simp only[Sem.run_bind,h x y hx,Result.andThen_ok,z3f h l ys' hm,Sem.run_pure]
theorem zod(m:M w0 β st a w)(hc:holds st.slots cs){parts:Array (Nat×Operand)}{vs:List Value}(hv:zdx (evS st.slots cs) (parts.toList.map (·.2))=some vs) :
  (parts.map λ(i,x)=>(i,a.eval x)).toList=((parts.toList.map (·.1)).zip vs).map λp=>(p.1,ren β p.2):=by
 have h1:=(zc7 m hc hv).1
 rw[Array.toList_map]
 generalize parts.toList=l at *
 clear hv
 induction l generalizing vs with
 |nil=>rfl
 |cons p l ih=>
  cases vs with
  |nil=>simp at h1
  |cons v vs=>
   simp only[List.map_cons,List.cons.injEq]at h1
   simp only[List.map_cons,List.zip_cons_cons,List.cons.injEq]
   exact⟨by rw[h1.1],ih h1.2⟩
theorem z1a{t:TypeId}{parts:Array (Nat×Operand)}{vs:List Value}{fields:Array Field}{z:Value}{places:List (Nat×Nat)}{cells:Array Value}(m:M w0 β st a w)(hc:holds st.slots cs)(ho:o.op=.build t parts)
  (hv:zdx (evS st.slots cs) (parts.toList.map (·.2))=some vs) (hu:P.underlying t=some (.struct fields)) (hz:(P.info? t).bind (·.zero)=some z) (hp:fields.toList.mapM (λf=>(zbh P f.type).map λs=>(f.offset,s))=some places)
  (hf:allB zel z.cells.toList=true) (h1:vs.all (λv=>v.cells.toList.all zag)=true) (hfill:Instr.fill (places[·]?) z.cells ((parts.toList.map (·.1)).zip vs)=some cells)
  (hK:∀β' u w',Post w0 β st.slots st.heap {val:=.v (.agg cells),upd:=[],sides:=[]} u β' w'->K (a.put o.dst u) w'):o.wp P a w K Q:=by
 have hone:=m.mem.one
 obtain⟨i1,i2,i3⟩:=zqc (β:=β) hone _ _ _ (λp hp=>List.all_eq_true.1 h1 p.2 (List.of_mem_zip hp).2) hfill
 rw[zbi (f:=ren0 β) (l:=z.cells.toList) λy hy=>zbn (za4.1 hf y hy)]at i1
 have hpl:(fields.mapM (m:=Sem) λf=>do pure (f.offset,←sizeOf f.type)).run P w=.ok places.toArray w:=by
  rw[Array.mapM_eq_mapM_toList]
  have:=z3f (P:=P) (w:=w) (g:=λf:Field=>(do pure (f.offset,←sizeOf f.type):Sem (Nat×Nat))) (λf y hy=>by
   cases hs:zbh P f.type with
   |none=>rw[hs]at hy;cases hy
   |some s=>
    rw[hs]at hy
    simp only[Option.map_some,Option.some.injEq]at hy;subst hy
    simp only[Sem.run_bind,za5 hs,Result.andThen_ok,Sem.run_pure]) fields.toList places hp
  rw[map_eq_pure_bind]
  simp only[Sem.run_bind,this,Result.andThen_ok,Sem.run_pure]
 have hpa:=zod m hc hv
 refine zaf (u:=.agg (cells.toList.map (ren0 β)).toArray) ?_ (hK β _ w (Post.same m rfl rfl λk hk=>?_))
 ·simp only[execOp,ho,Instr.build,Sem.run_bind,ze8 hz,Result.andThen_ok,underlying,run_program,hu,Sem.run_pure,hpl,hpa]
  simp only[List.getElem?_toArray,Array.toArray_toList]at i1 ⊢
  rw[i1]
  rfl
 ·simp only[names,refs,zbk]at hk
  obtain⟨y,hy,hk⟩:=zbb.1 hk
  rcases i3 y hy with hy|⟨p,hp,hy⟩
  ·rw[zb8 (za4.1 hf y hy)]at hk;cases hk
  ·have hpv:=(List.of_mem_zip hp).2
   obtain⟨_,k2,_⟩:=zjj hone (List.all_eq_true.1 h1 p.2 hpv)
   exact(zc7 m hc hv).2 p.2 hpv k (k2 y hy k hk)
theorem zvv{x:Operand}{i:Nat}{vs:Array Value}{u:Value}(m:M w0 β st a w)(hc:holds st.slots cs)(ho:o.op=.extract x i)(hx:evS st.slots cs x=.v (.tuple vs))(hi:vs.toList[i]? = some u)(hu:∀q,u≠.tuple q)
  (hK:∀β' v w',Post w0 β st.slots st.heap {val:=.v u,upd:=[],sides:=[]} v β' w'->K (a.put o.dst v) w'):o.wp P a w K Q:=by
 have hd:=zap m hc x
 rw[hx]at hd
 have hd':a.eval x=.tuple (vs.toList.map (ren1 β)).toArray:=hd
 have e:ren β u=ren1 β u:=by cases u<;>first|rfl|exact(hu _ rfl).elim
 refine zaf (u:=ren β u) ?_ (hK β _ w (Post.same m rfl rfl λk hk=>?_))
 ·have hg:((vs.toList.map (ren1 β)).toArray)[i]? = some (ren1 β u):=by
   rw[List.getElem?_toArray,List.getElem?_map,hi];rfl
  simp only[execOp,ho,hd',Instr.extract,hg,Sem.run_bind,Sem.run_pure,Result.andThen_ok,e]
 ·refine zbt (cs:=cs) m (x:=x) ?_
  rw[hx]
  have hk':k∈refs u:=hk
  have e2:refs u=zbk u:=by cases u<;>first|rfl|exact(hu _ rfl).elim
  rw[e2]at hk'
  exact zbb.2 ⟨u,List.mem_of_getElem? hi,hk'⟩
theorem zyg{t:TypeId}{x:Operand}{f:Nat}{vs:Array Value}{fd:Field}{u:Value}(m:M w0 β st a w)(hc:holds st.slots cs)(ho:o.op=.field t x f)(hx:evS st.slots cs x=.v (.agg vs))(hfd:zjg P t f=some fd)(hp:zgv P fd.type vs.toList fd.offset=some u)
  (h1:zei P fd.type=some true\/zag u=true) (hK:∀β' v w',Post w0 β st.slots st.heap {val:=.v u,upd:=[],sides:=[]} v β' w'->K (a.put o.dst v) w'):o.wp P a w K Q:=by
 have hd:=zap m hc x
 rw[hx]at hd
 have hd':a.eval x=.agg (vs.toList.map (ren0 β)).toArray:=hd
 have hpr:zgv P fd.type (vs.toList.map (ren0 β)) fd.offset=some (ren β u):=by
  unfold zgv at hp ⊢
  split at hp
  ·simp only[Option.some.injEq]at hp;subst hp
   simp[ren,ren1,List.map_drop,List.map_take]
  ·rename_i ha
   rw[List.getElem?_map,hp,zq9 (h1.resolve_left (by rw[ha];simp))];rfl
  ·cases hp
 refine zaf (u:=ren β u) ?_ (hK β _ w (Post.same m rfl rfl λk hk=>?_))
 ·unfold zjg at hfd
  split at hfd
  ·rename_i fs hs
   have:=zgj (P:=P) (w:=w) (t:=fd.type) (xs:=(vs.toList.map (ren0 β)).toArray) (off:=fd.offset) (u:=ren β u) hpr
   simp only[execOp,ho,hd',Instr.field,asAgg,Sem.run_bind,underlying,run_program,hs,hfd,Sem.run_pure,Result.andThen_ok,this]
  ·cases hfd
 ·refine zbt (cs:=cs) m (x:=x) ?_
  rw[hx]
  have hk':k∈refs u:=hk
  unfold zgv at hp
  split at hp
  ·simp only[Option.some.injEq]at hp;subst hp
   simp only[refs,zbk]at hk'
   obtain⟨v,hv,hk'⟩:=zbb.1 hk'
   exact zbb.2 ⟨v,List.mem_of_mem_drop (List.mem_of_mem_take hv),hk'⟩
  ·rename_i ha
   rw[zng (h1.resolve_left (by rw[ha];simp))]at hk'
   exact zbb.2 ⟨u,List.mem_of_getElem? hp,hk'⟩
  ·cases hp
theorem zsv{F:FuncId}{first caps:Array Operand}{vs:List Value}(m:M w0 β st a w)(hc:holds st.slots cs)(ho:o.op=.makeFunc (.func F) first caps)(hf:first.toList=[])(hv:zdx (evS st.slots cs) caps.toList=some vs)
  (h1:vs.all zag=true) (h2:vs.all (λv=>match v with|.func _ _ _=>false|_=>true)=true)
  (hK:∀β' v w',Post w0 β st.slots st.heap {val:=.v (.func (.func F) #[] vs.toArray),upd:=[],sides:=[]} v β' w'->K (a.put o.dst v) w'):o.wp P a w K Q:=by
 obtain⟨k1,k2⟩:=zc7 m hc hv
 have e:∀v∈vs,ren β v=renP β v/\refs v=zbc v:=λv hv=>by
  have a1:=List.all_eq_true.1 h1 v hv
  have a2:=List.all_eq_true.1 h2 v hv
  cases v<;>first|exact⟨rfl,rfl⟩|(simp at a2;done)|(cases a1;done)
 refine zaf (u:=.func (.func F) #[] (vs.map (renP β)).toArray) ?_ (hK β _ w (Post.same m rfl ?_ λk hk=>?_))
 ·have h3:caps.map a.eval=(vs.map (renP β)).toArray:=by
   apply Array.ext'
   rw[Array.toList_map,k1]
   exact List.map_congr_left λv hv=>(e v hv).1
  have h4:first.map a.eval = #[]:=by
   apply Array.ext'
   rw[Array.toList_map,hf];rfl
  simp only[execOp,ho,Instr.makeFunc,Sem.run_bind,Sem.run_pure,Result.andThen_ok,h3,h4]
 ·show _=ren β _
  simp[ren,ren1,ren0]
 ·simp only[names,refs,zbk,zaz]at hk
  obtain⟨v,hv',hk⟩:=zbb.1 hk
  have hv':v∈vs:=by simpa using hv'
  exact k2 v hv' k (by rw[(e v hv').2];exact hk)
theorem zxv(x y:DC):zmg true x y=x:=by
 cases x<;>cases y<;>first|rfl|(simp only[zmg];rw[zcj])
theorem zvc(x y:DC):zmg false x y=y:=by
 cases x<;>cases y<;>first|rfl|(simp only[zmg];rw[zb3])
theorem zs2:∀(xs ys:List DC),xs.length=ys.length->List.zipWith (zmg true) xs ys=xs
 |[],[],_=>rfl
 |x::xs,y::ys,h=>by simp only[List.zipWith_cons_cons];rw[zxv,zs2 xs ys (by simpa using h)]
 |[],_::_,h=>by simp at h
 |_::_,[],h=>by simp at h
theorem zqm:∀(xs ys:List DC),xs.length=ys.length->List.zipWith (zmg false) xs ys=ys
 |[],[],_=>rfl
 |x::xs,y::ys,h=>by simp only[List.zipWith_cons_cons];rw[zvc,zqm xs ys (by simpa using h)]
 |[],_::_,h=>by simp at h
 |_::_,[],h=>by simp at h
theorem ztp{size:Nat}:∀(l:List (List DC)) (k i:Nat),(∀c∈l,c.length=size)->k<=i->i<k+l.length->l[i-k]? = some (zpr k l i)
 |[],k,i,_,h1,h2=>by simp at h2;omega
 |[c],k,i,_,h1,h2=>by
  simp only[List.length_cons,List.length_nil]at h2
  have:i-k=0:=by omega
  rw[this];rfl
 |c::d::l,k,i,hl,h1,h2=>by
  have hlen:∀x∈(d::l),x.length=size:=λx hx=>hl x (by simp[hx])
  have hc:=hl c (by simp)
  simp only[zpr]
  by_cases e:i=k
  ·subst e
   have hp:(zpr (i+1) (d::l) i).length=size:=by
    have:∀(l:List (List DC)) (k i:Nat),l≠[]->(∀c∈l,c.length=size)->(zpr k l i).length=size:=by
     intro l
     induction l with
     |nil=>intro k i h _;exact absurd rfl h
     |cons c l ih=>
      intro k i _ h
      cases l with
      |nil=>exact h c (by simp)
      |cons d l=>
       simp only[zpr,List.length_zipWith]
       rw[ih (k+1) i (by simp) λx hx=>h x (by simp[hx]),h c (by simp)]
       omega
    exact this _ _ _ (by simp) hlen
   rw[Nat.beq_refl,zs2 _ _ (by rw[hc,hp])]
   simp
  ·have ih:=ztp (d::l) (k+1) i hlen (by omega) (by simp only[List.length_cons]at h2 ⊢;omega)
   have hm:=List.mem_of_getElem? ih
   have hb:Nat.beq i k=false:=by
    cases hb:Nat.beq i k with
    |false=>rfl
    |true=>exact absurd (Nat.eq_of_beq_eq_true hb) e
   rw[hb,zqm _ _ (by rw[hc,hlen _ hm]),show i-k=(i-(k+1))+1 by omega,List.getElem?_cons_succ]
   exact ih
theorem zsg{size:Nat}:∀(n:Nat) (l:List DC),n*size<=l.length->(zly size n l).length=n/\(∀c∈zly size n l,c.length=size)/\∀i,i<n->(zly size n l)[i]? = some ((l.drop (i*size)).take size)
 |0,l,_=>⟨rfl,λc hc=>(by cases hc),λi hi=>by omega⟩
 |n+1,l,h=>by
  rw[Nat.add_mul,Nat.one_mul]at h
  obtain⟨h1,h2,h3⟩:=zsg (size:=size) n (l.drop size) (by rw[List.length_drop];omega)
  simp only[zly]
  refine⟨by simp[h1],λc hc=>?_,λi hi=>?_⟩
  ·rcases List.mem_cons.1 hc with rfl|hc
   ·rw[List.length_take];omega
   ·exact h2 c hc
  ·cases i with
   |zero=>simp
   |succ i=>
    rw[List.getElem?_cons_succ,h3 i (by omega),List.drop_drop]
    rw[show size+i*size=(i+1)*size by rw[Nat.add_mul,Nat.one_mul,Nat.add_comm]]
theorem z20{h:List (Option HE)}{upd:List (Nat×HE)}{fresh len cap size:Nat}{t:TypeId}{f:Nat->List DC}{cells:List Value}{sides:List Prop}(m1:Mem w0 β (zac h upd) w)(hkeep:True)(hf:fresh<h.length)(hn:(zac h upd).getD fresh none=none)
  (hn0:h.getD fresh none=none) (hs:zbh P t=some size) (h0:0<size) (hlen:cells.length=cap*size) (hle:len<=cap) (hcap:cap<=maxLen)
  (hel:∀i,i<len->(f i).length=size/\∀j,j<size->∃v,cells[i*size+j]? = some v/\DenC w (NF w0 β (zac h upd) w) ((f i).getD j default) v) :
  ∃β',Post w0 β st.slots h {val:=.v (.slice (some ⟨fresh,0,some 0⟩) len 0),upd:=upd++[(fresh,.own t len f)],sides} (.slice (some ⟨w.heap.size,0,none⟩) len cap) β' (push w (.cells cells.toArray t)):=by
 refine⟨bump β fresh (w.heap.size,λ_=>.slice (some ⟨w.heap.size,0,none⟩) len cap),λn c hc=>zcf λe=>?_,?_,λn hn'=>?_,?_⟩
 ·rw[e,hn0]at hc;cases hc
 ·show _=ren _ _
  simp only[ren,ren1,ren0,renP]
  rw[zcs]
 ·simp only[names,refs,zbk,zaz,zbc,List.mem_singleton]at hn';subst hn'
  rw[za3]
  exact⟨.own t len f,by simp only[zac];rw[zah,if_pos ⟨rfl,by rw[zba];exact hf⟩]⟩
 ·dsimp only
  rw[za3]
  refine m1.add (by rw[zba];exact hf) hn _ _ (zk5 _ _) (λb hb=>?_) (λ_=>rfl) (λt' cs' e=>by cases e) (λhNF=>?_)
  ·simp only[zc8,Value.ownBlock,Option.some.injEq]at hb;omega
  ·refine⟨size,cells.take (len*size),hs,h0,⟨?_,.inr ⟨w.heap.size,cap,cells.toArray,rfl,m1.below.size,zp6,hle,hcap,by simp[hlen],by simp⟩⟩,λi hi=>⟨(hel i hi).1,λj hj=>?_⟩⟩
   ·rw[List.length_take,hlen]
    have:len*size<=cap*size:=Nat.mul_le_mul_right _ hle
    omega
   ·obtain⟨v,hv,hd⟩:=(hel i hi).2 j hj
    refine⟨v,?_,hd.mono hNF⟩
    rw[List.getElem?_take,if_pos]
    ·exact hv
    ·have:(i+1)*size<=len*size:=Nat.mul_le_mul_right _ hi
     rw[Nat.add_mul,Nat.one_mul]at this
     omega
theorem zgd{hp:Nat->Option HE}(hhp:∀n c,hp n=some c->st.heap.getD n none=some c){t len fresh:Nat}{parts:Array (Nat×Operand)}{e:TypeId}{vs:List Value}{size:Nat}{z:Value}{cells:Array Value}{ds:List DC}{l:List (Nat×HE)}(m:M w0 β st a w)(hc:holds st.slots cs)
  (hf:fresh<st.heap.length) (hn:st.heap.getD fresh none=none) (ho:o.op=.buildSlice t len parts) (he:zaw P t=some e) (hv:zdx (evS st.slots cs) (parts.toList.map (·.2))=some vs) (hs:zbh P e=some size) (hz:(P.info? e).bind (·.zero)=some z)
  (hb:¬len*size>2 ^ 24) (hb0:¬size=0) (h1:vs.all (λv=>v.cells.toList.all zag)=true) (hfl:allB zel ((Array.range (len*size)).map (z.cells[· % z.cells.size]!)).toList=true)
  (hfill:Instr.fill (λi=>some (i*size,size)) ((Array.range (len*size)).map (z.cells[· % z.cells.size]!)) ((parts.toList.map (·.1)).zip vs)=some cells) (hds:mapO (zpp (zi6 hp)) cells.toList=some ds) (hl:frz hp (zdt refs vs)=some l)
  (hK:∀β' u w',Post w0 β st.slots st.heap {val:=.v (.slice (some ⟨fresh,0,some 0⟩) len 0),upd:=l++[(fresh,.own e len (zpr 0 (zly size len ds)))],sides:=[]} u β' w'->K (a.put o.dst u) w'):o.wp P a w K Q:=by
 have hone:=m.mem.one
 have hhp':∀n c,hp n=some c->c=.gone\/st.heap.getD n none=some c:=λn c h=>.inr (hhp n c h)
 obtain⟨i1,i2,i3⟩:=zqc (β:=β) hone _ _ _ (λp hp=>List.all_eq_true.1 h1 p.2 (List.of_mem_zip hp).2) hfill
 rw[zbi (f:=ren0 β) (l:=Array.toList _) λy hy=>zbn (za4.1 hfl y hy)]at i1
 obtain⟨f1,f2,f3,f4⟩:=zer (zdt refs vs) m.mem hhp' hl
 have hpa:=zod m hc hv
 have hcz:cells.size=len*size:=by rw[i2];simp
 have hsz0:0<size:=Nat.pos_of_ne_zero hb0
 have hfn:∀c,(fresh,c)∉l:=λc h=>by
  obtain⟨_,⟨t',k,f,h2⟩,_⟩:=f4 fresh c h
  rw[hn]at h2;cases h2
 have hden:=zj7 (w0:=w0) (β:=β) m.mem (hp:=zi6 hp) (λq c hq=>.inr (hhp q c (zk8 hq))) (.inl λ_ _=>zgy) (F:=NF w0 β (zac st.heap l) w) f2 hds (λc hcm q hq t k f hhe b hbb=>by
  rcases i3 c hcm with hc'|⟨p,hp',hc'⟩
  ·rw[zb8 (za4.1 hfl c hc')]at hq;cases hq
  ·have hpv:=(List.of_mem_zip hp').2
   obtain⟨_,k2,_⟩:=zjj hone (List.all_eq_true.1 h1 p.2 hpv)
   exact(f3 q (zbb.2 ⟨p.2,hpv,k2 c hc' q hq⟩) _ hhe).2 b hbb)
 have hdl:ds.length=len*size:=by rw[(zig hds).1,Array.length_toList,hcz]
 obtain⟨c1,c2,c3⟩:=zsg (size:=size) len ds (by omega)
 have hpick:∀i,i<len->zpr 0 (zly size len ds) i=(ds.drop (i*size)).take size:=λi hi=>by
  have:=ztp (zly size len ds) 0 i c2 (by omega) (by omega)
  rw[Nat.sub_zero,c3 i hi]at this
  exact(Option.some.inj this).symm
 obtain⟨β',hpost⟩:=z20 (w0:=w0) (st:=st) (h:=st.heap) (upd:=l) (fresh:=fresh) (len:=len) (cap:=len) (t:=e) (f:=zpr 0 (zly size len ds)) (cells:=cells.toList.map (ren0 β)) (sides:=[]) f1 trivial hf (by rw[zdr l _ hfn];exact hn) hn hs hsz0 (by rw[List.length_map,Array.length_toList,hcz]) (Nat.le_refl _)
  (by
   have:len*1<=len*size:=Nat.mul_le_mul_left _ hsz0
   unfold maxLen;omega)
  (λi hi=>by
   have hb':(i+1)*size<=len*size:=Nat.mul_le_mul_right _ hi
   rw[Nat.add_mul,Nat.one_mul]at hb'
   rw[hpick i hi]
   refine⟨by rw[List.length_take,List.length_drop];omega,λj hj=>?_⟩
   obtain⟨d,hd⟩:∃d,ds[i*size+j]? = some d:=⟨_,List.getElem?_eq_getElem (by omega)⟩
   obtain⟨v,hv1,hv2⟩:=hden.at_ _ d hd
   refine⟨v,hv1,?_⟩
   have e':((ds.drop (i*size)).take size).getD j default=d:=by
    rw[List.getD_eq_getElem?_getD,List.getElem?_take,if_pos hj,List.getElem?_drop,hd];rfl
   rw[e'];exact hv2)
 refine zaf (u:=.slice (some ⟨w.heap.size,0,none⟩) len len) ?_ (hK β' _ _ hpost)
 unfold zaw at he
 split at he
 ·rename_i e' hu
  simp only[Option.some.injEq]at he;subst he
  simp only[Array.toArray_toList]at i1
  by_cases h0:len*size=0
  ·have e:∀zz:Array Value,(Array.range (len*size)).map (zz[· % zz.size]!) = #[]:=λzz=>by rw[h0];simp
   rw[e z.cells]at i1
   have hz0:¬(0:Nat)>2 ^ 24:=by decide
   simp only[execOp,ho,Instr.buildSlice,Sem.run_bind,underlying,run_program,hu,Sem.run_pure,Result.andThen_ok,za5 hs,h0,hz0,if_false,if_true,hpa]
   have e0:=e #[]
   rw[h0]at e0
   simp only[e0,i1,newRow,run_newObj,Sem.run_bind,Sem.run_pure,Result.andThen_ok]
   rfl
  ·simp only[execOp,ho,Instr.buildSlice,Sem.run_bind,underlying,run_program,hu,Sem.run_pure,Result.andThen_ok,za5 hs,hb,h0,if_false,ze8 hz,hpa,i1,newRow,run_newObj]
   rfl
 ·cases he
end
section
variable{P:Program}{w0:Base P}{w:World}{β:Env}{st:St}{a:Act}{cs:List (Nat×Bool)}{o:Oper}{r:Res}{K:Act->World->Prop}{Q:Exit->Act->World->Prop}
theorem z5u{size:Nat}(i j:Nat)(h:j<size):(i*size+j)%size=j:=by
 rw[Nat.mul_comm,Nat.mul_add_mod,Nat.mod_eq_of_lt h]
theorem zlv{t fresh size b:Nat}{x y:Operand}{e:TypeId}{ki kj:IntKind}{i j:Int}{ds:List DC}(m:M w0 β st a w)(hc:holds st.slots cs)(hf:fresh<st.heap.length)(hn:st.heap.getD fresh none=none)(ho:o.op=.makeSlice t x y)
  (he:zaw P t=some e) (hx:plain (evS st.slots cs x)=some (.int ki i)) (hy:plain (evS st.slots cs y)=some (.int kj j)) (hs:zbh P e=some (size+1)) (hb:zjy P e=some b) {z:Value} (hzz:(P.info? e).bind (·.zero)=some z) (hzl:z.cells.size=size+1) (hden:DenL w (NF w0 β st.heap w) ds z.cells.toList) (hdl:ds.length=size+1)
  (hside:0<=i/\i<=j/\j<=9223372036854775807/\(b:Int)*j<=281474976710656)
  (hK:∀β' u w' sides,Post w0 β st.slots st.heap {val:=.v (.slice (some ⟨fresh,0,some 0⟩) i.toNat 0),upd:=[(fresh,.own e i.toNat λ_=>ds)],sides} u β' w'->K (a.put o.dst u) w'):o.wp P a w K Q:=by
 obtain⟨h0,h1,h2,h3⟩:=hside
 have hx':=zaj m hc hx
 have hy':=zaj m hc hy
 have hcell:∀q,q<j.toNat*(size+1)->(((Array.range (j.toNat*(size+1))).map (z.cells[· % z.cells.size]!)).toList)[q]? = some (z.cells[q%(size+1)]!):=λq hq=>by
  rw[Array.getElem?_toList,Array.getElem?_map,Array.getElem?_range,if_pos hq,hzl];rfl
 obtain⟨β',hpost⟩:=z20 (w0:=w0) (st:=st) (h:=st.heap) (upd:=[]) (fresh:=fresh) (len:=i.toNat) (cap:=j.toNat) (t:=e) (f:=λ_=>ds) (cells:=((Array.range (j.toNat*(size+1))).map (z.cells[· % z.cells.size]!)).toList) (sides:=[]) m.mem trivial hf hn hn hs (by omega) (by simp) (by omega)
  (by unfold maxLen;omega)
  (λq hq=>⟨hdl,λp hp=>by
   have hq':(q+1)*(size+1)<=j.toNat*(size+1):=Nat.mul_le_mul_right _ (by omega)
   rw[Nat.add_mul,Nat.one_mul]at hq'
   obtain⟨d,hd⟩:∃d,ds[p]? = some d:=⟨_,List.getElem?_eq_getElem (by omega)⟩
   obtain⟨v,hv1,hv2⟩:=hden.at_ p d hd
   refine⟨v,?_,by rw[List.getD_eq_getElem?_getD,hd];exact hv2⟩
   rw[hcell _ (by omega),z5u _ _ hp]
   rw[Array.getElem?_toList]at hv1
   rw[getElem!_def,hv1]⟩)
 refine zaf (u:=.slice (some ⟨w.heap.size,0,none⟩) i.toNat j.toNat) ?_ (hK β' _ _ [] hpost)
 unfold zaw at he
 split at he
 ·rename_i e' hu
  simp only[Option.some.injEq]at he;subst he
  have hinfo:∃inf,P.info? e'=some inf/\inf.bytes=b:=by
   unfold zjy at hb
   cases hi:P.info? e' with
   |none=>rw[hi]at hb;cases hb
   |some inf=>rw[hi]at hb;exact⟨inf,rfl,by simpa using hb⟩
  obtain⟨inf,hi1,hi2⟩:=hinfo
  have wi:IntKind.i64.wrap i=i:=by rw[IntKind.wrap_i64];omega
  have wj:IntKind.i64.wrap j=j:=by rw[IntKind.wrap_i64];omega
  have t1:(decide (j<0)||decide ((b:Int)*j>2 ^ 48))=false:=by
   rw[decide_eq_false (by omega),decide_eq_false (by
                             have:(2:Int) ^ 48=281474976710656:=by decide
                             omega)];rfl
  have cond:((decide (j<0)||decide ((b:Int)*j>2 ^ 48))||decide (i<0)||decide (i>j))=false:=by
   rw[t1,decide_eq_false (by omega),decide_eq_false (by omega)];rfl
  simp only[execOp,ho,hx',hy',Instr.makeSlice,Sem.run_bind,underlying,run_program,hu,Sem.run_pure,Result.andThen_ok,asInt,asIntOf,typeInfo,hi1,hi2,wi,wj,cond,Bool.false_eq_true,if_false,run_askRoom,za5 hs]
  by_cases hj0:j.toNat*(size+1)=0
  ·rw[if_pos hj0]
   simp only[Sem.run_pure,Result.andThen_ok,newRow,run_newObj,Sem.run_bind]
   rw[hj0]
   have e0:∀g:Nat->Value,(Array.range 0).map g = #[]:=λg=>by apply Array.ext';simp
   rw[e0,e0]
   rfl
  ·rw[if_neg hj0]
   simp only[Sem.run_pure,Result.andThen_ok,newRow,run_newObj,Sem.run_bind,ze8 hzz]
   rfl
 ·cases he
theorem zrq{t fresh size b:Nat}{x y:Operand}{e:TypeId}{ki kj:IntKind}{i j:Int}{ds:List DC}(m:M w0 β st a w)(hc:holds st.slots cs)(hf:fresh<st.heap.length)(hn:st.heap.getD fresh none=none)(ho:o.op=.makeSlice t x y)
  (he:zaw P t=some e) (hx:plain (evS st.slots cs x)=some (.int ki i)) (hy:plain (evS st.slots cs y)=some (.int kj j)) (hs:zbh P e=some (size+1)) (hb:zjy P e=some b) (hz:z60 P e=some ds) (hdl:ds.length=size+1)
  (hside:0<=i/\i<=j/\j<=9223372036854775807/\(b:Int)*j<=281474976710656)
  (hK:∀β' u w' sides,Post w0 β st.slots st.heap {val:=.v (.slice (some ⟨fresh,0,some 0⟩) i.toNat 0),upd:=[(fresh,.own e i.toNat λ_=>ds)],sides} u β' w'->K (a.put o.dst u) w'):o.wp P a w K Q:=by
 unfold z60 at hz
 split at hz
 ·rename_i z hzz
  split at hz
  ·rename_i hzf
   simp only[Bool.and_eq_true]at hzf
   have hzl:z.cells.size=size+1:=by rw[←hdl,(zig hz).1,Array.length_toList]
   have hden:=zj7 (w0:=w0) (β:=β) m.mem (hp:=λ_=>none) (λn c h=>by cases h) (.inl λ_ _ h=>by cases h) (F:=NF w0 β st.heap w) (λb hb=>hb) hz (λc hcm q hq=>by rw[zb8 (za4.1 hzf.1 c hcm)]at hq;cases hq)
   rw[zbi (f:=ren0 β) λy hy=>zbn (za4.1 hzf.1 y hy)]at hden
   exact zlv m hc hf hn ho he hx hy hs hb hzz hzl hden hdl hside hK
  ·cases hz
 ·cases hz
theorem yc5{hp:Nat->Option HE}(hhp:∀n c,hp n=some c->st.heap.getD n none=some c)(m:M w0 β st a w){u:Value}{k:Nat}{f:Nat->List DC}(h:zy4 hp u=some (k,f)):∃oa cap,ren β u=.slice oa k cap:=by
 unfold zy4 at h
 split at h
 ·simp only[Option.some.injEq,Prod.mk.injEq]at h
  exact⟨none,0,by rw[←h.1];rfl⟩
 ·rename_i ad n c
  obtain⟨b,q,sp⟩:=ad
  dsimp only at h
  split at h
  ·rcases zk3 m.mem hhp h with⟨⟨oa,cap,h1⟩,rfl⟩|⟨b',q',cap,size,h1,_⟩
   ·exact⟨oa,cap,h1⟩
   ·exact⟨_,cap,h1⟩
  ·cases h
 ·cases h
theorem z6u{hp:Nat->Option HE}(hnr:∀n ds,hp n≠some (.raw ds))(hhp:∀n c,hp n=some c->st.heap.getD n none=some c)(m:M w0 β st a w){u:Value}{k:Nat}{f:Nat->List DC}(h:zy4 hp u=some (k,f)) :
  ((∃oa cap,ren β u=.slice oa 0 cap)/\k=0)\/∃b o cap size,ren β u=.slice (some ⟨b,o,none⟩) k cap/\∀i,i<k->(f i).length=size/\∃us,DenL w (NF w0 β st.heap w) (f i) us/\∀q u,us[q]? = some u->w.cell? ⟨b,o+i*size+q,none⟩=some u:=by
 unfold zy4 at h
 split at h
 ·simp only[Option.some.injEq,Prod.mk.injEq]at h
  exact .inl ⟨⟨none,0,rfl⟩,h.1.symm⟩
 ·rename_i ad n c
  obtain⟨b,q,sp⟩:=ad
  dsimp only at h
  split at h
  ·have q:=zk3 m.mem hhp h
   have e:zps hp b=false:=by
    unfold zps
    split
    ·rename_i ds hn;exact absurd hn (hnr b ds)
    ·rfl
   rw[e]at q
   exact q
  ·cases h
 ·cases h
theorem zrx{hp:Nat->Option HE}(hhp:∀n c,hp n=some c->st.heap.getD n none=some c){args:Array Operand}{argTypes:Array TypeId}{x:Operand}{t e:TypeId}{u:Value}{k:Nat}{f:Nat->List DC}(m:M w0 β st a w)(ho:o.op=.call {callee:=.builtin .len,args,argTypes})
  (ha:args.toList=[x]) (hat:argTypes.toList=[t]) (hx:a.eval x=ren β u) (he:zaw P t=some e) (hr:zy4 hp u=some (k,f))
  (hK:K (a.put o.dst (.int .i64 (k:Int))) w):o.wp P a w K Q:=by
 have e1:args = #[x]:=by apply Array.ext';rw[ha]
 have e2:argTypes = #[t]:=by apply Array.ext';rw[hat]
 subst e1;subst e2
 unfold zaw at he
 split at he
 ·rename_i e' hu
  have key:∃oa cap,a.eval x=.slice oa k cap:=by
   obtain⟨oa,cap,h1⟩:=yc5 hhp m hr
   exact⟨oa,cap,by rw[hx,h1]⟩
  obtain⟨oa,cap,hx'⟩:=key
  refine zaf (u:=.int .i64 (k:Int)) ?_ hK
  simp only[execOp,ho,Go.resolve,invoke,builtin,Builtin.len_,Sem.run_bind,Sem.run_pure,Result.andThen_ok,List.map_toArray,List.map_cons,List.map_nil,hx',underlying,run_program,hu]
  simp[goInt,underlying,hu]
 ·cases he
theorem zkd(t ty e:TypeId)(ht:P.underlying t=some (.slice e)){size:Nat}(hs:zbh P e=some size)(base:Option Addr)(n c:Nat)(hle:n<=c)(oa:Option Addr)(cap:Nat) :
  (Builtin.append_ #[t,t] ty #[.slice base n c,.slice oa 0 cap]).run P w=.ok (.slice base n c) w:=by
 have hf:(Builtin.firstCells size 0 (.slice oa 0 cap)).run P w=.ok #[] w:=by
  cases oa<;>simp[Builtin.firstCells,loadCells,loadCellsFrom]
 cases base<;>simp[Builtin.append_,run_underlying ht,za5 hs,Builtin.lenOf,hle,hf,storeCells]
theorem z6v{base:Nat}(hb:base<=w.heap.size)(t ty e:TypeId)(ht:P.underlying t=some (.slice e)){size by_:Nat}{z:Value}(hs:zbh P e=some size)(hsz:0<size)(hby:zjy P e=some by_)(hz:(P.info? e).bind (·.zero)=some z)(hzl:z.cells.size=size)
  {v y:Value} {n m:Nat} {xs news:List Value} (hown:w.ownsRow base e size v n xs) (hy:((∃oa cap,y=.slice oa 0 cap)/\m=0)\/∃b o cap,y=.slice (some ⟨b,o,none⟩) m cap/\∀j u,news[j]? = some u->w.cell? ⟨b,o+j,none⟩=some u)
  (hl:news.length=m*size) (h1:∀u∈news,zag u=true) (h63:n+m<=maxLen) (hbytes:(n+m)*by_<=140737488355328) :
  ∃v' w',(Builtin.append_ #[t,t] ty #[v,y]).run P w=.ok v' w'/\w'.ownsRow base e size v' (n+m) (xs++news)/\w.grownBy w' v.ownBlock/\(v'.ownBlock=v.ownBlock\/v'.ownBlock=some w.heap.size):=by
 have hinfo:∃inf,P.info? e=some inf/\inf.size=size/\inf.bytes=by_/\inf.zero=some z:=by
  unfold zjy at hby;unfold zbh at hs
  cases hi:P.info? e with
  |none=>rw[hi]at hby;cases hby
  |some inf=>rw[hi]at hby hs hz;exact⟨inf,rfl,by simpa using hs,by simpa using hby,by simpa using hz⟩
 obtain⟨inf,hi,rfl,rfl,hzz⟩:=hinfo
 have h1':∀u∈news,u.oneCell'=true:=λu hu=>by have:=h1 u hu;cases u<;>simp_all [zag,Value.oneCell']
 have hlen:(xs++news).length=(n+m)*inf.size:=by rw[List.length_append,hown.1,hl,Nat.add_mul]
 by_cases hm:m=0
 ·subst hm
  have hn:news=[]:=List.eq_nil_of_length_eq_zero (by simpa using hl)
  subst hn
  have hy':∃oa cap,y=.slice oa 0 cap:=by
   rcases hy with⟨⟨oa,cap,rfl⟩,_⟩|⟨b,q,cap,rfl,_⟩
   ·exact⟨oa,cap,rfl⟩
   ·exact⟨_,cap,rfl⟩
  obtain⟨oa,cap,rfl⟩:=hy'
  refine⟨v,w,?_,by simpa using hown,⟨rfl,rfl,rfl,Nat.le_refl _,λ_ _ _=>rfl⟩,.inl rfl⟩
  rcases hown.2 with⟨rfl,rfl⟩|⟨g,c,cur,rfl,_,_,hnc,_⟩
  ·exact zkd t ty e ht hs none 0 0 (Nat.le_refl _) oa cap
  ·exact zkd t ty e ht hs _ n c hnc oa cap
 ·obtain⟨b,q,cap,rfl,hnews⟩:=hy.resolve_left (λz=>hm z.2)
  have hnews':∀j u,news[j]? = some u->w.cell? ((⟨b,q,none⟩:Addr).add j)=some u:=λj u hu=>by rw[zhd];exact hnews j u hu
  have hsmall:n+m<=9223372036854775807:=by unfold maxLen at h63;omega
  have grown:∀(old:Nat),(w.drew.alloc (.cells (xs.toArray++news.toArray++Builtin.zeroCells z.cells (grownCap w (n+m) old e-(n+m))) e)).ownsRow base e inf.size
    (.slice (some ⟨w.heap.size,0,none⟩) (n+m) (grownCap w (n+m) old e)) (n+m) (xs++news):=λold=>by
   have hge:=grownCap_ge w (n+m) old e
   refine⟨hlen,.inr ⟨w.heap.size,_,_,rfl,hb,heap_alloc_new w.drew _,hge,grownCap_le_maxLen w (n+m) old e h63,?_,?_⟩⟩
   ·simp only[Array.size_append,List.size_toArray,size_zeroCells,hzl,hown.1,hl,←Nat.add_mul]
    congr 1;omega
   ·simp only[Array.toList_append,List.append_assoc]
    rw[←List.append_assoc,←hlen]
    exact List.take_left
  have grownBy:∀(old:Nat) (row:Option Nat),w.grownBy (w.drew.alloc (.cells (xs.toArray++news.toArray++Builtin.zeroCells z.cells (grownCap w (n+m) old e-(n+m))) e)) row:=λold row=>
   ⟨rfl,rfl,rfl,by simp,λk hk _=>heap_alloc_old w.drew _ k hk⟩
  rcases hown.2 with⟨rfl,rfl⟩|⟨g,c,cur,rfl,hbg,hg,hnc,hcm,hcs,htake⟩
  ·have hx:xs=[]:=List.eq_nil_of_length_eq_zero (by simpa using hown.1)
   subst hx
   have hr:=run_append_nil (P:=P) w t ty e inf z ht hi hzz ⟨b,q,none⟩ m cap news hl hnews' (by omega) (by omega) (by simp only[Nat.zero_add]at hbytes;omega)
   have g1:=grown 0;have g2:=grownBy 0 (Value.ownBlock (.slice none 0 0))
   simp only[Nat.zero_add,List.nil_append,Array.empty_append]at g1 g2 ⊢
   exact⟨_,_,hr,g1,g2,.inr rfl⟩
  ·by_cases hroom:n+m<=c
   ·have hfit:n*inf.size+news.length<=cur.size:=by rw[hl,hcs,←Nat.add_mul];exact Nat.mul_le_mul_right _ hroom
    have hr:=run_append_room (P:=P) w t ty e inf ht hi g n c cur hg ⟨b,q,none⟩ m cap news hl hnews' h1' hroom hfit
    refine⟨_,_,hr,⟨hlen,.inr ⟨g,c,_,rfl,hbg,setRow_heap w g cur _ e _ hg,hroom,hcm,?_,?_⟩⟩,⟨rfl,rfl,rfl,by simp,λk _ hk=>setRow_other w g k _ (λe=>hk (by simp[Value.ownBlock,e]))⟩,.inl rfl⟩
    ·simp only[List.size_toArray,List.length_append,List.length_take,List.length_drop,Array.length_toList]
     omega
    ·rw[htake,←hlen]
     exact List.take_left
   ·have hold:∀j u,xs[j]? = some u->w.cell? ((⟨g,0,none⟩:Addr).add j)=some u:=hown.cells (g:=g) rfl
    have hr:=run_append_grow (P:=P) w t ty e inf z ht hi hzz ⟨g,0,none⟩ n c xs hown.1 hold ⟨b,q,none⟩ m cap news hl hnews' (by omega) (by omega) (growslice_fits (by omega) hbytes)
    exact⟨_,_,hr,grown c,grownBy c _,.inr rfl⟩
theorem zui{h:List (Option HE)}(m:Mem w0 β h w){w':World}{fresh:Nat}(hf:fresh<h.length)(hn:h.getD fresh none=none){old:List (Nat×HE)}{row:Option Nat}(hold:(old=[]/\row=none)\/∃N t k f,old=[(N,.gone)]/\h.getD N none=some (.own t k f)/\row=((β N).2 0).ownBlock)
  {v':Value} (hv1:zag v'=true) (hv:v'.ownBlock=row\/v'.ownBlock=some w.heap.size) (hg:w.grownBy w' row) {e:TypeId} {n:Nat} {f:Nat->List DC}
  (hok:(∀b,NF w0 β h w b->NF w0 (bump β fresh (0,λ_=>v')) (zac h (old++[(fresh,.own e n f)])) w' b/\w'.heap[b]? = w.heap[b]?)->HeOk w0 (bump β fresh (0,λ_=>v')) (NF w0 (bump β fresh (0,λ_=>v')) (zac h (old++[(fresh,.own e n f)])) w') w' (0,λ_=>v') (.own e n f)) :
  Mem w0 (bump β fresh (0,λ_=>v')) (zac h (old++[(fresh,.own e n f)])) w':=by
 have hNlt:∀N t k f,h.getD N none=some (HE.own t k f)->N<h.length/\N≠fresh:=λN t k f hN=>by
  refine⟨?_,λe=>by rw[e,hn]at hN;cases hN⟩
  rcases Nat.lt_or_ge N h.length with z|z
  ·exact z
  ·rw[List.getD_eq_getElem?_getD,List.getElem?_eq_none z]at hN;cases hN
 have hatn:(zac h (old++[(fresh,.own e n f)])).getD fresh none=some (.own e n f):=by
  rw[za3];simp only[zac];rw[zah,if_pos ⟨rfl,by rw[zba];exact hf⟩]
 have hat:∀q he,(zac h (old++[(fresh,.own e n f)])).getD q none=some he->q≠fresh->he=.gone\/(h.getD q none=some he/\∀b,zc8 he (β q)=some b->some b≠row):=λq he hq hqf=>by
  rw[za3]at hq
  simp only[zac]at hq
  rw[zah,if_neg (λz=>hqf z.1.symm)]at hq
  rcases hold with⟨rfl,rfl⟩|⟨N,t,k,f',rfl,hN,rfl⟩
  ·exact .inr ⟨hq,λb _=>by simp⟩
  ·simp only[zac]at hq
   rw[zah]at hq
   split at hq
   ·simp only[Option.some.injEq]at hq;exact .inl hq.symm
   ·rename_i hne
    refine .inr ⟨hq,λb hb hr=>hne ⟨?_,(hNlt N t k f' hN).1⟩⟩
    exact m.inj N q _ he b hN hq hr.symm hb
 have hsome:∀q c,h.getD q none=some c->∃d,(zac h (old++[(fresh,.own e n f)])).getD q none=some d:=λq c hq=>ze4 _ _ hq
 have hrow:∀b,NF w0 β h w b->some b≠row:=λb hN hr=>by
  rcases hold with⟨rfl,rfl⟩|⟨N,t,k,f',rfl,hNN,rfl⟩
  ·cases hr
  ·have hlt:=m.ownlt hNN hr.symm
   rcases hN with z|z
   ·have:=w0.lt b z;omega
   ·exact z.2.2 N _ hNN hr.symm
 have hNF:∀b,NF w0 β h w b->NF w0 (bump β fresh (0,λ_=>v')) (zac h (old++[(fresh,.own e n f)])) w' b/\w'.heap[b]? = w.heap[b]?:=λb hN=>by
  have hlt:=zn5 m.below hN
  refine⟨?_,hg.block b hlt (hrow b hN)⟩
  rcases hN with z|⟨k1,k2,k3⟩
  ·exact .inl z
  ·refine .inr ⟨k1,⟨Nat.lt_of_lt_of_le k2.1 hg.size,k2.2.of (hg.block b hlt (hrow b (.inr ⟨k1,k2,k3⟩)))⟩,λq c hq hx=>?_⟩
   by_cases eq:q=fresh
   ·subst eq
    rw[hatn]at hq;simp only[Option.some.injEq]at hq;subst hq
    rw[zcs]at hx
    have hx':v'.ownBlock=some b:=hx
    rcases hv with hv|hv
    ·exact hrow b (.inr ⟨k1,k2,k3⟩) (by rw[←hx',hv])
    ·rw[hv]at hx';simp only[Option.some.injEq]at hx';omega
   ·rw[zcf eq]at hx
    rcases hat q c hq eq with rfl|⟨h1,_⟩
    ·cases hx
    ·exact k3 q c h1 hx
 refine m.next (λq=>q=fresh\/(zac h (old++[(fresh,.own e n f)])).getD q none=some .gone) (λq c hq hnq=>zcf λz=>hnq (.inl z)) (λq t cs hq hnq v hv=>?_) (λq he hq hnq=>?_) hNF hg.size (λq he hq hnq=>?_) (λq p c d b hq hp hc hd hnq=>?_) (λq t cs hq v hv p hp=>?_) (λq j=>?_) ⟨hg.os.trans m.below.os,hg.tape.trans m.below.tape,hg.output.trans m.below.output,Nat.le_trans m.below.size hg.size,λb hb hL=>?_⟩ (λq v i hq p hp=>by
   by_cases hqf:q=fresh
   ·subst hqf;rw[hatn]at hq;cases hq
   ·rcases hat q _ hq hqf with z|⟨h1,_⟩
    ·cases z
    ·obtain⟨c,hc⟩:=m.mrefs q v i h1 p hp
     exact hsome p c hc) (λq v i hq hnq=>by
   have hqf:q≠fresh:=λz=>hnq (.inl z)
   rcases hat q _ hq hqf with z|⟨h1,_⟩
   ·cases z
   ·exact zgl λp hp=>zcf λe'=>by
     obtain⟨c,hc⟩:=m.mrefs q v i h1 p hp
     rw[e',hn]at hc;cases hc)
 ·have hqf:q≠fresh:=λz=>hnq (.inl z)
  rcases hat q _ hq hqf with z|⟨h1,_⟩
  ·cases z
  ·exact zw9 m hn _ h1 hv
 ·have hqf:q≠fresh:=λz=>hnq (.inl z)
  rcases hat q _ hq hqf with z|⟨h1,h2⟩
  ·subst z;exact absurd (.inr hq) hnq
  ·exact⟨h1,λb hb=>hg.block b (m.lt h1 hb).2 (h2 b hb)⟩
 ·by_cases hqf:q=fresh
  ·subst hqf
   rw[hatn]at hq;simp only[Option.some.injEq]at hq;subst hq
   rw[zcs];exact hok hNF
  ·rcases hnq with z|z
   ·exact absurd z hqf
   ·rw[z]at hq;simp only[Option.some.injEq]at hq;subst hq;trivial
 ·by_cases hqf:q=fresh
  ·subst hqf
   rw[hatn]at hq;simp only[Option.some.injEq]at hq;subst hq
   rw[zcs]at hc
   have hc':v'.ownBlock=some b:=hc
   by_cases e':p=q
   ·exact e'.symm
   ·rw[zcf e']at hd
    rcases hat p d hp e' with rfl|⟨h1,h2⟩
    ·cases hd
    ·rcases hv with hv|hv
     ·exact absurd (by rw[←hc',hv]) (h2 b hd)
     ·rw[hv]at hc';simp only[Option.some.injEq]at hc'
      have:=(m.lt h1 hd).2;omega
  ·rcases hnq with z|z
   ·exact absurd z hqf
   ·rw[z]at hq;simp only[Option.some.injEq]at hq;subst hq;cases hc
 ·by_cases hqf:q=fresh
  ·subst hqf;rw[hatn]at hq;cases hq
  ·rcases hat q _ hq hqf with z|⟨h1,_⟩
   ·cases z
   ·obtain⟨c,hc⟩:=m.refs q t cs h1 v hv p hp
    exact hsome p c hc
 ·by_cases hqf:q=fresh
  ·subst hqf;rw[zcs];exact hv1
  ·rw[zcf hqf];exact m.one q j
 ·have hb':b<w.heap.size:=Nat.lt_of_lt_of_le hb m.below.size
  rw[hg.block b hb' λhr=>?_]
  ·exact m.below.block b hb hL
  ·rcases hold with⟨rfl,rfl⟩|⟨N,t,k,f',rfl,hNN,rfl⟩
   ·cases hr
   ·have:=(m.ownlt hNN hr.symm).1;omega
end
section
variable{P:Program}{w0:Base P}{w:World}{β:Env}{st:St}{a:Act}{cs:List (Nat×Bool)}{o:Oper}{r:Res}{K:Act->World->Prop}{Q:Exit->Act->World->Prop}
theorem zy8{hp:Nat->Option HE}(hhp:∀n c,hp n=some c->st.heap.getD n none=some c){args:Array Operand}{argTypes:Array TypeId}{x y:Operand}{t e:TypeId}{u v:Value}{n k fresh size by_:Nat}{f g:Nat->List DC}{l l':List (Nat×HE)}{z:Value}(m:M w0 β st a w)(hc:holds st.slots cs)
  (hf:fresh<st.heap.length) (hn:st.heap.getD fresh none=none) (ho:o.op=.call {callee:=.builtin .append,args,argTypes}) (ha:args.toList=[x,y]) (hat:argTypes.toList=[t,t]) (hx:named (evS st.slots cs x)=some u) (hy:named (evS st.slots cs y)=some v) (he:zaw P t=some e)
  (hown:yo5 hp e u=some ((n,f),l)) (hrow:zy4 (zi6 hp) v=some (k,g)) (hs:zbh P e=some (size+1)) (hby:zjy P e=some by_) (hz:(P.info? e).bind (·.zero)=some z) (hzl:z.cells.size=size+1) (hgl:(g 0).length=size+1\/k=0)
  (hfr:frz (λk=>bif l.any (λq=>Nat.beq q.1 k)then none else hp k) (refs v)=some l') (h1:((n+k:Nat):Int)*by_<=140737488355328) (h2:((n+k:Nat):Int)<=9223372036854775807)
  (hK:∀β' q w' sides,Post w0 β st.slots st.heap {val:=.v (.slice (some ⟨fresh,0,some 0⟩) (n+k) 0),upd:=l'++l++[(fresh,.own e (n+k) (appF n f g))],sides} q β' w'->K (a.put o.dst q) w'):o.wp P a w K Q:=by
 obtain⟨hx',hxr⟩:=ze5 m hc hx
 obtain⟨hy',hyr⟩:=ze5 m hc hy
 have e1:args = #[x,y]:=by apply Array.ext';rw[ha]
 have e2:argTypes = #[t,t]:=by apply Array.ext';rw[hat]
 subst e1;subst e2
 obtain⟨f1,f2,f3,f4⟩:=zer (refs v) m.mem (hp:=λk=>bif l.any (λq=>Nat.beq q.1 k)then none else hp k) (λq c hq=>by
  cases hb:l.any (λp=>Nat.beq p.1 q)with
  |true=>simp only[hb,cond_true]at hq;cases hq
  |false=>simp only[hb,cond_false]at hq;exact .inr (hhp q c hq)) hfr
 have hne:∀q,(∃c,hp q=some c/\(∀t k f,c≠HE.own t k f))\/st.heap.getD q none=none->∀c,(q,c)∈l'->False:=λq hq c hc'=>by
  obtain⟨_,⟨t',k',f',h3⟩,_⟩:=f4 q c hc'
  rcases hq with⟨c',hq,hno⟩|hq
  ·have:=hhp q c' hq;rw[h3]at this;simp only[Option.some.injEq]at this;exact hno _ _ _ this.symm
  ·rw[h3]at hq;cases hq
 have hold:∃xs,w.ownsRow w0.w.heap.size e (size+1) (ren β u) n xs/\(∀i,i<n->(f i).length=size+1/\∀j,j<size+1->∃v,xs[i*(size+1)+j]? = some v/\DenC w (NF w0 β (zac st.heap l') w) ((f i).getD j default) v)/\
   ((l=[]/\(ren β u).ownBlock=none)\/∃N t k f,l=[(N,.gone)]/\(zac st.heap l').getD N none=some (.own t k f)/\(ren β u).ownBlock=((β N).2 0).ownBlock):=by
  unfold yo5 at hown
  split at hown
  ·simp only[Option.some.injEq,Prod.mk.injEq]at hown
   obtain⟨⟨rfl,rfl⟩,rfl⟩:=hown
   exact⟨[],World.ownsRow_nil w _ e _,λi hi=>by omega,.inl ⟨rfl,rfl⟩⟩
  ·rename_i ad nn cc
   obtain⟨N,q,sp⟩:=ad
   dsimp only at hown
   split at hown
   ·rename_i s0 t' n' f' hN
    split at hown
    ·rename_i ht
     subst ht
     simp only[Option.some.injEq,Prod.mk.injEq]at hown
     obtain⟨⟨rfl,rfl⟩,rfl⟩:=hown
     have hNN:=hhp N _ hN
     have hnot:∀c,(N,c)∉l':=λc hc'=>by
      have:=f4 N c hc'
      have hm:=this.1
      have key:∀(l:List Nat) (hp':Nat->Option HE) (u:List (Nat×HE)),hp' N=none->frz hp' l=some u->N∉l:=by
       intro l
       induction l with
       |nil=>intro _ _ _ _ h;cases h
       |cons q l ih=>
        intro hp' u h0 hu hmem
        simp only[frz]at hu
        split at hu
        ·rename_i t'' k'' f'' hq
         split at hu
         ·rename_i u' hu'
          rcases List.mem_cons.1 hmem with rfl|hmem
          ·rw[h0]at hq;cases hq
          ·refine ih _ _ ?_ hu' hmem
           unfold setF
           cases hb:Nat.beq N q with
           |true=>have:=Nat.eq_of_beq_eq_true hb;subst this;rw[h0]at hq;cases hq
           |false=>exact h0
         ·cases hu
        ·rename_i ds hq
         rcases List.mem_cons.1 hmem with rfl|hmem
         ·rw[h0]at hq;cases hq
         ·exact ih _ _ h0 hu hmem
        ·rename_i ds hq
         rcases List.mem_cons.1 hmem with rfl|hmem
         ·rw[h0]at hq;cases hq
         ·exact ih _ _ h0 hu hmem
        ·cases hu
      exact key _ _ _ (by simp[Nat.beq_refl]) hfr hm
     have hN1:(zac st.heap l').getD N none=some (.own t' n' f'):=by rw[zdr l' _ hnot];exact hNN
     obtain⟨size',xs,s1,s2,s3,s4⟩:=f1.ok N _ hN1
     have:size'=size+1:=by rw[s1]at hs;exact Option.some.inj hs
     subst this
     exact⟨xs,s3,s4,.inr ⟨N,t',n',f',rfl,hN1,rfl⟩⟩
    ·cases hown
   ·cases hown
  ·cases hown
 obtain⟨xs,ho1,ho2,ho3⟩:=hold
 have hsz:0<size+1:=by omega
 have hnew:∃news:List Value,(((∃oa cap,ren β v=.slice oa 0 cap)/\k=0)\/∃b o cap,ren β v=.slice (some ⟨b,o,none⟩) k cap/\∀(j:Nat) u,news[j]? = some u->w.cell? ⟨b,o+j,none⟩=some u)/\news.length=k*(size+1)/\(∀u∈news,zag u=true)/\
   ∀i,i<k->(g i).length=size+1/\∀j,j<size+1->∃v,news[i*(size+1)+j]? = some v/\DenC w (NF w0 β (zac st.heap l') w) ((g i).getD j default) v:=by
  rcases z6u (λ_ _=>zgy) (λn c h=>hhp n c (zk8 h)) m hrow with⟨q1,rfl⟩|⟨b,q,cap,size',q1,q2⟩
  ·exact⟨[],.inl ⟨q1,rfl⟩,by simp,λu hu=>(by cases hu),λi hi=>by omega⟩
  ·by_cases hk0:k=0
   ·subst hk0
    exact⟨[],.inr ⟨b,q,cap,q1,λj u hu=>by simp at hu⟩,by simp,λu hu=>(by cases hu),λi hi=>by omega⟩
   ·
    have hel:size'=size+1:=by
     rw[←(q2 0 (by omega)).1];exact hgl.resolve_right hk0
    subst hel
    have hcell:∀i,i<k->∀j,j<size+1->∃v,w.cell? ⟨b,q+(i*(size+1)+j),none⟩=some v/\DenC w (NF w0 β st.heap w) ((g i).getD j default) v:=λi hi j hj=>by
     obtain⟨hl,us,hd,hcl⟩:=q2 i hi
     obtain⟨d,hd'⟩:∃d,(g i)[j]? = some d:=⟨_,List.getElem?_eq_getElem (by omega)⟩
     obtain⟨v,v1,v2⟩:=hd.at_ j d hd'
     refine⟨v,?_,by rw[List.getD_eq_getElem?_getD,hd'];exact v2⟩
     have:=hcl j v v1
     rwa [show q+i*(size+1)+j=q+(i*(size+1)+j)by omega]at this
    have hget:∀j,j<k*(size+1)->((List.range (k*(size+1))).map λj=>(w.cell? ⟨b,q+j,none⟩).getD (.bool false))[j]? = some ((w.cell? ⟨b,q+j,none⟩).getD (.bool false)):=λj hj=>by
     rw[List.getElem?_map,List.getElem?_range hj];rfl
    have hdiv:∀j,j<k*(size+1)->j/(size+1)<k/\j%(size+1)<size+1/\j=j/(size+1)*(size+1)+j%(size+1):=λj hj=>
     ⟨Nat.div_lt_of_lt_mul (by rw[Nat.mul_comm];exact hj),Nat.mod_lt _ hsz,by rw[Nat.mul_comm];exact(Nat.div_add_mod j (size+1)).symm⟩
    refine⟨(List.range (k*(size+1))).map λj=>(w.cell? ⟨b,q+j,none⟩).getD (.bool false),.inr ⟨b,q,cap,q1,λj u hu=>?_⟩,by simp,λu hu=>?_,λi hi=>⟨(q2 i hi).1,λj hj=>?_⟩⟩
    ·have hj:j<k*(size+1):=by
      rcases Nat.lt_or_ge j (k*(size+1))with h|h
      ·exact h
      ·rw[List.getElem?_eq_none (by simpa using h)]at hu;cases hu
     rw[hget j hj]at hu
     simp only[Option.some.injEq]at hu
     obtain⟨d1,d2,d3⟩:=hdiv j hj
     obtain⟨v',c1,_⟩:=hcell _ d1 _ d2
     rw[←d3]at c1
     rw[c1]at hu ⊢
     simpa using hu
    ·obtain⟨j,hj,rfl⟩:=List.mem_map.1 hu
     have hj:=List.mem_range.1 hj
     obtain⟨d1,d2,d3⟩:=hdiv j hj
     obtain⟨v',c1,c2⟩:=hcell _ d1 _ d2
     rw[←d3]at c1
     rw[c1]
     exact c2.one
    ·obtain⟨v',c1,c2⟩:=hcell i hi j hj
     have hb':(i+1)*(size+1)<=k*(size+1):=Nat.mul_le_mul_right _ hi
     rw[Nat.add_mul,Nat.one_mul]at hb'
     refine⟨v',?_,c2.mono λb hb=>⟨f2 b hb,rfl⟩⟩
     rw[hget _ (by omega),c1];rfl
 obtain⟨news,n1,n2,n3,n4⟩:=hnew
 have hu:∃e',P.underlying t=some (.slice e')/\e'=e:=by
  unfold zaw at he
  split at he
  ·rename_i e' hu;exact⟨e',hu,by simpa using he⟩
  ·cases he
 obtain⟨e',hu1,rfl⟩:=hu
 have hmul:(n+k)*by_<=140737488355328:=by
  have:(((n+k)*by_:Nat):Int)<=140737488355328:=by rw[Int.natCast_mul];exact h1
  omega
 obtain⟨v',w',hrun,hown',hgrown,hblk⟩:=z6v (P:=P) m.mem.below.size t o.type e' hu1 hs hsz hby hz hzl ho1 n1 n2 n3 (by unfold maxLen;omega) hmul
 have hv1:zag v'=true:=by
  rcases hown'.2 with⟨rfl,_⟩|⟨_,_,_,rfl,_⟩<;>rfl
 have hfn:(zac st.heap l').getD fresh none=none:=by rw[zdr l' _ λc hc'=>hne fresh (.inr hn) c hc'];exact hn
 have hmem:=zui (w0:=w0) (β:=β) f1 (fresh:=fresh) (by rw[zba];exact hf) hfn (old:=l) (row:=(ren β u).ownBlock) ho3 (v':=v') hv1 hblk hgrown (e:=e') (n:=n+k) (f:=appF n f g) (λhNF=>by
  refine⟨size+1,xs++news,hs,hsz,hown',λi hi=>?_⟩
  by_cases hin:i<n
  ·have ea:appF n f g i=f i:=by unfold appF;rw[show Nat.blt i n=true from by rw[Nat.blt_eq];exact hin];rfl
   rw[ea]
   refine⟨(ho2 i hin).1,λj hj=>?_⟩
   obtain⟨v0,c1,c2⟩:=(ho2 i hin).2 j hj
   refine⟨v0,?_,c2.mono hNF⟩
   rw[List.getElem?_append_left]
   ·exact c1
   ·exact(List.getElem?_eq_some_iff.1 c1).1
  ·have ea:appF n f g i=g (i-n):=by unfold appF;rw[show Nat.blt i n=false from by rw[Bool.eq_false_iff];intro h;rw[Nat.blt_eq]at h;exact hin h];rfl
   rw[ea]
   refine⟨(n4 (i-n) (by omega)).1,λj hj=>?_⟩
   obtain⟨v0,c1,c2⟩:=(n4 (i-n) (by omega)).2 j hj
   refine⟨v0,?_,c2.mono hNF⟩
   have hmul:i*(size+1)=n*(size+1)+(i-n)*(size+1):=by rw[←Nat.add_mul];congr 1;omega
   rw[List.getElem?_append_right (by rw[ho1.1];omega),ho1.1,show i*(size+1)+j-n*(size+1)=(i-n)*(size+1)+j by omega]
   exact c1)
 refine zaf (u:=v') (w':=w') ?_ (hK (bump β fresh (0,λ_=>v')) v' w' [] ⟨λq c hq=>zcf λe=>(by rw[e,hn]at hq;cases hq),?_,λq hq=>?_,?_⟩)
 ·simp only[execOp,ho,Go.resolve,invoke,builtin,Sem.run_bind,Sem.run_pure,Result.andThen_ok,List.map_toArray,List.map_cons,List.map_nil,hx',hy',hrun]
 ·show v'=ren _ _
  simp only[ren,ren1,ren0,renP]
  rw[zcs]
 ·simp only[names,refs,zbk,zaz,zbc,List.mem_singleton]at hq;subst hq
  rw[za3]
  exact⟨_,by simp only[zac];rw[zah,if_pos ⟨rfl,by rw[zba];exact hf⟩]⟩
 ·dsimp only
  rw[List.append_assoc,za3]
  exact hmem
def zav(P:Program)(K:Nat)(args:List DV)(res:RV):Prop:=∀(w:World) (F:Nat->Prop) (us:List Value),(∀b,F b->b<w.heap.size/\zar w b)->zfn w F args us->
 match (callFunc K us.toArray).run P w with
 |.ok (.value u) w'=>DenR w' (λb=>F b\/(w.heap.size<=b/\b<w'.heap.size/\zar w' b)) res u/\Below w.heap.size w w'
 |.ok (.enter f az) w'=>w'=w/\Calls P f az w (λe w''=>∃u,e=.returned u/\DenR w'' (λb=>F b\/(w.heap.size<=b/\b<w''.heap.size/\zar w'' b)) res u/\Below w.heap.size w w'')
 |_=>False
def zey(P:Program)(K:Nat)(args:List DV)(res:RV):Prop:=∀(w:World) (F:Nat->Prop) (us:List Value),(∀b,F b->b<w.heap.size)->zfn w F args us->
 match (callFunc K us.toArray).run P w with
 |.ok (.value u) w'=>DenR w' (λb=>w.heap.size<=b/\b<w'.heap.size/\zar w' b) res u/\Below w.heap.size w w'
 |.ok (.enter f az) w'=>w'=w/\Calls P f az w (λe w''=>∃u,e=.returned u/\DenR w'' (λb=>w.heap.size<=b/\b<w''.heap.size/\zar w'' b) res u/\Below w.heap.size w w'')
 |_=>False
theorem zey.d{P:Program}{K:Nat}{args:List DV}{res:RV}(h:zey P K args res):zav P K args res:=λw F us hF hd=>by
 have k:=h w F us (λb hb=>(hF b hb).1) hd
 split at k
 ·rename_i u w' e
  exact⟨k.1.mono λb hb=>⟨.inr hb,rfl⟩,k.2⟩
 ·rename_i f az w' e
  obtain⟨rfl,k⟩:=k
  exact⟨rfl,k.mono λe w'' he=>by
   obtain⟨u,e1,e2,e3⟩:=he
   exact⟨u,e1,e2.mono λb hb=>⟨.inr hb,rfl⟩,e3⟩⟩
 ·exact k.elim
def zjz(w:World):List Nat->Lent->Prop
 |[],[]=>True
 |b::bs,(t,cs)::l=>w.heap[b]? = some (.cells cs.toArray t (0,0))/\zjz w bs l
 |_,_=>False
def zipL:Lent->List (List Value)->Lent
 |(t,_)::l,o::os=>(t,o)::zipL l os
 |_,_=>[]
def z38(bs:List Nat):List (Nat×Nat)->List Value->Prop
 |[],[]=>True
 |c::cs,v::vs=>(∃b,bs[c.1]? = some b/\v=.pointer (some ⟨b,c.2,none⟩))/\z38 bs cs vs
 |_,_=>False
def DenLA(w:World)(F:Nat->Prop)(bs:List Nat):LA->Value->Prop
 |.d v,u=>DenV w F v u
 |.lp i off,u=>∃b,bs[i]? = some b/\u=.pointer (some ⟨b,off,none⟩)
 |.fn K cs,u=>∃vs,u=.func (.func K) #[] vs.toArray/\z38 bs cs vs
def zj0(w:World)(F:Nat->Prop)(bs:List Nat):List LA->List Value->Prop
 |[],[]=>True
 |a::l,u::us=>DenLA w F bs a u/\zj0 w F bs l us
 |_,_=>False
structure zjn(w w':World)(bs:List Nat)(l:Lent):Prop where
 os:w'.os=w.os
 tape:w'.tape=w.tape
 output:w'.output=w.output
 size:w.heap.size<=w'.heap.size
 block:∀k,k<w.heap.size->k∉bs->w'.heap[k]? = w.heap[k]?
 lent:zjz w' bs l
def zlq(P:Program)(K:Nat)(az:List LA)(lent:Lent)(u:Value)(out:List (List Value)):Prop:=∀(w:World) (F:Nat->Prop) (bs:List Nat) (us:List Value),(∀b,F b->b<w.heap.size/\zar w b)->bs.Nodup->(∀b,b∈bs->¬F b)->zjz w bs lent->zj0 w F bs az us->
 match (callFunc K us.toArray).run P w with
 |.ok (.value u') w'=>u'=u/\zjn w w' bs (zipL lent out)
 |.ok (.enter f az) w'=>w'=w/\Calls P f az w (λe w''=>e=.returned u/\zjn w w'' bs (zipL lent out))
 |_=>False
def PlaceP(P:Program)(K:Nat):Prop:=∀(b off n cap:Nat),0<n->za2 P K [.slice (some ⟨b,off,none⟩) n cap] (.agg #[.pointer (some ⟨b,off,none⟩),.int .i64 (n:Int)])
def NewP(P:Program)(K:Nat)(f:Value->Option (TypeId×List Value)):Prop:=∀u t cs,f u=some (t,cs)->∀w:World,
 match (callFunc K #[u]).run P w with
 |.ok (.enter g az) w'=>w'=w/\Calls P g az w (λe w''=>∃b,e=.returned (.pointer (some ⟨b,0,none⟩))/\w''.heap[b]? = some (.cells cs.toArray t (0,0))/\w.heap.size<=b/\b<w''.heap.size/\Below w.heap.size w w'')
 |_=>False
def yk0(P:Program)(w w':World)(F:Nat->Prop)(t:TypeId)(n:Nat)(f:Nat->List DC)(v:Value):Prop:=
 ∃size xs,zbh P t=some size/\0<size/\w'.ownsRow w.heap.size t size v n xs/\∀i,i<n->(f i).length=size/\∀j,j<size->∃u,xs[i*size+j]? = some u/\DenC w' (λb=>(F b\/(w.heap.size<=b/\b<w'.heap.size/\zar w' b))/\v.ownBlock≠some b) ((f i).getD j default) u
def CallW(P:Program)(K:Nat)(args:List DV)(t:TypeId)(n:Nat)(f:Nat->List DC):Prop:=∀(w:World) (F:Nat->Prop) (us:List Value),(∀b,F b->b<w.heap.size/\zar w b)->zfn w F args us->
 match (callFunc K us.toArray).run P w with
 |.ok (.enter g az) w'=>w'=w/\Calls P g az w (λe w''=>∃u,e=.returned u/\yk0 P w w'' F t n f u/\Below w.heap.size w w'')
 |_=>False
structure ButB(b:Nat)(w w':World):Prop where
 os:w'.os=w.os
 tape:w'.tape=w.tape
 output:w'.output=w.output
 size:w.heap.size<=w'.heap.size
 block:∀k,k<w.heap.size->k≠b->w'.heap[k]? = w.heap[k]?
def zlp(P:Program)(K:Nat)(az:List LA)(t:TypeId)(cs:List Value)(r:RV):Prop:=∀(w:World) (F:Nat->Prop) (b:Nat) (us:List Value),(∀q,F q->q<w.heap.size/\zar w q)->¬F b->w.heap[b]? = some (.cells cs.toArray t (0,0))->zj0 w F [b] az us->
 match (callFunc K us.toArray).run P w with
 |.ok (.enter g az) w'=>w'=w/\Calls P g az w (λe w''=>∃u,e=.returned u/\DenR w'' (λq=>F q\/(w.heap.size<=q/\q<w''.heap.size/\zar w'' q)) r u/\ButB b w w'')
 |_=>False
structure zal(P:Program)(X:Tabs):Prop where
 nw:∀K f,X.nw K=some f->NewP P K f
 pl:∀K,X.pl K=true->PlaceP P K
 tb:TbOk P X.tb
 tx:∀K f az lent u out ps,X.tx K=some f->f az lent=some (u,out,ps)->allP ps->zlq P K az lent u out
 td:∀K args r ps,X.td K args=some (r,ps)->allP ps->zav P K args r
 tr:∀K args r ps,X.tr K args=some (r,ps)->allP ps->zey P K args r
 ow:∀K f args t n g ps,X.ow K=some f->f args=some ((t,n,g),ps)->allP ps->CallW P K args t n g
 rx:∀ops draw s o,X.rx ops draw s=some o->∀(w0:Base P) (id:Nat) (Q:Exit->Act->World->Prop) (a:Act) (w:World) (β:Env),M w0 β s a w->NoG s->o.sat (λe s=>∀β a w,M w0 β s a w->NoG s->Q e.real a w)->(Code.region id ops draw).wp P Q a w
 gv:∀K f az t cs r ps,X.gv K=some f->f az t cs=some (r,ps)->allP ps->zlp P K az t cs r
theorem zm7(m:Mem w0 β st.heap w){hp:Nat->Option HE}(hhp:∀n c,hp n=some c->c=.gone\/st.heap.getD n none=some c){F:Nat->Prop}(hR:(∀n ds,hp n≠some (.raw ds))\/∀b,w0.R b->F b)(hF:∀b,NF w0 β st.heap w b->F b){c:Value}{d:DV}(hc:toDV hp c=some d)
  (hO:∀n∈refs c,∀t k f,st.heap.getD n none=some (.own t k f)->∀b,((β n).2 0).ownBlock=some b->F b) (hC:(∀n∈refs c,∀t cs,st.heap.getD n none≠some (.cells t cs))\/(∀b,b<w.heap.size/\zar w b->F b)\/∀n t cs,hp n≠some (.cells t cs)):DenV w F d (ren β c):=by
 unfold toDV at hc
 split at hc
 ·rename_i vs
  split at hc
  ·rename_i ds hds
   simp only[Option.some.injEq]at hc;subst hc
   refine⟨_,rfl,?_⟩
   have:=zj7 m hhp hR hF hds (λc hcm n hn t k f hhe b hb=>hO n (zbb.2 ⟨c,hcm,hn⟩) t k f hhe b hb)
   simpa using this
  ·cases hc
 ·rename_i hnot
  split at hc
  ·rename_i d' hd
   simp only[Option.some.injEq]at hc;subst hc
   show DenC w F d' (ren β c)
   unfold toDC at hd
   split at hd
   ·rename_i ad
    obtain⟨b,q,sp⟩:=ad
    dsimp only at hd
    split at hd
    ·rename_i t' cs' hb
     split at hd
     ·rename_i ds hds
      simp only[Option.some.injEq]at hd;subst hd
      have hn:=(hhp b _ hb).resolve_left (by simp)
      have hok:=m.ok b _ hn
      have hall:∀b,b<w.heap.size/\zar w b->F b:=(hC.resolve_left λh=>h b (by simp[refs,zbk,zaz,zbc]) _ _ hn).resolve_right λh=>h b _ _ hb
      have hden:=zj7 m hhp hR hF hds (λc hcm n hn' t k f hhe b hb=>hall b ⟨(m.ownlt hhe hb).2,m.ownpl hhe hb⟩)
      show DenC w F (.ptr ds) (.pointer (some ⟨(β b).1,0,none⟩))
      have hl:=(zig hds).1
      refine .ptr ds (β b).1 0 (λj=>(cs'.map (ren0 β)).getD j undef) (hall _ ⟨(m.lt hn (b:=(β b).1) rfl).2,_,_,hok.1⟩) (λj hj=>?_) (λj hj=>?_)
      ·have hj':j<(cs'.map (ren0 β)).length:=by rw[List.length_map];omega
       simp only[World.cell?,hok.1,Option.isSome_none,Bool.false_eq_true,if_false]
       rw[Nat.zero_add,List.getElem?_toArray,List.getD_eq_getElem?_getD,List.getElem?_eq_getElem hj'];rfl
      ·obtain⟨d,hd'⟩:∃d,ds[j]? = some d:=⟨_,List.getElem?_eq_getElem hj⟩
       obtain⟨v,v1,v2⟩:=hden.at_ j d hd'
       rw[List.getD_eq_getElem?_getD,hd',List.getD_eq_getElem?_getD,v1]
       exact v2
     ·cases hd
    ·cases hd
    ·exact zqu m hhp hR hF hd hO
   ·have h1:zag c=true:=by
     unfold zpp at hd
     split at hd
     ·rfl
     ·rfl
     ·rfl
     ·split at hd
      ·rename_i hx;simp only[Bool.and_eq_true]at hx;exact hx.2
      ·cases hd
    rw[zq9 h1]
    rw[zng h1]at hO
    exact zqu m hhp hR hF hd hO
  ·cases hc
theorem zh5(m:Mem w0 β st.heap w){hp:Nat->Option HE}(hhp:∀n c,hp n=some c->c=.gone\/st.heap.getD n none=some c){F:Nat->Prop}(hR:(∀n ds,hp n≠some (.raw ds))\/∀b,w0.R b->F b)(hF:∀b,NF w0 β st.heap w b->F b):∀{vs:List Value} {ds:List DV},zzo hp vs=some ds->
  (∀n∈zdt refs vs,∀t k f,st.heap.getD n none=some (.own t k f)->∀b,((β n).2 0).ownBlock=some b->F b)->((∀n∈zdt refs vs,∀t cs,st.heap.getD n none≠some (.cells t cs))\/∀b,b<w.heap.size/\zar w b->F b)->zfn w F ds (vs.map (ren β))
 |[],ds,hc,_,_=>by simp only[zzo,Option.some.injEq]at hc;subst hc;trivial
 |v::vs,ds,hc,hO,hC=>by
  simp only[zzo]at hc
  split at hc
  ·rename_i d ds' hd hds
   simp only[Option.some.injEq]at hc;subst hc
   have mem:∀n,n∈refs v->n∈zdt refs (v::vs):=λn hn=>by simp only[zdt,List.mem_append];exact .inl hn
   have mem':∀n,n∈zdt refs vs->n∈zdt refs (v::vs):=λn hn=>by simp only[zdt,List.mem_append];exact .inr hn
   exact⟨zm7 m hhp hR hF hd (λn hn=>hO n (mem n hn)) (hC.imp (λh n hn=>h n (mem n hn)) .inl),zh5 m hhp hR hF hds (λn hn=>hO n (mem' n hn)) (hC.imp (λh n hn=>h n (mem' n hn)) id)⟩
  ·cases hc
theorem zhn(fresh:Nat):∀(a b:List DC) (j:Nat),zb1 fresh j (a++b)=zb1 fresh j a++zb1 fresh (j+a.length) b
 |[],b,j=>rfl
 |d::a,b,j=>by
  have e:j+1+a.length=j+(d::a).length:=by simp only[List.length_cons];omega
  cases d<;>simp only[List.cons_append,zb1]<;>rw[zhn fresh a b (j+1),e]
theorem zya{N:Nat->Prop}{fresh j:Nat}:∀{ds:List DC} {us:List Value},DenL w N ds us->∀y∈zb1 fresh j ds,zag y=true:=by
 intro ds
 induction ds generalizing j with
 |nil=>intro us _ y hy;cases hy
 |cons d ds ih=>
  intro us hd y hy
  cases us with
  |nil=>exact hd.elim
  |cons u us=>
   cases d with
   |p x=>
    simp only[zb1,List.mem_cons]at hy
    rcases hy with rfl|hy
    ·cases hd.1;assumption
    ·exact ih hd.2 y hy
   |row n f=>
    simp only[zb1,List.mem_cons]at hy
    rcases hy with rfl|hy
    ·rfl
    ·exact ih hd.2 y hy
   |ptr c=>
    simp only[zb1,List.mem_cons]at hy
    rcases hy with rfl|hy
    ·rfl
    ·exact ih hd.2 y hy
theorem zul{N:Nat->Prop}{v:DV}{u:Value}(h:DenV w N v u):∃us,DenL w N (zbq v) us/\∀(fresh j:Nat) (β:Env),(zb1 fresh j (zbq v)).map (ren0 β)=us->ren1 β (zc3 fresh j v)=u/\(∀n∈zbk (zc3 fresh j v),∃y∈zb1 fresh j (zbq v),n∈zaz y):=by
 cases v with
 |one d=>
  refine⟨[u],⟨h,trivial⟩,λfresh j β hi=>?_⟩
  have hlen:=zd6 fresh [d] j
  have h1:=zya (fresh:=fresh) (j:=j) (w:=w) (N:=N) (ds:=[d]) (us:=[u]) ⟨h,trivial⟩
  simp only[zbq,zc3]at *
  cases hc:zb1 fresh j [d]with
  |nil=>rw[hc]at hlen;cases hlen
  |cons y l=>
   rw[hc]at hi h1
   simp only[List.map_cons,List.cons.injEq]at hi
   have hy1:=h1 y (by simp)
   have e1:ren1 β y=ren0 β y:=by cases y<;>first|rfl|cases hy1
   have e2:zbk y=zaz y:=by cases y<;>first|rfl|cases hy1
   exact⟨by show ren1 β y=u;rw[e1,hi.1],λn hn=>⟨y,by simp,by rw[←e2];exact hn⟩⟩
 |agg ds=>
  obtain⟨us,rfl,hd⟩:=h
  refine⟨us.toList,hd,λfresh j β hi=>⟨?_,λn hn=>zbb.1 hn⟩⟩
  simp only[zbq,zc3,ren1]at *
  rw[hi]
theorem zsq{N:Nat->Prop}:∀{vs:List DV} {us:List Value},zfn w N vs us->∃ws,DenL w N (zha vs) ws/\∀(fresh j:Nat) (β:Env),(zb1 fresh j (zha vs)).map (ren0 β)=ws->(zr1 fresh j vs).map (ren1 β)=us/\(∀v∈zr1 fresh j vs,∀n∈zbk v,∃y∈zb1 fresh j (zha vs),n∈zaz y)
 |[],[],_=>⟨[],trivial,λ_ _ _ _=>⟨rfl,λv hv=>by cases hv⟩⟩
 |v::vs,u::us,h=>by
  obtain⟨ws1,d1,k1⟩:=zul h.1
  obtain⟨ws2,d2,k2⟩:=zsq h.2
  refine⟨ws1++ws2,?_,λfresh j β hi=>?_⟩
  ·refine DenL.of (by simp only[zha,List.length_append];rw[d1.length,d2.length]) λj d hj=>?_
   simp only[zha]at hj
   by_cases hlt:j<(zbq v).length
   ·rw[List.getElem?_append_left hlt]at hj
    obtain⟨x,x1,x2⟩:=d1.at_ j d hj
    exact⟨x,by rw[List.getElem?_append_left (by rw[d1.length];exact hlt)];exact x1,x2⟩
   ·rw[List.getElem?_append_right (by omega)]at hj
    obtain⟨x,x1,x2⟩:=d2.at_ _ d hj
    exact⟨x,by rw[List.getElem?_append_right (by rw[d1.length];omega),d1.length];exact x1,x2⟩
  ·simp only[zha]at hi ⊢
   rw[zhn,List.map_append]at hi
   obtain⟨i1,i2⟩:=List.append_inj hi (by rw[List.length_map,zd6,d1.length])
   obtain⟨a1,a2⟩:=k1 fresh j β i1
   obtain⟨b1,b2⟩:=k2 fresh _ β i2
   simp only[zr1,List.map_cons]
   rw[a1,b1]
   refine⟨rfl,λx hx n hn=>?_⟩
   rcases List.mem_cons.1 hx with rfl|hx
   ·obtain⟨y,y1,y2⟩:=a2 n hn
    exact⟨y,by rw[zhn];exact List.mem_append.2 (.inl y1),y2⟩
   ·obtain⟨y,y1,y2⟩:=b2 x hx n hn
    exact⟨y,by rw[zhn];exact List.mem_append.2 (.inr y1),y2⟩
 |[],_::_,h=>h.elim
 |_::_,[],h=>h.elim
theorem ybc(fresh j:Nat)(v:DV){N:Nat->Prop}{us:List Value}(hd:DenL w N (zbq v) us):(∀q,zc3 fresh j v≠.tuple q)\/∃d,v=.one d/\us=[]:=by
 cases v with
 |agg ds=>exact .inl λq h=>by cases h
 |one d=>
  refine .inl λq h=>?_
  have h1:=zya (fresh:=fresh) (j:=j) hd
  have hlen:=zd6 fresh [d] j
  simp only[zbq,zc3]at *
  cases hc:zb1 fresh j [d]with
  |nil=>rw[hc]at hlen;cases hlen
  |cons y l=>
   rw[hc]at h h1
   have hy:=h1 y (by simp)
   have h:y=.tuple q:=h
   rw[h]at hy;cases hy
theorem zds{N:Nat->Prop}{r:RV}{u:Value}(h:DenR w N r u):∃us,DenL w N (zdh r) us/\∀(fresh:Nat) (β:Env),(zb1 fresh 0 (zdh r)).map (ren0 β)=us->ren β (zpt fresh r)=u/\(∀n∈refs (zpt fresh r),∃y∈zb1 fresh 0 (zdh r),n∈zaz y):=by
 cases r with
 |val v=>
  obtain⟨us,hd,k⟩:=zul h
  refine⟨us,hd,λfresh β hi=>?_⟩
  obtain⟨k1,k2⟩:=k fresh 0 β hi
  have hnt:∀q,zc3 fresh 0 v≠.tuple q:=by
   rcases ybc fresh 0 v hd with h|⟨d,rfl,rfl⟩
   ·exact h
   ·exact hd.elim
  have e1:ren β (zc3 fresh 0 v)=ren1 β (zc3 fresh 0 v):=by
   cases hv:zc3 fresh 0 v<;>first|rfl|exact absurd hv (hnt _)
  have e2:refs (zc3 fresh 0 v)=zbk (zc3 fresh 0 v):=by
   cases hv:zc3 fresh 0 v<;>first|rfl|exact absurd hv (hnt _)
  exact⟨by show ren β (zc3 fresh 0 v)=u;rw[e1,k1],λn hn=>k2 n (by rw[←e2];exact hn)⟩
 |tup vs=>
  obtain⟨us,rfl,h⟩:=h
  obtain⟨ws,hd,k⟩:=zsq h
  refine⟨ws,hd,λfresh β hi=>?_⟩
  obtain⟨k1,k2⟩:=k fresh 0 β hi
  refine⟨?_,λn hn=>?_⟩
  ·show ren β (.tuple (zr1 fresh 0 vs).toArray)=_
   simp only[ren]
   rw[k1]
  ·have hn':n∈zdt zbk (zr1 fresh 0 vs):=hn
   obtain⟨v,v1,v2⟩:=zbb.1 hn'
   exact k2 v v1 n v2
theorem znz{X:Tabs}(ht:zal P X){hp:Nat->Option HE}(hhp:∀n c,hp n=some c->st.heap.getD n none=some c){fresh F:Nat}{vs:List Value}(m:M w0 β st a w)(hfr:X.dres F=true->fresh<st.heap.length/\st.heap.getD fresh none=none)
  (hrun:(execOp a.eval o).run P w=(callFunc F (vs.map (ren β)).toArray).run P w) (h:zv6 X hp fresh F vs=some r) (hs:allP r.sides) (hK:∀β' u w',Post w0 β st.slots st.heap r u β' w'->K (a.put o.dst u) w'):o.wp P a w K Q:=by
 have hhp':∀n c,hp n=some c->c=.gone\/st.heap.getD n none=some c:=λn c h=>.inr (hhp n c h)
 have hhq:∀n c,zi6 hp n=some c->c=.gone\/st.heap.getD n none=some c:=λn c h=>.inr (hhp n c (zk8 h))
 unfold zv6 at h
 split at h
 ·rename_i ds hds
  split at h
  ·rename_i rv ps htd
   unfold zv5 at h
   split at h
   ·rename_i hp1
    split at h
    ·rename_i hfl
     simp only[Option.some.injEq]at h;subst h
     have hden:=zh5 m.mem hhq (F:=λb=>b<w.heap.size/\zar w b) (.inl λ_ _=>zgy) (λb hb=>⟨zn5 m.mem.below hb,ydk m.mem.below hb⟩) hds (λn _ t k f hhe b hb=>⟨(m.mem.ownlt hhe hb).2,m.mem.ownpl hhe hb⟩) (.inr λb hb=>hb)
     have hcall:=ht.td F ds rv ps htd hs w (λb=>b<w.heap.size/\zar w b) _ (λb hb=>hb) hden
     have hpost:∀u w' N,Below w.heap.size w w'->DenR w' N rv u->Post w0 β st.slots st.heap {val:=.v (zpt fresh rv),upd:=[],sides:=ps} u β w':=λu w' N hb hd=>by
      obtain⟨us,d1,k⟩:=zds hd
      obtain⟨k1,k2⟩:=k fresh β (zd5 _ _ 0 d1 hp1 hfl)
      refine⟨λ_ _ _=>rfl,k1.symm,λn hn=>?_,m.mem.call hb⟩
      obtain⟨y,y1,y2⟩:=k2 n hn
      have:=(zd4 _ 0 hp1 y y1 n y2).2
      rw[hfl]at this;cases this
     unfold Oper.wp
     rw[hrun]
     split at hcall
     ·rename_i u' w' hr
      rw[hr]
      obtain⟨hd,hb⟩:=hcall
      exact hK β u' w' (hpost _ _ _ hb hd)
     ·rename_i f' az w' hr
      rw[hr]
      obtain⟨rfl,hcs⟩:=hcall
      refine hcs.mono λe w'' he=>?_
      obtain⟨u,rfl,hd,hb⟩:=he
      exact hK β u w'' (hpost _ _ _ hb hd)
     ·exact hcall.elim
    ·rename_i hfl
     have hfl:zee (zdh rv)=false:=by simpa using hfl
     split at h
     ·rename_i l hdeep hfrz
      simp only[Option.some.injEq]at h;subst h
      obtain⟨hf,hn⟩:=hfr hdeep
      obtain⟨f1,f2,f3,f4⟩:=zer (zdt refs vs) m.mem hhp' hfrz
      have hfn:(zac st.heap l).getD fresh none=none:=by
       rw[zdr l _ λc hc=>by
        obtain⟨_,⟨t',k',f',h3⟩,_⟩:=f4 fresh c hc
        rw[hn]at h3;cases h3]
       exact hn
      have hden:=zh5 m.mem hhq (F:=NF w0 β (zac st.heap l) w) (.inl λ_ _=>zgy) f2 hds (λn hn t k f hhe b hb=>(f3 n hn _ hhe).2 b hb) (.inl λn hn t cs hx=>(f3 n hn _ hx).1 t cs rfl)
      have hcall:=ht.td F ds rv ps htd hs w (NF w0 β (zac st.heap l) w) _ (λb hb=>⟨zn5 f1.below hb,ydk f1.below hb⟩) hden
      have hpost:∀u w',Below w.heap.size w w'->DenR w' (λb=>NF w0 β (zac st.heap l) w b\/(w.heap.size<=b/\b<w'.heap.size/\zar w' b)) rv u->∃β',Post w0 β st.slots st.heap {val:=.v (zpt fresh rv),upd:=l++[(fresh,.deep (zdh rv))],sides:=ps} u β' w':=λu w' hb hd=>by
       have f1':=f1.call hb
       have hd':DenR w' (NF w0 β (zac st.heap l) w') rv u:=hd.mono λb hx=>⟨by
        rcases hx with(z|z)|z
        ·exact .inl z
        ·exact .inr ⟨z.1,⟨Nat.lt_of_lt_of_le z.2.1.1 hb.size,z.2.1.2.of (hb.block b z.2.1.1)⟩,z.2.2⟩
        ·exact .inr ⟨Nat.le_trans f1.below.size z.1,z.2,λq c hq hx=>by have:=(f1.lt hq hx).2;have:=z.1;omega⟩,rfl⟩
       obtain⟨us,d1,k⟩:=zds hd'
       obtain⟨β',b1,b2,b3,b4,_⟩:=zlf f1' (fresh:=fresh) (λ_=>⟨by rw[zba];exact hf,hfn⟩) d1 hp1
       obtain⟨k1,k2⟩:=k fresh β' (b3 0 rfl)
       have hu:updD fresh (zdh rv)=[(fresh,.deep (zdh rv))]:=by unfold updD;rw[hfl]
       rw[hu]at b2 b4
       refine⟨β',λn c hc=>?_,k1.symm,λn hn'=>?_,?_⟩
       ·obtain⟨d,hd⟩:=ze4 l _ hc
        exact b1 n d hd
       ·obtain⟨y,y1,y2⟩:=k2 n hn'
        rw[za3]
        exact b4 y y1 n y2
       ·dsimp only
        rw[za3];exact b2
      unfold Oper.wp
      rw[hrun]
      split at hcall
      ·rename_i u' w' hr
       rw[hr]
       obtain⟨hd,hb⟩:=hcall
       obtain⟨β',hp'⟩:=hpost u' w' hb hd
       exact hK β' u' w' hp'
      ·rename_i f' az w' hr
       rw[hr]
       obtain⟨rfl,hcs⟩:=hcall
       refine hcs.mono λe w'' he=>?_
       obtain⟨u,rfl,hd,hb⟩:=he
       obtain⟨β',hp'⟩:=hpost u w'' hb hd
       exact hK β' u w'' hp'
      ·exact hcall.elim
     ·cases h
   ·cases h
  ·cases h
 ·split at h
  ·rename_i ds hds
   split at h
   ·rename_i rv ps htr
    unfold zv5 at h
    split at h
    ·rename_i hp1
     split at h
     ·rename_i hfl
      simp only[Option.some.injEq]at h;subst h
      have hden:=zh5 m.mem hhp' (F:=λb=>b<w.heap.size) (.inr λb hb=>Nat.lt_of_lt_of_le (w0.rlt b hb).1 m.mem.below.size) (λb hb=>zn5 m.mem.below hb) hds (λn _ t k f hhe b hb=>(m.mem.ownlt hhe hb).2) (.inr λb hb=>hb.1)
      have hcall:=ht.tr F ds rv ps htr hs w (λb=>b<w.heap.size) _ (λb hb=>hb) hden
      have hpost:∀u w' N,Below w.heap.size w w'->DenR w' N rv u->Post w0 β st.slots st.heap {val:=.v (zpt fresh rv),upd:=[],sides:=ps} u β w':=λu w' N hb hd=>by
       obtain⟨us,d1,k⟩:=zds hd
       obtain⟨k1,k2⟩:=k fresh β (zd5 _ _ 0 d1 hp1 hfl)
       refine⟨λ_ _ _=>rfl,k1.symm,λn hn=>?_,m.mem.call hb⟩
       obtain⟨y,y1,y2⟩:=k2 n hn
       have:=(zd4 _ 0 hp1 y y1 n y2).2
       rw[hfl]at this;cases this
      unfold Oper.wp
      rw[hrun]
      split at hcall
      ·rename_i u' w' hr
       rw[hr]
       obtain⟨hd,hb⟩:=hcall
       exact hK β u' w' (hpost _ _ _ hb hd)
      ·rename_i f' az w' hr
       rw[hr]
       obtain⟨rfl,hcs⟩:=hcall
       refine hcs.mono λe w'' he=>?_
       obtain⟨u,rfl,hd,hb⟩:=he
       exact hK β u w'' (hpost _ _ _ hb hd)
      ·exact hcall.elim
     ·rename_i hfl
      have hfl:zee (zdh rv)=false:=by simpa using hfl
      split at h
      ·rename_i l hdeep hfrz
       simp only[Option.some.injEq]at h;subst h
       obtain⟨hf,hn⟩:=hfr hdeep
       obtain⟨f1,f2,f3,f4⟩:=zer (zdt refs vs) m.mem hhp' hfrz
       have hfn:(zac st.heap l).getD fresh none=none:=by
        rw[zdr l _ λc hc=>by
         obtain⟨_,⟨t',k',f',h3⟩,_⟩:=f4 fresh c hc
         rw[hn]at h3;cases h3]
        exact hn
       have hden:=zh5 m.mem hhp' (F:=λb=>b<w.heap.size) (.inr λb hb=>Nat.lt_of_lt_of_le (w0.rlt b hb).1 m.mem.below.size) (λb hb=>zn5 m.mem.below hb) hds (λn _ t k f hhe b hb=>(m.mem.ownlt hhe hb).2) (.inr λb hb=>hb.1)
       have hcall:=ht.tr F ds rv ps htr hs w (λb=>b<w.heap.size) _ (λb hb=>hb) hden
       have hpost:∀u w',Below w.heap.size w w'->DenR w' (λb=>w.heap.size<=b/\b<w'.heap.size/\zar w' b) rv u->∃β',Post w0 β st.slots st.heap {val:=.v (zpt fresh rv),upd:=l++[(fresh,.deep (zdh rv))],sides:=ps} u β' w':=λu w' hb hd=>by
        have f1':=f1.call hb
        have hd':DenR w' (NF w0 β (zac st.heap l) w') rv u:=hd.mono λb hx=>⟨by
         exact .inr ⟨Nat.le_trans f1.below.size hx.1,hx.2,λq c hq hx'=>by have:=(f1.lt hq hx').2;have:=hx.1;omega⟩,rfl⟩
        obtain⟨us,d1,k⟩:=zds hd'
        obtain⟨β',b1,b2,b3,b4,_⟩:=zlf f1' (fresh:=fresh) (λ_=>⟨by rw[zba];exact hf,hfn⟩) d1 hp1
        obtain⟨k1,k2⟩:=k fresh β' (b3 0 rfl)
        have hu:updD fresh (zdh rv)=[(fresh,.deep (zdh rv))]:=by unfold updD;rw[hfl]
        rw[hu]at b2 b4
        refine⟨β',λn c hc=>?_,k1.symm,λn hn'=>?_,?_⟩
        ·obtain⟨d,hd⟩:=ze4 l _ hc
         exact b1 n d hd
        ·obtain⟨y,y1,y2⟩:=k2 n hn'
         rw[za3]
         exact b4 y y1 n y2
        ·dsimp only
         rw[za3];exact b2
       unfold Oper.wp
       rw[hrun]
       split at hcall
       ·rename_i u' w' hr
        rw[hr]
        obtain⟨hd,hb⟩:=hcall
        obtain⟨β',hp'⟩:=hpost u' w' hb hd
        exact hK β' u' w' hp'
       ·rename_i f' az w' hr
        rw[hr]
        obtain⟨rfl,hcs⟩:=hcall
        refine hcs.mono λe w'' he=>?_
        obtain⟨u,rfl,hd,hb⟩:=he
        obtain⟨β',hp'⟩:=hpost u w'' hb hd
        exact hK β' u w'' hp'
       ·exact hcall.elim
      ·cases h
    ·cases h
   ·cases h
  ·cases h
theorem zx6{n:Nat}:∀{l:List Nat} {k i:Nat},ixAt n k l=some i->k<=i/\l[i-k]? = some n
 |[],k,i,h=>by cases h
 |m::l,k,i,h=>by
  simp only[ixAt]at h
  cases hb:Nat.beq m n with
  |true=>
   rw[hb]at h
   simp only[cond_true,Option.some.injEq]at h;subst h
   rw[Nat.sub_self,Nat.eq_of_beq_eq_true hb];exact⟨Nat.le_refl _,rfl⟩
  |false=>
   rw[hb]at h
   obtain⟨h1,h2⟩:=zx6 (l:=l) h
   refine⟨by omega,?_⟩
   rw[show i-k=(i-(k+1))+1 by omega];exact h2
theorem zx7{n:Nat}:∀{l:List Nat} {k:Nat},ixAt n k l=none->n∉l
 |[],_,_=>by simp
 |m::l,k,h=>by
  simp only[ixAt]at h
  cases hb:Nat.beq m n with
  |true=>rw[hb]at h;cases h
  |false=>
   rw[hb]at h
   have:=zx7 (l:=l) h
   simp only[List.mem_cons,not_or]
   exact⟨λe=>(by rw[e,Nat.beq_refl]at hb;cases hb),this⟩
theorem zn4(l:List Nat)(n:Nat):(addN l n).1[(addN l n).2]? = some n/\(∀(i m:Nat),l[i]? = some m->(addN l n).1[i]? = some m)/\(l.Nodup->(addN l n).1.Nodup):=by
 unfold addN
 split
 ·rename_i k hk
  exact⟨(by have:=(zx6 hk).2;simpa using this),λi m h=>h,id⟩
 ·rename_i hk
  refine⟨by simp,λi m h=>?_,λh=>?_⟩
  ·rw[List.getElem?_append_left (List.getElem?_eq_some_iff.1 h).1];exact h
  ·rw[List.nodup_append]
   exact⟨h,by simp,λa ha b hb=>by simp only[List.mem_singleton]at hb;subst hb;exact λe=>zx7 hk (e▸ha)⟩
def Ext(l l':List Nat):Prop:=(∀(i m:Nat),l[i]? = some m->l'[i]? = some m)/\(l.Nodup->l'.Nodup)
theorem Ext.refl(l:List Nat):Ext l l:=⟨λ_ _ h=>h,id⟩
theorem Ext.trans{a b c:List Nat}(h:Ext a b)(k:Ext b c):Ext a c:=⟨λi m x=>k.1 i m (h.1 i m x),λx=>k.2 (h.2 x)⟩
theorem Ext.add(l:List Nat)(n:Nat):Ext l (addN l n).1:=⟨(zn4 l n).2.1,(zn4 l n).2.2⟩
theorem znn:∀{vs:List Value} {l l':List Nat} {cs:List (Nat×Nat)},zhm l vs=some (l',cs)->Ext l l'/\∀(σ:List Nat) (β:Env),(∀(i m:Nat),l'[i]? = some m->σ[i]? = some m)->z38 (σ.map λn=>(β n).1) cs (vs.map (renP β))
 |[],l,l',cs,h=>by
  simp only[zhm,Option.some.injEq,Prod.mk.injEq]at h
  obtain⟨rfl,rfl⟩:=h
  exact⟨Ext.refl _,λ_ _ _=>trivial⟩
 |v::vs,l,l',cs,h=>by
  cases v with
  |pointer ad=>
   cases ad with
   |none=>simp[zhm]at h
   |some ad=>
    obtain⟨b,off,sp⟩:=ad
    cases sp with
    |some q=>simp[zhm]at h
    |none=>
     simp only[zhm]at h
     split at h
     ·rename_i l2 cs2 h2
      simp only[Option.some.injEq,Prod.mk.injEq]at h
      obtain⟨rfl,rfl⟩:=h
      obtain⟨i1,i2⟩:=znn h2
      refine⟨(Ext.add l b).trans i1,λσ β hσ=>⟨⟨(β b).1,?_,rfl⟩,i2 σ β hσ⟩⟩
      rw[List.getElem?_map,hσ _ b (i1.1 _ b (zn4 l b).1)];rfl
     ·cases h
  |_=>simp[zhm]at h
theorem zx2{hp:Nat->Option HE}{l l':List Nat}{v:Value}{x:LA}(h:z0p hp l v=some (l',x)):Ext l l'/\∀(σ:List Nat) (β:Env) (F:Nat->Prop),(∀(i m:Nat),l'[i]? = some m->σ[i]? = some m)->(∀d,toDV (zsy hp) v=some d->DenV w F d (ren β v))->DenLA w F (σ.map λn=>(β n).1) x (ren β v):=by
 unfold z0p at h
 split at h
 ·rename_i ad
  obtain⟨b,off,sp⟩:=ad
  cases sp with
  |none=>
   simp only[Option.some.injEq,Prod.mk.injEq]at h
   obtain⟨rfl,rfl⟩:=h
   refine⟨Ext.add l b,λσ β F hσ hd=>⟨(β b).1,?_,rfl⟩⟩
   rw[List.getElem?_map,hσ _ b (zn4 l b).1];rfl
  |some q=>
   dsimp only at h
   split at h
   ·rename_i d hd
    simp only[Option.some.injEq,Prod.mk.injEq]at h
    obtain⟨rfl,rfl⟩:=h
    exact⟨Ext.refl _,λσ β F hσ hden=>hden _ hd⟩
   ·cases h
 ·rename_i K fst caps
  split at h
  ·rename_i l2 cs hf hcs
   simp only[Option.some.injEq,Prod.mk.injEq]at h
   obtain⟨rfl,rfl⟩:=h
   have hfst:fst = #[]:=by apply Array.ext';rw[hf]
   subst hfst
   obtain⟨i1,i2⟩:=znn hcs
   exact⟨i1,λσ β F hσ _=>⟨_,rfl,i2 σ β hσ⟩⟩
  ·cases h
 ·split at h
  ·rename_i d hd
   simp only[Option.some.injEq,Prod.mk.injEq]at h
   obtain⟨rfl,rfl⟩:=h
   exact⟨Ext.refl _,λσ β F hσ hden=>hden _ hd⟩
  ·cases h
theorem zkn{hp:Nat->Option HE}:∀{vs:List Value} {l l':List Nat} {az:List LA},zoq hp l vs=some (l',az)->Ext l l'/\∀(σ:List Nat) (β:Env) (F:Nat->Prop),(∀(i m:Nat),l'[i]? = some m->σ[i]? = some m)->(∀v∈vs,∀d,toDV (zsy hp) v=some d->DenV w F d (ren β v))->zj0 w F (σ.map λn=>(β n).1) az (vs.map (ren β))
 |[],l,l',az,h=>by
  simp only[zoq,Option.some.injEq,Prod.mk.injEq]at h
  obtain⟨rfl,rfl⟩:=h
  exact⟨Ext.refl _,λ_ _ _ _ _=>trivial⟩
 |v::vs,l,l',az,h=>by
  simp only[zoq]at h
  split at h
  ·rename_i l1 x h1
   split at h
   ·rename_i l2 xs h2
    simp only[Option.some.injEq,Prod.mk.injEq]at h
    obtain⟨rfl,rfl⟩:=h
    obtain⟨i1,i2⟩:=zx2 (w:=w) h1
    obtain⟨j1,j2⟩:=zkn h2
    exact⟨i1.trans j1,λσ β F hσ hd=>⟨i2 σ β F (λi m hm=>hσ i m (j1.1 i m hm)) (hd v (by simp)),j2 σ β F hσ λx hx=>hd x (by simp[hx])⟩⟩
   ·cases h
  ·cases h
theorem zmj{hp:Nat->Option HE}:∀{σ:List Nat} {l:Lent},zlw hp σ=some l->∀n∈σ,∃t cs,hp n=some (.cells t cs)
 |[],_,_=>λn hn=>by cases hn
 |n::σ,l,h=>by
  simp only[zlw]at h
  split at h
  ·rename_i t cs m hn hm
   split at h
   ·intro q hq
    rcases List.mem_cons.1 hq with rfl|hq
    ·exact⟨t,cs,hn⟩
    ·exact zmj hm q hq
   ·cases h
  ·cases h
theorem zx1{hp:Nat->Option HE}{h:List (Option HE)}(m:Mem w0 β h w)(hhp:∀n c,hp n=some c->h.getD n none=some c):∀{σ:List Nat} {l:Lent},zlw hp σ=some l->zjz w (σ.map λn=>(β n).1) l
 |[],l,h=>by simp only[zlw,Option.some.injEq]at h;subst h;trivial
 |n::σ,l,h=>by
  simp only[zlw]at h
  split at h
  ·rename_i t cs ll hn hm
   split at h
   ·rename_i hf
    simp only[Option.some.injEq]at h;subst h
    refine⟨?_,zx1 m hhp hm⟩
    have:=(m.ok n _ (hhp n _ hn)).1
    rw[zbi λy hy=>zbn (za4.1 hf y hy)]at this
    exact this
   ·cases h
  ·cases h
def z2f(w:World)(b:Nat)(o:Obj):World:={w with heap:=w.heap.setIfInBounds b o}
theorem zw2{b:Nat}(o:Obj)(h:b<w.heap.size):(z2f w b o).heap[b]? = some o:=by
 show(w.heap.setIfInBounds b o)[b]? = _
 rw[Array.getElem?_setIfInBounds,if_pos rfl,if_pos h]
theorem zw1{b k:Nat}(o:Obj)(h:k≠b):(z2f w b o).heap[k]? = w.heap[k]?:=by
 show(w.heap.setIfInBounds b o)[k]? = _
 rw[Array.getElem?_setIfInBounds,if_neg (Ne.symm h)]
theorem zq2(b:Nat)(o:Obj):(z2f w b o).heap.size=w.heap.size:=by
 show(w.heap.setIfInBounds b o).size=_
 rw[Array.size_setIfInBounds]
theorem Mem.puts{hp:Nat->Option HE}:∀{σ:List Nat} {l:Lent} {os:List (List Value)} {up:List (Nat×HE)} {h:List (Option HE)} {w:World},Mem w0 β h w->σ.Nodup->zlw hp σ=some l->(∀n∈σ,∀c,hp n=some c->h.getD n none=some c)->zmi σ l os=some up->
  ∃w1,Mem w0 β (zac h up) w1/\w1.heap.size=w.heap.size/\w1.os=w.os/\w1.tape=w.tape/\w1.output=w.output/\zjz w1 (σ.map λn=>(β n).1) (zipL l os)/\∀k,k∉(σ.map λn=>(β n).1)->w1.heap[k]? = w.heap[k]?
 |[],l,os,up,h,w,m,_,hl,_,hu=>by
  simp only[zlw,Option.some.injEq]at hl;subst hl
  cases os with
  |nil=>
   simp only[zmi,Option.some.injEq]at hu;subst hu
   exact⟨w,m,rfl,rfl,rfl,rfl,trivial,λ_ _=>rfl⟩
  |cons _ _=>simp[zmi]at hu
 |n::σ,l,os,up,h,w,m,hnd,hl,hhp,hu=>by
  simp only[zlw]at hl
  split at hl
  ·rename_i t cs ll hn hm
   split at hl
   ·simp only[Option.some.injEq]at hl;subst hl
    cases os with
    |nil=>simp[zmi]at hu
    |cons o os=>
     simp only[zmi]at hu
     split at hu
     ·rename_i u hf hlen hu'
      simp only[Option.some.injEq]at hu;subst hu
      obtain⟨hnn,hnd'⟩:=List.nodup_cons.1 hnd
      have hh:=hhp n (by simp) _ hn
      have hlt:=m.lt hh (b:=(β n).1) rfl
      have he:o.map (ren0 β)=o:=zbi λy hy=>zbn (za4.1 hf y hy)
      have m1:Mem w0 β (h.set n (some (.cells t o))) (z2f w (β n).1 (.cells o.toArray t (0,0))):=m.put hh (λv hv k hk=>by rw[zb8 (za4.1 hf v hv)]at hk;cases hk) (by rw[he];exact zw2 _ hlt.2) (λk hk=>zw1 _ hk) (zq2 _ _) rfl rfl rfl
      have hne:∀q∈σ,q≠n:=λq hq e=>hnn (e▸hq)
      obtain⟨w1,a1,a2,a3,a4,a5,a6,a7⟩:=Mem.puts (h:=h.set n (some (.cells t o))) m1 hnd' hm (λq hq c hc=>by rw[zah,if_neg (λz=>hne q hq z.1.symm)];exact hhp q (by simp[hq]) c hc) hu'
      have hb:(β n).1∉(σ.map λn=>(β n).1):=λhx=>by
       obtain⟨q,hq,e⟩:=List.mem_map.1 hx
       obtain⟨tq,cq,hq2⟩:=zmj hm q hq
       exact hne q hq (m.inj q n _ _ (β n).1 (hhp q (by simp[hq]) _ hq2) hh (by simp only[zc8];rw[e]) rfl)
      refine⟨w1,a1,a2.trans (zq2 _ _),a3,a4,a5,⟨?_,a6⟩,λk hk=>?_⟩
      ·rw[a7 _ hb];exact zw2 _ hlt.2
      ·simp only[List.map_cons,List.mem_cons,not_or]at hk
       rw[a7 k hk.2];exact zw1 _ hk.1
     ·cases hu
   ·cases hl
  ·cases hl
theorem zzd{w w':World}:∀{bs:List Nat} {l:Lent},zjz w bs l->zjz w' bs l->∀b∈bs,w'.heap[b]? = w.heap[b]?
 |[],_,_,_=>λb hb=>by cases hb
 |b::bs,[],h,_=>h.elim
 |b::bs,(t,cs)::l,h,k=>λq hq=>by
  rcases List.mem_cons.1 hq with rfl|hq
  ·rw[h.1,k.1]
  ·exact zzd h.2 k.2 q hq
theorem zyu{X:Tabs}(ht:zal P X){hp:Nat->Option HE}(hhp:∀n c,hp n=some c->st.heap.getD n none=some c){F:Nat}{vs:List Value}(m:M w0 β st a w)
  (hrun:(execOp a.eval o).run P w=(callFunc F (vs.map (ren β)).toArray).run P w) (h:ycx X hp F vs=some r) (hs:allP r.sides) (hK:∀β' u w',Post w0 β st.slots st.heap r u β' w'->K (a.put o.dst u) w'):o.wp P a w K Q:=by
 unfold ycx at h
 split at h
 ·rename_i f σ az htx hla
  split at h
  ·rename_i lent hlo
   split at h
   ·rename_i u os ps hf
    split at h
    ·rename_i up hup hfl
     simp only[Option.some.injEq]at h;subst h
     obtain⟨hext,hden⟩:=zkn (w:=w) hla
     have hnd:σ.Nodup:=hext.2 List.nodup_nil
     have hcell:∀n∈σ,∃t cs,st.heap.getD n none=some (.cells t cs):=λn hn=>by
      obtain⟨t,cs,e⟩:=zmj hlo n hn
      exact⟨t,cs,hhp n _ e⟩
     have hbs:∀b,b∈(σ.map λn=>(β n).1)->∃n∈σ,(β n).1=b:=λb hb=>List.mem_map.1 hb
     have hnb:(σ.map λn=>(β n).1).Nodup:=by
      rw[List.nodup_iff_pairwise_ne,List.pairwise_map]
      refine List.Pairwise.imp_of_mem ?_ (List.nodup_iff_pairwise_ne.1 hnd)
      intro p q hp1 hq hpq e
      obtain⟨t,cs,e1⟩:=hcell p hp1
      obtain⟨t',cs',e2⟩:=hcell q hq
      exact hpq (m.mem.inj p q _ _ (β q).1 e1 e2 (by simp only[zc8];rw[e]) rfl)
     have hhid:∀n c,zsy hp n=some c->hp n=some c/\(∀t cs,c≠.cells t cs)/\∀ds,c≠.raw ds:=λn c hc=>by
      unfold zsy at hc
      split at hc
      ·cases hc
      ·cases hc
      ·rename_i hno hnr
       exact⟨hc,λt cs e=>hno t cs (by rw[hc,e]),λds e=>hnr ds (by rw[hc,e])⟩
     let Fr:Nat->Prop:=λb=>(b<w.heap.size/\zar w b)/\b∉(σ.map λn=>(β n).1)
     have hF:∀b,NF w0 β st.heap w b->Fr b:=λb hb=>⟨⟨zn5 m.mem.below hb,ydk m.mem.below hb⟩,λhx=>by
      obtain⟨n,hn,e⟩:=hbs b hx
      obtain⟨t,cs,e1⟩:=hcell n hn
      rcases hb with z|z
      ·have:=m.mem.lt e1 (b:=(β n).1) rfl
       rw[e]at this
       exact w0.own_F this.1 z
      ·exact z.2.2 n _ e1 (by simp only[zc8];rw[e])⟩
     have hO:∀n t k f,st.heap.getD n none=some (.own t k f)->∀b,((β n).2 0).ownBlock=some b->Fr b:=λn t k f hn b hb=>⟨⟨(m.mem.ownlt hn hb).2,m.mem.ownpl hn hb⟩,λhx=>by
      obtain⟨q,hq,e⟩:=hbs b hx
      obtain⟨t',cs,e1⟩:=hcell q hq
      have:=m.mem.inj n q _ _ b hn e1 hb (by simp only[zc8];rw[e])
      subst this
      rw[hn]at e1;cases e1⟩
     have hdv:∀v d,toDV (zsy hp) v=some d->DenV w Fr d (ren β v):=λv d hd=>
      zm7 m.mem (λn c hc=>.inr (hhp n c (hhid n c hc).1)) (.inl λn ds hx=>(hhid n _ hx).2.2 ds rfl) hF hd (λn _=>hO n) (.inr (.inr λn t cs hx=>(hhid n _ hx).2.1 t cs rfl))
     have hcall:=ht.tx F f az lent u os ps htx hf hs w Fr (σ.map λn=>(β n).1) _ (λb hb=>hb.1) hnb (λb hb hx=>hx.2 hb) (zx1 m.mem hhp hlo) (hden σ β Fr (λ_ _ h=>h) λv _ d hd=>hdv v d hd)
     obtain⟨w1,b1,b2,b3,b4,b5,b6,b7⟩:=m.mem.puts hnd hlo (λn _ c hc=>hhp n c hc) hup
     have hpost:∀w',zjn w w' (σ.map λn=>(β n).1) (zipL lent os)->Post w0 β st.slots st.heap {val:=.v u,upd:=up,sides:=ps} u β w':=λw' hl=>by
      refine⟨λ_ _ _=>rfl,(zdj hfl).symm,λn hn=>?_,b1.call ⟨hl.os.trans b3.symm,hl.tape.trans b4.symm,hl.output.trans b5.symm,by rw[b2];exact hl.size,λk hk=>?_⟩⟩
      ·simp only[names]at hn;rw[zen hfl]at hn;cases hn
      ·by_cases hx:k∈(σ.map λn=>(β n).1)
       ·exact zzd b6 hl.lent k hx
       ·rw[b7 k hx];exact hl.block k (by rw[←b2];exact hk) hx
     unfold Oper.wp
     rw[hrun]
     split at hcall
     ·rename_i u' w' hr
      rw[hr]
      obtain⟨rfl,hl⟩:=hcall
      exact hK β _ w' (hpost _ hl)
     ·rename_i f' as' w' hr
      rw[hr]
      obtain⟨rfl,hcs⟩:=hcall
      refine hcs.mono λe w'' he=>?_
      obtain⟨rfl,hl⟩:=he
      exact hK β _ w'' (hpost _ hl)
     ·exact hcall.elim
    ·cases h
   ·cases h
  ·cases h
 ·cases h
theorem zn0{X:Tabs}(ht:zal P X){hp:Nat->Option HE}(hhp:∀n c,hp n=some c->st.heap.getD n none=some c){fresh F:Nat}{vs:List Value}(m:M w0 β st a w)(hfr:X.dres F=true->fresh<st.heap.length/\st.heap.getD fresh none=none)
  (hrun:(execOp a.eval o).run P w=(callFunc F (vs.map (ren β)).toArray).run P w) (h:zv7 X hp fresh F vs=some r) (hs:allP r.sides) (hK:∀β' u w',Post w0 β st.slots st.heap r u β' w'->K (a.put o.dst u) w'):o.wp P a w K Q:=by
 unfold zv7 at h
 split at h
 ·split at h
  ·exact zyu ht hhp m hrun h hs hK
  ·cases h
 ·exact znz ht hhp m hfr hrun h hs hK
end
section
variable{P:Program}{w0:Base P}{w:World}{β:Env}{st:St}{a:Act}{cs:List (Nat×Bool)}{o:Oper}{r:Res}{K:Act->World->Prop}{Q:Exit->Act->World->Prop}
theorem Post.kRes{l:List SV}{h:List (Option HE)}{u:Value}{β':Env}{w':World}(p:Post w0 β l h r u β' w'):Post w0 β l h (kRes r) u β' w':=by
 unfold Dyn.kRes
 split
 ·rename_i x hx
  split
  ·rename_i hf
   have hd:=p.den
   rw[hx]at hd
   exact⟨p.keep,(show u=ren β' x from hd).trans (zdj hf),λn hn=>(by cases hn),p.mem⟩
  ·exact p
 ·exact p
theorem z53{k:TypeId}{p:Option Addr}{i:Int}{fs:Array Field}{f1 f2:Field}{e size:Nat}{q:IntKind}(hk:P.underlying k=some (.struct fs))(hf:fs.toList=[f1,f2])(h1:P.underlying f1.type=some (.pointer e))(h2:P.underlying f2.type=some (.int q))
  (hs:zbh P e=some size) (n1:(f1.name != "_")=true) (n2:(f2.name != "_")=true) (o1:f1.offset=0) (o2:f2.offset=1) (hh:P.stoodInHeld k=false) (a1:zei P f1.type=some false) (a2:zei P f2.type=some false) (w:World) :
  (∀em,(Instr.checkKey em 10000 k (.agg #[.pointer p,.int .i64 i])).run P w=.ok () w)/\(Op.equal k (.agg #[.pointer p,.int .i64 i]) (.agg #[.pointer p,.int .i64 i])).run P w=.ok true w:=by
 have hfs:fs = #[f1,f2]:=by apply Array.ext';rw[hf]
 subst hfs
 have p1:(part f1.type #[Value.pointer p,.int .i64 i] f1.offset).run P w=.ok (.pointer p) w:=zgj (by unfold zgv;rw[a1,o1];rfl)
 have p2:(part f2.type #[Value.pointer p,.int .i64 i] f2.offset).run P w=.ok (.int .i64 i) w:=zgj (by unfold zgv;rw[a2,o2];rfl)
 have n1':f1.name≠"_":=by simpa using n1
 have n2':f2.name≠"_":=by simpa using n2
 have e1:∀d,(Op.equalIn (d+1) f1.type (.pointer p) (.pointer p)).run P w=.ok true w:=by
  intro d
  cases p with
  |none=>simp[Op.equalIn,run_underlying h1]
  |some a=>
   by_cases hz:size=0
   ·subst hz
    simp[Op.equalIn,run_underlying h1,za5 hs]
   ·simp[Op.equalIn,run_underlying h1,za5 hs,run_sameAddr_same,hz]
 have e2:∀d,(Op.equalIn (d+1) f2.type (.int .i64 i) (.int .i64 i)).run P w=.ok true w:=by
  intro d
  simp[Op.equalIn,run_underlying h2]
 have c1:∀em d,(Instr.checkKey em (d+1) f1.type (.pointer p)).run P w=.ok () w:=λem d=>by simp[Instr.checkKey,run_underlying h1]
 have c2:∀em d,(Instr.checkKey em (d+1) f2.type (.int .i64 i)).run P w=.ok () w:=λem d=>by simp[Instr.checkKey,run_underlying h2]
 have g1:∀em d,(Instr.checkKey em (d+2) k (.agg #[.pointer p,.int .i64 i])).run P w=.ok () w:=λem d=>by
  rw[Instr.checkKey]
  simp[run_underlying hk,n1',n2',p1,p2,c1 em d,c2 em d]
 have g2:∀d,(Op.equalIn (d+2) k (.agg #[.pointer p,.int .i64 i]) (.agg #[.pointer p,.int .i64 i])).run P w=.ok true w:=λd=>by
  rw[Op.equalIn]
  simp[run_underlying hk,hh,n1',n2',p1,p2,e1 d,e2 d]
 exact⟨λem=>g1 em 9998,g2 9998⟩
theorem zw3(p:Option Addr)(i:Int):Instr.sameBits 10000 (.agg #[.pointer p,.int .i64 i]) (.agg #[.pointer p,.int .i64 i])=true:=by
 simp[Instr.sameBits]
theorem z5w{t:TypeId}(hk:yba P t=true){b:Nat}{es:Array MapEntry}{clock:Nat}(hb:w.heap[b]? = some (.map es clock)){p:Option Addr}{i:Int}(val:Value)(hes:∀x∈es.toList,x.key=.agg #[.pointer p,.int .i64 i]) :
  ∃es' clock',(Instr.mapUpdate t (.map (some b)) (.agg #[.pointer p,.int .i64 i]) val).run P w=.ok () {w with heap:=w.heap.setIfInBounds b (.map es' clock')}/\∀x∈es'.toList,x.key=.agg #[.pointer p,.int .i64 i]:=by
 unfold yba at hk
 split at hk
 ·rename_i k e0 hm
  split at hk
  ·rename_i fs hs
   split at hk
   ·rename_i f1 f2 hf
    split at hk
    ·rename_i e q h1 h2
     split at hk
     ·rename_i size hsz
      simp only[Bool.and_eq_true,Bool.not_eq_true']at hk
      obtain⟨⟨⟨⟨⟨n1,n2⟩,o1⟩,o2⟩,hh⟩,ha⟩:=hk
      have ha':zei P f1.type=some false/\zei P f2.type=some false:=by
       revert ha
       cases zei P f1.type with
       |none=>intro ha;cases ha
       |some b1=>cases zei P f2.type with
        |none=>intro ha;cases b1<;>cases ha
        |some b2=>intro ha;cases b1<;>cases b2<;>first|exact⟨rfl,rfl⟩|cases ha
      obtain⟨kc,ke⟩:=z53 (p:=p) (i:=i) hs hf h1 h2 hsz n1 n2 (Nat.eq_of_beq_eq_true o1) (Nat.eq_of_beq_eq_true o2) hh ha'.1 ha'.2 w
      have hnow:∀x l,Instr.findNow (.struct fs) (.agg #[.pointer p,.int .i64 i]) (x::l) 0=none:=λx l=>by simp[Instr.findNow,Instr.sameNow]
      cases hl:es.toList with
      |nil=>
       refine⟨es.push {key:=.agg #[.pointer p,.int .i64 i],val:=val,born:=clock},clock+1,?_,λx hx=>?_⟩
       ·simp[Instr.mapUpdate,run_underlying hm,MapKept.run_getObj_map hb,kc false,hl,Instr.findKey,run_underlying hs,Instr.findNow,MapKept.run_setObj_map _ hb]
       ·simp only[Array.toList_push,hl,List.nil_append,List.mem_singleton]at hx
        rw[hx]
      |cons x l=>
       have hx:x.key=.agg #[.pointer p,.int .i64 i]:=hes x (by rw[hl];exact List.mem_cons_self ..)
       have h0:es[0]? = some x:=by rw[←Array.getElem?_toList,hl];rfl
       refine⟨es.modify 0 λy=>{y with key:=.agg #[.pointer p,.int .i64 i],val:=val},clock,?_,λy hy=>?_⟩
       ·simp[Instr.mapUpdate,run_underlying hm,MapKept.run_getObj_map hb,kc false,hl,Instr.findKey,run_underlying hs,hnow,Instr.findAsking,hx,ke,h0,Instr.keyThatStays,zw3,MapKept.run_setObj_map _ hb]
       ·rw[Array.toList_modify,hl]at hy
        simp only[List.modify_zero_cons,List.mem_cons]at hy
        rcases hy with rfl|hy
        ·rfl
        ·exact hes y (by rw[hl];exact List.mem_cons_of_mem _ hy)
     ·cases hk
    ·cases hk
   ·cases hk
  ·cases hk
 ·cases hk
theorem zz7{X:Tabs}(ht:zal P X){hp:Nat->Option HE}(hhp:∀n c,hp n=some c->st.heap.getD n none=some c){F:Nat}{args:Array Operand}{ts:Array TypeId}{x:Operand}{b n c k sp:Nat}{f:Nat->List DC}(m:M w0 β st a w)(hc:holds st.slots cs)
  (ho:o.op=.call {callee:=.value (.func F),args,argTypes:=ts}) (hpl:X.pl F=true) (ha:args.toList=[x]) (hx:evS st.slots cs x=.v (.slice (some ⟨b,0,some sp⟩) n c)) (hr:zl9 hp b 0=some (k,f)) (hk:0<k)
  (hK:∀β' u w',Post w0 β st.slots st.heap {val:=.v (.agg #[.chan (some b),.int .i64 (k:Int)]),upd:=[],sides:=[0<k]} u β' w'->K (a.put o.dst u) w'):o.wp P a w K Q:=by
 have e1:args = #[x]:=by apply Array.ext';rw[ha]
 subst e1
 have hd:=zap m hc x
 rw[hx]at hd
 have hev:a.eval x=(β b).2 0:=hd
 have hb:∃c,st.heap.getD b none=some c:=zbt (cs:=cs) m (x:=x) (by rw[hx];simp[names,refs,zbk,zaz,zbc])
 rcases zk3 m.mem hhp hr with⟨_,hz⟩|⟨b',q',cap,size,hv,_⟩
 ·omega
 ·have hcall:=ht.pl F hpl b' q' k cap hk w
  have hrun:(execOp a.eval o).run P w=(callFunc F [Value.slice (some ⟨b',q',none⟩) k cap].toArray).run P w:=by
   simp only[execOp,ho,Go.resolve,Deferred.ofValue,Act.eval,Sem.run_bind,Sem.run_pure,Result.andThen_ok,invoke]
   simp[hev,hv]
  have hpost:∀w',Below w.heap.size w w'->Post w0 β st.slots st.heap {val:=.v (.agg #[.chan (some b),.int .i64 (k:Int)]),upd:=[],sides:=[0<k]} (.agg #[.pointer (some ⟨b',q',none⟩),.int .i64 (k:Int)]) β w':=λw' hb'=>
   ⟨λ_ _ _=>rfl,(by show _=ren β _;simp only[ren,ren1,ren0,renP,List.map_cons,List.map_nil];rw[hv];rfl),λq hq=>(by simp[names,refs,zbk,zdt,zaz,zbc]at hq;subst hq;exact hb),m.mem.call hb'⟩
  unfold Oper.wp
  rw[hrun]
  split at hcall
  ·rename_i u' w' hr'
   rw[hr']
   obtain⟨rfl,hb'⟩:=hcall
   exact hK β _ w' (hpost w' hb')
  ·rename_i f' az w' hr'
   rw[hr']
   obtain⟨rfl,hcs⟩:=hcall
   exact hcs.mono λe w'' ⟨he,hb'⟩=>by subst he;exact hK β _ w'' (hpost w'' hb')
  ·exact hcall.elim
theorem zph{hp:Nat->Option HE}(hhp:∀n c,hp n=some c->st.heap.getD n none=some c){t:TypeId}{mo k x:Operand}(m:M w0 β st a w)(hc:holds st.slots cs)(ho:o.op=.mapUpdate t mo k x\/o.op=.insert t mo k x)
  (h:zt1 P (evS st.slots cs) hp t mo k=some r) (hK:∀β' u w',Post w0 β st.slots st.heap r u β' w'->K (a.put o.dst u) w'):o.wp P a w K Q:=by
 unfold zt1 at h
 split at h
 ·rename_i n kv hm hk
  split at h
  ·rename_i v0 i0 q i hn hkey
   split at h
   ·rename_i rw0 hrow
    split at h
    ·rename_i hall
     simp only[Bool.and_eq_true]at hall
     simp only[Option.some.injEq]at h;subst h
     have hd:=zap m hc mo
     rw[hm]at hd
     have hmo:a.eval mo=.map (some (β n).1):=hd
     have hdk:=zap m hc k
     rw[hk]at hdk
     have hkv:kv=.agg #[.chan (some q),.int .i64 i]:=by
      unfold ykk at hkey
      split at hkey
      ·rename_i cs0
       split at hkey
       ·rename_i q' i' hl
        simp only[Option.some.injEq,Prod.mk.injEq]at hkey
        obtain⟨rfl,rfl⟩:=hkey
        congr 1
        apply Array.ext';rw[hl]
       ·cases hkey
      ·cases hkey
     subst hkv
     obtain⟨p,hp1⟩:∃p,ybu ((β q).2 0)=.pointer p:=by
      cases (β q).2 0<;>exact⟨_,rfl⟩
     have hke:a.eval k=.agg #[.pointer p,.int .i64 i]:=by
      have e:a.eval k=ren β (.agg #[.chan (some q),.int .i64 i]):=hdk
      rw[e]
      simp only[ren,ren1,ren0,renP,List.map_cons,List.map_nil]
      rw[hp1]
     have hrq:∀z∈zaz (.chan (some q)),∃c,st.heap.getD z none=some c:=λz hz=>zbt (cs:=cs) m (x:=k) (by
      rw[hk]
      simp[zaz,zbc]at hz;subst hz
      simp[names,refs,zbk,zdt,zaz,zbc])
     have hn':=hhp n _ hn
     obtain⟨⟨es,clock,hb,hes⟩,hown⟩:=m.mem.ok n _ hn'
     have hes':∀x∈es.toList,x.key=.agg #[.pointer p,.int .i64 i]:=λy hy=>by
      obtain⟨k1,p1,k2⟩:=hes y hy
      have hfit:=hall.2
      unfold ykg at hfit
      split at hfit
      ·exact absurd k2 (by simp[ren0,renP])
      ·rename_i q'
       simp only[Bool.and_eq_true,decide_eq_true_eq]at hfit
       obtain⟨f1,f2⟩:=hfit
       have f1:=Nat.eq_of_beq_eq_true f1
       subst f1;subst f2
       rw[k1]
       simp only[ren0,renP]
       rw[hp1]
      ·cases hfit
     obtain⟨es',clock',hrun,hes2⟩:=z5w (w:=w) hall.1 hb (a.eval x) hes'
     have hlt:(β n).1<w.heap.size:=(m.mem.lt hn' (b:=(β n).1) rfl).2
     have hexec:(execOp a.eval o).run P w=.ok .skip {w with heap:=w.heap.setIfInBounds (β n).1 (.map es' clock')}:=by
      rcases ho with ho|ho<;>simp only[execOp,ho,hmo,hke,Sem.run_bind,hrun,Result.andThen_ok,Sem.run_pure]
     refine ziz hexec (hK β _ _ ⟨λ_ _ _=>rfl,rfl,λz hz=>(by cases hz),?_⟩)
     refine m.mem.putMap (v:=.chan (some q)) (i:=i) hn' hrq (es:=es') (clock:=clock') (λy hy=>⟨?_,p,by simp only[ren0,renP];exact hp1⟩) ?_ (λz hz=>?_) (by simp) rfl rfl rfl
     ·rw[hes2 y hy]
      simp only[ren0,renP];rw[hp1]
     ·show(w.heap.setIfInBounds (β n).1 _)[(β n).1]? = _
      rw[Array.getElem?_setIfInBounds,if_pos rfl,if_pos hlt]
     ·show(w.heap.setIfInBounds (β n).1 _)[z]? = _
      rw[Array.getElem?_setIfInBounds,if_neg (λe=>hz e.symm)]
    ·cases h
   ·cases h
  ·cases h
 ·cases h
theorem zpx{t len fresh:Nat}{parts:Array (Nat×Operand)}{e:TypeId}{vs:List Value}{size:Nat}{z:Value}{cells:Array Value}(m:M w0 β st a w)(hc:holds st.slots cs)
  (hf:fresh<st.heap.length) (hn:st.heap.getD fresh none=none) (ho:o.op=.buildSlice t len parts) (he:zaw P t=some e) (hv:zdx (evS st.slots cs) (parts.toList.map (·.2))=some vs) (hs:zbh P e=some size) (hz:(P.info? e).bind (·.zero)=some z)
  (hb:¬len*size>2 ^ 24) (hb0:¬len*size=0) (h1:vs.all (λv=>v.cells.toList.all zag)=true) (hfl:allB zel ((Array.range (len*size)).map (z.cells[· % z.cells.size]!)).toList=true)
  (hfill:Instr.fill (λi=>some (i*size,size)) ((Array.range (len*size)).map (z.cells[· % z.cells.size]!)) ((parts.toList.map (·.1)).zip vs)=some cells)
  (hK:∀β' u w',Post w0 β st.slots st.heap {val:=.v (.slice (some ⟨fresh,0,none⟩) len len),upd:=[(fresh,.cells e cells.toList)],sides:=[]} u β' w'->K (a.put o.dst u) w'):o.wp P a w K Q:=by
 have hone:=m.mem.one
 obtain⟨i1,i2,i3⟩:=zqc (β:=β) hone _ _ _ (λp hp=>List.all_eq_true.1 h1 p.2 (List.of_mem_zip hp).2) hfill
 rw[zbi (f:=ren0 β) (l:=Array.toList _) λy hy=>zbn (za4.1 hfl y hy)]at i1
 have hpa:=zod m hc hv
 have hrefs:∀v∈cells.toList,∀k∈zaz v,∃c,st.heap.getD k none=some c:=λv hv' k hk=>by
  rcases i3 v hv' with hy|⟨p,hp,hy⟩
  ·rw[zb8 (za4.1 hfl v hy)]at hk;cases hk
  ·have hpv:=(List.of_mem_zip hp).2
   obtain⟨_,k2,_⟩:=zjj hone (List.all_eq_true.1 h1 p.2 hpv)
   exact(zc7 m hc hv).2 p.2 hpv k (k2 v hy k hk)
 refine zaf (u:=.slice (some ⟨w.heap.size,0,none⟩) len len) ?_ (hK (bump β fresh (w.heap.size,λ_=>.bool false)) _ (push w (.cells (cells.toList.map (ren0 β)).toArray e)) ⟨λn c hc=>zcf λe=>?_,?_,λn hn'=>?_,?_⟩)
 ·unfold zaw at he
  split at he
  ·rename_i e' hu
   simp only[Option.some.injEq]at he;subst he
   simp only[Array.toArray_toList]at i1
   simp only[execOp,ho,Instr.buildSlice,Sem.run_bind,underlying,run_program,hu,Sem.run_pure,Result.andThen_ok,za5 hs,hb,hb0,if_false,ze8 hz,hpa,i1,newRow,run_newObj]
   rfl
  ·cases he
 ·rw[e,hn]at hc;cases hc
 ·show _=ren _ _
  simp only[ren,ren1,ren0,renP]
  rw[zcs]
 ·simp only[names,refs,zbk,zaz,zbc,List.mem_singleton]at hn';subst hn'
  exact⟨.cells e cells.toList,by simp only[zac];rw[zah,if_pos ⟨rfl,hf⟩]⟩
 ·simp only[zac]
  exact m.mem.new hf hn e cells.toList hrefs
theorem z0b{X:Tabs}(ht:zal P X){fresh:Nat}(m:M w0 β st a w)(hc:holds st.slots cs)(hfr:zbo X o=true->fresh<st.heap.length/\st.heap.getD fresh none=none)
  {hp:Nat->Option HE} (hhp:∀n c,hp n=some c->st.heap.getD n none=some c)
  (h:z5i P X (evS st.slots cs) hp fresh o=some r) (hs:allP r.sides) (hK:∀β' u w',Post w0 β st.slots st.heap r u β' w'->K (a.put o.dst u) w'):o.wp P a w K Q:=by
 unfold z5i at h
 split at h
 ·rename_i t len parts ho
  obtain⟨hf,hn⟩:=hfr (by simp[zbo,ho])
  split at h
  ·rename_i e vs he hv
   split at h
   ·rename_i size z hsz hz
    split at h
    ·cases h
    ·rename_i hb
     split at h
     ·cases h
     ·rename_i hb0
      split at h
      ·rename_i hall
       simp only[Bool.and_eq_true]at hall
       split at h
       ·rename_i cells hfill
        simp only[Option.some.injEq]at h;subst h
        exact zpx m hc hf hn ho he hv hsz hz hb hb0 hall.1 hall.2 hfill hK
       ·cases h
      ·cases h
   ·cases h
  ·cases h
 ·rename_i t x y ho
  split at h
  ·rename_i ad n c ki i hx hy
   split at h
   ·rename_i e hsp he
    split at h
    ·rename_i size hsz
     split at h
     ·rename_i hlt
      simp only[Option.some.injEq]at h;subst h
      obtain⟨b,q,sp⟩:=ad
      dsimp only at hsp;subst hsp
      have hd:=zap m hc x
      rw[hx]at hd
      have hev:a.eval x=.slice (some ⟨(β b).1,q,none⟩) n c:=hd
      have hey:=zaj m hc hy
      have hb:∃c,st.heap.getD b none=some c:=zbt (cs:=cs) m (x:=x) (by rw[hx];simp[names,refs,zbk,zaz,zbc])
      exact zaf (u:=.pointer (some ⟨(β b).1,q+i.toNat*size,none⟩)) (zot ho hev hey he hsz hlt.1 (by omega)) (hK β _ w (Post.same m rfl rfl (λz hz=>by simp only[names,refs,zbk,zaz,zbc,List.mem_singleton]at hz;subst hz;exact hb)))
     ·cases h
    ·cases h
   ·cases h
  ·cases h
 ·rename_i t x y ho
  split at h
  ·rename_i ad n c ki i hx hy
   split at h
   ·rename_i e hsp he
    split at h
    ·rename_i size hsz
     split at h
     ·rename_i hlt
      simp only[Option.some.injEq]at h;subst h
      obtain⟨b,q,sp⟩:=ad
      dsimp only at hsp;subst hsp
      have hd:=zap m hc x
      rw[hx]at hd
      have hev:a.eval x=.slice (some ⟨(β b).1,q,none⟩) n c:=hd
      have hey:=zaj m hc hy
      have hb:∃c,st.heap.getD b none=some c:=zbt (cs:=cs) m (x:=x) (by rw[hx];simp[names,refs,zbk,zaz,zbc])
      refine zaf (u:=.slice (some ⟨(β b).1,q,none⟩) i.toNat c) ?_ (hK β _ w (Post.same m rfl rfl (λz hz=>by simp only[names,refs,zbk,zaz,zbc,List.mem_singleton]at hz;subst hz;exact hb)))
      unfold zaw at he
      split at he
      ·rename_i e' hu
       simp only[Option.some.injEq]at he;subst he
       simp[execOp,ho,hev,hey,Instr.sliceAt,Instr.slice,run_underlying hu,Instr.sliceBounds,Instr.sliceBound,asIntOf,hlt,za5 hsz,Addr.add]
      ·cases he
     ·cases h
    ·cases h
   ·cases h
  ·cases h
 ·rename_i args argTypes ho
  split at h
  ·rename_i x t ha hat
   split at h
   ·rename_i ad n c e hx he
    split at h
    ·rename_i hsp
     simp only[Option.some.injEq]at h;subst h
     obtain⟨b,q,sp⟩:=ad
     dsimp only at hsp;subst hsp
     have hd:=zap m hc x
     rw[hx]at hd
     have hev:a.eval x=.slice (some ⟨(β b).1,q,none⟩) n c:=hd
     have e1:args = #[x]:=by apply Array.ext';rw[ha]
     have e2:argTypes = #[t]:=by apply Array.ext';rw[hat]
     subst e1;subst e2
     unfold zaw at he
     split at he
     ·rename_i e' hu
      refine zaf (u:=.int .i64 (n:Int)) ?_ (hK β _ w (Post.same m rfl rfl (λz hz=>by simp[names]at hz)))
      simp only[execOp,ho,Go.resolve,invoke,builtin,Builtin.len_,Sem.run_bind,Sem.run_pure,Result.andThen_ok,List.map_toArray,List.map_cons,List.map_nil,hev,underlying,run_program,hu]
      simp[goInt,underlying,hu]
     ·cases he
    ·cases h
   ·cases h
  ·cases h
 ·rename_i F args ts ho
  split at h
  ·rename_i hpl
   split at h
   ·rename_i x ha
    split at h
    ·rename_i ad n c hx
     split at h
     ·rename_i sp k f hsp hoff hr
      simp only[Option.some.injEq]at h;subst h
      obtain⟨b,q,sp'⟩:=ad
      dsimp only at hsp hoff hr;subst hsp;subst hoff
      exact zz7 ht hhp m hc ho hpl ha hx hr hs.1 hK
     ·cases h
    ·cases h
   ·cases h
  ·cases h
 ·rename_i t ho
  obtain⟨hf,hn⟩:=hfr (by simp[zbo,ho])
  simp only[Option.some.injEq]at h;subst h
  refine zaf (u:=.map (some w.heap.size)) ?_ (hK (bump β fresh (w.heap.size,λ_=>.bool false)) _ (push w (.map #[] 0)) ⟨λn c hc=>zcf λe=>?_,?_,λn hn'=>?_,?_⟩)
  ·simp only[execOp,ho,Instr.makeMap,Option.map_none,Sem.run_bind,Sem.run_pure,Result.andThen_ok,run_newObj]
   rfl
  ·rw[e,hn]at hc;cases hc
  ·show _=ren _ _
   simp only[ren,ren1,ren0,renP]
   rw[zcs]
  ·simp only[names,refs,zbk,zaz,zbc,List.mem_singleton]at hn';subst hn'
   exact⟨.mp (.bool false) 0,by simp only[zac];rw[zah,if_pos ⟨rfl,hf⟩]⟩
  ·simp only[zac]
   exact m.mem.newMap hf hn 0
 ·rename_i t mo k x ho
  exact zph hhp m hc (.inl ho) h hK
 ·rename_i t mo k x ho
  exact zph hhp m hc (.inr ho) h hK
 ·cases h
theorem z5j{X:Tabs}(ht:zal P X){fresh:Nat}(m:M w0 β st a w)(hc:holds st.slots cs)(hfr:zbo X o=true->fresh<st.heap.length/\st.heap.getD fresh none=none)
  (h:opMk X (evS st.slots cs) fresh o=some r) (hK:∀β' u w',Post w0 β st.slots st.heap r u β' w'->K (a.put o.dst u) w'):o.wp P a w K Q:=by
 unfold opMk at h
 split at h
 ·rename_i F args ts ho
  split at h
  ·rename_i f x hnw hdr ha
   split at h
   ·rename_i u hu
    split at h
    ·rename_i t cells hf
     split at h
     ·rename_i hfl
      simp only[Option.some.injEq]at h;subst h
      obtain⟨hfr1,hfr2⟩:=hfr (by simp[zbo,ho,zdq,hdr])
      have e1:args = #[x]:=by apply Array.ext';rw[ha]
      subst e1
      have hev:a.eval x=u:=zaj m hc hu
      have hcall:=ht.nw F f hnw u t cells hf w
      have hrun:(execOp a.eval o).run P w=(callFunc F #[u]).run P w:=by
       simp only[execOp,ho,Go.resolve,Deferred.ofValue,Act.eval,Sem.run_bind,Sem.run_pure,Result.andThen_ok,invoke]
       simp[hev]
      have hno:∀v∈cells,∀k∈zaz v,∃c,st.heap.getD k none=some c:=λv hv k hk=>by rw[zb8 (za4.1 hfl v hv)]at hk;cases hk
      have hpost:∀b w',w'.heap[b]? = some (.cells cells.toArray t (0,0))->w.heap.size<=b->b<w'.heap.size->Below w.heap.size w w'->Post w0 β st.slots st.heap {val:=.v (.pointer (some ⟨fresh,0,none⟩)),upd:=[(fresh,.cells t cells)],sides:=[]} (.pointer (some ⟨b,0,none⟩)) (bump β fresh (b,λ_=>.bool false)) w':=λb w' h1 h2 h3 hB=>by
       refine {keep:=λn c hc=>zcf λe=>by(rw[e,hfr2]at hc;cases hc),den:=?_,nm:=λn hn'=>?_,mem:=?_}
       ·show _=ren _ _
        simp only[ren,ren1,ren0,renP]
        rw[zcs]
       ·simp only[names,refs,zbk,zaz,zbc,List.mem_singleton]at hn';subst hn'
        exact⟨.cells t cells,by simp only[zac];rw[zah,if_pos ⟨rfl,hfr1⟩]⟩
       ·simp only[zac]
        refine m.mem.add hfr1 hfr2 (.cells t cells) (b,λ_=>.bool false) hB (λb' hb'=>by simp only[zc8,Option.some.injEq]at hb';omega) (λ_=>rfl) (λt' cs' e v hv k hk=>by cases e;exact hno v hv k hk) (λhN=>⟨?_,.inl (Nat.le_trans m.mem.below.size h2)⟩)
        rw[zbi λy hy=>zbn (za4.1 hfl y hy)]
        exact h1
      unfold Oper.wp
      rw[hrun]
      split at hcall
      ·rename_i f' az w' hr'
       rw[hr']
       obtain⟨rfl,hcs⟩:=hcall
       exact hcs.mono λe w'' ⟨b,he,h1,h2,h3,hB⟩=>by subst he;exact hK _ _ w'' (hpost b w'' h1 h2 h3 hB)
      ·exact hcall.elim
     ·cases h
    ·cases h
   ·cases h
  ·cases h
 ·cases h
theorem Mem.give{h:List (Option HE)}{w':World}(m:Mem w0 β h w){n:Nat}{t:TypeId}{cs:List Value}(hn:h.getD n none=some (.cells t cs))(hb:ButB (β n).1 w w'):Mem w0 β (h.set n (some .gone)) w':=by
 have hat:∀q,q≠n->(h.set n (some HE.gone)).getD q none=h.getD q none:=λq hq=>by rw[zah,if_neg (λz=>hq z.1.symm)]
 have hl:n<h.length:=by
  rcases Nat.lt_or_ge n h.length with z|z
  ·exact z
  ·rw[List.getD_eq_getElem?_getD,List.getElem?_eq_none z]at hn;cases hn
 have hatn:(h.set n (some HE.gone)).getD n none=some .gone:=by rw[zah,if_pos ⟨rfl,hl⟩]
 have hsome:∀q c,h.getD q none=some c->∃d,(h.set n (some HE.gone)).getD q none=some d:=λq c hq=>by
  by_cases e:q=n
  ·subst e;exact⟨_,hatn⟩
  ·exact⟨c,(hat q e).trans hq⟩
 have hown:=m.lt hn (b:=(β n).1) rfl
 have hNb:∀b,NF w0 β h w b->b≠(β n).1:=λb hN e=>by
  subst e
  rcases hN with z|z
  ·exact w0.own_F hown.1 z
  ·exact z.2.2 n _ hn rfl
 refine m.next (λq=>q=n) (λ_ _ _ _=>rfl) (λ_ _ _ _ _ _ _=>rfl) (λq he hq hne=>?_) (λb hN=>⟨?_,hb.block b (zn5 m.below hN) (hNb b hN)⟩) hb.size (λq he hq e=>?_) (λq k c d b hq hk hc hd e=>?_) (λq t' cs' hq v hv k hk=>?_) m.one ⟨hb.os.trans m.below.os,hb.tape.trans m.below.tape,hb.output.trans m.below.output,Nat.le_trans m.below.size hb.size,λk hk hL=>?_⟩ (λq v i hq k hk=>?_)
 ·rw[hat q hne]at hq
  exact⟨hq,λb hx=>hb.block b (m.lt hq hx).2 λe=>hne (m.inj q n _ _ b hq hn hx (by rw[e];rfl))⟩
 ·have hlt:=zn5 m.below hN
  have hnb:=hNb b hN
  rcases hN with k|k
  ·exact .inl k
  ·refine .inr ⟨k.1,⟨Nat.lt_of_lt_of_le k.2.1.1 hb.size,k.2.1.2.of (hb.block b hlt hnb)⟩,λq c hq hx=>?_⟩
   by_cases e:q=n
   ·subst e;rw[hatn]at hq;cases hq;cases hx
   ·rw[hat q e]at hq;exact k.2.2 q c hq hx
 ·subst e;rw[hatn]at hq;cases hq;trivial
 ·subst e;rw[hatn]at hq;cases hq;cases hc
 ·by_cases e:q=n
  ·subst e;rw[hatn]at hq;cases hq
  ·rw[hat q e]at hq
   obtain⟨c,hc⟩:=m.refs q t' cs' hq v hv k hk
   exact hsome k c hc
 ·by_cases e:k=(β n).1
  ·subst e
   rcases hown.1 with z|z
   ·omega
   ·exact absurd z hL
  ·exact(hb.block k (Nat.lt_of_lt_of_le hk m.below.size) e).trans (m.below.block k hk hL)
 ·by_cases e:q=n
  ·subst e;rw[hatn]at hq;cases hq
  ·rw[hat q e]at hq
   obtain⟨c,hc⟩:=m.mrefs q v i hq k hk
   exact hsome k c hc
theorem zmv{hp:Nat->Option HE}{n:Nat}:∀{l:List Nat},zyl hp n l=true->∀q∈l,q=n\/∃ds,hp q=some (.deep ds)
 |[],_=>λq hq=>by cases hq
 |k::l,h=>λq hq=>by
  unfold zyl at h
  split at h
  ·rename_i hk
   rcases List.mem_cons.1 hq with rfl|hq
   ·exact .inl (Nat.eq_of_beq_eq_true hk)
   ·exact zmv h q hq
  ·rename_i ds hk hd
   rcases List.mem_cons.1 hq with rfl|hq
   ·exact .inr ⟨ds,hd⟩
   ·exact zmv h q hq
  ·cases h
theorem z5l{X:Tabs}(ht:zal P X){fresh:Nat}(m:M w0 β st a w)(hc:holds st.slots cs)(hfr:zbo X o=true->fresh<st.heap.length/\st.heap.getD fresh none=none)
  {hp:Nat->Option HE} (hhp:∀n c,hp n=some c->st.heap.getD n none=some c)
  (h:opGv X (evS st.slots cs) hp fresh o=some r) (hs:allP r.sides) (hK:∀β' u w',Post w0 β st.slots st.heap r u β' w'->K (a.put o.dst u) w'):o.wp P a w K Q:=by
 unfold opGv at h
 split at h
 ·rename_i F args ts ho
  split at h
  ·rename_i f vs hgv hdr hvs
   split at h
   ·rename_i n az hla
    split at h
    ·rename_i t cells hhe
     split at h
     ·rename_i rv ps hf
      split at h
      ·rename_i hcond
       simp only[Option.some.injEq]at h;subst h
       simp only[Bool.and_eq_true,Bool.not_eq_true']at hcond
       obtain⟨⟨⟨hfl,hp1⟩,hdp⟩,hdb⟩:=hcond
       obtain⟨hfr1,hfr2⟩:=hfr (by simp[zbo,ho,zdq,hdr])
       have hN:=hhp _ _ hhe
       have hrun:(execOp a.eval o).run P w=(callFunc F (vs.map (ren β)).toArray).run P w:=by
        have hargs:args.map a.eval=(vs.map (ren β)).toArray:=by
         apply Array.ext'
         rw[Array.toList_map,(zc7 m hc hvs).1]
        simp only[execOp,ho,Go.resolve,Deferred.ofValue,Act.eval,Sem.run_bind,Sem.run_pure,Result.andThen_ok,invoke,hargs]
        simp
       obtain⟨hext,hden⟩:=zkn (w:=w) hla
       have hhid:∀n c,zsy hp n=some c->hp n=some c/\(∀t cs,c≠.cells t cs)/\∀ds,c≠.raw ds:=λn c hc=>by
        unfold zsy at hc
        split at hc
        ·cases hc
        ·cases hc
        ·rename_i hno hnr
         exact⟨hc,λt cs e=>hno t cs (by rw[hc,e]),λds e=>hnr ds (by rw[hc,e])⟩
       have hNb:∀b,NF w0 β st.heap w b->b≠(β n).1:=λb hN' e=>by
        subst e
        have hown:=m.mem.lt hN (b:=(β n).1) rfl
        rcases hN' with z|z
        ·exact w0.own_F hown.1 z
        ·exact z.2.2 n _ hN rfl
       have hdv:∀v∈vs,∀d,toDV (zsy hp) v=some d->DenV w (NF w0 β st.heap w) d (ren β v):=λv hv d hd=>
        zm7 m.mem (λn c hc=>.inr (hhp n c (hhid n c hc).1)) (.inl λn ds hx=>(hhid n _ hx).2.2 ds rfl) (λ_ h=>h) hd (λq hq t' k g hw b hb=>by
         rcases zmv hdb q (zbb.2 ⟨v,hv,hq⟩)with e|⟨ds,e⟩
         ·subst e;rw[hN]at hw;cases hw
         ·rw[hhp q _ e]at hw;cases hw) (.inr (.inr λn t cs hx=>(hhid n _ hx).2.1 t cs rfl))
       have hcall:=ht.gv F f az t cells rv ps hgv hf hs w (NF w0 β st.heap w) (β n).1 (vs.map (ren β)) (λq hq=>⟨zn5 m.mem.below hq,ydk m.mem.below hq⟩) (λhx=>hNb _ hx rfl) (by
        have:=(m.mem.ok _ _ hN).1
        rw[zbi λy hy=>zbn (za4.1 hfl y hy)]at this
        exact this) (hden [n] β (NF w0 β st.heap w) (λ_ _ h=>h) hdv)
       have hne:fresh≠n:=λe=>by rw[e,hN]at hfr2;cases hfr2
       have hpost:∀u w',ButB (β n).1 w w'->DenR w' (λq=>NF w0 β st.heap w q\/(w.heap.size<=q/\q<w'.heap.size/\zar w' q)) rv u->∃β',Post w0 β st.slots st.heap {val:=.v (zpt fresh rv),upd:=[(n,.gone),(fresh,.deep (zdh rv))],sides:=ps} u β' w':=λu w' hb hd=>by
        have f1:=m.mem.give hN hb
        have hfn:(st.heap.set n (some HE.gone)).getD fresh none=none:=by rw[zah,if_neg (λz=>hne z.1.symm)];exact hfr2
        have hd':DenR w' (NF w0 β (st.heap.set n (some HE.gone)) w') rv u:=hd.mono λb z=>⟨by
         rcases z with z|z
         ·have hbk:=hb.block b (zn5 m.mem.below z) (hNb b z)
          have hlt:=zn5 m.mem.below z
          rcases z with z|z
          ·exact .inl z
          ·refine .inr ⟨z.1,⟨Nat.lt_of_lt_of_le hlt hb.size,z.2.1.2.of hbk⟩,λq c hq hx=>?_⟩
           by_cases e:q=n
           ·subst e
            rw[zah]at hq
            split at hq
            ·cases hq;cases hx
            ·exact z.2.2 q c hq hx
           ·rw[zah,if_neg (λz=>e z.1.symm)]at hq
            exact z.2.2 q c hq hx
         ·exact .inr ⟨Nat.le_trans m.mem.below.size z.1,z.2,λq c hq hx=>by
           by_cases e:q=n
           ·subst e
            rw[zah]at hq
            split at hq
            ·cases hq;cases hx
            ·have:=(m.mem.lt hq hx).2;have:=z.1;omega
           ·rw[zah,if_neg (λz=>e z.1.symm)]at hq
            have:=(m.mem.lt hq hx).2;have:=z.1;omega⟩,rfl⟩
        obtain⟨us,d1,k⟩:=zds hd'
        obtain⟨β',b1,b2,b3,b4,_⟩:=zlf f1 (fresh:=fresh) (λ_=>⟨by rw[List.length_set];exact hfr1,hfn⟩) d1 hp1
        obtain⟨k1,k2⟩:=k fresh β' (b3 0 rfl)
        have hu:updD fresh (zdh rv)=[(fresh,.deep (zdh rv))]:=by unfold updD;rw[hdp]
        rw[hu]at b2 b4
        refine⟨β',λq c hc=>?_,k1.symm,λq hn'=>?_,?_⟩
        ·by_cases e:q=n
         ·subst e
          refine b1 _ .gone ?_
          rw[zah]
          split
          ·rfl
          ·rename_i hno
           exact absurd ⟨rfl,by
            rcases Nat.lt_or_ge q st.heap.length with z|z
            ·exact z
            ·rw[List.getD_eq_getElem?_getD,List.getElem?_eq_none z]at hc;cases hc⟩ hno
         ·exact b1 q c (by rw[zah,if_neg (λz=>e z.1.symm)];exact hc)
        ·obtain⟨y,y1,y2⟩:=k2 q hn'
         exact b4 y y1 q y2
        ·exact b2
       unfold Oper.wp
       rw[hrun]
       split at hcall
       ·rename_i f' as' w' hr'
        rw[hr']
        obtain⟨rfl,hcs⟩:=hcall
        refine hcs.mono λe w'' he=>?_
        obtain⟨u,rfl,hd,hb⟩:=he
        obtain⟨β',hp⟩:=hpost u w'' hb hd
        exact hK β' u w'' hp
       ·exact hcall.elim
      ·cases h
     ·cases h
    ·cases h
   ·cases h
  ·cases h
 ·cases h
theorem z5g{X:Tabs}(ht:zal P X){fresh:Nat}(m:M w0 β st a w)(hc:holds st.slots cs)(hfr:zbo X o=true->fresh<st.heap.length/\st.heap.getD fresh none=none)
  {hp:Nat->Option HE} (hhp:∀n c,hp n=some c->st.heap.getD n none=some c)
  (h:opOw X (evS st.slots cs) hp fresh o=some r) (hs:allP r.sides) (hK:∀β' u w',Post w0 β st.slots st.heap r u β' w'->K (a.put o.dst u) w'):o.wp P a w K Q:=by
 unfold opOw at h
 split at h
 ·rename_i F args ts ho
  split at h
  ·rename_i f vs how hdr hvs
   split at h
   ·rename_i ds l hds hfrz
    split at h
    ·rename_i t n g ps hf
     simp only[Option.some.injEq]at h;subst h
     obtain⟨hfr1,hfr2⟩:=hfr (by simp[zbo,ho,zdq,hdr])
     have hhp':∀n c,hp n=some c->c=.gone\/st.heap.getD n none=some c:=λn c h=>.inr (hhp n c h)
     have hhq:∀n c,zi6 hp n=some c->c=.gone\/st.heap.getD n none=some c:=λn c h=>.inr (hhp n c (zk8 h))
     obtain⟨f1,f2,f3,f4⟩:=zer (zdt refs vs) m.mem hhp' hfrz
     have hfn:(zac st.heap l).getD fresh none=none:=by
      rw[zdr l _ λc hc=>by
       obtain⟨_,⟨t',k',f',h3⟩,_⟩:=f4 fresh c hc
       rw[hfr2]at h3;cases h3]
      exact hfr2
     have hden:=zh5 m.mem hhq (F:=NF w0 β (zac st.heap l) w) (.inl λ_ _=>zgy) f2 hds (λn hn t k f hhe b hb=>(f3 n hn _ hhe).2 b hb) (.inl λn hn t cs hx=>(f3 n hn _ hx).1 t cs rfl)
     have hcall:=ht.ow F f ds t n g ps how hf hs w (NF w0 β (zac st.heap l) w) _ (λb hb=>⟨zn5 f1.below hb,ydk f1.below hb⟩) hden
     have hrun:(execOp a.eval o).run P w=(callFunc F (vs.map (ren β)).toArray).run P w:=by
      have hargs:args.map a.eval=(vs.map (ren β)).toArray:=by
       apply Array.ext'
       rw[Array.toList_map,(zc7 m hc hvs).1]
      simp only[execOp,ho,Go.resolve,Deferred.ofValue,Act.eval,Sem.run_bind,Sem.run_pure,Result.andThen_ok,invoke,hargs]
      simp
     have hpost:∀u w',Below w.heap.size w w'->yk0 P w w' (NF w0 β (zac st.heap l) w) t n g u->Post w0 β st.slots st.heap {val:=.v (.slice (some ⟨fresh,0,some 0⟩) n 0),upd:=l++[(fresh,.own t n g)],sides:=ps} u (bump β fresh (0,λ_=>u)) w':=λu w' hb hr=>by
      obtain⟨size,xs,s1,s2,s3,s4⟩:=hr
      have hlt:=s3.lt
      have hone:zag u=true:=by
       rcases s3.2 with⟨e,_⟩|⟨_,_,_,e,_⟩<;>(rw[e];rfl)
      refine {keep:=λn c hc=>zcf λe=>by(rw[e,hfr2]at hc;cases hc),den:=?_,nm:=λq hq=>?_,mem:=?_}
      ·show _=ren _ _
       simp only[ren,ren1,ren0,renP]
       rw[zcs]
      ·simp only[names,refs,zbk,zaz,zbc,List.mem_singleton]at hq;subst hq
       refine⟨.own t n g,?_⟩
       rw[za3]
       simp only[zac];rw[zah,if_pos ⟨rfl,by rw[zba];exact hfr1⟩]
      ·dsimp only
       rw[za3]
       simp only[zac]
       refine f1.add (by rw[zba];exact hfr1) hfn (.own t n g) (0,λ_=>u) hb (λb hb'=>(hlt b hb').1) (λ_=>hone) (λt' cs' e=>by cases e) (λhN=>?_)
       refine⟨size,xs,s1,s2,⟨s3.1,s3.2.imp id λ⟨g',cap,cur,e1,e2,e3⟩=>⟨g',cap,cur,e1,Nat.le_trans f1.below.size e2,e3⟩⟩,λi hi=>⟨(s4 i hi).1,λj hj=>?_⟩⟩
       obtain⟨v,hv,hd⟩:=(s4 i hi).2 j hj
       refine⟨v,hv,hd.mono λb hx=>⟨?_,rfl⟩⟩
       rcases hx.1 with z|z
       ·exact(hN b z).1
       ·refine .inr ⟨Nat.le_trans f1.below.size z.1,z.2,λq c hq hx'=>?_⟩
        by_cases e:q=fresh
        ·subst e
         rw[zah,if_pos ⟨rfl,by rw[zba];exact hfr1⟩]at hq
         simp only[Option.some.injEq]at hq;subst hq
         rw[zcs]at hx'
         exact hx.2 hx'
        ·rw[zah,if_neg (λk=>e k.1.symm)]at hq
         rw[zcf e]at hx'
         have:=(f1.lt hq hx').2;have:=z.1;omega
     unfold Oper.wp
     rw[hrun]
     split at hcall
     ·rename_i f' az w' hr
      rw[hr]
      obtain⟨rfl,hcs⟩:=hcall
      refine hcs.mono λe w'' he=>?_
      obtain⟨u,rfl,hd,hb⟩:=he
      exact hK _ u w'' (hpost u w'' hb hd)
     ·exact hcall.elim
    ·cases h
   ·cases h
  ·cases h
 ·cases h
theorem zog{β:Env}{l:List SV}{s:SV}{u:Value}(h:Den β l s u)(hn:ym4 s=true):∃ad,u=.pointer (some ad):=by
 cases s with
 |v x=>
  cases x with
  |pointer ad=>cases ad with
   |none=>cases hn
   |some ad=>
    obtain⟨b,off,sp⟩:=ad
    cases sp with
    |none=>exact⟨_,h⟩
    |some _=>cases hn
  |_=>cases hn
 |ix n off i len size=>exact⟨_,h.1⟩
 |ex n j off size i=>obtain⟨b,o,len,cap,_,h2,_⟩:=h;exact⟨_,h2⟩
 |hp n j off=>obtain⟨b,o,_,h2⟩:=h;exact⟨_,h2⟩
 |_=>cases hn
theorem ykp(d:Nat){t e:TypeId}{ad:Addr}(h:P.underlying t=some (.pointer e)):(Op.equalIn (d+1) t (.pointer (some ad)) (.pointer none)).run P w=.ok false w:=by
 simp[Op.equalIn,run_underlying h]
theorem z5e{X:Tabs}{fresh:Nat}(m:M w0 β st a w)(hc:holds st.slots cs)(hfr:zbo X o=true->fresh<st.heap.length/\st.heap.getD fresh none=none)
  {hp:Nat->Option HE} (hhp:∀n c,hp n=some c->st.heap.getD n none=some c)
  (h:opSl P X (evS st.slots cs) hp fresh o=some r) (hs:allP r.sides) (hK:∀β' u w',Post w0 β st.slots st.heap r u β' w'->K (a.put o.dst u) w'):o.wp P a w K Q:=by
 unfold opSl at h
 split at h
 ·rename_i t x y ho
  split at h
  ·rename_i ad n c ki i size hsl hx hy hsz
   split at h
   ·rename_i sp raw ds hsp hb
    split at h
    ·rename_i k f hd
     simp only[Option.some.injEq]at h;subst h
     obtain⟨hfl,hfn⟩:=hfr (by simp[zbo,ho,hsl])
     obtain⟨hi0,hik⟩:=hs.1
     have hN:∀d,ds[ad.off]? = some d->DenC w (rdN w0 β st.heap w raw) d ((β ad.block).2 ad.off):=λd hd=>by
      unfold rdH at hb
      split at hb
      ·rename_i ds' he
       simp only[Option.some.injEq,Prod.mk.injEq]at hb
       obtain⟨rfl,rfl⟩:=hb
       exact(m.mem.ok _ _ (hhp _ _ he)) ad.off _ hd
      ·rename_i ds' he
       simp only[Option.some.injEq,Prod.mk.injEq]at hb
       obtain⟨rfl,rfl⟩:=hb
       exact(m.mem.ok _ _ (hhp _ _ he)) ad.off _ hd
      ·cases hb
     have hev:a.eval x=ren β (.slice (some ad) n c):=by
      have:=zap m hc x
      rw[hx]at this;exact this
     have hey:=zaj m hc hy
     have hr:∀q∈refs (.slice (some ad) n c),q=ad.block:=λq hq=>by
      simpa [refs,zbk,zaz,zbc]using hq
     have hden:DenC w (rdN w0 β st.heap w raw) (.row k f) (ren β (.slice (some ad) n c)):=by
      have q:DenC w (rdN w0 β st.heap w raw) (.row k f) ((β ad.block).2 ad.off):=hN _ hd
      have e:ren β (.slice (some ad) n c)=(β ad.block).2 ad.off:=by simp only[ren,ren1,ren0,renP,hsp]
      rw[e];exact q
     obtain⟨e,he,hes⟩:=Option.bind_eq_some_iff.1 hsz
     generalize ren β (.slice (some ad) n c)=v at hev hden
     have key:∃nv:Value,(execOp a.eval o).run P w=.ok (.value nv) w/\DenC w (rdN w0 β st.heap w raw) (.row i.toNat f) nv:=by
      unfold zaw at he
      split at he
      ·rename_i e' hu
       simp only[Option.some.injEq]at he;subst he
       cases hden with
       |nil _ oa cap=>
        have e0:i=0:=by omega
        subst e0
        by_cases hcap:cap=0
        ·subst hcap
         exact⟨.slice oa 0 0,by simp[execOp,ho,hev,hey,Instr.sliceAt,Instr.slice,run_underlying hu,Instr.sliceBounds,Instr.sliceBound,asIntOf,za5 hes],.nil f oa 0⟩
        ·exact⟨.slice (oa.map (·.add (0*size))) 0 cap,by simp[execOp,ho,hev,hey,Instr.sliceAt,Instr.slice,run_underlying hu,Instr.sliceBounds,Instr.sliceBound,asIntOf,za5 hes,hcap],.nil f _ cap⟩
       |row _ _ b off cap sz g hk hF hcl hd'=>
        have hlt:i<=(cap:Int):=by omega
        have hd2:∀q,DenC w (rdN w0 β st.heap w raw) (.row i.toNat f) (.slice (some ⟨b,off,none⟩) i.toNat q)->True:=λ_ _=>trivial
        refine⟨.slice (some ⟨b,off,none⟩) i.toNat cap,?_,.row i.toNat f b off cap sz g (by omega) hF (λj hj=>hcl j (by omega)) (λj q hj hq=>hd' j q (by omega) hq)⟩
        simp[execOp,ho,hev,hey,Instr.sliceAt,Instr.slice,run_underlying hu,Instr.sliceBounds,Instr.sliceBound,asIntOf,za5 hes,hi0,hlt,Addr.add]
      ·cases he
     obtain⟨nv,hrun,hdn⟩:=key
     obtain⟨β',b1,b2,b3,b4,_⟩:=zr0 m.mem (raw:=raw) (fresh:=fresh) (ds:=[.row i.toNat f]) (us:=[nv]) (λ_=>⟨hfl,hfn⟩) ⟨hdn,trivial⟩ rfl
     have hnv:nv=ren β' (.slice (some ⟨fresh,0,some 0⟩) i.toNat 0):=by
      have:=b3 0 rfl
      simp only[zb1,List.map_cons,List.map_nil,List.cons.injEq,and_true]at this
      exact this.symm
     refine zaf (u:=nv) hrun (hK β' nv w {keep:=b1,den:=hnv,nm:=λq hq=>?_,mem:=b2})
     simp only[names,refs,zbk,zaz,zbc,List.mem_singleton]at hq;subst hq
     exact b4 _ (by simp[zb1];rfl) _ (by simp[zaz,zbc])
    ·cases h
   ·cases h
  ·cases h
 ·rename_i op t x y ty ho
  split at h
  ·rename_i e hn hy hu
   simp only[Option.some.injEq]at h;subst h
   obtain⟨ad,ha⟩:=zog (zap m hc x) hn
   have hy':a.eval y=.pointer none:=by
    have:=zap m hc y
    rw[hy]at this;exact this
   refine zaf (u:=.bool false) ?_ (hK β _ w (Post.same m rfl rfl (λk hk=>by simp[names]at hk)))
   have hq:(Op.equalIn Op.maxDepth t (Value.pointer (some ad)) (Value.pointer none)).run P w=.ok false w:=ykp 9999 hu
   simp[execOp,ho,ha,hy',binOp,eqGuard,Op.equal,hq]
  ·rename_i e hn hy hu
   simp only[Option.some.injEq]at h;subst h
   obtain⟨ad,ha⟩:=zog (zap m hc x) hn
   have hy':a.eval y=.pointer none:=by
    have:=zap m hc y
    rw[hy]at this;exact this
   refine zaf (u:=.bool true) ?_ (hK β _ w (Post.same m rfl rfl (λk hk=>by simp[names]at hk)))
   have hq:(Op.equalIn Op.maxDepth t (Value.pointer (some ad)) (Value.pointer none)).run P w=.ok false w:=ykp 9999 hu
   simp[execOp,ho,ha,hy',binOp,eqGuard,Op.equal,hq]
  ·cases h
 ·cases h
end
end Go.Proofs.YtmekpbopoknigaaGreatDoor.Dyn

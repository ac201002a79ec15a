import Derived.Test.YtmekpbopoknigaaGreatDoorQJ
import Derived.Laws.BytesString
namespace Go.Proofs.YtmekpbopoknigaaGreatDoor.Dyn
open Go Go.RowKit Sym
section
variable{P:Program}{w0:Base P}{w:World}{β:Env}{st:St}{a:Act}{cs:List (Nat×Bool)}{o:Oper}{r:Res}{K:Act->World->Prop}{Q:Exit->Act->World->Prop}
theorem zrz{t e:TypeId}(h:zje P t=some e):∃k,P.underlying t=some (.map k e)/\P.underlying k=some (.int .i64):=by
 unfold zje at h
 split at h
 ·rename_i k e' hu
  split at h
  ·rename_i hk
   simp only[Option.some.injEq]at h;subst h
   exact⟨k,hu,hk⟩
  ·cases h
 ·cases h
theorem zov{N:Nat->Prop}{i:Int}:∀{es:List MapEntry} {l:List (Int×DV)} {k:Nat},ImOk w N es l->(∀v,zvt i l=some v->∃j u,Instr.findNow (.int .i64) (.int .i64 i) es k=some (some (j,u))/\DenV w N v u)/\(zvt i l=none->Instr.findNow (.int .i64) (.int .i64 i) es k=some none)
 |[],[],k,_=>⟨λv h=>(by cases h),λ_=>rfl⟩
 |[],_::_,_,h=>h.elim
 |_::_,[],_,h=>h.elim
 |e::es,x::l,k,h=>by
  obtain⟨h1,h2,h3⟩:e.key=.int .i64 x.1/\DenV w N x.2 e.val/\ImOk w N es l:=h
  have ih:=zov (i:=i) (k:=k+1) h3
  have hs:Instr.sameNow (.int .i64) (.int .i64 i) e.key=some (i==x.1):=by rw[h1];simp[Instr.sameNow]
  by_cases q:i=x.1
  ·have hb:(i==x.1)=true:=by simp[q]
   rw[hb]at hs
   refine⟨λv hv=>?_,λhn=>?_⟩
   ·simp only[zvt,decide_eq_true q,Option.some.injEq]at hv;subst hv
    exact⟨k,e.val,by simp only[Instr.findNow,hs],h2⟩
   ·simp only[zvt,decide_eq_true q]at hn;cases hn
  ·have hb:(i==x.1)=false:=by simp[q]
   rw[hb]at hs
   refine⟨λv hv=>?_,λhn=>?_⟩
   ·simp only[zvt,decide_eq_false q]at hv
    obtain⟨j,u,g1,g2⟩:=ih.1 v hv
    exact⟨j,u,by simp only[Instr.findNow,hs];exact g1,g2⟩
   ·simp only[zvt,decide_eq_false q]at hn
    simp only[Instr.findNow,hs];exact ih.2 hn
theorem ya8{k:TypeId}(h2:P.underlying k=some (.int .i64))(i:Int)(em:Bool):(Instr.checkKey em 10000 k (.int .i64 i)).run P w=.ok () w:=by
 have c:∀d,(Instr.checkKey em (d+1) k (.int .i64 i)).run P w=.ok () w:=λd=>by simp[Instr.checkKey,run_underlying h2]
 exact c 9999
theorem zxy{t e b:Nat}{i:Int}{es:Array MapEntry}{clock:Nat}{ok:Bool}(ht:zje P t=some e)(hb:w.heap[b]? = some (.map es clock)){fr:Option (Nat×Value)}(hf:Instr.findNow (.int .i64) (.int .i64 i) es.toList 0=some fr){z:Value}(hz:fr=none->(zeroValue e).run P w=.ok z w) :
  (Instr.lookup t (.map (some b)) (.int .i64 i) ok).run P w=.ok (match fr with
   |some (_,v)=>if ok then .tuple #[v,.bool true]else v
   |none=>if ok then .tuple #[z,.bool false]else z) w:=by
 obtain⟨k,h1,h2⟩:=zrz ht
 have hk:(Instr.checkKey es.isEmpty 10000 k (.int .i64 i)).run P w=.ok () w:=ya8 h2 i _
 have hfk:(Instr.findKey k (.int .i64 i) es.toList).run P w=.ok fr w:=by
  unfold Instr.findKey
  simp only[Sem.run_bind,run_underlying h2,Result.andThen_ok,hf,Sem.run_pure]
 unfold Instr.lookup
 simp only[Sem.run_bind,run_underlying h1,Result.andThen_ok,MapKept.run_getObj_map hb,Sem.run_pure,hk,hfk]
 cases fr with
 |none=>simp[hz rfl]
 |some p=>obtain⟨j,v⟩:=p;simp
theorem z68{t e b:Nat}{i:Int}{es:Array MapEntry}{clock:Nat}{v:Value}(ht:zje P t=some e)(hb:w.heap[b]? = some (.map es clock))(hf:Instr.findNow (.int .i64) (.int .i64 i) es.toList 0=some none) :
  (Instr.mapUpdate t (.map (some b)) (.int .i64 i) v).run P w=.ok () {w with heap:=w.heap.setIfInBounds b (.map (es.push {key:=.int .i64 i,val:=v,born:=clock}) (clock+1))}:=by
 obtain⟨k,h1,h2⟩:=zrz ht
 have hk:(Instr.checkKey false 10000 k (.int .i64 i)).run P w=.ok () w:=ya8 h2 i _
 have hfk:(Instr.findKey k (.int .i64 i) es.toList).run P w=.ok none w:=by
  unfold Instr.findKey
  simp only[Sem.run_bind,run_underlying h2,Result.andThen_ok,hf,Sem.run_pure]
 unfold Instr.mapUpdate
 simp[run_underlying h1,MapKept.run_getObj_map hb,hk,hfk,MapKept.run_setObj_map _ hb]
theorem ImOk.push{N:Nat->Prop}:∀{es:List MapEntry} {l:List (Int×DV)} {e:MapEntry} {x:Int×DV},ImOk w N es l->e.key=.int .i64 x.1->DenV w N x.2 e.val->ImOk w N (es++[e]) (l++[x])
 |[],[],e,x,_,h1,h2=>⟨h1,h2,trivial⟩
 |_::_,_::_,e,x,h,h1,h2=>⟨h.1,h.2.1,h.2.2.push h1 h2⟩
 |[],_::_,_,_,h,_,_=>h.elim
 |_::_,[],_,_,h,_,_=>h.elim
theorem zqv{h:List (Option HE)}{fresh:Nat}{v:DV}{u:Value}{w':World}(m:Mem w0 β h w')(hf:fresh<h.length)(hn:h.getD fresh none=none)(hd:DenV w' (NF w0 β h w') v u)(hp:pOk (zbq v)=true) :
  ∃β',(∀n c,h.getD n none=some c->β' n=β n)/\Mem w0 β' (zac h (updD fresh (zbq v))) w'/\ren β' (zc3 fresh 0 v)=u/\∀n∈refs (zc3 fresh 0 v),∃c,(zac h (updD fresh (zbq v))).getD n none=some c:=by
 obtain⟨us,d1,k⟩:=zds (r:=.val v) hd
 obtain⟨β',b1,b2,b3,b4,_⟩:=zlf m (fresh:=fresh) (λ_=>⟨hf,hn⟩) d1 hp
 obtain⟨k1,k2⟩:=k fresh β' (b3 0 rfl)
 exact⟨β',b1,b2,k1,λn hn'=>by
  obtain⟨y,y1,y2⟩:=k2 n hn'
  exact b4 y y1 n y2⟩
theorem zx8{N:Nat->Prop}{v:DV}{u:Value}(h:DenV w N v u)(fresh:Nat)(β:Env):ren1 β (zc3 fresh 0 v)=ren β (zc3 fresh 0 v)/\refs (zc3 fresh 0 v)=zbk (zc3 fresh 0 v):=by
 cases v with
 |one d=>
  cases d with
  |p x=>
   have h1:zag x=true:=by cases h;assumption
   have e:zc3 fresh 0 (.one (.p x))=x:=rfl
   rw[e]
   cases x<;>first|exact⟨rfl,rfl⟩|cases h1
  |row n f=>exact⟨rfl,rfl⟩
  |ptr cs=>exact⟨rfl,rfl⟩
 |agg ds=>exact⟨rfl,rfl⟩
theorem zq4{f:Nat->List DC}:∀{n i:Nat} {l:List Int},zne f i n=some l->l.length=n/\∀j,j<n->f (i+j)=[.p (.int .u8 (l.getD j 0))]
 |0,i,l,h=>by simp only[zne,Option.some.injEq]at h;subst h;exact⟨rfl,λj hj=>absurd hj (Nat.not_lt_zero j)⟩
 |n+1,i,l,h=>by
  simp only[zne]at h
  split at h
  ·rename_i c hfi
   split at h
   ·rename_i l' hl'
    simp only[Option.some.injEq]at h;subst h
    obtain⟨e1,e2⟩:=zq4 hl'
    refine⟨by simp[e1],λj hj=>?_⟩
    cases j with
    |zero=>rw[Nat.add_zero,hfi];rfl
    |succ j=>
     have:=e2 j (by omega)
     rw[show i+(j+1)=i+1+j by omega];simpa using this
   ·cases h
  ·cases h
theorem zle(m:M w0 β st a w)(hc:holds st.slots cs){x:Operand}{i:Int}(h:zsx (evS st.slots cs x)=some i):∃k,a.eval x=.int k i:=by
 unfold zsx at h
 split at h
 ·rename_i k j hx
  simp only[Option.some.injEq]at h;subst h
  exact⟨k,zaj m hc hx⟩
 ·cases h
theorem zn1{x:Value}{k:IntKind}{i:Int}{y:Nat}(code:BoundsCode)(hx:x=.int k i)(h:0<=i/\i<=(y:Int)):(Instr.sliceBound x y code).run P w=.ok i.toNat w:=by
 subst hx
 unfold Instr.sliceBound
 simp only[asIntOf,Sem.run_bind,Sem.run_pure,Result.andThen_ok]
 rw[if_pos h];rfl
theorem ze6{isl:Bool}(m:M w0 β st a w)(hc:holds st.slots cs){k cap:Nat}(hk:k<=cap){lo hi mx:Option Operand}{l h m0:Int}(hcut:zj4 (evS st.slots cs) k lo hi mx=some (l,h,m0))(hd:0<=l/\l<=h/\h<=m0/\m0<=(k:Int)) :
  l.toNat<=h.toNat/\h.toNat<=k/\∃q,h.toNat<=q/\q<=cap/\(mx=none->q=cap)/\(Instr.sliceBounds isl k cap (lo.map a.eval) (hi.map a.eval) (mx.map a.eval)).run P w=.ok (l.toNat,h.toNat,q) w:=by
 unfold zj4 at hcut
 split at hcut
 ·rename_i l' h' m' hl hh hm
  ·simp only[Option.some.injEq,Prod.mk.injEq]at hcut
   obtain⟨rfl,rfl,rfl⟩:=hcut
   refine⟨by omega,by omega,?_⟩
   have eh:((h'.toNat:Nat):Int)=h':=by omega
   have em:((m'.toNat:Nat):Int)=m':=by omega
   have bl:∀(code:BoundsCode) x,lo=some x->(Instr.sliceBound (a.eval x) h'.toNat code).run P w=.ok l'.toNat w:=λcode x e=>by
    subst e
    obtain⟨q,e⟩:=zle m hc hl
    exact zn1 code e (by omega)
   cases mx with
   |none=>
    simp only[Option.some.injEq]at hm
    refine⟨cap,by omega,Nat.le_refl _,λ_=>rfl,?_⟩
    cases hi with
    |none=>
     simp only[Option.some.injEq]at hh
     have hk':h'.toNat=k:=by omega
     cases lo with
     |none=>
      simp only[Option.some.injEq]at hl
      subst hl
      unfold Instr.sliceBounds
      simp[hk']
     |some x=>
      have b1:=bl .sliceB x rfl
      rw[hk']at b1
      unfold Instr.sliceBounds
      simp[hk',b1]
    |some y=>
     obtain⟨q,e⟩:=zle m hc hh
     have b2:(Instr.sliceBound (a.eval y) cap (if isl then .sliceAcap else .sliceAlen)).run P w=.ok h'.toNat w:=zn1 _ e (by omega)
     cases lo with
     |none=>
      simp only[Option.some.injEq]at hl
      subst hl
      unfold Instr.sliceBounds
      simp[b2]
     |some x=>
      have b1:=bl .sliceB x rfl
      unfold Instr.sliceBounds
      simp[b1,b2]
   |some z=>
    cases hi with
    |none=>cases hm
    |some y=>
     obtain⟨q,e⟩:=zle m hc hh
     obtain⟨q',e'⟩:=zle m hc hm
     have b3:(Instr.sliceBound (a.eval z) cap (if isl then .slice3Acap else .slice3Alen)).run P w=.ok m'.toNat w:=zn1 _ e' (by omega)
     have b2:(Instr.sliceBound (a.eval y) m'.toNat .slice3B).run P w=.ok h'.toNat w:=zn1 _ e (by omega)
     refine⟨m'.toNat,by omega,by omega,(λe=>by cases e),?_⟩
     cases lo with
     |none=>
      simp only[Option.some.injEq]at hl
      subst hl
      unfold Instr.sliceBounds
      simp[b2,b3]
     |some x=>
      have b1:=bl .slice3C x rfl
      unfold Instr.sliceBounds
      simp[b1,b2,b3]
 ·cases hcut
theorem zgq{t e:TypeId}{x:Operand}{lo hi mx:Option Operand}{size l h k cap q:Nat}{ad:Option Addr}(ho:o.op=.slice t x lo hi mx)(he:zaw P t=some e)(hs:zbh P e=some size)(hx:a.eval x=.slice ad k cap)
  (hb:(Instr.sliceBounds true k cap (lo.map a.eval) (hi.map a.eval) (mx.map a.eval)).run P w=.ok (l,h,q) w):(execOp a.eval o).run P w=.ok (.value (.slice (if q=l then ad else ad.map (·.add (l*size))) (h-l) (q-l))) w:=by
 unfold zaw at he
 split at he
 ·rename_i e' hu
  simp only[Option.some.injEq]at he;subst he
  simp only[execOp,ho,hx,Instr.sliceAt,Instr.slice,Sem.run_bind,run_underlying hu,Sem.run_pure,Result.andThen_ok,hb,za5 hs]
 ·cases he
theorem ztt{X:Tabs}{fresh:Nat}(m:M w0 β st a w)(hc:holds st.slots cs)(hfr:zbo X o=true->fresh<st.heap.length/\st.heap.getD fresh none=none)
  {hp:Nat->Option HE} (hhp:∀n c,hp n=some c->st.heap.getD n none=some c)
  (h:opCl P X (evS st.slots cs) hp fresh o=some r) (hs:allP r.sides) (hK:∀β' u w',Post w0 β st.slots st.heap r u β' w'->K (a.put o.dst u) w'):o.wp P a w K Q:=by
 have hhp':∀n c,hp n=some c->c=.gone\/st.heap.getD n none=some c:=λn c h=>.inr (hhp n c h)
 have hhq:∀n c,zi6 hp n=some c->c=.gone\/st.heap.getD n none=some c:=λn c h=>.inr (hhp n c (zk8 h))
 unfold opCl at h
 split at h
 ·cases h
 ·rename_i hcl
  split at h
  ·
   rename_i t ho
   obtain⟨hf,hn⟩:=hfr (by simp[zbo,ho])
   split at h
   ·simp only[Option.some.injEq]at h;subst h
    refine zaf (u:=.map (some w.heap.size)) ?_ (hK (bump β fresh (w.heap.size,λ_=>.bool false)) _ (push w (.map #[] 0)) ⟨λn c hc=>zcf λe=>?_,?_,λn hn'=>?_,?_⟩)
    ·simp only[execOp,ho,Instr.makeMap,Option.map_none,Sem.run_bind,Sem.run_pure,Result.andThen_ok,run_newObj]
     rfl
    ·rw[e,hn]at hc;cases hc
    ·show _=ren _ _
     simp only[ren,ren1,ren0,renP]
     rw[zcs]
    ·simp only[names,refs,zbk,zaz,zbc,List.mem_singleton]at hn';subst hn'
     exact⟨.im [],by simp only[zac];rw[zah,if_pos ⟨rfl,hf⟩]⟩
    ·simp only[zac]
     exact m.mem.newIm hf hn 0
   ·cases h
  ·
   rename_i t mo k ok ho
   obtain⟨hf,hn⟩:=hfr (by simp[zbo,ho,hcl])
   split at h
   ·rename_i n i e hm hk hmap
    have hd:=zap m hc mo
    rw[hm]at hd
    have hmo:a.eval mo=.map (some (β n).1):=hd
    have hke:=zaj m hc hk
    split at h
    ·rename_i l hl
     obtain⟨⟨es,clock,hb,hes⟩,_⟩:=m.mem.ok n _ (hhp _ _ hl)
     obtain⟨f1,f2⟩:=zov (i:=i) (k:=0) hes
     split at h
     ·rename_i v hv
      split at h
      ·rename_i hpo
       simp only[Option.some.injEq]at h;subst h
       obtain⟨j,u,g1,g2⟩:=f1 v hv
       have hrun:=zxy (P:=P) (w:=w) (ok:=ok) (z:=undef) hmap hb g1 (λe=>by cases e)
       obtain⟨β',b1,b2,b3,b4⟩:=zqv m.mem hf hn g2 hpo
       refine zaf (u:=if ok then .tuple #[u,.bool true]else u) ?_ (hK β' _ w ⟨b1,?_,λq hq=>?_,b2⟩)
       ·simp only[execOp,ho,hmo,hke,Sem.run_bind,hrun,Result.andThen_ok,Sem.run_pure]
       ·cases ok with
        |false=>show u=ren β' _;exact b3.symm
        |true=>
         show Value.tuple #[u,.bool true]=ren β' (.tuple #[zc3 fresh 0 v,.bool true])
         have hnt:ren1 β' (zc3 fresh 0 v)=u:=by
          rw[←b3];exact(zx8 g2 fresh β').1
         simp only[ren,List.map_cons,List.map_nil,hnt]
         rfl
       ·cases ok with
        |false=>exact b4 q hq
        |true=>
         have hq':q∈zdt zbk [zc3 fresh 0 v,.bool true]:=hq
         simp only[zdt,List.mem_append]at hq'
         rcases hq' with k|k|k
         ·refine b4 q ?_
          rw[(zx8 g2 fresh β').2];exact k
         ·cases k
         ·cases k
      ·cases h
     ·rename_i hnone
      split at h
      ·rename_i z hz
       split at h
       ·rename_i hfl2
        simp only[Bool.and_eq_true]at hfl2
        obtain⟨hfl,hnt⟩:=hfl2
        simp only[Option.some.injEq]at h;subst h
        have hrun:=zxy (P:=P) (w:=w) (ok:=ok) (z:=z) hmap hb (f2 hnone) (λ_=>ze8 hz)
        refine zaf (u:=if ok then .tuple #[z,.bool false]else z) ?_ (hK β _ w ?_)
        ·simp only[execOp,ho,hmo,hke,Sem.run_bind,hrun,Result.andThen_ok,Sem.run_pure]
        ·have hz1:ren1 β z=z:=zrb hfl
         refine Post.same m rfl ?_ (λq hq=>?_)
         ·cases ok with
          |false=>
           show z=ren β z
           cases z<;>first|exact hz1.symm|cases hnt
          |true=>
           show Value.tuple #[z,.bool false]=ren β (.tuple #[z,.bool false])
           simp only[ren,List.map_cons,List.map_nil,hz1]
           rfl
         ·cases ok with
          |false=>
           have hq':q∈refs z:=hq
           have:refs z=[]:=by
            have e1:=zk4 hfl
            cases z<;>first|exact e1|cases hnt
           rw[this]at hq';cases hq'
          |true=>
           have hq':q∈zdt zbk [z,.bool false]:=hq
           simp only[zdt,List.mem_append]at hq'
           rcases hq' with k|k|k
           ·rw[zk4 hfl]at k;cases k
           ·cases k
           ·cases k
       ·cases h
      ·cases h
    ·cases h
   ·cases h
  ·
   rename_i t mo k x ho
   split at h
   ·rename_i n i u e hm hk hx hmap
    have hd:=zap m hc mo
    rw[hm]at hd
    have hmo:a.eval mo=.map (some (β n).1):=hd
    have hke:=zaj m hc hk
    have hxe:a.eval x=ren β u:=zoi (zap m hc x) hx
    split at h
    ·rename_i l hl
     split at h
     ·rename_i v fz hnone hv hfz
      simp only[Option.some.injEq]at h;subst h
      have hn:=hhp _ _ hl
      obtain⟨⟨es,clock,hb,hes⟩,hown⟩:=m.mem.ok n _ hn
      obtain⟨_,f2⟩:=zov (i:=i) (k:=0) hes
      have hrun:=z68 (P:=P) (w:=w) (v:=ren β u) hmap hb (f2 hnone)
      obtain⟨g1,g2,g3,g4⟩:=zer (refs u) m.mem hhp' hfz
      have hlt:(β n).1<w.heap.size:=(m.mem.lt hn (b:=(β n).1) rfl).2
      have hn':(zac st.heap fz).getD n none=some (.im l):=by
       rw[zdr fz _ λc hc=>by
        obtain⟨_,⟨t',k',f',h3⟩,_⟩:=g4 n c hc
        rw[hn]at h3;cases h3]
       exact hn
      have hden:=zm7 (F:=NF w0 β (zac st.heap fz) w) m.mem hhq (.inl λ_ _=>zgy) g2 hv (λq hq t k f hhe b hb=>(g3 q hq _ hhe).2 b hb) (.inl λq hq t cs hx=>(g3 q hq _ hx).1 t cs rfl)
      have hes2:=(g1.ok n _ hn').1
      refine ziz (w':={w with heap:=w.heap.setIfInBounds (β n).1 (.map (es.push {key:=.int .i64 i,val:=ren β u,born:=clock}) (clock+1))}) ?_ (hK β _ _ ⟨λ_ _ _=>rfl,rfl,λz hz=>(by cases hz),?_⟩)
      ·simp only[execOp,ho,hmo,hke,hxe,Sem.run_bind,hrun,Result.andThen_ok,Sem.run_pure]
      ·dsimp only
       rw[za3]
       simp only[zac]
       have hat:({w with heap:=w.heap.setIfInBounds (β n).1 (.map (es.push {key:=.int .i64 i,val:=ren β u,born:=clock}) (clock+1))}:World).heap[(β n).1]? = some (.map (es.push {key:=.int .i64 i,val:=ren β u,born:=clock}) (clock+1)):=by
        show(w.heap.setIfInBounds (β n).1 _)[(β n).1]? = _
        rw[Array.getElem?_setIfInBounds,if_pos rfl,if_pos hlt]
       refine g1.putIm hn' (λhNF=>?_) hat (λz hz=>?_) (by simp) rfl rfl rfl
       ·rw[Array.toList_push]
        obtain⟨es',clock',hb',hes'⟩:=hes2
        have:es'=es:=by
         have:=hb'.symm.trans hb
         simp only[Option.some.injEq,Obj.map.injEq]at this
         exact this.1
        subst this
        exact(hes'.mono hNF).push rfl (hden.mono hNF)
       ·show(w.heap.setIfInBounds (β n).1 _)[z]? = _
        rw[Array.getElem?_setIfInBounds,if_neg (λe=>hz e.symm)]
     ·cases h
    ·cases h
   ·cases h
  ·
   rename_i s d x ho
   split at h
   ·rename_i ad n0 c0 e hx hs' hdst
    split at h
    ·rename_i sp k f hsp hrow he
     have conv:∀(l:List Int),l.length=k->(∀j,j<k->f j=[.p (.int .u8 (l.getD j 0))])->(execOp a.eval o).run P w=.ok (.value (.string (yl9 l))) w:=λl hlen hel2=>by
      have hd:=zap m hc x
      rw[hx]at hd
      have hev:a.eval x=(β ad.block).2 ad.off:=by
       have:a.eval x=ren β _:=hd
       rw[this];simp only[ren,ren1,ren0,renP,hsp]
      have hrow':zl9 hp ad.block ad.off=some (k,f)/\zps hp ad.block=false:=by
       unfold zl9 zi6 at hrow
       unfold zl9 zps
       cases hq:hp ad.block with
       |none=>rw[hq]at hrow;cases hrow
       |some he=>rw[hq]at hrow;cases he<;>first|exact⟨hrow,rfl⟩|cases hrow
      have hsl:P.underlying s=some (.slice e):=by
       unfold zaw at hs'
       split at hs'
       ·rename_i e' hu
        simp only[Option.some.injEq]at hs';subst hs';exact hu
       ·cases hs'
      rcases zk3 m.mem hhp hrow'.1 with⟨⟨oa,cap,hv⟩,hz⟩|⟨b',q',cap,size,hv,hel⟩
      ·subst hz
       have hl0:l=[]:=List.length_eq_zero_iff.1 hlen
       subst hl0
       simp only[execOp,ho,hev,hv,Sem.run_bind,run_convert_bytes_string w s d e oa 0 cap hsl he hdst]
       cases oa with
       |none=>rfl
       |some ad'=>
        have hr:=run_bytesToString (P:=P) w ad' 0 cap [] (by simp[loadCells,loadCellsFrom])
        rw[hr];rfl
      ·have hc1:∀j,j<k->w.cell? ⟨b',q'+j,none⟩=some (.int .u8 (l.getD j 0)):=λj hj=>by
        obtain⟨h1,us,d1,d2⟩:=hel j hj
        have hsz:size=1:=by rw[hel2 j hj]at h1;simpa using h1.symm
        subst hsz
        rw[hel2 j hj]at d1
        match us,d1 with
        |[u],d1=>
         have hu:u=.int .u8 (l.getD j 0):=by have:=d1.1;cases this;rfl
         have:=d2 0 u rfl
         rw[hu]at this
         simpa using this
       have hr:=run_bytesToString (P:=P) w ⟨b',q',none⟩ k cap l (by
        have:=run_loadCells (P:=P) (w:=w) ⟨b',q',none⟩ k (λj=>.int .u8 (l.getD j 0)) (λj hj=>by
         rw[show(⟨b',q',none⟩:Addr).add j=⟨b',q'+j,none⟩by simp[Addr.add]]
         exact hc1 j hj)
        rw[this]
        congr 1
        apply Array.ext'
        rw[List.toList_toArray]
        apply List.ext_getElem?
        intro j
        simp only[Array.toList_map,Array.toList_range,List.getElem?_map,List.getElem?_range]
        by_cases hj:j<k
        ·simp[hj,hlen,List.getD_eq_getElem?_getD]
        ·simp[hj,hlen])
       simp only[execOp,ho,hev,hv,Sem.run_bind,run_convert_bytes_string w s d e _ k cap hsl he hdst,hr,Result.andThen_ok,Sem.run_pure]
       rfl
     split at h
     ·split at h
      ·rename_i l hl
       simp only[Option.some.injEq]at h;subst h
       obtain⟨r1,r2⟩:=zq4 hl
       exact zaf (conv l r1 λj hj=>by have:=r2 j hj;rwa [Nat.zero_add]at this) (hK β _ w (Post.same m rfl rfl (λq hq=>by simp[names]at hq)))
      ·cases h
     ·simp only[Option.some.injEq]at h;subst h
      refine zaf (conv ((List.range k).map λi=>z39 (f i)) (by simp) λj hj=>?_) (hK β _ w (Post.same m rfl rfl (λq hq=>by simp[names,refs,zbk,zaz,zbc]at hq)))
      have:=hs.1 j hj
      rw[this]
      simp[List.getD_eq_getElem?_getD,hj,←this]
    ·cases h
   ·cases h
  ·
   rename_i t x y ho
   split at h
   ·rename_i s ki i hx hy hu
    simp only[Option.some.injEq]at h;subst h
    have hbd:=zhi hs
    have hb:∃b,s[i.toNat]? = some b:=by
     have:i.toNat<s.size:=by omega
     exact⟨s[i.toNat],by simp[this]⟩
    obtain⟨b,hb⟩:=hb
    have hbo:zhb s i=(b.toNat:Int):=by unfold zhb;rw[hb]
    refine zaf (u:=.int .u8 (zhb s i)) ?_ (hK β _ w (Post.same m rfl rfl (λq hq=>by simp[names,refs,zbk,zaz,zbc]at hq)))
    rw[hbo]
    simp only[execOp,ho,zaj m hc hx,zaj m hc hy,Instr.index,asIntOf,Sem.run_bind,Sem.run_pure,Result.andThen_ok,run_underlying hu]
    rw[if_pos hbd.1,hb]
    rfl
   ·cases h
  ·
   rename_i t x lo hi mx ho
   obtain⟨hf,hn⟩:=hfr (by simp[zbo,ho,hcl])
   split at h
   ·
    rename_i hu
    split at h
    ·rename_i s hx
     split at h
     ·rename_i l h' m0 hcut
      simp only[Option.some.injEq]at h;subst h
      have hbd:=zhi hs
      obtain⟨h1,h2,q,_,_,_,hrun⟩:=ze6 (P:=P) (w:=w) (isl:=false) m hc (Nat.le_refl _) hcut (by
       unfold zj4 at hcut
       split at hcut
       ·rename_i hm
        simp only[Option.some.injEq,Prod.mk.injEq]at hcut hm
        omega
       ·cases hcut)
      refine zaf (u:=.string (s.extract l.toNat h'.toNat)) ?_ (hK β _ w (Post.same m rfl rfl (λq hq=>by simp[names,refs,zbk,zaz,zbc]at hq)))
      simp only[Option.map_none]at hrun
      simp only[execOp,ho,zaj m hc hx,Instr.sliceAt,Instr.slice,Sem.run_bind,run_underlying hu,Sem.run_pure,Result.andThen_ok,Option.map_none,Option.isSome_none,Bool.false_eq_true,if_false,hrun]
     ·cases h
    ·cases h
   split at h
   ·rename_i ad n0 c0 e hx he
    split at h
    ·rename_i sp size hsp hsz
     have hd:=zap m hc x
     rw[hx]at hd
     have hev:a.eval x=(β ad.block).2 ad.off:=by
      have:a.eval x=ren β _:=hd
      rw[this];simp only[ren,ren1,ren0,renP,hsp]
     split at h
     ·rename_i t' k f hown
      split at h
      ·rename_i l0 hI m0 hoff hcut
       simp only[Option.some.injEq]at h;subst h
       have hbd:=zhi hs
       generalize hh':hI.toNat=h' at *
       have hN:=hhp _ _ hown
       obtain⟨sz,xs,s1,s2,s3,s4⟩:=m.mem.ok _ _ hN
       rw[hoff]at hev
       have fin:∀(v':Value),zag v'=true->v'.ownBlock=((β ad.block).2 0).ownBlock->(execOp a.eval o).run P w=.ok (.value v') w->h'<=k->w.ownsRow w0.w.heap.size t' sz v' h' (xs.take (h'*sz))->o.wp P a w K Q:=λv' hv1 hv2 hrun hle hrow=>by
        refine zaf hrun (hK (bump β fresh (0,λ_=>v')) v' w ⟨λq c hc=>zcf λe=>(by rw[e,hn]at hc;cases hc),?_,λq hq=>?_,?_⟩)
        ·show _=ren _ _
         simp only[ren,ren1,ren0,renP]
         rw[zcs]
        ·simp only[names,refs,zbk,zaz,zbc,List.mem_singleton]at hq;subst hq
         refine⟨.own t' h' f,?_⟩
         show(zac st.heap ([(ad.block,HE.gone)]++[(_,.own t' h' f)])).getD _ none=_
         rw[za3]
         simp only[zac]
         rw[zah,if_pos ⟨rfl,by simpa using hf⟩]
        ·refine zui (old:=[(ad.block,.gone)]) m.mem hf hn (.inr ⟨ad.block,t',k,f,rfl,hN,rfl⟩) hv1 (.inl hv2) ⟨rfl,rfl,rfl,Nat.le_refl _,λ_ _ _=>rfl⟩ (λhNF=>⟨sz,_,s1,s2,hrow,λi hi=>⟨(s4 i (by omega)).1,λj hj=>?_⟩⟩)
         obtain⟨v,v1,v2⟩:=(s4 i (by omega)).2 j hj
         refine⟨v,?_,v2.mono hNF⟩
         have hb:i*sz+j<h'*sz:=by
          have:(i+1)*sz<=h'*sz:=Nat.mul_le_mul_right _ hi
          rw[Nat.add_mul,Nat.one_mul]at this;omega
         rw[List.getElem?_take,if_pos hb];exact v1
       rcases s3.2 with⟨hv,hk0⟩|⟨g,cap,cur,hv,hg,hcur,hle,hcap,hsz',htake⟩
       ·subst hk0
        obtain⟨hl1,hh,q,_,hq2,hq3,hrun⟩:=ze6 (P:=P) (w:=w) (isl:=true) m hc (Nat.le_refl 0) hcut hbd
        rw[hh']at hh hrun hl1
        have hl00:l0.toNat=0:=by omega
        rw[hl00]at hrun
        have h0:h'=0:=by omega
        subst h0
        have hr:=zgq ho he hsz (hev.trans hv) hrun
        have hq0:q=0:=hq3 rfl
        subst hq0
        refine fin (.slice none 0 0) rfl (by rw[hv]) hr (Nat.le_refl _) ⟨by simp,.inl ⟨rfl,rfl⟩⟩
       ·obtain⟨_,hh,q,_,hq2,hq3,hrun⟩:=ze6 (P:=P) (w:=w) (isl:=true) m hc hle hcut hbd
        rw[hh']at hh hrun
        have hl00:l0.toNat=0:=by
         unfold zj4 at hcut
         split at hcut
         ·rename_i hl _ _
          simp only[Option.some.injEq,Prod.mk.injEq]at hcut hl
          omega
         ·cases hcut
        rw[hl00]at hrun
        have hr:=zgq ho he hsz (hev.trans hv) hrun
        have hq0:q=cap:=hq3 rfl
        subst hq0
        have e1:(Value.slice (if q=0 then some (⟨g,0,none⟩:Addr)else(some (⟨g,0,none⟩:Addr)).map (·.add (0*size))) (h'-0) (q-0))=.slice (some ⟨g,0,none⟩) h' q:=by
         split
         ·rfl
         ·simp[Addr.add]
        rw[e1]at hr
        refine fin _ rfl (by rw[hv];rfl) hr hh ⟨?_,.inr ⟨g,q,cur,rfl,hg,hcur,by omega,hcap,hsz',?_⟩⟩
        ·rw[List.length_take,s3.1]
         have:h'*sz<=k*sz:=Nat.mul_le_mul_right _ hh
         omega
        ·rw[←htake,List.take_take]
         have:h'*sz<=k*sz:=Nat.mul_le_mul_right _ hh
         rw[Nat.min_eq_left this]
      ·rename_i l0 hI m0 lo' hoff hcut
       split at h
       ·rename_i hdec
        have hdec:=of_decide_eq_true hdec
        simp only[Option.some.injEq]at h;subst h
        have hbd:=zhi hs
        have hN:=hhp _ _ hown
        obtain⟨sz,xs,s1,s2,s3,s4⟩:=m.mem.ok _ _ hN
        rw[hoff]at hev
        have fin:∀(v':Value),(execOp a.eval o).run P w=.ok (.value v') w->DenC w (NF w0 β st.heap w) (.row 0 λ_=>[]) v'->o.wp P a w K Q:=λv' hrun hd=>by
         obtain⟨β',b1,b2,b3,b4⟩:=zqv (v:=.one (.row 0 λ_=>[])) m.mem hf hn hd rfl
         refine zaf hrun (hK β' v' w ⟨b1,b3.symm,b4,b2⟩)
        rcases s3.2 with⟨hv,hk0⟩|⟨g,cap,cur,hv,hg,hcur,hle,hcap,hsz',htake⟩
        ·subst hk0
         obtain⟨hl1,hh,q,_,hq2,hq3,hrun⟩:=ze6 (P:=P) (w:=w) (isl:=true) m hc (Nat.le_refl 0) hcut hbd
         have hr:=zgq ho he hsz (hev.trans hv) hrun
         rw[show hI.toNat-l0.toNat=0 by omega]at hr
         exact fin _ hr (.nil _ _ _)
        ·obtain⟨_,hh,q,_,hq2,hq3,hrun⟩:=ze6 (P:=P) (w:=w) (isl:=true) m hc hle hcut hbd
         have hr:=zgq ho he hsz (hev.trans hv) hrun
         rw[show hI.toNat-l0.toNat=0 by omega]at hr
         exact fin _ hr (.nil _ _ _)
       ·cases h
      ·cases h
     ·rename_i ds hdeep
      split at h
      ·rename_i k f hdk
       split at h
       ·rename_i lI hI m0 hcut
        split at h
        ·rename_i hsize
         have hsize:=of_decide_eq_true hsize
         simp only[Option.some.injEq]at h;subst h
         have hbd:=zhi hs
         generalize hh':hI.toNat=h' at *
         generalize hl':lI.toNat=l at *
         have hden:DenC w (NF w0 β st.heap w) (.row k f) ((β ad.block).2 ad.off):=(m.mem.ok _ _ (hhp _ _ hdeep)) ad.off _ hdk
         have fin:∀(v':Value),(execOp a.eval o).run P w=.ok (.value v') w->DenC w (NF w0 β st.heap w) (.row (h'-l) λi=>f (i+l)) v'->o.wp P a w K Q:=λv' hrun hd=>by
          obtain⟨β',b1,b2,b3,b4⟩:=zqv (v:=.one (.row (h'-l) λi=>f (i+l))) m.mem hf hn hd rfl
          refine zaf hrun (hK β' v' w ⟨b1,b3.symm,b4,b2⟩)
         generalize (β ad.block).2 ad.off=v at hev hden
         cases hden with
         |nil _ oa cap=>
          obtain⟨h1,h2,q,_,_,_,hrun⟩:=ze6 (P:=P) (w:=w) (isl:=true) m hc (Nat.zero_le cap) hcut hbd
          rw[hh',hl']at h1 hrun
          rw[hh']at h2
          have hr:=zgq ho he hsz hev hrun
          have h0:h'-l=0:=by omega
          rw[h0]at hr fin
          exact fin _ hr (.nil _ _ _)
         |row _ _ b off cap sz g hk hF hcl hd'=>
          obtain⟨h1,h2,q,h3,_,_,hrun⟩:=ze6 (P:=P) (w:=w) (isl:=true) m hc hk hcut hbd
          rw[hh',hl']at h1 hrun
          rw[hh']at h2 h3
          have hr:=zgq ho he hsz hev hrun
          by_cases hz:h'-l=0
          ·rw[hz]at hr fin
           exact fin _ hr (.nil _ _ _)
          ·have hql:¬q=l:=by omega
           rw[if_neg hql]at hr
           have hk0:0<k:=by omega
           have hss:sz=size:=by
            have:=(hcl 0 hk0).1
            rcases hsize with z|z<;>omega
           subst hss
           refine fin _ hr ?_
           have e1:(Option.map (λx:Addr=>x.add (l*sz)) (some (⟨b,off,none⟩:Addr)))=some ⟨b,off+l*sz,none⟩:=by simp[Addr.add]
           rw[e1]
           refine .row (h'-l) _ b (off+l*sz) (q-l) sz (λi j=>g (i+l) j) (by omega) hF (λi hi=>⟨(hcl (i+l) (by omega)).1,λj hj=>?_⟩) (λi j hi hj=>hd' (i+l) j (by omega) hj)
           have:=(hcl (i+l) (by omega)).2 j hj
           rw[show off+l*sz+i*sz+j=off+(i+l)*sz+j by rw[Nat.add_mul];omega]
           exact this
        ·cases h
       ·cases h
      ·cases h
     ·cases h
    ·cases h
   ·cases h
  ·
   rename_i t x y ho
   obtain⟨hf,hn⟩:=hfr (by simp[zbo,ho])
   split at h
   ·rename_i e ki i kj j he hx hy _
    split at h
    ·rename_i size b z hsz hb hz
     split at h
     ·rename_i hdec hfl
      simp only[Option.some.injEq]at h;subst h
      obtain⟨h1,h2,h3,h4,h5⟩:=of_decide_eq_true hdec
      simp only[Bool.and_eq_true]at hfl
      refine zlv (ds:=z.cells.toList.map .p) m hc hf hn ho he hx hy hsz hb hz h1 ?_ (by simp[h1]) ⟨h2,h3,h4,h5⟩ (λβ' u w' sides hp=>hK β' u w' ⟨hp.keep,hp.den,hp.nm,hp.mem⟩)
      have:∀(l:List Value),(∀v∈l,zag v=true)->DenL w (NF w0 β st.heap w) (l.map .p) l:=by
       intro l
       induction l with
       |nil=>intro _;trivial
       |cons v l ih=>intro hv;exact⟨.p v (hv v (by simp)),ih λy hy=>hv y (by simp[hy])⟩
      exact this _ (λv hv=>List.all_eq_true.1 hfl.2 v hv)
     ·cases h
    ·cases h
   ·cases h
  ·cases h
theorem z0l{t size b:Nat}{x y:Operand}{e:TypeId}{ki kj:IntKind}(m:M w0 β st a w)(hc:holds st.slots cs)(ho:o.op=.makeSlice t x y)
  (he:zaw P t=some e) (hx:plain (evS st.slots cs x)=some (.int ki 1)) (hy:plain (evS st.slots cs y)=some (.int kj 1)) (hs:zbh P e=some (size+1)) (hb:zjy P e=some b) {z:Value} (hzz:(P.info? e).bind (·.zero)=some z) (hzl:z.cells.size=size+1)
  (h3:(b:Int)*1<=281474976710656):(execOp a.eval o).run P w=.ok (.value (.slice (some ⟨w.heap.size,0,none⟩) 1 1)) (push w (.cells z.cells e)):=by
 have hx':=zaj m hc hx
 have hy':=zaj m hc hy
 unfold zaw at he
 split at he
 ·rename_i e' hu
  simp only[Option.some.injEq]at he;subst he
  have hinfo:∃inf,P.info? e'=some inf/\inf.bytes=b:=by
   unfold zjy at hb
   cases hi:P.info? e' with
   |none=>rw[hi]at hb;cases hb
   |some inf=>rw[hi]at hb;exact⟨inf,rfl,by simpa using hb⟩
  obtain⟨inf,hi1,hi2⟩:=hinfo
  have w1:IntKind.i64.wrap 1=1:=by decide
  have t1:(decide ((1:Int)<0)||decide ((b:Int)*1>2 ^ 48))=false:=by
   rw[decide_eq_false (by omega),decide_eq_false (by
                             have:(2:Int) ^ 48=281474976710656:=by decide
                             omega)];rfl
  have cond:((decide ((1:Int)<0)||decide ((b:Int)*1>2 ^ 48))||decide ((1:Int)<0)||decide ((1:Int)>1))=false:=by
   rw[t1];decide
  have hcells:(Array.range (1*(size+1))).map (z.cells[· % z.cells.size]!)=z.cells:=by
   apply Array.ext
   ·simp[hzl]
   ·intro q h1 h2
    simp only[Array.getElem_map,Array.getElem_range,hzl]
    have hq:q<size+1:=by simpa using h1
    rw[Nat.mod_eq_of_lt hq,getElem!_pos z.cells q h2]
  simp only[execOp,ho,hx',hy',Instr.makeSlice,Sem.run_bind,underlying,run_program,hu,Sem.run_pure,Result.andThen_ok,asInt,asIntOf,typeInfo,hi1,hi2,w1,cond,Bool.false_eq_true,if_false,run_askRoom,za5 hs]
  have e1:Int.toNat 1=1:=rfl
  rw[e1]
  have hj0:¬(1*(size+1)=0):=by omega
  rw[if_neg hj0]
  simp only[Sem.run_pure,Result.andThen_ok,newRow,run_newObj,Sem.run_bind,ze8 hzz]
  rw[hcells]
  rfl
 ·cases he
theorem zts{X:Tabs}{fresh:Nat}(m:M w0 β st a w)(hc:holds st.slots cs)(hfr:zbo X o=true->fresh<st.heap.length/\st.heap.getD fresh none=none)
  (h:opCs P X (evS st.slots cs) fresh o=some r) (hs:allP r.sides) (hK:∀β' u w',Post w0 β st.slots st.heap r u β' w'->K (a.put o.dst u) w'):o.wp P a w K Q:=by
 unfold opCs at h
 split at h
 ·cases h
 ·split at h
  ·rename_i t x y ho
   obtain⟨hf,hn⟩:=hfr (by simp[zbo,ho])
   split at h
   ·rename_i e ki i kj j he hx hy
    split at h
    ·rename_i size b z hsz hb hz
     split at h
     ·rename_i hdec hfl
      simp only[Option.some.injEq]at h;subst h
      obtain⟨h1,rfl,rfl,h5⟩:=of_decide_eq_true hdec
      have hpost:=zi7 (w:=w) m hf hn e z.cells.toList λv hv k hk=>by rw[zb8 (za4.1 hfl v hv)]at hk;cases hk
      refine zaf (z0l m hc ho he hx hy hsz hb hz h1 h5) (hK (bump β fresh (w.heap.size,λ_=>.bool false)) _ _ ⟨hpost.keep,?_,λq hq=>?_,?_⟩)
      ·show _=ren _ _
       simp only[ren,ren1,ren0,renP]
       rw[zcs]
      ·simp only[names,refs,zbk,zaz,zbc,List.mem_singleton]at hq;subst hq
       exact⟨.cells e z.cells.toList,by simp only[zac];rw[zah,if_pos ⟨rfl,hf⟩]⟩
      ·have:=hpost.mem
       rw[zbi λy hy=>zbn (za4.1 hfl y hy),Array.toArray_toList]at this
       exact this
     ·cases h
    ·cases h
   ·cases h
  ·rename_i t x y ho
   split at h
   ·rename_i ad n c ki i e hx hy he
    split at h
    ·rename_i size hsp hsz hdec
     simp only[Option.some.injEq]at h;subst h
     have hi:=of_decide_eq_true hdec
     have hd:=zap m hc x
     have hnm:=λq=>zbt (cs:=cs) m (x:=x) (n:=q)
     rw[hx]at hd hnm
     obtain⟨b,q,sp⟩:=ad
     dsimp only at hsp
     subst hsp
     have hx':a.eval x=.slice (some ⟨(β b).1,q,none⟩) n c:=hd
     refine zaf (zot ho hx' (zaj m hc hy) he hsz hi.1 hi.2) (hK β _ w (Post.same m rfl rfl (λz hz=>?_)))
     simp only[names,refs,zbk,zaz,zbc,List.mem_singleton]at hz;subst hz
     exact hnm _ (by simp[names,refs,zbk,zaz,zbc])
    ·cases h
   ·cases h
  ·rename_i t x lo hi ho
   split at h
   ·rename_i ad n c e hx he
    split at h
    ·rename_i size l h' m0 hsp hsz hcut
     split at h
     ·rename_i hdec
      simp only[Option.some.injEq]at h;subst h
      obtain⟨h1,h2,h3,h4⟩:=of_decide_eq_true hdec
      have hd:=zap m hc x
      have hnm:=λq=>zbt (cs:=cs) m (x:=x) (n:=q)
      rw[hx]at hd hnm
      obtain⟨b,q,sp⟩:=ad
      dsimp only at hsp
      subst hsp
      have hx':a.eval x=.slice (some ⟨(β b).1,q,none⟩) n c:=hd
      have hnc:n<=c:=by omega
      have hm0:m0=(n:Int):=by
       have hcut':=hcut
       unfold zj4 at hcut'
       split at hcut'
       ·rename_i a1 a2 a3
        simp only[Option.some.injEq,Prod.mk.injEq]at hcut' a3
        omega
       ·cases hcut'
      have hbd:0<=l/\l<=h'/\h'<=m0/\m0<=(n:Int):=⟨h2,by omega,by omega,by omega⟩
      obtain⟨b1,b2,q0,b3,b4,b5,hrun⟩:=ze6 (P:=P) (w:=w) (isl:=true) m hc hnc hcut hbd
      have hr:=zgq ho he hsz hx' hrun
      have hq0:q0=c:=b5 rfl
      subst hq0
      have e1:l.toNat=q0:=by omega
      have e2:h'.toNat=q0:=by omega
      rw[e1,e2]at hr
      simp only[if_true,Nat.sub_self]at hr
      refine zaf hr (hK β _ w (Post.same m rfl rfl (λz hz=>?_)))
      simp only[names,refs,zbk,zaz,zbc,List.mem_singleton]at hz;subst hz
      exact hnm _ (by simp[names,refs,zbk,zaz,zbc])
     ·cases h
    ·cases h
   ·cases h
  ·rename_i args ts ho
   split at h
   ·rename_i x t ha hat
    split at h
    ·rename_i ad n c e hx he
     split at h
     ·rename_i hsp
      simp only[Option.some.injEq]at h;subst h
      have hd:=zap m hc x
      rw[hx]at hd
      obtain⟨b,q,sp⟩:=ad
      dsimp only at hsp
      subst hsp
      have hx':a.eval x=.slice (some ⟨(β b).1,q,none⟩) n c:=hd
      have e1:args = #[x]:=by apply Array.ext';rw[ha]
      have e2:ts = #[t]:=by apply Array.ext';rw[hat]
      subst e1;subst e2
      unfold zaw at he
      split at he
      ·rename_i e' hu
       refine zaf (u:=.int .i64 (n:Int)) ?_ (hK β _ w (Post.same m rfl rfl (λz hz=>by simp[names,refs,zbk,zaz,zbc]at hz)))
       simp only[execOp,ho,Go.resolve,invoke,builtin,Builtin.len_,Sem.run_bind,Sem.run_pure,Result.andThen_ok,List.map_toArray,List.map_cons,List.map_nil,hx',underlying,run_program,hu]
       simp[goInt,underlying,hu]
      ·cases he
     ·cases h
    ·cases h
   ·cases h
  ·cases h
end
section
variable{P:Program}{w0:Base P}{w:World}{β:Env}{st:St}{a:Act}{cs:List (Nat×Bool)}{o:Oper}{r:Res}{K:Act->World->Prop}{Q:Exit->Act->World->Prop}
theorem zlz{X:Tabs}(ht:zal P X){F:Nat}{vs:List Value}{u:Value}{ps:List Prop}(m:M w0 β st a w)(hrun:(execOp a.eval o).run P w=(callFunc F vs.toArray).run P w)(h:X.tb F vs=some (u,ps))(hf:flat u=true)(hs:allP ps)
  (hK:∀β' v w',Post w0 β st.slots st.heap {val:=.v u,upd:=[],sides:=ps} v β' w'->K (a.put o.dst v) w'):o.wp P a w K Q:=by
 have hcall:=ht.tb F vs u ps h hs w
 have hpost:∀w',Below w.heap.size w w'->Post w0 β st.slots st.heap {val:=.v u,upd:=[],sides:=ps} u β w':=λw' hb=>
  ⟨λ_ _ _=>rfl,(zdj hf).symm,λk hk=>(by simp only[names]at hk;rw[zen hf]at hk;cases hk),m.mem.call hb⟩
 unfold Oper.wp
 rw[hrun]
 split at hcall
 ·rename_i u' w' hr
  rw[hr]
  obtain⟨rfl,hb⟩:=hcall
  exact hK β _ w' (hpost w' hb)
 ·rename_i f' az w' hr
  rw[hr]
  obtain⟨rfl,hcs⟩:=hcall
  exact hcs.mono λe w'' ⟨he,hb⟩=>by subst he;exact hK β _ w'' (hpost w'' hb)
 ·exact hcall.elim
theorem zkj{X:Tabs}(ht:zal P X){fresh:Nat}(m:M w0 β st a w)(hc:holds st.slots cs)(hfr:zbo X o=true->fresh<st.heap.length/\st.heap.getD fresh none=none)
  {hp:Nat->Option HE} (hhp:∀n c,hp n=some c->st.heap.getD n none=some c)
  (h:zrh P X (evS st.slots) hp fresh cs o=some r) (hs:allP r.sides) (hK:∀β' u w',Post w0 β st.slots st.heap r u β' w'->K (a.put o.dst u) w'):o.wp P a w K Q:=by
 unfold zrh at h
 split at h
 ·rename_i c x y ho
  exact zoc m hc h ho hK
 ·rename_i x ho
  simp only[Option.some.injEq]at h;subst h
  exact zaf (u:=a.eval x) (by simp only[execOp,ho,Sem.run_pure]) (hK β _ w (Post.same m rfl (zap m hc x) (λk hk=>zbt m hk)))
 ·rename_i x ho
  simp only[Option.some.injEq]at h;subst h
  exact zaf (u:=a.eval x) (by simp only[execOp,ho,Sem.run_pure]) (hK β _ w (Post.same m rfl (zap m hc x) (λk hk=>zbt m hk)))
 ·rename_i t ho
  obtain⟨hf,hn⟩:=hfr (by simp[zbo,ho])
  split at h
  ·rename_i z hz
   split at h
   ·rename_i hfl
    simp only[Option.some.injEq]at h;subst h
    exact zm1 m hf hn ho hz hfl hK
   ·cases h
  ·cases h
 ·rename_i t x ho
  obtain⟨hf,hn⟩:=hfr (by simp[zbo,ho])
  split at h
  ·rename_i u hu
   split at h
   ·rename_i h1
    simp only[Option.some.injEq]at h;subst h
    exact zsi m hc hf hn ho hu h1 hK
   ·cases h
  ·cases h
 ·rename_i t x ho
  split at h
  ·rename_i p hp'
   exact zol hhp m hc ho (λhd=>hfr (by simp[zbo,ho,hd])) hp' h hK
  ·cases h
 ·rename_i t x y ho
  split at h
  ·rename_i p u hp' hu
   exact zl5 hhp m hc ho hp' hu h hK
  ·cases h
 ·rename_i s x f ho
  exact zms hhp m hc h ho hK
 ·rename_i t x y ho
  exact zmn hhp m hc h hs ho hK
 ·rename_i t parts ho
  split at h
  ·rename_i vs fields z hv hu hz
   split at h
   ·rename_i places hpl
    split at h
    ·rename_i hall
     simp only[Bool.and_eq_true]at hall
     split at h
     ·rename_i cells hfill
      simp only[Option.some.injEq]at h;subst h
      exact z1a m hc ho hv hu hz hpl hall.1 hall.2 hfill hK
     ·cases h
    ·cases h
   ·cases h
  ·exact zcd m hc h hK
  ·cases h
 ·rename_i x i ho
  split at h
  ·rename_i vs hx
   split at h
   ·cases h
   ·rename_i u hnt hi
    simp only[Option.some.injEq]at h;subst h
    exact zvv m hc ho hx hi (λq e=>hnt q e) hK
   ·cases h
  ·exact zcd m hc h hK
 ·rename_i t x f ho
  split at h
  ·rename_i vs fd hx hfd
   split at h
   ·rename_i u hu
    split at h
    ·rename_i h1
     simp only[Option.some.injEq]at h;subst h
     exact zyg m hc ho hx hfd hu h1 hK
    ·cases h
   ·cases h
  ·cases h
 ·rename_i F first caps ho
  split at h
  ·rename_i vs hf hv
   split at h
   ·rename_i hall
    simp only[Bool.and_eq_true]at hall
    simp only[Option.some.injEq]at h;subst h
    exact zsv m hc ho hf hv hall.1 hall.2 hK
   ·cases h
  ·cases h
 ·rename_i t len parts ho
  obtain⟨hf,hn⟩:=hfr (by simp[zbo,ho])
  split at h
  ·rename_i e vs he hv
   split at h
   ·rename_i size z hsz hz
    split at h
    ·cases h
    ·rename_i hb
     split at h
     ·cases h
     ·rename_i hb0
      split at h
      ·rename_i hall
       simp only[Bool.and_eq_true]at hall
       split at h
       ·rename_i cells hfill
        split at h
        ·rename_i ds l hds hl
         simp only[Option.some.injEq]at h;subst h
         exact zgd hhp m hc hf hn ho he hv hsz hz hb hb0 hall.1 hall.2 hfill hds hl hK
        ·cases h
       ·cases h
      ·cases h
   ·cases h
  ·cases h
 ·rename_i t x y ho
  obtain⟨hf,hn⟩:=hfr (by simp[zbo,ho])
  split at h
  ·rename_i e ki i kj j he hx hy
   split at h
   ·rename_i size b ds hsz hb hz
    split at h
    ·rename_i hl
     simp only[Option.some.injEq]at h;subst h
     exact zrq m hc hf hn ho he hx hy hsz hb hz hl hs.1 (λβ' u w' sides hp=>hK β' u w' ⟨hp.keep,hp.den,hp.nm,hp.mem⟩)
    ·cases h
   ·cases h
  ·cases h
 ·rename_i args argTypes ho
  split at h
  ·rename_i x t ha hat
   split at h
   ·rename_i ad n c e hx he
    split at h
    ·rename_i k f hr
     simp only[Option.some.injEq]at h;subst h
     have hd:=zap m hc x
     rw[hx]at hd
     exact zrx hhp m ho ha hat hd he hr (hK β _ w (Post.same m rfl rfl (λk hk=>by simp[names,refs,zbk,zaz,zbc]at hk)))
    ·cases h
   ·rename_i e hx he
    simp only[Option.some.injEq]at h;subst h
    have hd:=zap m hc x
    rw[hx]at hd
    exact zrx (u:=.slice none 0 0) (k:=0) (f:=λ_=>[]) hhp m ho ha hat hd he rfl (hK β _ w (Post.same m rfl rfl (λk hk=>by simp[names]at hk)))
   ·rename_i e hx he
    simp only[Option.some.injEq]at h;subst h
    have hd:=zap m hc x
    rw[hx]at hd
    exact zrx (u:=.slice none 0 0) (k:=0) (f:=λ_=>[]) hhp m ho ha hat hd he rfl (hK β _ w (Post.same m rfl rfl (λk hk=>by simp[names]at hk)))
   ·exact zcd m hc h hK
  ·cases h
 ·rename_i args argTypes ho
  obtain⟨hf,hn⟩:=hfr (by simp[zbo,zdq,ho])
  split at h
  ·rename_i x y t t' ha hat
   split at h
   ·rename_i u v e hx hy he
    split at h
    ·rename_i htt
     subst htt
     split at h
     ·rename_i n f l k g size b z hown hrow hsz hb hz
      split at h
      ·rename_i hall
       split at h
       ·rename_i l' hl
        simp only[Option.some.injEq]at h;subst h
        exact zy8 hhp m hc hf hn ho ha hat hx hy he hown hrow hsz hb hz hall.1 hall.2 hl (zhi hs).1 (zhi hs).2 (λβ' u w' sides hp=>hK β' u w' ⟨hp.keep,hp.den,hp.nm,hp.mem⟩)
       ·cases h
      ·cases h
     ·cases h
    ·cases h
   ·cases h
  ·cases h
 ·rename_i F args ts ho
  split at h
  ·rename_i u ps hq
   split at h
   ·rename_i hfl
    simp only[Option.some.injEq]at h;subst h
    split at hq
    ·rename_i vs hvs
     refine zlz ht m ?_ hq hfl hs hK
     have hargs:args.map a.eval=vs.toArray:=by
      obtain⟨h1,h2⟩:=zdk hvs
      apply Array.ext'
      rw[Array.toList_map,h1]
      exact List.map_congr_left λx hx=>zaj m hc (h2 x hx)
     simp only[execOp,ho,Go.resolve,Deferred.ofValue,Act.eval,Sem.run_bind,Sem.run_pure,Result.andThen_ok,invoke,hargs]
     simp
    ·cases hq
   ·cases h
  ·split at h
   ·rename_i vs hvs
    refine zn0 ht hhp m (λhd=>hfr (by simp[zbo,zdq,ho,hd])) ?_ h hs hK
    have hargs:args.map a.eval=(vs.map (ren β)).toArray:=by
     apply Array.ext'
     rw[Array.toList_map,(zc7 m hc hvs).1]
    simp only[execOp,ho,Go.resolve,Deferred.ofValue,Act.eval,Sem.run_bind,Sem.run_pure,Result.andThen_ok,invoke,hargs]
    simp
   ·cases h
 ·rename_i t args ts ho
  have hd:=zap m hc (.tmp t)
  split at h
  ·rename_i F fst caps vs hx hvs
   rw[hx]at hd
   split at h
   ·rename_i hf hdr
    split at h
    ·rename_i hall
     simp only[Bool.and_eq_true]at hall
     have hargs:args.map a.eval=(vs.map (ren β)).toArray:=by
      apply Array.ext'
      rw[Array.toList_map,(zc7 m hc hvs).1]
     have hcaps:(caps.toList.map (renP β))=caps.toList.map (ren β):=List.map_congr_left λv hv=>by
      have a1:=List.all_eq_true.1 hall.1 v hv
      have a2:=List.all_eq_true.1 hall.2 v hv
      cases v<;>first|rfl|(simp at a2;done)|(cases a1;done)
     have hfst:fst = #[]:=by apply Array.ext';rw[hf]
     subst hfst
     have hev:a.eval (.tmp t)=.func (.func F) #[] (caps.toList.map (ren β)).toArray:=by
      rw[←hcaps];exact hd
     refine zn0 ht hhp m (λhd'=>hfr (by rw[hd']at hdr;simp[zbo,zdq,ho,hdr])) ?_ h hs hK
     simp only[execOp,ho,Go.resolve,Deferred.ofValue,hev,Sem.run_bind,Sem.run_pure,Result.andThen_ok,invoke,hargs]
     simp
    ·cases h
   ·cases h
  ·rename_i F fst caps vs hx hvs
   rw[hx]at hd
   split at h
   ·rename_i hf hcp hdr
    have hfst:fst = #[]:=by apply Array.ext';rw[hf]
    have hcap:caps = #[]:=by apply Array.ext';rw[hcp]
    subst hfst;subst hcap
    have hev:a.eval (.tmp t)=.func (.func F) #[] #[]:=hd
    split at h
    ·rename_i u ps hq
     split at h
     ·rename_i hfl
      simp only[Option.some.injEq]at h;subst h
      split at hq
      ·rename_i ws hws
       refine zlz ht m ?_ hq hfl hs hK
       have hargs:args.map a.eval=ws.toArray:=by
        obtain⟨h1,h2⟩:=zdk hws
        apply Array.ext'
        rw[Array.toList_map,h1]
        exact List.map_congr_left λx hx=>zaj m hc (h2 x hx)
       simp only[execOp,ho,Go.resolve,Deferred.ofValue,hev,Sem.run_bind,Sem.run_pure,Result.andThen_ok,invoke,hargs]
       simp
      ·cases hq
     ·cases h
    ·refine znz ht hhp m (λhd'=>by rw[hdr]at hd';cases hd') ?_ h hs hK
     have hargs:args.map a.eval=(vs.map (ren β)).toArray:=by
      apply Array.ext'
      rw[Array.toList_map,(zc7 m hc hvs).1]
     simp only[execOp,ho,Go.resolve,Deferred.ofValue,hev,Sem.run_bind,Sem.run_pure,Result.andThen_ok,invoke,hargs]
     simp
   ·cases h
  ·cases h
 ·rename_i op t x y ty ho
  have key:∀(q:BinOp) (i j:Int) (k k':IntKind) (u:Value),(q=.quo\/q=.rem)->op=q->plain (evS st.slots cs x)=some (.int k i)->plain (evS st.slots cs y)=some (.int k' j)->k=k'->flat u=true->
    (Op.intDiv q k i j).run P w=.ok u w->r = {val:=.v u,upd:=[],sides:=[j≠0]}->o.wp P a w K Q:=by
   intro q i j k k' u hq he hx hy hk hfu hrun hr
   subst hr;subst he;subst hk
   refine zaf (u:=u) ?_ (hK β _ w (Post.same m rfl (zdj hfu).symm (λk hk=>by simp only[names]at hk;rw[zen hfu]at hk;cases hk)))
   rcases hq with rfl|rfl<;>simp only[execOp,ho,zaj m hc hx,zaj m hc hy,binOp,eqGuard,Sem.run_bind,Sem.run_pure,ne_eq,not_true_eq_false,if_false]<;>simp[hrun]
  split at h
  ·rename_i k i k' j hx hy _
   split at h
   ·rename_i hk
    simp only[Option.some.injEq]at h
    refine key .quo i j k k' (.int k (k.wrap (i.tdiv j))) (.inl rfl) rfl hx hy hk rfl ?_ h.symm
    have hj:j≠0:=by subst h;exact hs.1
    simp only[Op.intDiv,hj,if_false,Sem.run_pure]
   ·cases h
  ·rename_i k i k' j hx hy _
   split at h
   ·rename_i hk
    simp only[Option.some.injEq]at h
    refine key .rem i j k k' (.int k (i.tmod j)) (.inr rfl) rfl hx hy hk rfl ?_ h.symm
    have hj:j≠0:=by subst h;exact hs.1
    simp only[Op.intDiv,hj,if_false,Sem.run_pure]
   ·cases h
  ·rename_i k i k' j hx hy _
   simp only[Option.some.injEq]at h;subst h
   refine zaf (u:=.int k (k.wrap (i*2 ^ min j.toNat k.bits))) ?_ (hK β _ w (Post.same m rfl (zdj rfl).symm (λz hz=>by simp[names,refs,zbk,zaz,zbc]at hz)))
   have hj:¬j<0:=Int.not_lt.2 hs.1
   simp only[execOp,ho,zaj m hc hx,zaj m hc hy,binOp,eqGuard,Sem.run_bind,Sem.run_pure]
   simp[Op.shift,hj]
  ·rename_i u v hx hy
   split at h
   ·rename_i b hb
    simp only[Option.some.injEq]at h;subst h
    refine zaf (u:=.bool b) ?_ (hK β _ w (Post.same m rfl rfl (λk hk=>by simp[names,refs,zbk,zaz,zbc]at hk)))
    simp only[execOp,ho,zaj m hc hx,zaj m hc hy,Sem.run_bind,zlh hb,Result.andThen_ok,run_eql_struct,zqd hb,Sem.run_pure]
   ·cases h
  ·rename_i u v hx hy
   split at h
   ·rename_i b hb
    simp only[Option.some.injEq]at h;subst h
    refine zaf (u:=.bool (!b)) ?_ (hK β _ w (Post.same m rfl rfl (λk hk=>by simp[names,refs,zbk,zaz,zbc]at hk)))
    simp only[execOp,ho,zaj m hc hx,zaj m hc hy,Sem.run_bind,zlh hb,Result.andThen_ok,run_neq_struct,zqd hb,Sem.run_pure]
   ·cases h
  ·exact zcd m hc h hK
 ·rename_i x ho
  split at h
  ·rename_i hn
   simp only[Option.some.injEq]at h;subst h
   obtain⟨ad,ha⟩:=zog (zap m hc x) hn
   exact zaf (u:=a.eval x) (by simp only[execOp,ho,ha,Sem.run_pure]) (hK β _ w (Post.same m rfl (zap m hc x) (λk hk=>zbt m hk)))
  ·exact zcd m hc h hK
 ·exact zcd m hc h hK
theorem zld(r:Res):(kRes r).sides=r.sides:=by
 unfold kRes
 split
 ·split<;>rfl
 ·rfl
theorem zgx{X:Tabs}(ht:zal P X){fresh:Nat}(m:M w0 β st a w)(hc:holds st.slots cs)(hfr:zbo X o=true->fresh<st.heap.length/\st.heap.getD fresh none=none)
  {hp:Nat->Option HE} (hhp:∀n c,hp n=some c->st.heap.getD n none=some c)
  (h:zme P X (evS st.slots) hp fresh cs o=some r) (hs:allP r.sides) (hK:∀β' u w',Post w0 β st.slots st.heap r u β' w'->K (a.put o.dst u) w'):o.wp P a w K Q:=by
 unfold zme at h
 split at h
 ·rename_i r' hr
  simp only[Option.some.injEq]at h;subst h
  exact z5j ht m hc hfr hr hK
 split at h
 ·rename_i r' hr
  simp only[Option.some.injEq]at h;subst h
  exact z5e m hc hfr hhp hr hs hK
 split at h
 ·rename_i r' hr
  simp only[Option.some.injEq]at h;subst h
  exact z5g ht m hc hfr hhp hr hs hK
 split at h
 ·rename_i r' hr
  simp only[Option.some.injEq]at h;subst h
  exact z5l ht m hc hfr hhp hr hs hK
 split at h
 ·rename_i r' hr
  unfold z54 at h
  split at h
  ·rename_i r2 hr2
   simp only[Option.some.injEq]at hr2;subst hr2
   split at h
   ·simp only[Option.some.injEq]at h;subst h
    exact zts m hc hfr hr (by rw[zld]at hs;exact hs) λβ' u w' hp=>hK β' u w' hp.kRes
   ·simp only[Option.some.injEq]at h;subst h
    exact zts m hc hfr hr hs hK
  ·cases h
 split at h
 ·rename_i r' hr
  unfold z54 at h
  split at h
  ·rename_i r2 hr2
   simp only[Option.some.injEq]at hr2;subst hr2
   split at h
   ·simp only[Option.some.injEq]at h;subst h
    exact ztt m hc hfr hhp hr (by rw[zld]at hs;exact hs) λβ' u w' hp=>hK β' u w' hp.kRes
   ·simp only[Option.some.injEq]at h;subst h
    exact ztt m hc hfr hhp hr hs hK
  ·cases h
 split at h
 ·unfold z54 at h
  split at h
  ·rename_i r' hr
   split at h
   ·simp only[Option.some.injEq]at h;subst h
    exact zkj ht m hc hfr hhp hr (by rw[zld]at hs;exact hs) (λβ' u w' hp=>hK β' u w' hp.kRes)
   ·simp only[Option.some.injEq]at h;subst h
    exact zkj ht m hc hfr hhp hr hs hK
  ·cases h
 ·split at h
  ·rename_i r' hr
   simp only[Option.some.injEq]at h;subst h
   exact z0b ht m hc hfr hhp hr hs hK
  ·split at h
   ·rename_i r' hr
    simp only[Option.some.injEq]at h;subst h
    exact zkj ht m hc hfr hhp hr (by rw[zld]at hs;exact hs) (λβ' u w' hp=>hK β' u w' hp.kRes)
   ·cases h
end
def hpOf(h:List (Option HE))(t:Tch)(n:Nat):Option HE:=if t.1.contains n||t.2.contains n then h.getD n none else none
def zmr(l:List SV)(d:Nat)(cs:List (Nat×Bool)):Bool:=
 match l[d]? with
 |some (.k (.bool _))=>cs.isEmpty
 |some (.v (.bool _))=>cs.isEmpty
 |some (.g cs' (.k (.bool _)))=>cs'==cs
 |some (.g cs' (.v (.bool _)))=>cs'==cs
 |_=>false
def zku(l:List SV):List (Nat×Bool)->Prop
 |[]=>True
 |c::cs=>zbw l c.1=some c.2/\zku l cs
theorem ztw{ev:Operand->SV}{n:Nat}:∀{l:List Operand},n∈zfy ev l->∃x∈l,n∈names (ev x)
 |[],h=>by cases h
 |x::l,h=>by
  simp only[zfy,List.mem_append]at h
  rcases h with h|h
  ·exact⟨x,by simp,h⟩
  ·obtain⟨y,hy,hn⟩:=ztw h
   exact⟨y,by simp[hy],hn⟩
theorem zmw{l:List SV}{cs:List (Nat×Bool)}(h:holds l cs):zku l cs:=by
 induction cs with
 |nil=>trivial
 |cons c cs ih=>exact⟨h c (by simp),ih λd hd=>h d (by simp[hd])⟩
def zny(hp:Nat->Option HE):List Nat->List Nat
 |[]=>[]
 |q::l=>(match hp q with
  |some (.cells _ cs)=>zdt zaz cs
  |_=>[])++zny hp l
theorem zpn{hp:Nat->Option HE}{n:Nat}:∀{l:List Nat},n∈zny hp l->∃q t cs v,hp q=some (.cells t cs)/\v∈cs/\n∈zaz v
 |[],h=>by cases h
 |q::l,h=>by
  simp only[zny,List.mem_append]at h
  rcases h with h|h
  ·split at h
   ·rename_i t cs hq
    obtain⟨v,hv,hn⟩:=zbb.1 h
    exact⟨q,t,cs,v,hq,hv,hn⟩
   ·cases h
  ·exact zpn h
def zzk(t:Tch):List (Nat×HE)->Bool
 |[]=>true
 |(n,_)::l=>t.2.contains n&&zzk t l
def z1s(h:Nat->Option HE)(fresh:Nat)(mk:Bool):List (Nat×HE)->Bool
 |[]=>true
 |(n,_)::l=>(mk&&Nat.beq n fresh||(h n).isSome)&&z1s h fresh mk l
def subN(a b:List Nat):Bool:=a.all λn=>b.contains n
theorem zwn{t:Tch}:∀{l:List (Nat×HE)},zzk t l=true->∀n c,(n,c)∈l->n∈t.2
 |[],_,n,c,h=>by cases h
 |(k,e)::l,h,n,c,hm=>by
  simp only[zzk,Bool.and_eq_true]at h
  rcases List.mem_cons.1 hm with z|hm
  ·simp only[Prod.mk.injEq]at z;rw[z.1];simpa using h.1
  ·exact zwn h.2 n c hm
theorem zs5{h:Nat->Option HE}{fresh:Nat}{mk:Bool}:∀{l:List (Nat×HE)},z1s h fresh mk l=true->∀n c,(n,c)∈l->(n=fresh/\mk=true)\/∃d,h n=some d
 |[],_,n,c,h=>by cases h
 |(k,e)::l,hh,n,c,hm=>by
  simp only[z1s,Bool.and_eq_true,Bool.or_eq_true]at hh
  rcases List.mem_cons.1 hm with z|hm
  ·simp only[Prod.mk.injEq]at z
   rw[z.1]
   rcases hh.1 with⟨h1,h2⟩|h1
   ·exact .inl ⟨Nat.eq_of_beq_eq_true h2,h1⟩
   ·exact .inr (Option.isSome_iff_exists.1 h1)
  ·exact zs5 hh.2 n c hm
def onB(l:List SV):List (Nat×Bool)->Bool
 |[]=>true
 |c::cs=>(match l[c.1]? with
  |some (.k (.bool b))=>b==c.2
  |_=>false)&&onB l cs
def zcu(l:List SV):List (Nat×Bool)->List (Nat×Bool)
 |[]=>[]
 |c::cs=>match (match l[c.1]? with
  |some (.k (.bool b))=>b==c.2
  |_=>false)with
  |true=>zcu l cs
  |false=>c::cs
theorem zud{l:List SV}:∀{cs:List (Nat×Bool)} {c:Nat×Bool},c∈zcu l cs->c∈cs
 |[],_,h=>h
 |x::cs,c,h=>by
  simp only[zcu]at h
  split at h
  ·exact List.mem_cons_of_mem _ (zud h)
  ·exact h
theorem zpm{l:List SV}:∀{cs:List (Nat×Bool)},holds l (zcu l cs)->holds l cs
 |[],h=>h
 |x::cs,h=>by
  simp only[zcu]at h
  split at h
  ·rename_i hx
   intro c hc
   rcases List.mem_cons.1 hc with rfl|hc
   ·split at hx
    ·rename_i b hb
     unfold zbw
     rw[hb]
     have:b=c.2:=by simpa using hx
     rw[this]
    ·cases hx
   ·exact zpm h c hc
  ·exact h
theorem zuc{l:List SV}{d:Nat}{s:SV}:∀{cs:List (Nat×Bool)},(∀c∈cs,c.1≠d)->zcu (l.set d s) cs=zcu l cs
 |[],_=>rfl
 |c::cs,h=>by
  simp only[zcu]
  rw[zuc λx hx=>h x (by simp[hx]),List.getElem?_set_ne (Ne.symm (h c (by simp)))]
def offB(l:List SV)(ops:Array Oper)(o:Oper):Bool:=
 match o.guard with
 |none=>false
 |some (g,want)=>match (ops[g]?).bind (·.dst)with
  |some d=>match l[d]? with
   |some (.k (.bool b))=>!(b==want)
   |some (.k _)=>true
   |_=>false
  |none=>false
def zkh(X:Tabs)(j:Nat)(r:Res):Res:=
 match X.pin j,r.val with
 |some q,.v (.bool x)=>{val:=.k (.bool q),upd:=r.upd,sides:=(x=q)::r.sides}
 |_,_=>r
def core(P:Program)(X:Tabs)(ops:Array Oper)(base j:Nat)(o:Oper)(t:Tch)(st:St):Option Res:=
 match zdu ops (ops.size+1) o with
 |none=>none
 |some cs=>
  if z4x (hpOf st.heap t) (zc9 X (evS st.slots cs) (base+j) o)==t then
   match offB st.slots ops o with
   |true=>some {val:=.k undef,upd:=[],sides:=[]}
   |false=>
   match zme P X (evS st.slots) (hpOf st.heap t) (base+j) cs o with
   |none=>none
   |some r=>
    if zzk t r.upd&&z1s (hpOf st.heap t) (base+j) (zbo X o) r.upd && !isG r.val then
     match onB st.slots cs with
     |true=>some (zkh X j r)
     |false=>
     match o.guard with
     |none=>none
     |some (g,want)=>
      match (ops[g]?).bind (·.dst),r.upd with
      |some d,[]=>
       if zmr st.slots d (zcu st.slots cs).dropLast&&zcu st.slots cs==(zcu st.slots cs).dropLast++[(d,want)]&&subN (names r.val) (zfy (evS st.slots cs) o.op.operands.toList++zny (hpOf st.heap t) (t.1++t.2))then
        some {val:=.g (zcu st.slots cs) r.val,upd:=[],sides:=match r.sides with|[]=>[]|ss=>[zku st.slots cs->allP ss]}
       else none
      |_,_=>none
    else none
  else none
def zpv(d:Nat):List (Nat×Nat)->List (Nat×Nat)
 |[]=>[]
 |p::l=>bif Nat.beq p.1 d then zpv d l else p::zpv d l
def zoy(dst:Option Nat)(l:List (Nat×Nat)):List (Nat×Nat):=
 match dst with
 |none=>l
 |some d=>zpv d l
theorem znv{d:Nat}{p:Nat×Nat}:∀{l:List (Nat×Nat)},p∈zpv d l↔p∈l/\p.1≠d
 |[]=>by simp[zpv]
 |q::l=>by
  simp only[zpv,List.mem_cons]
  cases hb:Nat.beq q.1 d with
  |true=>
   have hq:q.1=d:=Nat.eq_of_beq_eq_true hb
   rw[cond_true,znv (l:=l)]
   constructor
   ·exact λh=>⟨.inr h.1,h.2⟩
   ·rintro⟨rfl|h,k⟩
    ·exact absurd hq k
    ·exact⟨h,k⟩
  |false=>
   have hq:q.1≠d:=λe=>by rw[e,Nat.beq_refl]at hb;cases hb
   rw[cond_false,List.mem_cons,znv (l:=l)]
   constructor
   ·rintro(rfl|h)
    ·exact⟨.inl rfl,hq⟩
    ·exact⟨.inr h.1,h.2⟩
   ·rintro⟨rfl|h,k⟩
    ·exact .inl rfl
    ·exact .inr ⟨h,k⟩
theorem zue(d e:Nat):∀(l:List (Nat×Nat)),zpv d (zpv e l)=zpv e (zpv d l)
 |[]=>rfl
 |p::l=>by
  have ih:=zue d e l
  simp only[zpv]
  cases h1:Nat.beq p.1 d<;>cases h2:Nat.beq p.1 e<;>simp only[cond_true,cond_false,zpv,h1,h2,ih]
def St.put(st:St)(dst:Option Nat)(r:Res):St:=
 {slots:=match dst with|some d=>st.slots.set d r.val|none=>st.slots,heap:=zac st.heap r.upd,fix:=zoy dst st.fix,keep:=st.keep}
theorem ziu{l:List SV}{d t:Nat}{s:SV}(h:t≠d):zbw (l.set d s) t=zbw l t:=by
 unfold zbw
 rw[List.getElem?_set_ne (Ne.symm h)]
section
variable{P:Program}{w0:Base P}{w:World}{β β':Env}{st:St}{a:Act}{o:Oper}{r:Res}{K:Act->World->Prop}{Q:Exit->Act->World->Prop}
theorem zzc{u:Value}{w':World}{dst:Option Nat}(m:M w0 β st a w)(hp:Post w0 β st.slots st.heap r u β' w')
  (hd:∀d,dst=some d->(∀i,∀c∈za8 (st.slots.getD i .junk),c.1≠d)/\∀c∈za8 r.val,c.1≠d):M w0 β' (st.put dst r) (a.put dst u) w':=by
 have keepD:∀i v,Den β st.slots (st.slots.getD i .junk) v->Den β' st.slots (st.slots.getD i .junk) v:=λi v hv=>
  zbg (λn hn=>by obtain⟨c,hc⟩:=m.locs i n hn;exact hp.keep n c hc) (λ_ _=>rfl) hv
 have keepN:∀n c,st.heap.getD n none=some c->∃c',(zac st.heap r.upd).getD n none=some c':=λn c hc=>ze4 _ _ hc
 have zc2:st.keep=true->∀n,w0.anc n->β' n=w0.env n/\∃c,(zac st.heap r.upd).getD n none=some c:=λhk n hn=>by
  obtain⟨e,c,hc⟩:=m.anc hk n hn
  exact⟨(hp.keep n c hc).trans e,keepN n c hc⟩
 cases dst with
 |none=>exact {defers:=m.defers,anc:=zc2,size:=m.size,slot:=λi v hv=>keepD i v (m.slot i v hv),locs:=λi n hn=>by obtain⟨c,hc⟩:=m.locs i n hn;exact keepN n c hc,mem:=hp.mem,tie:=m.tie}
 |some d=>
  obtain⟨h1,h2⟩:=hd d rfl
  have hb:∀t,t≠d->zbw (st.slots.set d r.val) t=zbw st.slots t:=λt ht=>ziu ht
  refine {defers:=m.defers,anc:=zc2,size:=by simp[Act.put,St.put,m.size],slot:=λi v hv=>?_,locs:=λi n hn=>?_,mem:=hp.mem,tie:=λp hp'=>?_}
  ·simp only[Act.put,Array.getElem?_setIfInBounds]at hv
   show Den β' (st.slots.set d r.val) ((st.slots.set d r.val).getD i .junk) v
   rw[zbe]
   by_cases e:d=i
   ·subst e
    by_cases hl:d<st.slots.length
    ·rw[if_pos ⟨rfl,hl⟩]
     rw[if_pos rfl,if_pos (by rw[m.size];exact hl)]at hv
     simp only[Option.some.injEq]at hv;subst hv
     exact zbg (λ_ _=>rfl) (λc hc=>hb c.1 (h2 c hc)) hp.den
    ·rw[if_pos rfl,if_neg (by rw[m.size];exact hl)]at hv;cases hv
   ·rw[if_neg (λx=>e x.1)]
    rw[if_neg e]at hv
    exact zbg (λ_ _=>rfl) (λc hc=>hb c.1 (h1 i c hc)) (keepD i v (m.slot i v hv))
  ·have hn':n∈names ((st.slots.set d r.val).getD i .junk):=hn
   rw[zbe]at hn'
   split at hn'
   ·exact hp.nm n hn'
   ·obtain⟨c,hc⟩:=m.locs i n hn';exact keepN n c hc
  ·obtain⟨h3,h4⟩:=znv.1 hp'
   obtain⟨b,off,e1,e2⟩:=m.tie p h3
   refine⟨b,off,e1,?_⟩
   simp only[Act.put,Array.getElem?_setIfInBounds]
   rw[if_neg (Ne.symm h4)];exact e2
structure Inv(X:Tabs)(ops:Array Oper)(base:Nat)(L:Nat->Prop)(st:St):Prop where
 conds:∀i c,c∈za8 (st.slots.getD i .junk)->∃j oj,ops[j]? = some oj/\L j/\oj.dst=some c.1
 fresh:∀j o,ops[j]? = some o->¬L j->zbo X o=true->base+j<st.heap.length/\st.heap.getD (base+j) none=none
theorem zf3{h:List (Option HE)}{t:Tch}{n:Nat}{c:HE}(hh:hpOf h t n=some c):h.getD n none=some c:=by
 unfold hpOf at hh;split at hh
 ·exact hh
 ·cases hh
theorem zn7{ops:Array Oper}{g d:Nat}{want:Bool}{og:Oper}{cs:List (Nat×Bool)}(m:M w0 β st a w)(ho:o.guard=some (g,want))(hg:ops[g]? = some og)(hd:og.dst=some d)(hs:zmr st.slots d cs=true) :
  Region.wanted o (yielded ops a.tmps)=true↔holds st.slots (cs++[(d,want)]):=by
 unfold zmr at hs
 have lt:∀s,st.slots[d]? = some s->∃u,a.tmps[d]? = some u/\Den β st.slots s u:=λs hsd=>by
  have h1:d<st.slots.length:=(List.getElem?_eq_some_iff.1 hsd).1
  have h2:d<a.tmps.size:=by rw[m.size];exact h1
  refine⟨a.tmps[d],Array.getElem?_eq_getElem h2,?_⟩
  have:=m.slot d _ (Array.getElem?_eq_getElem h2)
  rwa [List.getD_eq_getElem?_getD,hsd]at this
 have plainCase:∀b,cs=[]->st.slots[d]? = some (.k (.bool b))\/st.slots[d]? = some (.v (.bool b))->(Region.wanted o (yielded ops a.tmps)=true↔holds st.slots (cs++[(d,want)])):=by
  intro b hc hb
  subst hc
  have hu:a.tmps[d]? = some (.bool b):=by
   rcases hb with hb|hb<;>obtain⟨u,hu,hd⟩:=lt _ hb<;>rw[hu,(show u=Value.bool b from hd)]
  have hba:zbw st.slots d=some b:=by unfold zbw;rcases hb with hb|hb<;>rw[hb]
  simp only[Region.wanted,ho,yielded,hg,Option.bind_some,hd,hu,holds,List.nil_append,List.mem_singleton,forall_eq,hba,beq_iff_eq]
 have guardCase:∀b,st.slots[d]? = some (.g cs (.k (.bool b)))\/st.slots[d]? = some (.g cs (.v (.bool b)))->(Region.wanted o (yielded ops a.tmps)=true↔holds st.slots (cs++[(d,want)])):=by
  intro b hb
  have hba:zbw st.slots d=some b:=by unfold zbw;rcases hb with hb|hb<;>rw[hb]
  have hu:∃u,a.tmps[d]? = some u/\(holds st.slots cs->u=.bool b)/\(¬holds st.slots cs->u=undef):=by
   rcases hb with hb|hb<;>obtain⟨u,hu,hd⟩:=lt _ hb<;>exact⟨u,hu,hd⟩
  obtain⟨u,hu,h1,h2⟩:=hu
  have happ:holds st.slots (cs++[(d,want)])↔holds st.slots cs/\b=want:=by
   constructor
   ·intro h
    refine⟨λc hc=>h c (by simp[hc]),?_⟩
    have:=h (d,want) (by simp)
    rw[hba]at this;simpa using this
   ·rintro⟨h,rfl⟩ c hc
    rcases List.mem_append.1 hc with hc|hc
    ·exact h c hc
    ·simp only[List.mem_singleton]at hc;subst hc;exact hba
  rw[happ]
  by_cases hh:holds st.slots cs
  ·have:=h1 hh;subst this
   simp only[Region.wanted,ho,yielded,hg,Option.bind_some,hd,hu,hh,true_and,beq_iff_eq,Option.some.injEq]
  ·have:=h2 hh;subst this
   simp only[Region.wanted,ho,yielded,hg,Option.bind_some,hd,hu,hh,false_and,iff_false,undef]
   simp
 split at hs
 ·rename_i b hb;exact plainCase b (by simpa using hs) (.inl hb)
 ·rename_i b hb;exact plainCase b (by simpa using hs) (.inr hb)
 ·rename_i cs' b hb
  have e:cs'=cs:=by simpa using hs
  subst e;exact guardCase b (.inl hb)
 ·rename_i cs' b hb
  have e:cs'=cs:=by simpa using hs
  subst e;exact guardCase b (.inr hb)
 ·cases hs
theorem zzq(m:M w0 β st a w){d:Nat}{s:SV}(hsd:st.slots[d]? = some s):∃u,a.tmps[d]? = some u/\Den β st.slots s u:=by
 have h1:d<st.slots.length:=(List.getElem?_eq_some_iff.1 hsd).1
 have h2:d<a.tmps.size:=by rw[m.size];exact h1
 refine⟨a.tmps[d],Array.getElem?_eq_getElem h2,?_⟩
 have:=m.slot d _ (Array.getElem?_eq_getElem h2)
 rwa [List.getD_eq_getElem?_getD,hsd]at this
theorem z5q{ops:Array Oper}(m:M w0 β st a w)(h:offB st.slots ops o=true):Region.wanted o (yielded ops a.tmps)=false:=by
 unfold offB at h
 split at h
 ·cases h
 ·rename_i g want ho
  split at h
  ·rename_i d hd
   split at h
   ·rename_i b hb
    obtain⟨u,hu,hd'⟩:=zzq m hb
    have:u=.bool b:=hd'
    subst this
    cases hx:ops[g]? with
    |none=>rw[hx]at hd;cases hd
    |some og=>
     rw[hx]at hd
     have hd2:og.dst=some d:=hd
     have hn:¬b=want:=by simpa using h
     simp only[Region.wanted,ho,yielded,hx,Option.bind_some,hd2,hu]
     simpa using hn
   ·rename_i v hv hb
    obtain⟨u,hu,hd'⟩:=zzq m hb
    have:u=v:=hd'
    subst this
    cases hx:ops[g]? with
    |none=>rw[hx]at hd;cases hd
    |some og=>
     rw[hx]at hd
     have hd2:og.dst=some d:=hd
     have hn:¬u=.bool want:=λe=>hv want e
     simp only[Region.wanted,ho,yielded,hx,Option.bind_some,hd2,hu]
     rw[beq_eq_false_iff_ne]
     intro e
     split at e
     ·rename_i b hub
      simp only[Option.some.injEq]at hub e
      exact hn (by rw[hub,e])
     ·cases e
   ·cases h
  ·cases h
theorem zri{l:List SV}:∀{cs:List (Nat×Bool)},onB l cs=true->holds l cs
 |[],_=>λc hc=>by cases hc
 |c::cs,h=>by
  simp only[onB,Bool.and_eq_true]at h
  intro x hx
  rcases List.mem_cons.1 hx with rfl|hx
  ·have:=h.1
   split at this
   ·rename_i b hb
    unfold zbw
    rw[hb]
    have:b=x.2:=by simpa using this
    rw[this]
   ·cases this
  ·exact zri h.2 x hx
theorem yad{ops:Array Oper}{n:Nat}{cs:List (Nat×Bool)}(m:M w0 β st a w)(hc:zdu ops (n+1) o=some cs)(h:onB st.slots cs=true):Region.wanted o (yielded ops a.tmps)=true:=by
 simp only[zdu]at hc
 split at hc
 ·rename_i hg;simp[Region.wanted,hg]
 ·rename_i g want ho
  split at hc
  ·rename_i og hog
   split at hc
   ·rename_i d cs' hd hcs'
    simp only[Option.some.injEq]at hc;subst hc
    have hh:=zri h (d,want) (by simp)
    have hk:∃b,st.slots[d]? = some (.k (.bool b))/\b=want:=by
     have:∀(l:List (Nat×Bool)),onB st.slots l=true->∀c∈l,∃b,st.slots[c.1]? = some (.k (.bool b))/\b=c.2:=by
      intro l
      induction l with
      |nil=>intro _ c hc;cases hc
      |cons x l ih=>
       intro h c hc
       simp only[onB,Bool.and_eq_true]at h
       rcases List.mem_cons.1 hc with rfl|hc
       ·have:=h.1
        split at this
        ·rename_i b hb;exact⟨b,hb,by simpa using this⟩
        ·cases this
       ·exact ih h.2 c hc
     exact this _ h (d,want) (by simp)
    obtain⟨b,hb,rfl⟩:=hk
    obtain⟨u,hu,hd'⟩:=zzq m hb
    have:u=.bool b:=hd'
    subst this
    simp only[Region.wanted,ho,yielded,hog,Option.bind_some,hd,hu]
    simp
   ·cases hc
  ·cases hc
theorem zto{X:Tabs}{j:Nat}{r:Res}:(zkh X j r).upd=r.upd:=by unfold zkh;split<;>rfl
theorem z5c{X:Tabs}{j:Nat}{r:Res}(h:isG r.val=false):isG (zkh X j r).val=false:=by
 unfold zkh;split
 ·rfl
 ·exact h
theorem zxm{X:Tabs}{j:Nat}{r:Res}(h:allP (zkh X j r).sides):allP r.sides:=by
 unfold zkh at h;split at h
 ·exact h.2
 ·exact h
theorem zz8{X:Tabs}{j:Nat}{u:Value}{w':World}(h:allP (zkh X j r).sides)(hp:Post w0 β st.slots st.heap r u β' w'):Post w0 β st.slots st.heap (zkh X j r) u β' w':=by
 unfold zkh at h ⊢
 split at h
 ·rename_i q x _ hv
  have hx:x=q:=h.1
  have hd:=hp.den
  rw[hv]at hd
  have hu:u=.bool x:=hd
  exact⟨hp.keep,(by rw[hu,hx];rfl),λn hn=>(by cases hn),hp.mem⟩
 ·exact hp
theorem zbj{s:SV}(h:isG s=false):za8 s=[]:=by cases s<;>first|rfl|(simp[isG]at h)
theorem zh6{X:Tabs}{ops:Array Oper}{base j:Nat}{t:Tch}{L:Nat->Prop}(rk:z1q ops)(ht:zal P X)(m:M w0 β st a w)(inv:Inv X ops base L st)
  (hj:ops[j]? = some o) (hL:¬L j) (hg:∀g q,o.guard=some (g,q)->L g) (h:core P X ops base j o t st=some r) (hs:allP r.sides)
  (hK:∀β' a' w',M w0 β' (st.put o.dst r) a' w'->Inv X ops base (λi=>L i\/i=j) (st.put o.dst r)->K a' w'):wpOp P ops Q j K a w:=by
 unfold core at h
 split at h
 ·cases h
 ·rename_i cs hcs
  split at h
  ·split at h
   ·rename_i hoff
    simp only[Option.some.injEq]at h;subst h
    unfold wpOp
    rw[hj]
    dsimp only
    have hw:=z5q m hoff
    rw[if_neg (by rw[hw];decide)]
    have hp':Post w0 β st.slots st.heap {val:=.k undef,upd:=[],sides:=[]} undef β w:=⟨λ_ _ _=>rfl,rfl,λn hn=>(by cases hn),m.mem⟩
    refine hK β _ w (zzc m hp' λd hd=>⟨λi c hc he=>?_,λc hc=>by cases hc⟩) ⟨λi c hc=>?_,λk ok hk hLk hmk=>inv.fresh k ok hk (λhl=>hLk (.inl hl)) hmk⟩
    ·obtain⟨i',oi,h1,h2,h3⟩:=inv.conds i c hc
     have:=rk.dsts i' j oi o d h1 hj (by rw[h3,he]) hd
     exact hL (this▸h2)
    ·have:c∈za8 (st.slots.getD i .junk):=by
      unfold St.put at hc
      cases hd:o.dst with
      |none=>rw[hd]at hc;exact hc
      |some d=>
       rw[hd]at hc
       have hc':c∈za8 ((st.slots.set d (SV.k undef)).getD i .junk):=hc
       rw[zbe]at hc'
       split at hc'
       ·cases hc'
       ·exact hc'
     obtain⟨i',oi,h1,h2,h3⟩:=inv.conds i c this
     exact⟨i',oi,h1,.inl h2,h3⟩
   split at h
   ·cases h
   ·rename_i r0 hr0
    split at h
    ·rename_i hchk
     simp only[Bool.and_eq_true,Bool.not_eq_true']at hchk
     obtain⟨⟨_,hnew⟩,hng⟩:=hchk
     have hup:=zs5 hnew
     have hfr:zbo X o=true->base+j<st.heap.length/\st.heap.getD (base+j) none=none:=inv.fresh j o hj hL
     have invOf:∀(r1:Res),(∀n c,(n,c)∈r1.upd->(n=base+j/\zbo X o=true)\/∃d,hpOf st.heap t n=some d)->(∀c∈za8 r1.val,∃i oi,ops[i]? = some oi/\L i/\oi.dst=some c.1)->Inv X ops base (λi=>L i\/i=j) (st.put o.dst r1):=by
      intro r1 hu1 hc1
      refine⟨λi c hc=>?_,λk ok hk hLk hmk=>?_⟩
      ·have:c∈za8 r1.val\/c∈za8 (st.slots.getD i .junk):=by
        unfold St.put at hc
        cases hd:o.dst with
        |none=>rw[hd]at hc;exact .inr hc
        |some d=>
         rw[hd]at hc
         have hc':c∈za8 ((st.slots.set d r1.val).getD i .junk):=hc
         rw[zbe]at hc'
         split at hc'
         ·exact .inl hc'
         ·exact .inr hc'
       rcases this with hc|hc
       ·obtain⟨i',oi,h1,h2,h3⟩:=hc1 c hc
        exact⟨i',oi,h1,.inl h2,h3⟩
       ·obtain⟨i',oi,h1,h2,h3⟩:=inv.conds i c hc
        exact⟨i',oi,h1,.inl h2,h3⟩
      ·have hkj:k≠j:=λe=>hLk (.inr e)
       obtain⟨h1,h2⟩:=inv.fresh k ok hk (λhl=>hLk (.inl hl)) hmk
       show base+k<(zac st.heap r1.upd).length/\(zac st.heap r1.upd).getD (base+k) none=none
       refine⟨by rw[zba];exact h1,zpk _ _ h2 λc hc=>?_⟩
       rcases hu1 _ c hc with⟨e',_⟩|⟨d,hd⟩
       ·omega
       ·have hz:=zf3 hd
        rw[h2]at hz;cases hz
     have condD:∀d,o.dst=some d->∀i,∀c∈za8 (st.slots.getD i .junk),c.1≠d:=λd hd i c hc he=>by
      obtain⟨i',oi,h1,h2,h3⟩:=inv.conds i c hc
      have:=rk.dsts i' j oi o d h1 hj (by rw[h3,he]) hd
      exact hL (this▸h2)
     unfold wpOp
     rw[hj]
     dsimp only
     split at h
     ·rename_i hon
      simp only[Option.some.injEq]at h;subst h
      have hw:Region.wanted o (yielded ops a.tmps)=true:=yad m hcs hon
      rw[if_pos hw]
      refine .inl (zgx ht m (zri hon) hfr (λn c hc=>zf3 hc) hr0 (zxm hs) λβ' u w' hp=>?_)
      have hcn:za8 (zkh X j r0).val=[]:=zbj (z5c hng)
      refine hK β' _ w' (zzc m (zz8 hs hp) λd hd=>⟨condD d hd,λc hc=>by rw[hcn]at hc;cases hc⟩) (invOf _ (by rw[zto];exact hup) λc hc=>by rw[hcn]at hc;cases hc)
     ·split at h
      ·cases h
      ·rename_i g want hgd
       split at h
       ·rename_i d hd hun
        split at h
        ·rename_i hgs
         simp only[Bool.and_eq_true,beq_iff_eq]at hgs
         obtain⟨⟨hgs1,hgs2⟩,hgs3⟩:=hgs
         simp only[Option.some.injEq]at h;subst h
         obtain⟨og,hog,hogd⟩:∃og,ops[g]? = some og/\og.dst=some d:=by
          cases hx:ops[g]? with
          |none=>rw[hx]at hd;cases hd
          |some og=>rw[hx]at hd;exact⟨og,rfl,hd⟩
         have hwi:=zn7 m hgd hog hogd hgs1
         rw[←hgs2]at hwi
         have hLg:L g:=hg g want hgd
         have hconds:∀c∈za8 (SV.g (zcu st.slots cs) r0.val),∃i oi,ops[i]? = some oi/\L i/\oi.dst=some c.1:=by
          intro c hc
          simp only[za8,zbj hng,List.append_nil]at hc
          rw[hgs2]at hc
          rcases List.mem_append.1 hc with hc|hc
          ·have hgc:c∈za8 (st.slots.getD d .junk):=by
            unfold zmr at hgs1
            rw[List.getD_eq_getElem?_getD]
            split at hgs1
            ·have:(zcu st.slots cs).dropLast=[]:=by simpa using hgs1
             rw[this]at hc;cases hc
            ·have:(zcu st.slots cs).dropLast=[]:=by simpa using hgs1
             rw[this]at hc;cases hc
            ·rename_i cs' b hb
             have e:cs'=(zcu st.slots cs).dropLast:=by simpa using hgs1
             rw[hb];simp only[Option.getD_some,za8,List.append_nil];rw[e];exact hc
            ·rename_i cs' b hb
             have e:cs'=(zcu st.slots cs).dropLast:=by simpa using hgs1
             rw[hb];simp only[Option.getD_some,za8,List.append_nil];rw[e];exact hc
            ·cases hgs1
           exact inv.conds d c hgc
          ·simp only[List.mem_singleton]at hc;subst hc
           exact⟨g,og,hog,hLg,hogd⟩
         have hdn:∀d',o.dst=some d'->∀c∈za8 (SV.g (zcu st.slots cs) r0.val),c.1≠d':=λd' hd' c hc he=>by
          obtain⟨i,oi,h1,h2,h3⟩:=hconds c hc
          have:=rk.dsts i j oi o d' h1 hj (by rw[h3,he]) hd'
          exact hL (this▸h2)
         have hinv:∀ss,Inv X ops base (λi=>L i\/i=j) (st.put o.dst {val:=.g (zcu st.slots cs) r0.val,upd:=[],sides:=ss}):=λss=>invOf _ (λn c hu=>by cases hu) hconds
         split
         ·rename_i hw
          have hh2:=hwi.1 hw
          have hh:=zpm hh2
          have hs0:allP r0.sides:=by
           cases hss:r0.sides with
           |nil=>trivial
           |cons p ps=>rw[hss]at hs;exact hs.1 (zmw hh)
          refine .inl (zgx ht m hh hfr (λn c hc=>zf3 hc) hr0 hs0 λβ' u w' hp=>?_)
          have hp':∀ss,Post w0 β st.slots st.heap {val:=.g (zcu st.slots cs) r0.val,upd:=[],sides:=ss} u β' w':=λss=>
           ⟨hp.keep,⟨λ_=>hp.den,λhn=>absurd hh2 hn⟩,λn hn=>by have:=hp.nm n hn;rw[hun]at this;exact this,by have:=hp.mem;rw[hun]at this;exact this⟩
          exact hK β' _ w' (zzc m (hp' _) λd' hd'=>⟨condD d' hd',hdn d' hd'⟩) (hinv _)
         ·rename_i hw
          have hh:¬holds st.slots (zcu st.slots cs):=λz=>hw (hwi.2 z)
          have hnm:∀n∈names r0.val,∃c,st.heap.getD n none=some c:=λn hn=>by
           have:=List.all_eq_true.1 hgs3 n hn
           have hm:n∈zfy (evS st.slots cs) o.op.operands.toList++zny (hpOf st.heap t) (t.1++t.2):=List.contains_iff_mem.1 this
           rcases List.mem_append.1 hm with hm|hm
           ·obtain⟨x,_,hx⟩:=ztw hm
            exact zbt m hx
           ·obtain⟨q,t',c',v,h1,h2,h3⟩:=zpn hm
            exact m.mem.refs q t' c' (zf3 h1) v h2 n h3
          have hp':∀ss,Post w0 β st.slots st.heap {val:=.g (zcu st.slots cs) r0.val,upd:=[],sides:=ss} undef β w:=λss=>
           ⟨λ_ _ _=>rfl,⟨λz=>absurd z hh,λ_=>rfl⟩,λn hn=>hnm n hn,m.mem⟩
          exact hK β _ w (zzc m (hp' _) λd' hd'=>⟨condD d' hd',hdn d' hd'⟩) (hinv _)
        ·cases h
       ·cases h
    ·cases h
  ·cases h
end
theorem zc0{ev ev':Operand->SV}:∀{xs:List Operand},(∀x∈xs,ev x=ev' x)->zdz ev xs=zdz ev' xs
 |[],_=>rfl
 |x::xs,h=>by
  simp only[zdz]
  rw[h x (by simp),zc0 (xs:=xs) λy hy=>h y (by simp[hy])]
theorem zhy{P:Program}{ev ev':Operand->SV}{o:Oper}(h:∀x∈o.op.operands,ev x=ev' x):zce P ev o=zce P ev' o:=by
 unfold zce
 rw[zc0 (xs:=o.op.operands.toList) λx hx=>h x (Array.mem_toList_iff.1 hx)]
 split
 ·rfl
 ·rename_i hsel
  rw[execOp_congr (ρ:=λx=>zdw (ev x)) (ρ':=λx=>zdw (ev' x)) o hsel λx hx=>congrArg zdw (h x hx)]
  have e:o.op.operands.toList.all (λx=>zge (ev x))=o.op.operands.toList.all (λx=>zge (ev' x)):=by
   rw[Bool.eq_iff_iff,List.all_eq_true,List.all_eq_true]
   exact⟨λk x hx=>by rw[←h x (Array.mem_toList_iff.1 hx)];exact k x hx,λk x hx=>by rw[h x (Array.mem_toList_iff.1 hx)];exact k x hx⟩
  rw[e]
 ·rfl
theorem zdg{ev ev':Operand->SV}:∀{xs:List Operand},(∀x∈xs,ev x=ev' x)->zdx ev xs=zdx ev' xs
 |[],_=>rfl
 |x::xs,h=>by
  simp only[zdx]
  rw[h x (by simp),zdg (xs:=xs) λy hy=>h y (by simp[hy])]
theorem zd1{ev ev':Operand->SV}:∀{xs:List Operand},(∀x∈xs,ev x=ev' x)->zfy ev xs=zfy ev' xs
 |[],_=>rfl
 |x::xs,h=>by
  simp only[zfy]
  rw[h x (by simp),zd1 (xs:=xs) λy hy=>h y (by simp[hy])]
theorem zxp{P:Program}{X:Tabs}{ev ev':List (Nat×Bool)->Operand->SV}{hp:Nat->Option HE}{fresh:Nat}{cs:List (Nat×Bool)}{o:Oper}
  (h:∀x∈o.op.operands,∀c,ev c x=ev' c x):zrh P X ev hp fresh cs o=zrh P X ev' hp fresh cs o:=by
 have hpl:=zhy (P:=P) (o:=o) (ev:=ev cs) (ev':=ev' cs) λx hx=>h x hx cs
 have hparts:∀(parts:Array (Nat×Operand)),o.op.operands=(parts.toList.map (·.2)).toArray->zdx (ev cs) (parts.toList.map (·.2))=zdx (ev' cs) (parts.toList.map (·.2)):=λparts hop=>zdg λx hx=>h x (by rw[hop,←Array.mem_toList_iff];exact hx) cs
 unfold zrh
 split
 ·rename_i c x y ho
  have hc:∀q,ev q c=ev' q c:=h c (by simp[ho,Op.operands])
  have hx:∀q,ev q x=ev' q x:=h x (by simp[ho,Op.operands])
  have hy:∀q,ev q y=ev' q y:=h y (by simp[ho,Op.operands])
  have hb:∀(b:Bool) q,ev q (if b then x else y)=ev' q (if b then x else y):=λb q=>by cases b<;>simp[hx,hy]
  simp only[hc,hx,hy,hb]
 ·rename_i x ho;rw[h x (by simp[ho,Op.operands])]
 ·rename_i x ho;rw[h x (by simp[ho,Op.operands])]
 ·rfl
 ·rename_i t x ho;rw[h x (by simp[ho,Op.operands])]
 ·rename_i t x ho;rw[h x (by simp[ho,Op.operands])]
 ·rename_i t x y ho;rw[h x (by simp[ho,Op.operands]),h y (by simp[ho,Op.operands])]
 ·rename_i s x f ho;rw[h x (by simp[ho,Op.operands])]
 ·rename_i t x y ho;rw[h x (by simp[ho,Op.operands]),h y (by simp[ho,Op.operands])]
 ·rename_i t parts ho;rw[hparts parts (by rw[ho];rfl),hpl]
 ·rename_i x i ho;rw[h x (by simp[ho,Op.operands]),hpl]
 ·rename_i t x f ho;rw[h x (by simp[ho,Op.operands])]
 ·rename_i F first caps ho
  rw[zdg (ev:=ev cs) (ev':=ev' cs) (xs:=caps.toList) λx hx=>h x (by simp only[ho,Op.operands];simp;exact .inr (Array.mem_toList_iff.1 hx)) cs]
 ·rename_i t len parts ho;rw[hparts parts (by rw[ho];rfl)]
 ·rename_i t x y ho;rw[h x (by simp[ho,Op.operands]),h y (by simp[ho,Op.operands])]
 ·rename_i args argTypes ho
  have ha:∀x,args.toList=[x]->ev cs x=ev' cs x:=λx hx=>h x (by simp only[ho,Op.operands,Call.operands];simp;rw[←Array.mem_toList_iff,hx];simp) cs
  split
  ·rename_i x t hx ht
   rw[ha x hx,hpl]
  ·rfl
 ·rename_i args argTypes ho
  have ha:∀x∈args.toList,ev cs x=ev' cs x:=λx hx=>h x (by simp only[ho,Op.operands,Call.operands];simp;exact Array.mem_toList_iff.1 hx) cs
  split
  ·rename_i x y t t' hx ht
   rw[ha x (by rw[hx];simp),ha y (by rw[hx];simp)]
  ·rfl
 ·rename_i f args ts ho
  have ha:∀x∈args.toList,ev cs x=ev' cs x:=λx hx=>h x (by simp only[ho,Op.operands,Call.operands];simp;exact .inr (Array.mem_toList_iff.1 hx)) cs
  rw[zc0 ha,zdg ha]
 ·rename_i t args ts ho
  have ha:∀x∈args.toList,ev cs x=ev' cs x:=λx hx=>h x (by simp only[ho,Op.operands,Call.operands];simp;exact .inr (Array.mem_toList_iff.1 hx)) cs
  have ht:ev cs (.tmp t)=ev' cs (.tmp t):=h (.tmp t) (by simp[ho,Op.operands,Call.operands]) cs
  rw[zc0 ha,zdg ha,ht]
 ·rename_i op t x y ty ho
  have hx:=h x (by simp[ho,Op.operands]) cs
  have hy:=h y (by simp[ho,Op.operands]) cs
  rw[hx,hy,hpl]
 ·rename_i x ho;rw[h x (by simp[ho,Op.operands]),hpl]
 ·exact hpl
theorem z0c{P:Program}{X:Tabs}{ev ev':Operand->SV}{hp:Nat->Option HE}{fresh:Nat}{o:Oper}
  (h:∀x∈o.op.operands,ev x=ev' x):z5i P X ev hp fresh o=z5i P X ev' hp fresh o:=by
 have hparts:∀(parts:Array (Nat×Operand)),o.op.operands=(parts.toList.map (·.2)).toArray->zdx ev (parts.toList.map (·.2))=zdx ev' (parts.toList.map (·.2)):=λparts hop=>zdg λx hx=>h x (by rw[hop,←Array.mem_toList_iff];exact hx)
 unfold z5i
 split
 ·rename_i t len parts ho;rw[hparts parts (by rw[ho];rfl)]
 ·rename_i t x y ho;rw[h x (by simp[ho,Op.operands]),h y (by simp[ho,Op.operands])]
 ·rename_i t x y ho;rw[h x (by simp[ho,Op.operands]),h y (by simp[ho,Op.operands])]
 ·rename_i args argTypes ho
  have ha:∀x,args.toList=[x]->ev x=ev' x:=λx hx=>h x (by simp only[ho,Op.operands,Call.operands];simp;rw[←Array.mem_toList_iff,hx];simp)
  split
  ·rename_i x t hx ht
   rw[ha x hx]
  ·rfl
 ·rename_i F args ts ho
  have ha:∀x,args.toList=[x]->ev x=ev' x:=λx hx=>h x (by simp only[ho,Op.operands,Call.operands];simp;exact .inr (by rw[←Array.mem_toList_iff,hx];simp))
  split
  ·split
   ·rename_i x hx
    rw[ha x hx]
   ·rfl
  ·rfl
 ·rfl
 ·rename_i t m k x ho;unfold zt1;rw[h m (by simp[ho,Op.operands]),h k (by simp[ho,Op.operands])]
 ·rename_i t m k x ho;unfold zt1;rw[h m (by simp[ho,Op.operands]),h k (by simp[ho,Op.operands])]
 ·rfl
theorem z5k{X:Tabs}{ev ev':Operand->SV}{fresh:Nat}{o:Oper}(h:∀x∈o.op.operands,ev x=ev' x):opMk X ev fresh o=opMk X ev' fresh o:=by
 unfold opMk
 split
 ·rename_i F args ts ho
  have ha:∀x,args.toList=[x]->ev x=ev' x:=λx hx=>h x (by simp only[ho,Op.operands,Call.operands];simp;exact .inr (by rw[←Array.mem_toList_iff,hx];simp))
  split
  ·rename_i f x _ _ hx
   rw[ha x hx]
  ·rfl
 ·rfl
theorem z5h{X:Tabs}{ev ev':Operand->SV}{hp:Nat->Option HE}{fresh:Nat}{o:Oper}(h:∀x∈o.op.operands,ev x=ev' x):opOw X ev hp fresh o=opOw X ev' hp fresh o:=by
 unfold opOw
 split
 ·rename_i F args ts ho
  rw[zdg (ev:=ev) (ev':=ev') (xs:=args.toList) λx hx=>h x (by simp only[ho,Op.operands,Call.operands];simp;exact .inr (by rw[←Array.mem_toList_iff];exact hx))]
 ·rfl
theorem z5o{P:Program}{X:Tabs}{ev ev':Operand->SV}{hp:Nat->Option HE}{fresh:Nat}{o:Oper}(h:∀x∈o.op.operands,ev x=ev' x):opCl P X ev hp fresh o=opCl P X ev' hp fresh o:=by
 unfold opCl
 split
 ·rfl
 ·split
  ·rfl
  ·rename_i t m k ok ho;rw[h m (by simp[ho,Op.operands]),h k (by simp[ho,Op.operands])]
  ·rename_i t m k x ho;rw[h m (by simp[ho,Op.operands]),h k (by simp[ho,Op.operands]),h x (by simp[ho,Op.operands])]
  ·rename_i s d x ho;rw[h x (by simp[ho,Op.operands])]
  ·rename_i t x y ho;rw[h x (by simp[ho,Op.operands]),h y (by simp[ho,Op.operands])]
  ·rename_i t x lo hi mx ho
   have hcut0:∀k,zj4 ev k lo hi none=zj4 ev' k lo hi none:=λk=>by
    have h1:∀y,lo=some y->ev y=ev' y:=λy e=>h y (by simp[ho,Op.operands,e])
    have h2:∀y,hi=some y->ev y=ev' y:=λy e=>h y (by simp[ho,Op.operands,e])
    unfold zj4
    cases lo<;>cases hi<;>simp_all
   have hcut:∀k,zj4 ev k lo hi mx=zj4 ev' k lo hi mx:=λk=>by
    have h1:∀y,lo=some y->ev y=ev' y:=λy e=>h y (by simp[ho,Op.operands,e])
    have h2:∀y,hi=some y->ev y=ev' y:=λy e=>h y (by simp[ho,Op.operands,e])
    have h3:∀y,mx=some y->ev y=ev' y:=λy e=>h y (by simp[ho,Op.operands,e])
    unfold zj4
    cases lo<;>cases hi<;>cases mx<;>simp_all
   rw[h x (by simp[ho,Op.operands])]
   simp only[hcut,hcut0]
  ·rename_i t x y ho;rw[h x (by simp[ho,Op.operands]),h y (by simp[ho,Op.operands])]
  ·rfl
theorem z5m{X:Tabs}{ev ev':Operand->SV}{hp:Nat->Option HE}{fresh:Nat}{o:Oper}(h:∀x∈o.op.operands,ev x=ev' x):opGv X ev hp fresh o=opGv X ev' hp fresh o:=by
 unfold opGv
 split
 ·rename_i F args ts ho
  rw[zdg (ev:=ev) (ev':=ev') (xs:=args.toList) λx hx=>h x (by simp only[ho,Op.operands,Call.operands];simp;exact .inr (by rw[←Array.mem_toList_iff];exact hx))]
 ·rfl
theorem z5n{P:Program}{X:Tabs}{ev ev':Operand->SV}{fresh:Nat}{o:Oper}(h:∀x∈o.op.operands,ev x=ev' x):opCs P X ev fresh o=opCs P X ev' fresh o:=by
 unfold opCs
 split
 ·rfl
 ·split
  ·rename_i t x y ho;rw[h x (by simp[ho,Op.operands]),h y (by simp[ho,Op.operands])]
  ·rename_i t x y ho;rw[h x (by simp[ho,Op.operands]),h y (by simp[ho,Op.operands])]
  ·rename_i t x lo hi ho
   have hcut0:∀k,zj4 ev k lo hi none=zj4 ev' k lo hi none:=λk=>by
    have h1:∀y,lo=some y->ev y=ev' y:=λy e=>h y (by simp[ho,Op.operands,e])
    have h2:∀y,hi=some y->ev y=ev' y:=λy e=>h y (by simp[ho,Op.operands,e])
    unfold zj4
    cases lo<;>cases hi<;>simp_all
   rw[h x (by simp[ho,Op.operands])]
   simp only[hcut0]
  ·rename_i args ts ho
   split
   ·rename_i x t hx _
    rw[h x (by simp only[ho,Op.operands,Call.operands];simp;rw[←Array.mem_toList_iff,hx];simp)]
   ·rfl
  ·rfl
theorem z5f{P:Program}{X:Tabs}{ev ev':Operand->SV}{hp:Nat->Option HE}{fresh:Nat}{o:Oper}(h:∀x∈o.op.operands,ev x=ev' x):opSl P X ev hp fresh o=opSl P X ev' hp fresh o:=by
 unfold opSl
 split
 ·rename_i t x y ho;rw[h x (by simp[ho,Op.operands]),h y (by simp[ho,Op.operands])]
 ·rename_i op t x y ty ho;rw[h x (by simp[ho,Op.operands]),h y (by simp[ho,Op.operands])]
 ·rfl
theorem zmd{P:Program}{X:Tabs}{ev ev':List (Nat×Bool)->Operand->SV}{hp:Nat->Option HE}{fresh:Nat}{cs:List (Nat×Bool)}{o:Oper}
  (h:∀x∈o.op.operands,∀c,ev c x=ev' c x):zme P X ev hp fresh cs o=zme P X ev' hp fresh cs o:=by
 unfold zme
 rw[z5k (ev:=ev cs) (ev':=ev' cs) λx hx=>h x hx cs,z5f (ev:=ev cs) (ev':=ev' cs) λx hx=>h x hx cs,z5h (ev:=ev cs) (ev':=ev' cs) λx hx=>h x hx cs,z5m (ev:=ev cs) (ev':=ev' cs) λx hx=>h x hx cs,z5n (ev:=ev cs) (ev':=ev' cs) λx hx=>h x hx cs,z5o (ev:=ev cs) (ev':=ev' cs) λx hx=>h x hx cs,zxp h,z0c (ev:=ev cs) (ev':=ev' cs) λx hx=>h x hx cs]
def yld:Operand->Option Nat
 |.tmp t=>some t
 |_=>none
def zhx(o:Oper):List Nat:=o.op.operands.toList.filterMap yld
theorem z0w{l:List SV}{d:Nat}{s:SV}{cs:List (Nat×Bool)}{x:Operand}(h:x≠.tmp d):evS (l.set d s) cs x=evS l cs x:=by
 cases x with
 |tmp t=>
  have:d≠t:=λe=>h (by rw[e])
  simp only[evS]
  rw[zbe,if_neg (λz=>this z.1)]
 |_=>rfl
theorem zzp{o:Oper}{x:Operand}{d:Nat}(hx:x∈o.op.operands)(hd:d∉zhx o):x≠.tmp d:=λe=>hd (by
 subst e
 exact List.mem_filterMap.2 ⟨.tmp d,Array.mem_toList_iff.2 hx,rfl⟩)
theorem zi0{X:Tabs}{ev ev':Operand->SV}{fresh:Nat}{o:Oper}(h:∀x∈o.op.operands,ev x=ev' x):zc9 X ev fresh o=zc9 X ev' fresh o:=by
 unfold zc9
 split
 ·rename_i t x ho;rw[h x (by simp[ho,Op.operands])]
 ·rename_i t x y ho;rw[h x (by simp[ho,Op.operands]),h y (by simp[ho,Op.operands])]
 ·rfl
 ·rfl
 ·rfl
 ·rename_i t len ps ho
  rw[zd1 (ev:=ev) (ev':=ev') λx hx=>h x (by simp only[ho,Op.operands];rw[←Array.mem_toList_iff];exact hx)]
 ·rename_i t x y ho;rw[h x (by simp[ho,Op.operands])]
 ·rename_i t x f ho;rw[h x (by simp[ho,Op.operands])]
 ·rfl
 ·rename_i t x lo hi mx ho;rw[h x (by simp[ho,Op.operands])]
 ·rename_i t m k ok ho;rw[h m (by simp[ho,Op.operands])]
 ·rename_i s d x ho;rw[h x (by simp[ho,Op.operands])]
 ·rename_i t m k x ho;rw[h m (by simp[ho,Op.operands]),h k (by simp[ho,Op.operands]),h x (by simp[ho,Op.operands])]
 ·rename_i t m k x ho;rw[h m (by simp[ho,Op.operands]),h k (by simp[ho,Op.operands])]
 ·rename_i args ts ho
  rw[zd1 (ev:=ev) (ev':=ev') λx hx=>h x (by simp only[ho,Op.operands,Call.operands];simp;exact Array.mem_toList_iff.1 hx)]
 ·rename_i b args ts hb ho
  rw[zd1 (ev:=ev) (ev':=ev') λx hx=>h x (by simp only[ho,Op.operands,Call.operands];simp;exact Array.mem_toList_iff.1 hx)]
 ·rename_i F args ts ho
  rw[zd1 (ev:=ev) (ev':=ev') λx hx=>h x (by simp only[ho,Op.operands,Call.operands];simp;exact .inr (Array.mem_toList_iff.1 hx))]
 ·rename_i t args ts ho
  rw[zd1 (ev:=ev) (ev':=ev') λx hx=>h x (by simp only[ho,Op.operands,Call.operands];simp;exact .inr (Array.mem_toList_iff.1 hx)),h (.tmp t) (by simp[ho,Op.operands,Call.operands])]
 ·rfl
theorem zkt{l:List SV}{d:Nat}{s:SV}:∀{cs:List (Nat×Bool)},(∀c∈cs,c.1≠d)->zku (l.set d s) cs=zku l cs
 |[],_=>rfl
 |c::cs,h=>by
  simp only[zku]
  rw[ziu (h c (by simp)),zkt λx hx=>h x (by simp[hx])]
theorem yaf{l:List SV}{d:Nat}{s:SV}:∀{cs:List (Nat×Bool)},(∀c∈cs,c.1≠d)->onB (l.set d s) cs=onB l cs
 |[],_=>rfl
 |c::cs,h=>by
  simp only[onB]
  rw[yaf λx hx=>h x (by simp[hx]),List.getElem?_set_ne (Ne.symm (h c (by simp)))]
theorem zir{P:Program}{X:Tabs}{ops:Array Oper}{base j:Nat}{o:Oper}{t:Tch}{st:St}{dst:Option Nat}{r:Res}{cs:List (Nat×Bool)}
  (hcs:zdu ops (ops.size+1) o=some cs) (hd:∀d,dst=some d->d∉zhx o/\∀c∈cs,c.1≠d) (hu:∀n c,(n,c)∈r.upd->n∉t.1/\n∉t.2) :
  core P X ops base j o t (st.put dst r)=core P X ops base j o t st:=by
 have hev:∀x∈o.op.operands,∀c,evS (st.put dst r).slots c x=evS st.slots c x:=λx hx c=>by
  unfold St.put
  cases hdst:dst with
  |none=>rfl
  |some d=>exact z0w (zzp hx (hd d hdst).1)
 have hhp:hpOf (st.put dst r).heap t=hpOf st.heap t:=by
  funext n
  show hpOf (zac st.heap r.upd) t n=hpOf st.heap t n
  unfold hpOf
  split
  ·rename_i hmem
   exact zdr _ _ λc hc=>by
    have:=hu n c hc
    simp[this.1,this.2]at hmem
  ·rfl
 have hcp:zku (st.put dst r).slots cs=zku st.slots cs:=by
  unfold St.put
  cases hdst:dst with
  |none=>rfl
  |some d=>exact zkt (hd d hdst).2
 have hoff:offB (st.put dst r).slots ops o=offB st.slots ops o:=by
  unfold St.put
  cases hdst:dst with
  |none=>rfl
  |some d=>
   unfold offB
   split
   ·rfl
   ·rename_i g want hg
    split
    ·rename_i d0 hd0
     have hne:d0≠d:=by
      simp only[zdu,hg]at hcs
      split at hcs
      ·rename_i og hog
       split at hcs
       ·rename_i d1 cs' hd1 _
        simp only[Option.some.injEq]at hcs;subst hcs
        rw[hog]at hd0
        have e1:og.dst=some d0:=hd0
        have e2:d1=d0:=Option.some.inj (hd1.symm.trans e1)
        subst e2
        exact(hd d hdst).2 (d1,want) (by simp)
       ·cases hcs
      ·cases hcs
     dsimp only
     rw[List.getElem?_set_ne (Ne.symm hne)]
    ·rfl
 have hon:onB (st.put dst r).slots cs=onB st.slots cs:=by
  unfold St.put
  cases hdst:dst with
  |none=>rfl
  |some d=>exact yaf (hd d hdst).2
 have hdo:zcu (st.put dst r).slots cs=zcu st.slots cs:=by
  unfold St.put
  cases hdst:dst with
  |none=>rfl
  |some d=>exact zuc (hd d hdst).2
 unfold core
 rw[hcs]
 dsimp only
 rw[hoff,hon,hdo,zi0 (X:=X) (ev:=evS (st.put dst r).slots cs) (ev':=evS st.slots cs) λx hx=>hev x hx cs,zmd (ev:=evS (st.put dst r).slots) (ev':=evS st.slots) hev,hhp,hcp]
 split
 ·split
  ·rfl
  split
  ·rfl
  ·split
   ·split
    ·rfl
    split
    ·rfl
    ·rename_i g want hg
     split
     ·rename_i d0 hd0 _
      have hgs:zmr (st.put dst r).slots d0 (zcu st.slots cs).dropLast=zmr st.slots d0 (zcu st.slots cs).dropLast\/(zcu st.slots cs==(zcu st.slots cs).dropLast++[(d0,want)])=false:=by
       by_cases hq:(zcu st.slots cs==(zcu st.slots cs).dropLast++[(d0,want)])=true
       ·left
        have hm:(d0,want)∈cs:=zud (l:=st.slots)<|by
         have:=eq_of_beq hq
         rw[this];simp
        unfold St.put
        cases hdst:dst with
        |none=>rfl
        |some d=>
         have hne:d0≠d:=(hd d hdst).2 _ hm
         unfold zmr
         dsimp only
         rw[List.getElem?_set_ne (Ne.symm hne)]
       ·right;simpa using hq
      have hnl:zfy (evS (st.put dst r).slots cs) o.op.operands.toList=zfy (evS st.slots cs) o.op.operands.toList:=zd1 λx hx=>hev x (Array.mem_toList_iff.1 hx) cs
      rw[hnl]
      rcases hgs with hgs|hgs<;>rw[hgs]
      simp
     ·rfl
   ·rfl
 ·rfl
section
variable(P:Program)(X:Tabs)(ops:Array Oper)(base:Nat)(ts:List Tch)
def zdo(i:Nat)(s:St):Option (Oper×Res):=
 match ops[i]? with
 |some o=>match core P X ops base i o (ts.getD i ([],[])) s with
  |some r=>some (o,r)
  |none=>none
 |none=>none
def AllO(F:St->Prop):Nat->Array Bool->St->Prop
 |0,L,s=>Region.ready .any ops L=[]/\F s
 |f+1,L,s=>(Region.ready .any ops L=[]->F s)/\
  ∀i∈Region.ready .any ops L,∃o r,zdo P X ops base ts i s=some (o,r)/\allP r.sides/\AllO F f (L.setIfInBounds i true) (s.put o.dst r)
end
section
variable{P:Program}{X:Tabs}{ops:Array Oper}{base:Nat}{ts:List Tch}{F:St->Prop}
theorem zes{i:Nat}{s:St}{o:Oper}{r:Res}(h:zdo P X ops base ts i s=some (o,r)):ops[i]? = some o/\core P X ops base i o (ts.getD i ([],[])) s=some r:=by
 unfold zdo at h
 split at h
 ·rename_i o' ho
  split at h
  ·rename_i r' hr
   simp only[Option.some.injEq,Prod.mk.injEq]at h
   obtain⟨rfl,rfl⟩:=h
   exact⟨ho,hr⟩
  ·cases h
 ·cases h
theorem zji{i:Nat}{o:Oper}{t:Tch}{s:St}{r:Res}(h:core P X ops base i o t s=some r):(∃cs,zdu ops (ops.size+1) o=some cs)/\∀n c,(n,c)∈r.upd->n∈t.2:=by
 unfold core at h
 split at h
 ·cases h
 ·rename_i cs hcs
  refine⟨⟨cs,hcs⟩,?_⟩
  split at h
  ·split at h
   ·simp only[Option.some.injEq]at h;subst h
    intro n c hn;cases hn
   split at h
   ·cases h
   ·rename_i r0 _
    split at h
    ·rename_i hc
     simp only[Bool.and_eq_true]at hc
     split at h
     ·simp only[Option.some.injEq]at h;subst h
      rw[zto]
      exact zwn hc.1.1
     split at h
     ·cases h
     ·split at h
      ·split at h
       ·simp only[Option.some.injEq]at h;subst h
        intro n c hn;cases hn
       ·cases h
      ·cases h
    ·cases h
  ·cases h
theorem zil:∀(l:List (Nat×HE)) (h:List (Option HE)) (n:Nat),(zac h l)[n]? = match l.reverse.find? (λq=>q.1==n)with
  |some q=>if n<h.length then some (some q.2)else none
  |none=>h[n]?
 |[],h,n=>rfl
 |(k,e)::l,h,n=>by
  simp only[zac]
  rw[zil l,List.reverse_cons,List.find?_append]
  cases l.reverse.find? (λq=>q.1==n)with
  |some q=>simp
  |none=>
   simp only[Option.none_or,List.find?_singleton]
   by_cases e':k=n
   ·subst e'
    simp only[beq_self_eq_true,if_true]
    by_cases hl:k<h.length
    ·rw[List.getElem?_set_self hl,if_pos hl]
    ·rw[List.getElem?_eq_none (by simp;omega),if_neg hl]
   ·have:(k==n)=false:=by simpa using e'
    simp only[this,Bool.false_eq_true,if_false]
    rw[List.getElem?_set_ne e']
theorem zyb{a b:List (Nat×HE)}(h:List (Option HE))(hab:∀n c m e,(n,c)∈a->(m,e)∈b->n≠m):zac (zac h a) b=zac (zac h b) a:=by
 apply List.ext_getElem?
 intro n
 rw[zil,zil,zil,zil,zba,zba]
 cases hb:b.reverse.find? (λq=>q.1==n)with
 |none=>cases a.reverse.find? (λq=>q.1==n)<;>rfl
 |some q=>
  cases ha:a.reverse.find? (λq=>q.1==n)with
  |none=>rfl
  |some p=>
   exfalso
   have h1:=List.find?_some ha;have h2:=List.find?_some hb
   have m1:=List.mem_of_find?_eq_some ha;have m2:=List.mem_of_find?_eq_some hb
   simp only[beq_iff_eq]at h1 h2
   exact hab p.1 p.2 q.1 q.2 (by simpa using m1) (by simpa using m2) (by rw[h1,h2])
theorem zu1{s:St}{ri rj:Res}{di dj:Option Nat}(hd:∀d,di=some d->dj≠some d)(hu:∀n c m e,(n,c)∈ri.upd->(m,e)∈rj.upd->n≠m) :
  (s.put di ri).put dj rj=(s.put dj rj).put di ri:=by
 unfold St.put
 have hfx:zoy dj (zoy di s.fix)=zoy di (zoy dj s.fix):=by
  cases di with
  |none=>cases dj<;>rfl
  |some d=>cases dj with
   |none=>rfl
   |some e=>exact zue e d s.fix
 dsimp only
 rw[hfx]
 congr 1
 ·cases di with
  |none=>cases dj<;>rfl
  |some d=>cases dj with
   |none=>rfl
   |some e=>
    have:d≠e:=λz=>hd d rfl (by rw[z])
    exact List.set_comm _ _ this
 ·exact zyb _ hu
theorem swap{i j:Nat}{s:St}{oi oj:Oper}{ri rj:Res}(hap:yiw (ops:=ops) (ts:=ts) i j)(hi:zdo P X ops base ts i s=some (oi,ri))(hj:zdo P X ops base ts j (s.put oi.dst ri)=some (oj,rj)) :
  zdo P X ops base ts j s=some (oj,rj)/\zdo P X ops base ts i (s.put oj.dst rj)=some (oi,ri)/\(s.put oi.dst ri).put oj.dst rj=(s.put oj.dst rj).put oi.dst ri:=by
 obtain⟨hoi,hci⟩:=zes hi
 obtain⟨hoj,hcj⟩:=zes hj
 obtain⟨h1,h2,h3,h4,h5⟩:=z3m (hap oi oj hoi hoj)
 obtain⟨⟨csi,hcsi⟩,hui⟩:=zji hci
 obtain⟨⟨csj,hcsj⟩,huj⟩:=zji hcj
 have ej:=zir (P:=P) (X:=X) (base:=base) (j:=j) (t:=ts.getD j ([],[])) (st:=s) (dst:=oi.dst) (r:=ri) hcsj (λd hd=>⟨(h1 d hd).1,(h1 d hd).2 csj hcsj⟩) (λn c hn=>h4 n (hui n c hn))
 rw[ej]at hcj
 have ei:=zir (P:=P) (X:=X) (base:=base) (j:=i) (t:=ts.getD i ([],[])) (st:=s) (dst:=oj.dst) (r:=rj) hcsi (λd hd=>⟨(h2 d hd).1,(h2 d hd).2 csi hcsi⟩) (λn c hn=>h5 n (huj n c hn))
 refine⟨by unfold zdo;rw[hoj];dsimp only;rw[hcj],by unfold zdo;rw[hoi];dsimp only;rw[ei,hci],zu1 h3 λn c m e hn hm he=>?_⟩
 subst he
 exact(h4 n (hui n c hn)).2 (huj n e hm)
theorem zo6{i:Nat}{oi:Oper}:∀(f:Nat) (L:Array Bool) (s:St) (ri:Res),
  (∀j oj,ops[j]? = some oj->j≠i->L.getD j true=false->((twOf ops).getD j 0).testBit i=false->yiw (ops:=ops) (ts:=ts) i j)->ziy ops L->
  i∈Region.ready .any ops L->zdo P X ops base ts i s=some (oi,ri)->allP ri.sides->
  AllO P X ops base ts F f (L.setIfInBounds i true) (s.put oi.dst ri)->AllO P X ops base ts F (f+1) L s:=by
 intro f
 induction f with
 |zero=>
  intro L s ri _ _ hr hi hs H
  refine⟨λh=>(by rw[h]at hr;cases hr),λj hj=>?_⟩
  by_cases hji:j=i
  ·subst hji;exact⟨oi,ri,hi,hs,H⟩
  ·have:=ready_mono hj hji
   rw[H.1]at this
   cases this
 |succ f ih=>
  intro L s ri hfree hcl hr hi hs H
  refine⟨λh=>(by rw[h]at hr;cases hr),λj hj=>?_⟩
  by_cases hji:j=i
  ·subst hji;exact⟨oi,ri,hi,hs,H⟩
  ·obtain⟨oj,rj,hsj,hsides,hall⟩:=H.2 j (ready_mono hj hji)
   obtain⟨hjun,oj',hoj,hwait⟩:=mem_ready.1 hj
   have hnot:((twOf ops).getD j 0).testBit i=false:=by
    cases hb:((twOf ops).getD j 0).testBit i with
    |false=>rfl
    |true=>
     have h0:=(mem_ready.1 hr).1
     have hil:L.getD i false=true:=by
      obtain⟨n,hn,hx⟩:=zqq hoj hb
      obtain⟨e,he,hbd,rfl⟩:=zh4.1 hn
      have hnl:=hwait e he hbd
      rcases hx with rfl|⟨hlt,hx⟩
      ·exact hnl
      ·have hjlt:j<ops.size:=(Array.getElem?_eq_some_iff.1 hoj).1
       exact hcl.through e.on (ops[e.on]'(by omega)) (Array.getElem?_eq_getElem (by omega)) hnl hx
     rcases Nat.lt_or_ge i L.size with h'|h'
     ·simp[h']at h0 hil;rw[h0]at hil;cases hil
     ·simp[Array.getElem?_eq_none h']at hil
   obtain⟨e1,e2,e3⟩:=swap (hfree j oj' hoj hji hjun hnot) hi hsj
   refine⟨oj,rj,e1,hsides,ih _ _ ri (λk ok hk hki hun hno=>hfree k ok hk hki ?_ hno) (hcl.set hj) (ready_mono hr (Ne.symm hji)) e2 hs ?_⟩
   ·by_cases hjk:j=k
    ·subst hjk;exact hjun
    ·rw[getD_set_ne true hjk]at hun;exact hun
   ·rw[Array.setIfInBounds_comm _ _ hji,←e3]
    exact hall
end
def zcb(P:Program)(X:Tabs)(ops:Array Oper)(base:Nat):Nat->List Oper->St->Option (St×List Prop×List Tch)
 |_,[],s=>some (s,[],[])
 |j,o::l,s=>
  match zdu ops (ops.size+1) o with
  |none=>none
  |some cs=>
   match core P X ops base j o (z4x (λn=>s.heap.getD n none) (zc9 X (evS s.slots cs) (base+j) o)) s with
   |none=>none
   |some r=>
    match zcb P X ops base (j+1) l (s.put o.dst r)with
    |some (s',ps,ts)=>some (s',r.sides++ps,z4x (λn=>s.heap.getD n none) (zc9 X (evS s.slots cs) (base+j) o)::ts)
    |none=>none
section
variable{P:Program}{X:Tabs}{ops:Array Oper}{base:Nat}{ts:List Tch}{F:St->Prop}{w0:Base P}{Q:Exit->Act->World->Prop}
theorem Inv.iff{L L':Nat->Prop}{s:St}(h:Inv X ops base L s)(e:∀i,L i↔L' i):Inv X ops base L' s:=
 ⟨λi c hc=>by obtain⟨j,oj,h1,h2,h3⟩:=h.conds i c hc;exact⟨j,oj,h1,(e j).1 h2,h3⟩,λj o hj hL hm=>h.fresh j o hj (λz=>hL ((e j).1 z)) hm⟩
theorem zd9(rk:z1q ops)(ht:zal P X)(hQ:∀β s a w,F s->M w0 β s a w->Q .normal a w):∀(f:Nat) (L:Array Bool) (s:St) (a:Act) (w:World) (β:Env),
  AllO P X ops base ts F f L s->M w0 β s a w->Inv X ops base (λi=>L.getD i false=true) s->wpAny P .any ops Q f L a w
 |0,L,s,a,w,β,h,m,_=>⟨h.1,hQ β s a w h.2 m⟩
 |f+1,L,s,a,w,β,h,m,inv=>by
  refine⟨λhr=>hQ β s a w (h.1 hr) m,λi hi=>?_⟩
  obtain⟨o,r,hs,hsd,hall⟩:=h.2 i hi
  obtain⟨ho,hc⟩:=zes hs
  obtain⟨h0,o',ho',hw⟩:=mem_ready.1 hi
  have e:o'=o:=Option.some.inj (ho'.symm.trans ho)
  subst e
  refine zh6 rk ht m inv ho (by simp[zfd h0]) (λg q hg=>?_) hc hsd λβ' a' w' m' inv'=>?_
  ·obtain⟨_,e,he,hb,hon⟩:=rk.guards i o' g q ho hg
   rw[←hon];exact hw e he hb
  ·exact zd9 rk ht hQ f _ _ _ _ β' hall m' (inv'.iff λk=>(zho h0).symm)
theorem zii:∀(l:List Oper) (k:Nat) (s s':St) (ps:List Prop) (ts:List Tch),zcb P X ops base k l s=some (s',ps,ts)->ts.length=l.length
 |[],k,s,s',ps,ts,h=>by simp only[zcb,Option.some.injEq,Prod.mk.injEq]at h;rw[←h.2.2];rfl
 |o::l,k,s,s',ps,ts,h=>by
  simp only[zcb]at h
  split at h
  ·cases h
  ·split at h
   ·cases h
   ·split at h
    ·rename_i s2 ps2 ts2 h2
     simp only[Option.some.injEq,Prod.mk.injEq]at h
     rw[←h.2.2,List.length_cons,List.length_cons,zii l _ _ _ _ _ h2]
    ·cases h
theorem zll(hB:zls 0 (zr6 ops ts)=true)(hts:ts.length=ops.size)(hF:∀s',F s'↔F s'):∀(l:List Oper) (k:Nat) (L:Array Bool) (s s':St) (ps:List Prop) (ts':List Tch),
  (∀j,l[j]? = ops[k+j]?)->k+l.length=ops.size->(∀i,L.getD i true=false↔(k<=i/\i<ops.size))->(∀i,L.getD i false=true↔i<k)->ziy ops L->
  zcb P X ops base k l s=some (s',ps,ts')->(∀j,ts'[j]? = ts[k+j]?)->allP ps->F s'->AllO P X ops base ts F l.length L s
 |[],k,L,s,s',ps,ts',hl,hk,hL,hL',hcl,hrun,htk,hps,hf=>by
  simp only[zcb,Option.some.injEq,Prod.mk.injEq]at hrun
  obtain⟨rfl,_,_⟩:=hrun
  refine⟨?_,hf⟩
  cases hr:Region.ready .any ops L with
  |nil=>rfl
  |cons x xs=>
   have hx:x∈Region.ready .any ops L:=by rw[hr];simp
   have:=(hL x).1 (mem_ready.1 hx).1
   simp only[List.length_nil]at hk
   omega
 |o::l,k,L,s,s',ps,ts',hl,hk,hL,hL',hcl,hrun,htk,hps,hf=>by
  have h0:ops[k]? = some o:=by simpa using (hl 0).symm
  have hklt:k<ops.size:=(Array.getElem?_eq_some_iff.1 h0).1
  simp only[zcb]at hrun
  split at hrun
  ·cases hrun
  ·rename_i cs hcs
   split at hrun
   ·cases hrun
   ·rename_i r hr
    split at hrun
    ·rename_i s2 ps2 ts2 h2
     simp only[Option.some.injEq,Prod.mk.injEq]at hrun
     obtain⟨rfl,rfl,rfl⟩:=hrun
     rw[zbp]at hps
     have htk0:ts.getD k ([],[])=z4x (λn=>s.heap.getD n none) (zc9 X (evS s.slots cs) (base+k) o):=by
      have:=htk 0
      simp only[List.getElem?_cons_zero,Nat.add_zero]at this
      rw[List.getD_eq_getElem?_getD,←this];rfl
     have hstep:zdo P X ops base ts k s=some (o,r):=by
      unfold zdo;rw[h0];dsimp only;rw[htk0,hr]
     have fpAt:∀j oj,ops[j]? = some oj->(zr6 ops ts)[j]? = some {fpOf ops oj (ts.getD j ([],[]))with w:=(twOf ops).getD j 0}:=λj oj hj=>by
      have hlt:j<ops.size:=(Array.getElem?_eq_some_iff.1 hj).1
      unfold zr6
      rw[List.getElem?_zipWith,List.getElem?_zipWith]
      have h1:ops.toList[j]? = some oj:=by simpa using hj
      have h3:ts[j]? = some (ts.getD j ([],[])):=by
       rw[List.getD_eq_getElem?_getD,List.getElem?_eq_getElem (by omega)];rfl
      have h4:(twOf ops)[j]? = some ((twOf ops).getD j 0):=by
       obtain⟨r,g1,g2,_⟩:=ze9 ops.toList []
       have e:twOf ops=r:=by unfold twOf;rw[g1];rfl
       rw[List.getD_eq_getElem?_getD,List.getElem?_eq_getElem (by rw[e,g2];simpa using hlt)];rfl
      rw[h1,h3,h4]
     obtain⟨hw,hlater⟩:=zmc hB k _ (fpAt k o h0)
     rw[Nat.zero_add]at hw
     dsimp only at hw
     have hready:k∈Region.ready .any ops L:=by
      rw[mem_ready]
      refine⟨(hL k).2 ⟨Nat.le_refl _,hklt⟩,o,h0,λe he hb=>(hL' e.on).2 ?_⟩
      have hm:e.on∈zf9 o:=zh4.2 ⟨e,he,hb,rfl⟩
      have hbit:((twOf ops).getD k 0).testBit e.on=true:=by
       obtain⟨r,g1,g2,g3⟩:=ze9 ops.toList []
       have e':twOf ops=r:=by unfold twOf;rw[g1];rfl
       rw[e',List.getD_eq_getElem?_getD,g3 k o (by simpa using h0),Option.getD_some]
       generalize []++r.take k=acc
       revert hm
       generalize zf9 o=ws
       intro hm
       induction ws with
       |nil=>cases hm
       |cons x xs ih=>
        simp only[zj6,Nat.testBit_or,Bool.or_eq_true]
        rcases List.mem_cons.1 hm with rfl|hm
        ·exact .inl (.inl (Nat.testBit_two_pow_self))
        ·exact .inr (ih hm)
      rcases Nat.lt_or_ge e.on k with h|h
      ·exact h
      ·have:((twOf ops).getD k 0).testBit e.on=false:=Nat.testBit_lt_two_pow (Nat.lt_of_lt_of_le hw (Nat.pow_le_pow_right (by decide) h))
       rw[this]at hbit;cases hbit
     refine zo6 (oi:=o) l.length L s r (λj oj hj hjk hun hno=>?_) hcl hready hstep hps.1 ?_
     ·intro oi oj' hoi hoj'
      have e1:oi=o:=Option.some.inj (hoi.symm.trans h0)
      have e2:oj'=oj:=Option.some.inj (hoj'.symm.trans hj)
      subst e1;subst e2
      have hkj:k<j:=by have:=((hL j).1 hun).1;omega
      rcases hlater j _ hkj (fpAt j oj' hj)with h|h
      ·rw[Nat.zero_add]at h
       dsimp only at h
       rw[hno]at h;cases h
      ·exact h
     ·refine zll hB hts hF l (k+1) _ _ _ ps2 ts2 (λj=>by have:=hl (j+1);simpa [Nat.add_assoc,Nat.add_comm 1 j]using this) (by simp only[List.length_cons]at hk;omega)
       (λi=>?_) (λi=>?_) (hcl.set hready) h2 (λj=>by have:=htk (j+1);simpa [Nat.add_assoc,Nat.add_comm 1 j]using this) hps.2 hf
      ·have hkL:L.getD k true=false:=(hL k).2 ⟨Nat.le_refl _,hklt⟩
       have hksz:k<L.size:=by
        rcases Nat.lt_or_ge k L.size with h'|h'
        ·exact h'
        ·simp[Array.getElem?_eq_none h']at hkL
       by_cases e:k=i
       ·subst e
        constructor
        ·intro h;simp[hksz]at h
        ·intro h;omega
       ·rw[getD_set_ne true e,hL i];omega
      ·rw[zho ((hL k).2 ⟨Nat.le_refl _,hklt⟩),hL' i];omega
    ·cases hrun
theorem zh3(rk:z1q ops)(ht:zal P X):∀(l:List Oper) (k:Nat) (s s':St) (ps:List Prop) (ts':List Tch) (a:Act) (w:World) (β:Env),
  (∀j,l[j]? = ops[k+j]?)->zcb P X ops base k l s=some (s',ps,ts')->allP ps->M w0 β s a w->Inv X ops base (λi=>i<k) s->(∀β a w,M w0 β s' a w->Q .normal a w)->
  wpOps P ops Q (List.range' k l.length) a w
 |[],k,s,s',ps,ts',a,w,β,hl,hrun,hps,m,inv,hQ=>by
  simp only[zcb,Option.some.injEq,Prod.mk.injEq]at hrun
  obtain⟨rfl,_,_⟩:=hrun
  exact hQ β a w m
 |o::l,k,s,s',ps,ts',a,w,β,hl,hrun,hps,m,inv,hQ=>by
  have h0:ops[k]? = some o:=by simpa using (hl 0).symm
  simp only[zcb]at hrun
  split at hrun
  ·cases hrun
  ·rename_i cs hcs
   split at hrun
   ·cases hrun
   ·rename_i r hr
    split at hrun
    ·rename_i s2 ps2 ts2 h2
     simp only[Option.some.injEq,Prod.mk.injEq]at hrun
     obtain⟨rfl,rfl,rfl⟩:=hrun
     rw[zbp]at hps
     rw[List.length_cons,List.range'_succ,wpOps_cons]
     refine zh6 rk ht m inv h0 (by omega) (λg q hg=>(rk.guards k o g q h0 hg).1) hr hps.1 λβ' a' w' m' inv'=>?_
     exact zh3 rk ht l (k+1) _ _ ps2 ts2 a' w' β' (λj=>by have:=hl (j+1);simpa [Nat.add_assoc,Nat.add_comm 1 j]using this) h2 hps.2 m' (inv'.iff λi=>by omega) hQ
    ·cases hrun
end
theorem zdb(n i:Nat):(Array.replicate n false).getD i false=false:=by
 by_cases h:i<n
 ·simp[h]
 ·simp[h]
def zh0(s:St):St:={s with slots:=s.slots.map λx=>if isG x then .junk else x}
def zki(X:Tabs)(ops:Array Oper):Nat:=if ops.any (zbo X)then ops.size else 0
def zeh(P:Program)(X:Tabs)(ops:Array Oper)(draw:Bool)(st:St):Option (St×List Prop):=
 if regB ops then
  match zcb P X ops st.heap.length 0 ops.toList {st with heap:=st.heap++List.replicate (zki X ops) none}with
  |some (s,ps,ts)=>if !draw||zls 0 (zr6 ops ts)then some (zh0 s,ps)else none
  |none=>none
 else none
section
variable{P:Program}{X:Tabs}{ops:Array Oper}{w0:Base P}{w:World}{β:Env}{st s':St}{a:Act}{ps:List Prop}{Q:Exit->Act->World->Prop}
theorem NoG.at_(h:NoG st)(i:Nat):isG (st.slots.getD i .junk)=false:=by
 rw[List.getD_eq_getElem?_getD]
 cases hi:st.slots[i]? with
 |none=>rfl
 |some s=>exact h s (List.mem_of_getElem? hi)
theorem zis(s:St):NoG (zh0 s):=by
 intro x hx
 obtain⟨y,_,rfl⟩:=List.mem_map.1 hx
 split
 ·rfl
 ·rename_i h;simpa using h
theorem zv3(m:M w0 β st a w):M w0 β (zh0 st) a w:=by
 have hg:∀i,(zh0 st).slots.getD i .junk=if isG (st.slots.getD i .junk)then .junk else st.slots.getD i .junk:=λi=>by
  simp only[zh0,List.getD_eq_getElem?_getD,List.getElem?_map]
  cases st.slots[i]?<;>rfl
 refine {defers:=m.defers,anc:=m.anc,size:=by simp[zh0,m.size],slot:=λi u hu=>?_,locs:=λi n hn=>?_,mem:=m.mem,tie:=m.tie}
 ·rw[hg i]
  split
  ·trivial
  ·rename_i h
   exact zbg (λ_ _=>rfl) (λc hc=>by rw[zbj (by simpa using h)]at hc;cases hc) (m.slot i u hu)
 ·rw[hg i]at hn
  split at hn
  ·simp[names]at hn
  ·exact m.locs i n hn
theorem Mem.read{h h':List (Option HE)}{w':World}(m:Mem w0 β h w)(hg:∀n,h'.getD n none=h.getD n none)(hh:w'.heap=w.heap)(ho:w'.os=w.os)(ht:w'.tape=w.tape)(hu:w'.output=w.output):Mem w0 β h' w':=
 m.next (λ_=>False) (λ_ _ _ _=>rfl) (λ_ _ _ _ _ _ _=>rfl) (λn he hn _=>⟨(hg n)▸hn,λb _=>by rw[hh]⟩)
  (λb hN=>⟨by
           rcases hN with k|k
           ·exact .inl k
           ·exact .inr ⟨k.1,⟨by rw[hh];exact k.2.1.1,k.2.1.2.of (by rw[hh])⟩,λn he hn=>k.2.2 n he ((hg n)▸hn)⟩,by rw[hh]⟩)
  (by rw[hh];exact Nat.le_refl _) (λ_ _ _ k=>k.elim) (λ_ _ _ _ _ _ _ _ _ k=>k.elim) (λn t cs hn v hv q hq=>by
   obtain⟨c,hc⟩:=m.refs n t cs ((hg n)▸hn) v hv q hq
   exact⟨c,(hg q).trans hc⟩) m.one ⟨ho.trans m.below.os,ht.trans m.below.tape,hu.trans m.below.output,by rw[hh];exact m.below.size,λk hk hL=>by rw[hh];exact m.below.block k hk hL⟩ (λn v i hn q hq=>by
   obtain⟨c,hc⟩:=m.mrefs n v i ((hg n)▸hn) q hq
   exact⟨c,(hg q).trans hc⟩)
theorem ygn(m:M w0 β st a w)(k:Nat):M w0 β {st with heap:=st.heap++List.replicate k none} a w:=by
 have hg:∀n,(st.heap++List.replicate k none).getD n none=st.heap.getD n none:=λn=>by
  simp only[List.getD_eq_getElem?_getD,List.getElem?_append]
  split
  ·rfl
  ·rename_i h
   rw[List.getElem?_replicate,List.getElem?_eq_none (Nat.le_of_not_lt h)]
   split<;>rfl
 exact {defers:=m.defers,anc:=λhk n hn=>(by obtain⟨e,c,hc⟩:=m.anc hk n hn;exact⟨e,c,(hg n).trans hc⟩),size:=m.size,slot:=m.slot,locs:=λi n hn=>(by obtain⟨c,hc⟩:=m.locs i n hn;exact⟨c,(hg n).trans hc⟩),mem:=m.mem.read hg rfl rfl rfl rfl,tie:=m.tie}
theorem zu6(ng:NoG st):Inv X ops st.heap.length (λi=>(Array.replicate ops.size false).getD i false=true) {st with heap:=st.heap++List.replicate (zki X ops) none}:=by
 refine⟨λi c hc=>?_,λj o hj _ hm=>?_⟩
 ·rw[zbj (ng.at_ i)]at hc;cases hc
 ·have hlt:j<ops.size:=(Array.getElem?_eq_some_iff.1 hj).1
  have hp:zki X ops=ops.size:=by
   unfold zki
   rw[if_pos]
   rw[Array.any_eq_true']
   exact⟨o,Array.mem_of_getElem? hj,hm⟩
  rw[hp]
  refine⟨by simp;omega,?_⟩
  simp only[List.getD_eq_getElem?_getD,List.getElem?_append,List.getElem?_replicate]
  rw[if_neg (by omega)]
  split<;>rfl
theorem M.drew'(m:M w0 β st a w):M w0 β st a {w with drawn:=w.drawn+1}:=
 {defers:=m.defers,anc:=m.anc,size:=m.size,slot:=m.slot,locs:=m.locs,mem:=m.mem.read (λ_=>rfl) rfl rfl rfl rfl,tie:=m.tie}
theorem ze3(ht:zal P X){id:Nat}{draw:Bool}(hm:P.follows .mixedOrders=true)(m:M w0 β st a w)(ng:NoG st)(h:zeh P X ops draw st=some (s',ps))(hs:allP ps)
  (hQ:∀β a w,M w0 β s' a w->NoG s'->Q .normal a w):(Code.region id ops draw).wp P Q a w:=by
 unfold zeh at h
 split at h
 ·rename_i hreg
  have rk:=zrc hreg
  split at h
  ·rename_i s ps' ts hrun
   split at h
   ·rename_i hord
    simp only[Option.some.injEq,Prod.mk.injEq]at h
    obtain⟨rfl,rfl⟩:=h
    have m0:=ygn m (zki X ops)
    have inv0:=zu6 (X:=X) (ops:=ops) ng
    have hfin:∀β a w,M w0 β s a w->Q .normal a w:=λβ a w mm=>hQ β a w (zv3 mm) (zis s)
    cases draw with
    |false=>
     refine wp_region ?_
     rw[List.range_eq_range']
     have:=zh3 (Q:=Q) rk ht ops.toList 0 _ _ ps' ts a w β (λj=>by simp) hrun hs m0 (inv0.iff λi=>?_) hfin
     ·simpa using this
     ·rw[zdb];simp
    |true=>
     have hord':zls 0 (zr6 ops ts)=true:=by simpa using hord
     refine wp_region_any hm ?_
     have hall:=zll (F:=λx=>x=s) hord' (by rw[zii _ _ _ _ _ _ hrun];simp) (λ_=>Iff.rfl) ops.toList 0 (Array.replicate ops.size false) _ s ps' ts (λj=>by simp) (by simp)
      (λi=>?_) (λi=>by rw[zdb];simp) (λj oj _ hl=>by rw[zdb]at hl;cases hl) hrun (λj=>by simp) hs rfl
     ·have:=zd9 (Q:=Q) rk ht (λβ x a w hx mm=>by subst hx;exact hfin β a w mm) _ _ _ a _ β hall m0.drew' inv0
      simpa using this
     ·by_cases hi:i<ops.size
      ·simp[hi]
      ·simp[hi]
   ·cases h
  ·cases h
 ·cases h
end
def zi2(X:Tabs)(ops:Array Oper):Bool:=ops.any λo=>zbo X o||(match o.op with|.store _ _ _=>true|.mapUpdate _ _ _ _=>true|.insert _ _ _ _=>true|_=>false)
def zif(b:Bool)(u v:Value):SV:=if flat u&&flat v&&flat (zc1 3 b u v)then .v (zc1 3 b u v)else .junk
def zcp(b:Bool):SV->SV->SV
 |.k u,.k v=>match u,v with
  |.int k p,.int k' q=>if k=k'/\p=q then .k (.int k p)else zif b (.int k p) (.int k' q)
  |u,v=>zif b u v
 |.k u,.v v=>zif b u v
 |.v u,.k v=>zif b u v
 |.v u,.v v=>match u,v with
  |.pointer (some a),.pointer (some a')=>if a=a' then .v (.pointer (some a))else .junk
  |u,v=>zif b u v
 |_,_=>.junk
def za6(b:Bool)(m:Nat):Nat->List SV->List SV->List SV
 |i,x::xs,y::ys=>(if m.testBit i then zcp b x y else y)::za6 b m (i+1) xs ys
 |_,_,_=>[]
def zty(p:Nat×Nat):List (Nat×Nat)->Bool
 |[]=>false
 |q::l=>bif Nat.beq q.1 p.1 then(bif Nat.beq q.2 p.2 then true else zty p l)else zty p l
def zmz:List (Nat×Nat)->List (Nat×Nat)->List (Nat×Nat)
 |[],_=>[]
 |p::l,m=>bif zty p m then p::zmz l m else zmz l m
theorem zoj{p:Nat×Nat}:∀{l:List (Nat×Nat)},zty p l=true->p∈l
 |[],h=>by cases h
 |q::l,h=>by
  simp only[zty]at h
  cases h1:Nat.beq q.1 p.1 with
  |false=>rw[h1]at h;exact List.mem_cons_of_mem _ (zoj h)
  |true=>
   rw[h1]at h
   cases h2:Nat.beq q.2 p.2 with
   |false=>rw[h2]at h;exact List.mem_cons_of_mem _ (zoj h)
   |true=>
    have e1:=Nat.eq_of_beq_eq_true h1
    have e2:=Nat.eq_of_beq_eq_true h2
    have:q=p:=Prod.ext e1 e2
    rw[this];exact List.mem_cons_self ..
theorem zjl{p:Nat×Nat}:∀{l m:List (Nat×Nat)},p∈zmz l m->p∈l/\p∈m
 |[],_,h=>by cases h
 |q::l,m,h=>by
  simp only[zmz]at h
  cases hb:zty q m with
  |true=>
   rw[hb,cond_true]at h
   rcases List.mem_cons.1 h with rfl|h
   ·exact⟨List.mem_cons_self ..,zoj hb⟩
   ·obtain⟨a,b⟩:=zjl h;exact⟨List.mem_cons_of_mem _ a,b⟩
  |false=>
   rw[hb,cond_false]at h
   obtain⟨a,b⟩:=zjl h;exact⟨List.mem_cons_of_mem _ a,b⟩
def asim(P:Program)(X:Tabs):Code->St->Option (St×List Prop)
 |.skip,s=>some (s,[])
 |.region _ ops draw,s=>if zi2 X ops then none else zeh P X ops draw s
 |.seq a b,s=>match asim P X a s with
  |some (s1,p1)=>match asim P X b s1 with
   |some (s2,p2)=>some (s2,p1++p2)
   |none=>none
  |none=>none
 |.cond c a b,s=>match evS s.slots [] c with
  |.v (.bool q)=>match asim P X a s,asim P X b s with
   |some (s1,p1),some (s0,p0)=>
    if s1.slots.length=s0.slots.length then
     some ({slots:=za6 q (zb4 (zaq a++zaq b)) 0 s1.slots s0.slots,heap:=s.heap,fix:=zmz s1.fix s0.fix,keep:=s1.keep&&s0.keep},(match p1 with|[]=>[]|ps=>[q=true->allP ps])++(match p0 with|[]=>[]|ps=>[q=false->allP ps]))
    else none
   |_,_=>none
  |_=>none
 |_,_=>none
def zhz(step:(St->Out)->St->Out):Nat->St->Out
 |0,_=>.fail
 |n+1,s=>step (zhz step n) s
def zjs(ps:List Prop)(o:Out):Out:=
 match ps with
 |[]=>o
 |ps=>.side ps o
section
variable{P:Program}{X:Tabs}{w0:Base P}
theorem ze1{Q:zcg->St->Prop}{ps:List Prop}{o:Out}(h:(zjs ps o).sat Q):allP ps/\o.sat Q:=by
 unfold zjs at h
 split at h
 ·exact⟨trivial,h⟩
 ·exact h
theorem zdl{b:Bool}{m:Nat}:∀(xs ys:List SV) (i:Nat),xs.length=ys.length->∀j,(za6 b m i xs ys).getD j .junk=if m.testBit (i+j)/\j<ys.length then zcp b (xs.getD j .junk) (ys.getD j .junk)else ys.getD j .junk
 |[],[],_,_,j=>by simp[za6]
 |[],_::_,_,h,_=>by simp at h
 |_::_,[],_,h,_=>by simp at h
 |x::xs,y::ys,i,h,j=>by
  cases j with
  |zero=>
   simp only[za6,List.getD_cons_zero,Nat.add_zero,List.length_cons,Nat.zero_lt_succ,and_true]
  |succ j=>
   have:=zdl (b:=b) (m:=m) xs ys (i+1) (by simpa using h) j
   simp only[za6,List.getD_cons_succ,List.length_cons,Nat.add_lt_add_iff_right]
   rw[this,show i+1+j=i+(j+1)by omega]
theorem zb9{b:Bool}{m:Nat}:∀(xs ys:List SV) (i:Nat),xs.length=ys.length->(za6 b m i xs ys).length=ys.length
 |[],[],_,_=>rfl
 |[],_::_,_,h=>by simp at h
 |_::_,[],_,h=>by simp at h
 |x::xs,y::ys,i,h=>by simp only[za6,List.length_cons];rw[zb9 xs ys (i+1) (by simpa using h)]
theorem zie(b:Bool)(x y:Value):isG (zif b x y)=false:=by
 unfold zif;split<;>rfl
theorem zg0(b:Bool)(x y:SV):isG (zcp b x y)=false:=by
 unfold zcp
 split
 ·split
  ·split
   ·rfl
   ·exact zie _ _ _
  ·exact zie _ _ _
 ·exact zie _ _ _
 ·exact zie _ _ _
 ·split
  ·split<;>rfl
  ·exact zie _ _ _
 ·rfl
theorem zgz{β:Env}{l:List SV}{x y u:Value}(h:u=x\/u=ren β x):Den β l (zif true x y) u:=by
 unfold zif
 split
 ·rename_i hf
  simp only[Bool.and_eq_true]at hf
  show u=ren β _
  rw[zcj]
  rcases h with h|h
  ·rw[zdj hf.1.1];exact h
  ·exact h
 ·trivial
theorem zfz{β:Env}{l:List SV}{x y u:Value}(h:u=y\/u=ren β y):Den β l (zif false x y) u:=by
 unfold zif
 split
 ·rename_i hf
  simp only[Bool.and_eq_true]at hf
  show u=ren β _
  rw[zb3]
  rcases h with h|h
  ·rw[zdj hf.1.2];exact h
  ·exact h
 ·trivial
theorem zkl{β:Env}{l l':List SV}{x y:SV}{u:Value}(h:Den β l x u):Den β l' (zcp true x y) u:=by
 unfold zcp
 split
 ·split
  ·split
   ·exact h
   ·exact zgz (.inl h)
  ·exact zgz (.inl h)
 ·exact zgz (.inl h)
 ·exact zgz (.inr h)
 ·split
  ·split
   ·exact h
   ·trivial
  ·exact zgz (.inr h)
 ·trivial
theorem zi9{β:Env}{l l':List SV}{x y:SV}{u:Value}(h:Den β l y u):Den β l' (zcp false x y) u:=by
 unfold zcp
 split
 ·split
  ·split
   ·rename_i e;obtain⟨rfl,rfl⟩:=e;exact h
   ·exact zfz (.inl h)
  ·exact zfz (.inl h)
 ·exact zfz (.inr h)
 ·exact zfz (.inl h)
 ·split
  ·split
   ·rename_i e;subst e;exact h
   ·trivial
  ·exact zfz (.inr h)
 ·trivial
theorem zf0{b:Bool}{x y:Value}{n:Nat}(h:n∈names (zif b x y)):False:=by
 unfold zif at h
 split at h
 ·rename_i hf
  simp only[Bool.and_eq_true]at hf
  simp only[names]at h;rw[zen hf.2]at h;cases h
 ·cases h
theorem zlu{b:Bool}{x y:SV}{n:Nat}(h:n∈names (zcp b x y)):n∈names x/\n∈names y:=by
 unfold zcp at h
 split at h
 ·split at h
  ·split at h
   ·cases h
   ·exact(zf0 h).elim
  ·exact(zf0 h).elim
 ·exact(zf0 h).elim
 ·exact(zf0 h).elim
 ·split at h
  ·split at h
   ·rename_i e;subst e;exact⟨h,h⟩
   ·cases h
  ·exact(zf0 h).elim
 ·cases h
theorem zja{b:Bool}{x y:SV}{n:Nat}(h:n∈names (zcp b x y)):n∈names x:=(zlu h).1
theorem zf1{ops:Array Oper}{base:Nat}:∀(l:List Oper) (k:Nat) (s s':St) (ps:List Prop) (ts:List Tch),zcb P X ops base k l s=some (s',ps,ts)->
  s'.slots.length=s.slots.length/\∀i,i∉l.filterMap (·.dst)->s'.slots.getD i .junk=s.slots.getD i .junk
 |[],k,s,s',ps,ts,h=>by
  simp only[zcb,Option.some.injEq,Prod.mk.injEq]at h
  obtain⟨rfl,_,_⟩:=h
  exact⟨rfl,λ_ _=>rfl⟩
 |o::l,k,s,s',ps,ts,h=>by
  simp only[zcb]at h
  split at h
  ·cases h
  ·split at h
   ·cases h
   ·rename_i r _
    split at h
    ·rename_i s2 ps2 ts2 h2
     simp only[Option.some.injEq,Prod.mk.injEq]at h
     obtain⟨rfl,_,_⟩:=h
     obtain⟨h3,h4⟩:=zf1 l _ _ _ _ _ h2
     have hl:(s.put o.dst r).slots.length=s.slots.length:=by unfold St.put;cases o.dst<;>simp
     refine⟨h3.trans hl,λi hi=>?_⟩
     rw[h4 i (λz=>hi (by
      rw[List.filterMap_cons];split
      ·exact z
      ·exact List.mem_cons_of_mem _ z))]
     unfold St.put
     cases hd:o.dst with
     |none=>rfl
     |some d=>
      have:d≠i:=λe=>hi (by rw[List.filterMap_cons,hd,e];simp)
      dsimp only
      rw[zbe,if_neg (λz=>this z.1)]
    ·cases h
theorem zv2(s:St)(i:Nat):(zh0 s).slots.getD i .junk=if isG (s.slots.getD i .junk)then .junk else s.slots.getD i .junk:=by
 simp only[zh0,List.getD_eq_getElem?_getD,List.getElem?_map]
 cases s.slots[i]?<;>rfl
theorem zkf{ops:Array Oper}{draw:Bool}{s s':St}{ps:List Prop}(ng:NoG s)(h:zeh P X ops draw s=some (s',ps)) :
  s'.slots.length=s.slots.length/\∀i,i∉ops.toList.filterMap (·.dst)->s'.slots.getD i .junk=s.slots.getD i .junk:=by
 unfold zeh at h
 split at h
 ·split at h
  ·rename_i s2 ps2 ts2 hrun
   split at h
   ·simp only[Option.some.injEq,Prod.mk.injEq]at h
    obtain⟨rfl,_⟩:=h
    obtain⟨h1,h2⟩:=zf1 _ _ _ _ _ _ hrun
    refine⟨by simp only[zh0,List.length_map];exact h1,λi hi=>?_⟩
    rw[zv2,h2 i hi,if_neg (by rw[ng.at_ i];simp)]
   ·cases h
  ·cases h
 ·cases h
theorem zeg:∀(c:Code) (s s':St) (ps:List Prop),NoG s->asim P X c s=some (s',ps)->NoG s'/\s'.slots.length=s.slots.length/\∀i,i∉zaq c->s'.slots.getD i .junk=s.slots.getD i .junk:=by
 intro c
 induction c with
 |skip=>intro s s' ps ng h;simp only[asim,Option.some.injEq,Prod.mk.injEq]at h;obtain⟨rfl,_⟩:=h;exact⟨ng,rfl,λ_ _=>rfl⟩
 |region id ops draw=>
  intro s s' ps ng h
  simp only[asim]at h
  split at h
  ·cases h
  ·have:=zkf ng h
   refine⟨?_,this⟩
   unfold zeh at h
   split at h
   ·split at h
    ·split at h
     ·simp only[Option.some.injEq,Prod.mk.injEq]at h
      obtain⟨rfl,_⟩:=h
      exact zis _
     ·cases h
    ·cases h
   ·cases h
 |seq a b iha ihb=>
  intro s s' ps ng h
  simp only[asim]at h
  split at h
  ·rename_i s1 p1 h1
   split at h
   ·rename_i s2 p2 h2
    simp only[Option.some.injEq,Prod.mk.injEq]at h
    obtain⟨rfl,_⟩:=h
    obtain⟨n1,l1,f1⟩:=iha _ _ _ ng h1
    obtain⟨n2,l2,f2⟩:=ihb _ _ _ n1 h2
    exact⟨n2,l2.trans l1,λi hi=>by simp only[zaq,List.mem_append,not_or]at hi;rw[f2 i hi.2,f1 i hi.1]⟩
   ·cases h
  ·cases h
 |cond c a b iha ihb=>
  intro s s' ps ng h
  simp only[asim]at h
  split at h
  ·rename_i q hq
   split at h
   ·rename_i s1 p1 s0 p0 h1 h0
    split at h
    ·rename_i hlen
     simp only[Option.some.injEq,Prod.mk.injEq]at h
     obtain⟨rfl,_⟩:=h
     obtain⟨n1,l1,f1⟩:=iha _ _ _ ng h1
     obtain⟨n0,l0,f0⟩:=ihb _ _ _ ng h0
     have hat:=λq=>zdl (b:=q) (m:=zb4 (zaq a++zaq b)) s1.slots s0.slots 0 hlen
     refine⟨λx hx=>?_,(zb9 _ _ 0 hlen).trans l0,λi hi=>?_⟩
     ·obtain⟨j,hj⟩:=List.getElem?_of_mem hx
      have e:=hat q j
      rw[List.getD_eq_getElem?_getD,hj,Option.getD_some]at e
      rw[e]
      split
      ·exact zg0 _ _ _
      ·exact n0.at_ j
     ·dsimp only
      rw[hat q i,if_neg]
      ·exact f0 i λz=>hi (by simp only[zaq,List.mem_append];exact .inr z)
      ·rintro⟨hb,_⟩
       rw[Nat.zero_add]at hb
       exact hi (by simp only[zaq];exact zt0 hb)
    ·cases h
   ·cases h
  ·cases h
 |_=>intro s s' ps ng h;simp[asim]at h
theorem zkx:∀(c:Code) (s s':St) (ps:List Prop),asim P X c s=some (s',ps)->s'.heap=s.heap:=by
 have reg:∀(ops:Array Oper) (base:Nat) (l:List Oper) (k:Nat) (s s':St) (ps:List Prop) (ts:List Tch),(∀o∈l,zbo X o=false/\(∀t x y,o.op≠.store t x y)/\(∀t m k x,o.op≠.mapUpdate t m k x)/\∀t m k x,o.op≠.insert t m k x)->zcb P X ops base k l s=some (s',ps,ts)->s'.heap=s.heap:=by
  intro ops base l
  induction l with
  |nil=>intro k s s' ps ts _ h;simp only[zcb,Option.some.injEq,Prod.mk.injEq]at h;rw[←h.1]
  |cons o l ih=>
   intro k s s' ps ts hl h
   simp only[zcb]at h
   split at h
   ·cases h
   ·rename_i cs hcs
    split at h
    ·cases h
    ·rename_i r hr
     split at h
     ·rename_i s2 ps2 ts2 h2
      simp only[Option.some.injEq,Prod.mk.injEq]at h
      obtain⟨rfl,_,_⟩:=h
      rw[ih _ _ _ _ _ (λo ho=>hl o (by simp[ho])) h2]
      obtain⟨_,hu⟩:=zji hr
      have ht:(z4x (λn=>s.heap.getD n none) (zc9 X (evS s.slots cs) (base+k) o)).2=[]:=by
       suffices ht:(zc9 X (evS s.slots cs) (base+k) o).2=[]by
        unfold z4x;rw[ht];rfl
       obtain⟨h1,h3,h4,h5⟩:=hl o (by simp)
       unfold zc9
       split
       ·rename_i t x ho
        have:X.dty t=false:=by simpa [zbo,ho]using h1
        rw[this];rfl
       ·rename_i t x y ho;exact(h3 t x y ho).elim
       ·rename_i t ho;simp[zbo,ho]at h1
       ·rename_i t x ho;simp[zbo,ho]at h1
       ·rename_i t x y ho;simp[zbo,ho]at h1
       ·rename_i t n ps ho;simp[zbo,ho]at h1
       ·rfl
       ·split<;>rfl
       ·rename_i t r ho;simp[zbo,ho]at h1
       ·rename_i t x lo hi mx ho
        have:X.sl=false/\X.mor=false:=by simpa [zbo,ho]using h1
        rw[this.1,this.2];rfl
       ·rename_i t m k ok ho
        have:X.mor=false:=by simpa [zbo,ho]using h1
        rw[this];rfl
       ·split<;>rfl
       ·rename_i t m k x ho;exact(h4 t m k x ho).elim
       ·rename_i t m k x ho;exact(h5 t m k x ho).elim
       ·rename_i args ts ho;simp[zbo,zdq,ho]at h1
       ·rfl
       ·rename_i F args ts ho
        have:X.dres F=false:=by simpa [zbo,zdq,ho]using h1
        rw[this];rfl
       ·rename_i t args ts ho
        have:X.dtmp=false:=by simpa [zbo,zdq,ho]using h1
        rw[this];rfl
       ·rfl
      unfold St.put
      cases hru:r.upd with
      |nil=>rfl
      |cons x l=>
       obtain⟨n,c⟩:=x
       have:=hu n c (by rw[hru];simp)
       rw[ht]at this;cases this
     ·cases h
 intro c
 induction c with
 |skip=>intro s s' ps h;simp only[asim,Option.some.injEq,Prod.mk.injEq]at h;rw[←h.1]
 |region id ops draw=>
  intro s s' ps h
  simp only[asim]at h
  split at h
  ·cases h
  ·rename_i hst
   have hno:∀o∈ops,zbo X o=false/\(∀t x y,o.op≠.store t x y)/\(∀t m k x,o.op≠.mapUpdate t m k x)/\∀t m k x,o.op≠.insert t m k x:=λo ho=>by
    have hst':zi2 X ops=false:=by simpa using hst
    unfold zi2 at hst'
    have:=(Array.any_eq_false'.1 hst') o ho
    simp only[Bool.or_eq_true,not_or,Bool.not_eq_true]at this
    have h2:=this.2
    exact⟨this.1,λt x y e=>(by rw[e]at h2;cases h2),λt m k x e=>(by rw[e]at h2;cases h2),λt m k x e=>(by rw[e]at h2;cases h2)⟩
   unfold zeh at h
   split at h
   ·split at h
    ·rename_i s2 ps2 ts2 hrun
     split at h
     ·simp only[Option.some.injEq,Prod.mk.injEq]at h
      obtain⟨rfl,_⟩:=h
      have:=reg _ _ _ _ _ _ _ _ (λo ho=>hno o (Array.mem_toList_iff.1 ho)) hrun
      simp only[zh0]
      rw[this]
      have hp:zki X ops=0:=by
       unfold zki
       rw[if_neg]
       intro hany
       obtain⟨o,ho,hm⟩:=Array.any_eq_true'.1 hany
       rw[(hno o ho).1]at hm;cases hm
      rw[hp];simp
     ·cases h
    ·cases h
   ·cases h
 |seq a b iha ihb=>
  intro s s' ps h
  simp only[asim]at h
  split at h
  ·rename_i s1 p1 h1
   split at h
   ·rename_i s2 p2 h2
    simp only[Option.some.injEq,Prod.mk.injEq]at h
    obtain⟨rfl,_⟩:=h
    rw[ihb _ _ _ h2,iha _ _ _ h1]
   ·cases h
  ·cases h
 |cond c a b iha ihb=>
  intro s s' ps h
  simp only[asim]at h
  split at h
  ·split at h
   ·split at h
    ·simp only[Option.some.injEq,Prod.mk.injEq]at h
     rw[←h.1]
    ·cases h
   ·cases h
  ·cases h
 |_=>intro s s' ps h;simp[asim]at h
theorem zg9{c:Operand}{w:World}{β:Env}{s:St}{a:Act}{q:Bool}(m:M w0 β s a w)(h:evS s.slots [] c=.k (.bool q)\/evS s.slots [] c=.v (.bool q)):a.eval c=.bool q:=by
 have hd:=zap (cs:=[]) m (λc hc=>by cases hc) c
 rcases h with h|h<;>rw[h]at hd<;>exact hd
theorem zo1(ht:zal P X)(hm:P.follows .mixedOrders=true):∀(c:Code) (s s':St) (ps:List Prop) (Q:Exit->Act->World->Prop) (a:Act) (w:World) (β:Env),M w0 β s a w->NoG s->asim P X c s=some (s',ps)->allP ps->
  (∀β a w,M w0 β s' a w->Q .normal a w)->c.wp P Q a w:=by
 intro c
 induction c with
 |skip=>intro s s' ps Q a w β m ng h hs hQ;simp only[asim,Option.some.injEq,Prod.mk.injEq]at h;obtain⟨rfl,_⟩:=h;exact wp_skip (hQ β a w m)
 |region id ops draw=>
  intro s s' ps Q a w β m ng h hs hQ
  simp only[asim]at h
  split at h
  ·cases h
  ·exact ze3 ht hm m ng h hs λβ a w m' _=>hQ β a w m'
 |seq x y ihx ihy=>
  intro s s' ps Q a w β m ng h hs hQ
  have hfr:=zeg (P:=P) (X:=X) x s
  simp only[asim]at h
  split at h
  ·rename_i s1 p1 h1
   split at h
   ·rename_i s2 p2 h2
    simp only[Option.some.injEq,Prod.mk.injEq]at h
    obtain⟨rfl,rfl⟩:=h
    rw[zbp]at hs
    exact wp_seq (ihx _ _ _ _ a w β m ng h1 hs.1 λβ a w m'=>ihy _ _ _ _ a w β m' (hfr _ _ ng h1).1 h2 hs.2 hQ)
   ·cases h
  ·cases h
 |cond c x y ihx ihy=>
  intro s s' ps Q a w β m ng h hs hQ
  have hfx:=zeg (P:=P) (X:=X) x s
  have hfy:=zeg (P:=P) (X:=X) y s
  have hhx:=zkx (P:=P) (X:=X) x s
  have hhy:=zkx (P:=P) (X:=X) y s
  simp only[asim]at h
  split at h
  ·rename_i q hq
   have hb:=zg9 m (.inr hq)
   split at h
   ·rename_i s1 p1 s0 p0 h1 h0
    split at h
    ·rename_i hlen
     simp only[Option.some.injEq,Prod.mk.injEq]at h
     obtain⟨rfl,rfl⟩:=h
     rw[zbp]at hs
     obtain⟨n1,l1,f1⟩:=hfx _ _ ng h1
     obtain⟨n0,l0,f0⟩:=hfy _ _ ng h0
     have hat:=zdl (b:=q) (m:=zb4 (zaq x++zaq y)) s1.slots s0.slots 0 hlen
     have hout:∀i,¬((zb4 (zaq x++zaq y)).testBit (0+i)/\i<s0.slots.length)->s1.slots.getD i .junk=s0.slots.getD i .junk:=by
      intro i hi
      by_cases hlt:i<s0.slots.length
      ·have hnot:i∉zaq x++zaq y:=λz=>hi ⟨by rw[Nat.zero_add];exact zfk z,hlt⟩
       simp only[List.mem_append,not_or]at hnot
       rw[f1 i hnot.1,f0 i hnot.2]
      ·simp only[List.getD_eq_getElem?_getD]
       rw[List.getElem?_eq_none (by omega),List.getElem?_eq_none (by omega)]
     have key:∀(s2:St),((s1.keep&&s0.keep)=true->s2.keep=true)->(∀p∈zmz s1.fix s0.fix,p∈s2.fix)->s2.heap=s.heap->s2.slots.length=s0.slots.length->NoG s2->(∀i u (β:Env),Den β s2.slots (s2.slots.getD i .junk) u->Den β s2.slots ((za6 q (zb4 (zaq x++zaq y)) 0 s1.slots s0.slots).getD i .junk) u)->
       (∀i n,n∈names ((za6 q (zb4 (zaq x++zaq y)) 0 s1.slots s0.slots).getD i .junk)->∃c,s.heap.getD n none=some c)->
       ∀β a w,M w0 β s2 a w->M w0 β {slots:=za6 q (zb4 (zaq x++zaq y)) 0 s1.slots s0.slots,heap:=s.heap,fix:=zmz s1.fix s0.fix,keep:=s1.keep&&s0.keep} a w:=by
      intro s2 hkp hfix hh hl hn hden hnm β a w m2
      refine {defers:=m2.defers,anc:=λhk n hn=>hh▸m2.anc (hkp hk) n hn,size:=by rw[m2.size,hl,zb9 _ _ 0 hlen],slot:=λi u hu=>?_,locs:=λi n hi=>hnm i n hi,mem:=hh▸m2.mem,tie:=λp hp=>m2.tie p (hfix p hp)}
      have h3:=hden i u β (m2.slot i u hu)
      refine zbg (λ_ _=>rfl) (λc hc=>?_) h3
      have:isG ((za6 q (zb4 (zaq x++zaq y)) 0 s1.slots s0.slots).getD i .junk)=false:=by
       rw[hat i]
       split
       ·exact zg0 _ _ _
       ·exact n0.at_ i
      rw[zbj this]at hc;cases hc
     have nm1:∀i n,n∈names (s1.slots.getD i .junk)->(∀β a w,M w0 β s1 a w->∃c,s.heap.getD n none=some c):=λi n hn β a w m1=>by
      obtain⟨c,hc⟩:=m1.locs i n hn
      exact⟨c,by rw[←hhx _ _ h1];exact hc⟩
     have nm0:∀i n,n∈names (s0.slots.getD i .junk)->(∀β a w,M w0 β s0 a w->∃c,s.heap.getD n none=some c):=λi n hn β a w m1=>by
      obtain⟨c,hc⟩:=m1.locs i n hn
      exact⟨c,by rw[←hhy _ _ h0];exact hc⟩
     cases q with
     |true=>
      refine wp_cond_true hb (ihx _ _ _ _ a w β m ng h1 ?_ λβ a w m1=>hQ β a w (key s1 (λh=>by simp only[Bool.and_eq_true]at h;exact h.1) (λp hp=>(zjl hp).1) (hhx _ _ h1) hlen n1 (λi u β hd=>?_) (λi n hn=>?_) β a w m1))
      ·have:=hs.1
       cases p1 with
       |nil=>trivial
       |cons p ps=>exact this.1 rfl
      ·rw[hat i]
       split
       ·exact zkl hd
       ·rename_i hno;rw[←hout i hno];exact hd
      ·rw[hat i]at hn
       split at hn
       ·exact nm1 i n (zja hn) β a w m1
       ·rename_i hno;rw[←hout i hno]at hn;exact nm1 i n hn β a w m1
     |false=>
      refine wp_cond_false hb (ihy _ _ _ _ a w β m ng h0 ?_ λβ a w m1=>hQ β a w (key s0 (λh=>by simp only[Bool.and_eq_true]at h;exact h.2) (λp hp=>(zjl hp).2) (hhy _ _ h0) rfl n0 (λi u β hd=>?_) (λi n hn=>?_) β a w m1))
      ·have:=hs.2
       cases p0 with
       |nil=>trivial
       |cons p ps=>exact this.1 rfl
      ·rw[hat i]
       split
       ·exact zi9 hd
       ·exact hd
      ·rw[hat i]at hn
       split at hn
       ·have:n∈names (s0.slots.getD i .junk):=(zlu hn).2
        exact nm0 i n this β a w m1
       ·exact nm0 i n hn β a w m1
    ·cases h
   ·cases h
  ·cases h
 |_=>intro s s' ps Q a w β m ng h;simp[asim]at h
end
def Out.bind:Out->(zcg->St->Out)->Out
 |.leaf e s,k=>k e s
 |.ite b x y,k=>.ite b (x.bind k) (y.bind k)
 |.side ps x,k=>.side ps (x.bind k)
 |.fail,_=>.fail
abbrev Lp:=Nat->St->Option Out
def z3o(ops:Array Oper):Nat->Oper->List Nat
 |0,_=>[]
 |n+1,o=>match o.guard with
  |none=>[]
  |some (g,_)=>match ops[g]? with
   |some og=>z3o ops n og++[g]
   |none=>[]
def insN(l:List Nat)(n:Nat):List Nat:=bif l.any (Nat.beq n)then l else l++[n]
def pinsOf(X:Tabs)(ops:Array Oper):List Nat:=ops.toList.foldl (λl o=>bif zbo X o then(z3o ops (ops.size+1) o).foldl insN l else l) []
def z96(X:Tabs)(g:Nat)(q:Bool):Tabs:={tb:=X.tb,td:=X.td,tr:=X.tr,dres:=X.dres,dty:=X.dty,pin:=λj=>bif Nat.beq j g then some q else X.pin j,tx:=X.tx,dtmp:=X.dtmp,ext:=X.ext,pl:=X.pl,nw:=X.nw,sl:=X.sl,ow:=X.ow,gv:=X.gv,rx:=X.rx,cl:=X.cl,gn:=X.gn}
def yhm(P:Program)(X:Tabs)(ops:Array Oper)(st:St)(g:Nat):Option Bool:=
 match zcb P X ops st.heap.length 0 (ops.toList.take (g+1)) {st with heap:=st.heap++List.replicate (zki X ops) none}with
 |some (s,_,_)=>match (ops[g]?).bind (·.dst)with
  |some d=>match s.slots.getD d .junk with
   |.v (.bool x)=>some x
   |_=>none
  |none=>none
 |none=>none
def zi3(P:Program)(ops:Array Oper)(draw:Bool)(k:zcg->St->Out)(s:St):List Nat->Tabs->Out
 |[],X=>match zeh P X ops draw s with
  |some (s',ps)=>zjs ps (k .normal s')
  |none=>.fail
 |g::gs,X=>match yhm P X ops s g with
  |some x=>.ite x (zi3 P ops draw k s gs (z96 X g true)) (zi3 P ops draw k s gs (z96 X g false))
  |none=>zi3 P ops draw k s gs X
def zbm(P:Program)(X:Tabs)(lp:Lp)(fuel:Nat):Code->(zcg->St->Out)->St->Out
 |.skip,k,s=>k .normal s
 |.region _ ops draw,k,s=>match X.rx ops draw s with
  |some o=>o.bind k
  |none=>match zeh P X ops draw s with
   |some (s',ps)=>zjs ps (k .normal s')
   |none=>zi3 P ops draw k s (pinsOf X ops) X
 |.seq a b,k,s=>zbm P X lp fuel a (λe s=>match e with|.normal=>zbm P X lp fuel b k s|.exit id=>k (.exit id) s|.ret=>k .ret s) s
 |.cond c a b,k,s=>match evS s.slots [] c with
  |.k (.bool q)=>bif q then zbm P X lp fuel a k s else zbm P X lp fuel b k s
  |.v (.bool q)=>match asim P X (.cond c a b) s with
   |some (s',ps)=>zjs ps (k .normal s')
   |none=>.ite q (zbm P X lp fuel a k s) (zbm P X lp fuel b k s)
  |_=>.fail
 |.block id c,k,s=>match lp id s with
  |some o=>o.bind k
  |none=>zbm P X lp fuel c (λe s=>match e with|.exit id'=>if id'=id then k .normal s else k (.exit id') s|.normal=>k .normal s|.ret=>k .ret s) s
 |.loop c,k,s=>zhz (λself s=>zbm P X lp fuel c (λe s=>match e with|.normal=>self s|.exit id=>k (.exit id) s|.ret=>k .ret s) s) fuel s
 |.exit id,k,s=>k (.exit id) s
 |.ret,k,s=>k .ret s
 |_,_,_=>.fail
theorem Out.sat_bind{F:zcg->St->Prop}{k:zcg->St->Out}:∀{o:Out},(o.bind k).sat F->o.sat λe s=>(k e s).sat F
 |.leaf _ _,h=>h
 |.ite _ x y,h=>⟨λb=>Out.sat_bind (h.1 b),λb=>Out.sat_bind (h.2 b)⟩
 |.side _ x,h=>⟨h.1,Out.sat_bind (o:=x) h.2⟩
 |.fail,h=>h.elim
theorem Out.sat_mono{F G:zcg->St->Prop}(h:∀e s,F e s->G e s):∀{o:Out},o.sat F->o.sat G
 |.leaf _ _,k=>h _ _ k
 |.ite _ x y,k=>⟨λb=>Out.sat_mono h (k.1 b),λb=>Out.sat_mono h (k.2 b)⟩
 |.side _ x,k=>⟨k.1,Out.sat_mono h (o:=x) k.2⟩
 |.fail,k=>k.elim
section
variable{P:Program}{X:Tabs}{lp:Lp}
def Sem(w0:Base P)(Q:Exit->Act->World->Prop)(e:zcg)(s:St):Prop:=∀β a w,M w0 β s a w->NoG s->Q e.real a w
def zai(P:Program)(w0:Base P)(id:Nat)(c:Code)(s:St)(o:Out):Prop:=
 ∀(Q:Exit->Act->World->Prop) (a:Act) (w:World) (β:Env),M w0 β s a w->NoG s->o.sat (Sem w0 Q)->(Code.block id c).wp P Q a w
def LpOk(P:Program)(w0:Base P)(lp:Lp)(l:List (Nat×Code)):Prop:=∀p∈l,∀s o,lp p.1 s=some o->zai P w0 p.1 p.2 s o
theorem LpOk.left{w0:Base P}{l m:List (Nat×Code)}(h:LpOk P w0 lp (l++m)):LpOk P w0 lp l:=λp hp=>h p (List.mem_append.2 (.inl hp))
theorem LpOk.right{w0:Base P}{l m:List (Nat×Code)}(h:LpOk P w0 lp (l++m)):LpOk P w0 lp m:=λp hp=>h p (List.mem_append.2 (.inr hp))
theorem zxl(ht:zal P X)(g:Nat)(q:Bool):zal P (z96 X g q):=⟨ht.nw,ht.pl,ht.tb,ht.tx,ht.td,ht.tr,ht.ow,ht.rx,ht.gv⟩
theorem zfp{w0:Base P}(hm:P.follows .mixedOrders=true){F:zcg->St->Prop}{ops:Array Oper}{draw:Bool}{id:Nat}{k:zcg->St->Out}{s:St}{Q:Exit->Act->World->Prop}{a:Act}{w:World}{β:Env}(m:M w0 β s a w)(ng:NoG s)
  (hk:∀e s β a w,M w0 β s a w->NoG s->(k e s).sat F->Q e.real a w):∀(gs:List Nat) (X:Tabs),zal P X->(zi3 P ops draw k s gs X).sat F->(Code.region id ops draw).wp P Q a w
 |[],X,ht,h=>by
  simp only[zi3]at h
  split at h
  ·rename_i s' ps hr
   obtain⟨h1,h2⟩:=ze1 h
   exact ze3 ht hm m ng hr h1 λβ a w m' ng'=>hk .normal s' β a w m' ng' h2
  ·exact h.elim
 |g::gs,X,ht,h=>by
  simp only[zi3]at h
  split at h
  ·rename_i x _
   cases x with
   |true=>exact zfp hm m ng hk gs _ (zxl ht g true) (h.1 rfl)
   |false=>exact zfp hm m ng hk gs _ (zxl ht g false) (h.2 rfl)
  ·exact zfp hm m ng hk gs X ht h
theorem zd3{w0:Base P}(ht:zal P X)(hm:P.follows .mixedOrders=true){F:zcg->St->Prop}{fuel:Nat}:∀(c:Code),LpOk P w0 lp (zam c)->∀(k:zcg->St->Out) (s:St) (Q:Exit->Act->World->Prop) (a:Act) (w:World) (β:Env),M w0 β s a w->NoG s->
  (zbm P X lp fuel c k s).sat F->(∀e s β a w,M w0 β s a w->NoG s->(k e s).sat F->Q e.real a w)->c.wp P Q a w:=by
 intro c
 induction c with
 |skip=>intro _ k s Q a w β m ng h hk;exact wp_skip (hk .normal s β a w m ng h)
 |region id ops draw=>
  intro _ k s Q a w β m ng h hk
  simp only[zbm]at h
  split at h
  ·rename_i o ho
   exact ht.rx ops draw s o ho w0 id Q a w β m ng (Out.sat_mono (λe s' hs β a w m' ng'=>hk e s' β a w m' ng' hs) (Out.sat_bind h))
  split at h
  ·rename_i s' ps hr
   obtain⟨h1,h2⟩:=ze1 h
   exact ze3 ht hm m ng hr h1 λβ a w m' ng'=>hk .normal s' β a w m' ng' h2
  ·exact zfp hm m ng hk _ X ht h
 |seq x y ihx ihy=>
  intro hl k s Q a w β m ng h hk
  simp only[zbm]at h
  refine wp_seq (ihx hl.left _ s _ a w β m ng h λe s' β' a' w' m' ng' hs=>?_)
  cases e with
  |normal=>exact ihy hl.right k s' Q a' w' β' m' ng' hs hk
  |exit id=>exact hk (.exit id) s' β' a' w' m' ng' hs
  |ret=>exact hk .ret s' β' a' w' m' ng' hs
 |cond c x y ihx ihy=>
  intro hl k s Q a w β m ng h hk
  simp only[zbm]at h
  split at h
  ·rename_i q hq
   have hb:=zg9 m (.inl hq)
   cases q with
   |true=>exact wp_cond_true hb (ihx hl.left k s Q a w β m ng h hk)
   |false=>exact wp_cond_false hb (ihy hl.right k s Q a w β m ng h hk)
  ·rename_i q hq
   have hb:=zg9 m (.inr hq)
   split at h
   ·rename_i s' ps hsim
    obtain⟨h1,h2⟩:=ze1 h
    have ng':=(zeg _ _ _ _ ng hsim).1
    exact zo1 ht hm _ _ _ _ Q a w β m ng hsim h1 λβ a w m'=>hk .normal s' β a w m' ng' h2
   ·cases q with
    |true=>exact wp_cond_true hb (ihx hl.left k s Q a w β m ng (h.1 rfl) hk)
    |false=>exact wp_cond_false hb (ihy hl.right k s Q a w β m ng (h.2 rfl) hk)
  ·exact h.elim
 |block id c ih=>
  intro hl k s Q a w β m ng h hk
  simp only[zbm]at h
  split at h
  ·rename_i o ho
   refine hl (id,c) (List.mem_cons_self ..) s o ho Q a w β m ng (Out.sat_mono (λe s' hs=>?_) (Out.sat_bind h))
   exact λβ a w m' ng'=>hk e s' β a w m' ng' hs
  ·refine wp_block (ih (λp hp=>hl p (List.mem_cons_of_mem _ hp)) _ s _ a w β m ng h λe s' β' a' w' m' ng' hs=>?_)
   cases e with
   |normal=>exact hk .normal s' β' a' w' m' ng' hs
   |ret=>exact hk .ret s' β' a' w' m' ng' hs
   |exit id'=>
    show if id'=id then Q Exit.normal a' w' else Q (Exit.exit id') a' w'
    dsimp only at hs
    split at hs
    ·rename_i e
     rw[if_pos e]
     exact hk .normal s' β' a' w' m' ng' hs
    ·rename_i e
     rw[if_neg e]
     exact hk (.exit id') s' β' a' w' m' ng' hs
 |loop c ih=>
  intro hl k s Q a w β m ng h hk
  simp only[zbm]at h
  refine wp_loop (λa' w'=>∃n s' β',M w0 β' s' a' w'/\NoG s'/\(zhz (λself s=>zbm P X lp fuel c (λe s=>match e with|.normal=>self s|.exit id=>k (.exit id) s|.ret=>k .ret s) s) n s').sat F)
   (λa' w'=>Classical.epsilon λn=>(∃s' β',M w0 β' s' a' w'/\NoG s'/\(zhz (λself s=>zbm P X lp fuel c (λe s=>match e with|.normal=>self s|.exit id=>k (.exit id) s|.ret=>k .ret s) s) n s').sat F)/\
    ∀n',(∃s' β',M w0 β' s' a' w'/\NoG s'/\(zhz (λself s=>zbm P X lp fuel c (λe s=>match e with|.normal=>self s|.exit id=>k (.exit id) s|.ret=>k .ret s) s) n' s').sat F)->n<=n') ⟨fuel,s,β,m,ng,h⟩ ?_
  intro a1 w1 hI
  obtain⟨⟨s1,β1,m1,ng1,hs1⟩,hmin⟩:=zno (p:=λn=>∃s' β',M w0 β' s' a1 w1/\NoG s'/\(zhz (λself s=>zbm P X lp fuel c (λe s=>match e with|.normal=>self s|.exit id=>k (.exit id) s|.ret=>k .ret s) s) n s').sat F) hI
  generalize (Classical.epsilon λn=>(∃s' β',M w0 β' s' a1 w1/\NoG s'/\(zhz (λself s=>zbm P X lp fuel c (λe s=>match e with|.normal=>self s|.exit id=>k (.exit id) s|.ret=>k .ret s) s) n s').sat F)/\
    ∀n',(∃s' β',M w0 β' s' a1 w1/\NoG s'/\(zhz (λself s=>zbm P X lp fuel c (λe s=>match e with|.normal=>self s|.exit id=>k (.exit id) s|.ret=>k .ret s) s) n' s').sat F)->n<=n')=N at *
  cases N with
  |zero=>exact hs1.elim
  |succ N=>
   simp only[zhz]at hs1
   refine ih hl _ s1 _ a1 w1 β1 m1 ng1 hs1 λe s2 β2 a2 w2 m2 ng2 hs2=>?_
   cases e with
   |normal=>
    have hI2:∃n s' β',M w0 β' s' a2 w2/\NoG s'/\(zhz (λself s=>zbm P X lp fuel c (λe s=>match e with|.normal=>self s|.exit id=>k (.exit id) s|.ret=>k .ret s) s) n s').sat F:=⟨N,s2,β2,m2,ng2,hs2⟩
    refine⟨hI2,?_⟩
    have:=(zno hI2).2 N ⟨s2,β2,m2,ng2,hs2⟩
    exact Nat.lt_succ_of_le this
   |exit id=>exact hk (.exit id) s2 β2 a2 w2 m2 ng2 hs2
   |ret=>exact hk .ret s2 β2 a2 w2 m2 ng2 hs2
 |exit id=>intro _ k s Q a w β m ng h hk;exact wp_exit (hk (.exit id) s β a w m ng h)
 |ret=>intro _ k s Q a w β m ng h hk;exact wp_ret (hk .ret s β a w m ng h)
 |_=>intro _ k s Q a w β m ng h;exact h.elim
end
end Go.Proofs.YtmekpbopoknigaaGreatDoor.Dyn
